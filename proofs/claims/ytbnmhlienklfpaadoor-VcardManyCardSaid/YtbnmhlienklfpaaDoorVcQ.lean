/- The calls of two laws of cards: the wrong line told, so many and no more. -/
import Derived.Test.YtbnmhlienklfpaaDoorVcL
import Derived.Test.YtbnmhlienklfpaaDoorVcO
import Derived.Test.YtbnmhlienklfpaaDoorFoRow
import Derived.Test.YtbnmhlienklfpaaDoorAiOpen
set_option linter.all false
namespace Go.Proofs.Ut
open Go.Ai Classical Go.Shelf Go.RowKit
theorem wrong_walk (W : World) (hT : Laid W) (a0 : Int) (_ : (Lit.int IntKind.i64 a0).wf = true) (a1 : Int) (_ : (Lit.int IntKind.i64 a1).wf = true) : Calls Tryd.prog 7 #[.int .i64 a0, .int .i64 a1] W fun e W' => e = .returned (.bool true) ∧ Below W.heap.size W W' :=
  door_walk (wrong7 a0 a1) W hT [.int .i64 a0, .int .i64 a1] rfl fun i v d h1 h2 => by
    rcases i with _ | _ | i
    · cases h1; cases h2; exact .int _ _
    · cases h1; cases h2; exact .int _ _
    · simp at h1
theorem many_walk (W : World) (hT : Laid W) (a0 : Int) (_ : (Lit.int IntKind.i64 a0).wf = true) (a1 : Int) (_ : (Lit.int IntKind.i64 a1).wf = true) : Calls Tryd.prog 10 #[.int .i64 a0, .int .i64 a1] W fun e W' => e = .returned (.bool true) ∧ Below W.heap.size W W' :=
  door_walk (many10 a0 a1) W hT [.int .i64 a0, .int .i64 a1] rfl fun i v d h1 h2 => by
    rcases i with _ | _ | i
    · cases h1; cases h2; exact .int _ _
    · cases h1; cases h2; exact .int _ _
    · simp at h1
end Go.Proofs.Ut
