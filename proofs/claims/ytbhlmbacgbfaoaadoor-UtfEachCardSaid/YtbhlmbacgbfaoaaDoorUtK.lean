/- UtfEach, from the row's side. -/
import Derived.Test.YtbhlmbacgbfaoaaDoorUtJ
set_option linter.all false
namespace Go.Proofs.Ut
open Go.Ai Go.RowKit
theorem each_walk (W : World) (hT : Lib.Utf8Tabs 0 1 W) (a0 : Int) (_ : (Lit.int IntKind.i64 a0).wf = true) (a1 : Int) (_ : (Lit.int IntKind.i64 a1).wf = true) : Calls Tryd.prog 4 #[.int .i64 a0, .int .i64 a1] W fun e W' => e = .returned (.bool true) ∧ Below W.heap.size W W' :=
  door_walk (each4 a0 a1) W hT [.int .i64 a0, .int .i64 a1] rfl fun i v d h1 h2 => by
    rcases i with _ | _ | i
    · cases h1; cases h2; exact .int _ _
    · cases h1; cases h2; exact .int _ _
    · simp at h1
end Go.Proofs.Ut
