/- UtfTells, from the row's side. -/
import Derived.Test.YtbhlmbacgbfaoaaDoorUtH
import Derived.Test.YtbhlmbacgbfaoaaDoorUtRow
set_option linter.all false
namespace Go.Proofs.Ut
open Go.Ai Go.RowKit
theorem tells_walk (W : World) (hT : Lib.Utf8Tabs 0 1 W) (a0 : ByteArray) (_ : a0.size ≤ 140737488351232) (a1 : Int) (_ : (Lit.int IntKind.i64 a1).wf = true) : Calls Tryd.prog 3 #[.string a0, .int .i64 a1] W fun e W' => e = .returned (.bool true) ∧ Below W.heap.size W W' :=
  door_walk (tells3 a0.data.toList a1) W hT [.string a0, .int .i64 a1] rfl fun i v d h1 h2 => by
    rcases i with _ | _ | i
    · cases h1; cases h2; exact .str _
    · cases h1; cases h2; exact .int _ _
    · simp at h1
end Go.Proofs.Ut
