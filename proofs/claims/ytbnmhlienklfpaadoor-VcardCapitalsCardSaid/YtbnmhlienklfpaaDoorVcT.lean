/- The call of the law of capitals. -/
import Derived.Test.YtbnmhlienklfpaaDoorVcR
import Derived.Test.YtbnmhlienklfpaaDoorFoRow
import Derived.Test.YtbnmhlienklfpaaDoorAiOpen
set_option linter.all false
namespace Go.Proofs.Ut
open Go.Ai Classical Go.Shelf Go.RowKit
theorem caps_walk (W : World) (hT : Laid W) (a0 : ByteArray) (w0 : a0.size ≤ 140737488351232) (a1 : ByteArray) (_ : a1.size ≤ 140737488351232) (a2 : Bool) : Calls Tryd.prog 8 #[.string a0, .string a1, .bool a2] W fun e W' => e = .returned (.bool true) ∧ Below W.heap.size W W' :=
  door_walk (caps8 a0.data.toList a1.data.toList a2 (by simp; have e : a0.size = a0.data.size := rfl; omega)) W hT [.string a0, .string a1, .bool a2] rfl fun i v d h1 h2 => by
    rcases i with _ | _ | _ | i
    · cases h1; cases h2; exact .str _
    · cases h1; cases h2; exact .str _
    · cases h1; cases h2; exact .bool _
    · simp at h1
end Go.Proofs.Ut
