/- What the library does for cards: capitals, a case's other letter, what is trimmed. -/
import Derived.Test.YtbnmhlienklfpaaGreatDoorZFoD
import Derived.Test.YtbnmhlienklfpaaGreatDoorZVcShelf
import Derived.Test.YtbnmhlienklfpaaGreatDoorZFuns
import Derived.Test.YtbnmhlienklfpaaGreatDoorZVcN
import Derived.Shelf.Strings.OnBuilder
import Derived.Shelf.Strings.SlTrimAscii
set_option linter.all false
namespace Go.Proofs
open Go.Shelf Go.RowKit Go.Lib
set_option maxHeartbeats 2000000 in
set_option maxRecDepth 1000000 in
theorem Any.unicode_SimpleFold_ascii {P : Program} {ρ : Ren} (L : Lays.n239 P ρ) (c : Nat) (v : Int) (w : World) (hc : c < 128) (hv0 : 0 ≤ v) (hv : v < 65536) (hcell : w.cell? ⟨ρ.g 11, c, none⟩ = some (.int .u16 v)) :
    Calls P (ρ.f 239) #[.int .i32 c] w fun e w' => e = .returned (.int .i32 v) ∧ w' = w := by
  have hcz : (c : Int) ≤ 1114111 := by omega
  have hcz2 : (c : Int) < 128 := by omega
  have hw : IntKind.i32.wrap v = v := by simp [IntKind.wrap, IntKind.bits, IntKind.signed]; omega
  have t4 := L.t4; have a4 := L.a4; have z4 := L.z4; have v4 := L.v4
  have t3 := L.t3; have a3 := L.a3; have z3 := L.z3; have v3 := L.v3
  have t21 := L.t21; have a21 := L.a21; have z21 := L.z21; have v21 := L.v21
  have t49 := L.t49; have a49 := L.a49; have z49 := L.z49; have v49 := L.v49
  have t156 := L.t156; have a156 := L.a156; have z156 := L.z156
  go_enter L.f239, Body.n239_ntmps ρ
  go_wp2
  all_goals (first | (go_ret; exact ⟨by simp [hw], rfl⟩) | (exfalso; omega) | skip)
end Go.Proofs
