/- The library's test of a text, as a contract; the places where the tables lie. -/
import Derived.Test.YtbnmhlienklfpaaGreatDoorZFoUtE
import Derived.Test.YtbnmhlienklfpaaGreatDoorZFoShelf
import Derived.Below
set_option linter.all false
namespace Go.Ai
open Go.RowKit
theorem Ev.below {w w' : World} {ok : Nat → Prop} {β : Loc} (h : Below w.heap.size w w') : Ev w ok β w' ok β :=
  ⟨h.os, h.tape, h.output, h.size, fun b hb _ => h.block b hb, fun l x q => .inl ⟨l, x, q, rfl⟩, fun _ q => q, fun _ q => .inl q, fun b hb => by simp only [World.shape?, h.block b hb]⟩
theorem hrep_nil {N : Nat} {w w' : World} {ok : Nat → Prop} {β : Loc} (h : HRep N w ok β []) (hs : w.heap.size ≤ w'.heap.size) : HRep N w' ok β [] :=
  ⟨h.out, h.inj, fun l b o q => absurd q (by rw [h.out l (Nat.zero_le _)]; simp), h.dis, fun b q => Nat.lt_of_lt_of_le (h.okl b q) hs, fun l o q => by simp at q⟩
theorem stable_below {E : Env} {w w' : World} (hg : E.G w) (hn : E.N ≤ w.heap.size) (h : Below w.heap.size w w') : E.G w' := E.stable w w' hg fun b hb => h.block b (Nat.lt_of_lt_of_le hb hn)
end Go.Ai
namespace Go.Proofs.Ut
open Go.Ai Go.Shelf Go.RowKit
/-- A capital's small letter, and back. -/
def foldC (i : Nat) : Int := if 65 ≤ i ∧ i ≤ 90 then i + 32 else if i = 107 then 8490 else if i = 115 then 383 else if 97 ≤ i ∧ i ≤ 122 then i - 32 else i
/-- What the places of the package-level variables hold. -/
structure Laid (w : World) : Prop where
  tabs : Lib.Utf8Tabs 3 4 w
  most : ∃ m, w.cell? ⟨5, 0, none⟩ = some (.int .i64 m)
  fold : ∀ i : Nat, i < 128 → w.cell? ⟨0, i, none⟩ = some (.int .u16 (foldC i))
theorem vtest {E : Env} (hP : E.P = Tryz.prog) (hG : ∀ w, E.G w → Lib.Utf8Tabs (Tryz.laysValid_ren.g 3) (Tryz.laysValid_ren.g 4) w) : VTest E := by
  intro s hs
  refine ⟨hP ▸ ⟨Tryz.f79, Tryz.func79, by kernel_rfl, by kernel_rfl⟩, fun w ok β vs hg hn hh hl hv => ?_⟩
  obtain ⟨v0, rfl⟩ : ∃ v0, vs = [v0] := by
    match vs, hl with
    | [a], _ => exact ⟨a, rfl⟩
  have r0 := hv 0 v0 _ rfl rfl
  generalize hd : DV.str s = d0 at r0
  cases r0 <;> try cases hd
  rename_i t
  rw [hP]
  refine Calls.mono (Any.utf8_ValidString Tryz.laysValid t w (by simpa using hs) (hG w hg)) ?_
  rintro e w' ⟨rfl, hb⟩
  exact ⟨_, ok, β, [], _, rfl, ⟨rfl, rfl⟩, stable_below hg hn hb, Ev.below hb, hrep_nil hh hb.size, .bool _, fun l cs q => by simp at q, Nat.le_refl _, fun _ _ _ => rfl⟩
/-- The variables lie in the first places. -/
noncomputable def ED : Env where
  P := Tryz.prog
  N := 6
  G := Laid
  stable := fun w w' h hb => by
    have hc : ∀ b c, b < 6 → w'.cell? ⟨b, c, none⟩ = w.cell? ⟨b, c, none⟩ := fun b c hb' => by simp only [World.cell?, hb b hb']
    exact ⟨⟨fun c q => by rw [hc 3 _ (by omega)]; exact h.tabs.1 c q, fun i q => by rw [hc 4 _ (by omega), hc 4 _ (by omega)]; exact h.tabs.2 i q⟩,
      h.most.imp fun m q => by rw [hc 5 _ (by omega)]; exact q, fun i q => by rw [hc 0 _ (by omega)]; exact h.fold i q⟩
theorem vED : VTest ED := vtest rfl fun _ h => h.tabs
end Go.Proofs.Ut
