/- The call of the law of what is written and read. -/
import Derived.Test.YtbhlmbacgbfaoaaDoorCsJ
import Derived.Test.YtbhlmbacgbfaoaaDoorCsI
import Derived.Test.YtbhlmbacgbfaoaaDoorAiBulk
set_option linter.all false
namespace Go.Proofs.Ut
open Go.Ai Classical Go.Shelf Go.RowKit
set_option linter.unusedVariables false
def wtS : List DV → Nat
  | [.str s] => s.length + 1
  | _ => 0
def wtR : List DV → Nat
  | [.sl _ es] => (es.map wtS).sum + 1
  | _ => 0
theorem fT_wt : ∀ x : List (List UInt8), fT x ≤ 3 * ((x.map sv).map wtS).sum
  | [] => by simp [fT]
  | s :: x => by
    have := fT_wt x
    simp only [fT, List.map_cons, List.sum_cons, sv, wtS] at this ⊢
    omega
theorem few_wt : ∀ l : List (List (List UInt8)), fewN l ≤ 3 * ((l.map rwv).map wtR).sum
  | [] => by simp [fewN]
  | x :: l => by
    have h1 := few_wt l
    have h2 := fT_wt x
    have e : wtR (rwv x) = ((x.map sv).map wtS).sum + 1 := rfl
    rw [List.map_cons, List.map_cons, List.sum_cons, e, fewN]
    omega
section
variable {H : Type} {enc : TypeId × Value → H} {w : World} {base : Nat} {spare : Nat → Bool} {held : Bool}
theorem open_rows {B : DataW H → Nat} (hB0 : 1 ≤ B .nil) (hBs : ∀ b, B (.lit (.string b)) = b.length + 1) (hB1 : ∀ el sp, (el.map B).sum + 1 ≤ B (.slice el sp))
    {fuel : Nat} {cs : List Value} {x : DataW H × List MemPlace} (h : DataW.trod enc Tryd.prog w base spare held fuel 42 cs = some x) :
    ∃ l : List (List (List UInt8)), Cl w cs [.sl 1 (l.map rwv)] ∧ fewN l ≤ 3 * B x.1 := by
  obtain ⟨es, h1, h2, h3⟩ := open_slice (c := 1) (p := fun ds => ∃ x : List (List UInt8), ds = rwv x) (wt := wtR) (B := B) (t' := 34) Tryd.underlying42 (by kernel_rfl) (by omega) hB0 hB1 (fun {fuel cs x} h => by
    obtain ⟨es, g1, g2, g3⟩ := open_slice (c := 1) (p := fun ds => ∃ s : List UInt8, ds = sv s) (wt := wtS) (B := B) (t' := 9) Tryd.underlying34 (by kernel_rfl) (by omega) hB0 hB1 (fun {fuel cs x} h => by
      obtain ⟨s, k1, k2⟩ := open_str Tryd.underlying9 hBs h
      exact ⟨[.str s], rfl, ⟨s, rfl⟩, k1, k2⟩) h
    obtain ⟨y, rfl, _⟩ := rows_ofP (f := sv) (p := fun _ => True) es fun e he => by
      obtain ⟨s, rfl⟩ := g2 e he
      exact ⟨s, rfl, trivial⟩
    exact ⟨[.sl 1 (y.map sv)], rfl, ⟨y, rfl⟩, g1, g3⟩) h
  obtain ⟨l, rfl, _⟩ := rows_ofP (f := rwv) (p := fun _ => True) es fun e he => by
    obtain ⟨s, rfl⟩ := h2 e he
    exact ⟨s, rfl, trivial⟩
  refine ⟨l, h1, ?_⟩
  have := few_wt l
  omega
end
theorem back_walk (W : World) (hT : Lib.Utf8Tabs 0 1 W) {v0 : Value} {l : List (List (List UInt8))} (c0 : Cl W [v0] [.sl 1 (l.map rwv)]) (hl : fewN l ≤ 10000000) (a1 : ByteArray) (h1 : a1.size ≤ 10000000) :
    Calls Tryd.prog 12 #[v0, .string a1] W fun e W' => e = .returned (.bool true) ∧ Below W.heap.size W W' := by
  have hs : a1.data.toList.length ≤ 10000000 := by rw [Array.length_toList]; exact h1
  refine door_walk (back12 l a1.data.toList (by omega) (by omega)) W hT [v0, .string a1] rfl fun i v d g1 g2 => ?_
  rcases i with _ | _ | i
  · exact cl_1 (i := 0) c0 g1 g2
  · cases g1; cases g2; exact .str a1
  · simp at g1
end Go.Proofs.Ut
