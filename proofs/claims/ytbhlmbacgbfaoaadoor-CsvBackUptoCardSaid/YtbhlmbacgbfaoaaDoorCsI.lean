/- The call of the law of fields. -/
import Derived.Test.YtbhlmbacgbfaoaaDoorCsH
import Derived.Test.YtbhlmbacgbfaoaaDoorAiOpen
set_option linter.all false
namespace Go.Proofs.Ut
open Go.Ai Classical Go.Shelf Go.RowKit
theorem rows_ofP {α : Type} {f : α → List DV} {p : α → Prop} : ∀ es : List (List DV), (∀ e ∈ es, ∃ x, e = f x ∧ p x) → ∃ l : List α, es = l.map f ∧ ∀ x ∈ l, p x
  | [], _ => ⟨[], rfl, fun x h => by simp at h⟩
  | e :: es, h => by
    obtain ⟨l, rfl, hp⟩ := rows_ofP es fun x hx => h x (by simp [hx])
    obtain ⟨x, rfl, hx⟩ := h e (by simp)
    exact ⟨x :: l, rfl, fun y hy => by
      rcases List.mem_cons.1 hy with q | q
      · subst q; exact hx
      · exact hp y q⟩
theorem strs_of {ds : List DV} (h : AT.has (.sl .str) ds) : ∃ l : List (List UInt8), ds = [.sl 1 (l.map sv)] ∧ l.length ≤ maxLen ∧ ∀ s ∈ l, s.length ≤ maxLen := by
  obtain ⟨es, rfl, hl, he⟩ := h
  obtain ⟨l, rfl, hp⟩ := rows_ofP (f := sv) (p := fun s => s.length ≤ maxLen) es fun e h => by
    obtain ⟨s, rfl, hs⟩ := he e h
    exact ⟨s, rfl, hs⟩
  exact ⟨l, rfl, by simpa using hl, hp⟩
theorem bools_of {ds : List DV} (h : AT.has (.sl .bool) ds) : ∃ l : List Bool, ds = [.sl 1 (l.map bv)] ∧ l.length ≤ maxLen := by
  obtain ⟨es, rfl, hl, he⟩ := h
  obtain ⟨l, rfl, _⟩ := rows_ofP (f := bv) (p := fun _ => True) es fun e h => by
    obtain ⟨s, rfl⟩ := he e h
    exact ⟨s, rfl, trivial⟩
  exact ⟨l, rfl, by simpa using hl⟩
theorem cl_1 {w : World} {v v' : Value} {d d' : DV} {i : Nat} (h : Cl w [v] [d]) (hv : [v][i]? = some v') (hd : [d][i]? = some d') : Rep w (fun b => b < w.heap.size) noLoc v' d' := (h.2 i v' d' hv hd).2
theorem fields_walk (W : World) (hT : Lib.Utf8Tabs 0 1 W) {v0 v1 : Value} {ds0 ds1 : List DV} (h0 : AT.has (.sl .str) ds0) (c0 : Cl W [v0] ds0) (h1 : AT.has (.sl .bool) ds1) (c1 : Cl W [v1] ds1) :
    Calls Tryd.prog 14 #[v0, v1] W fun e W' => e = .returned (.bool true) ∧ Below W.heap.size W W' := by
  obtain ⟨l, rfl, hl, _⟩ := strs_of h0
  obtain ⟨q, rfl, hq⟩ := bools_of h1
  refine door_walk (fields14 l q (by unfold maxLen at hl; omega) (by unfold maxLen at hq; omega)) W hT [v0, v1] rfl fun i v d g1 g2 => ?_
  rcases i with _ | _ | i
  · exact cl_1 (i := 0) c0 g1 g2
  · exact cl_1 (i := 0) c1 g1 g2
  · simp at g1
end Go.Proofs.Ut
