/- What comes in, as plain data: numbers, texts, rows of them, structs of them. -/
import Derived.Test.YtbnmhlienklfpaaGreatDoorAiRow
import Derived.ChangeArms
import Derived.ChangeSlices
set_option linter.all false
namespace Go.Ai
inductive AT where
  | int (k : IntKind)
  | str
  | bool
  | sl (e : AT)
  | st (l : List AT)
def AT.cells : AT → Nat
  | .st l => cellsL l
  | _ => 1
where cellsL : List AT → Nat
  | [] => 0
  | a :: l => a.cells + cellsL l
/-- The cells of a value of that type. -/
def AT.has : AT → List DV → Prop
  | .int k, ds => ∃ n, ds = [.int k n] ∧ (Lit.int k n).wf = true
  | .str, ds => ∃ s : List UInt8, ds = [.str s] ∧ s.length ≤ maxLen
  | .bool, ds => ∃ b, ds = [.bool b]
  | .sl e, ds => ∃ es, ds = [.sl e.cells es] ∧ es.length ≤ maxLen ∧ ∀ x ∈ es, e.has x
  | .st l, ds => hasL l ds
where hasL : List AT → List DV → Prop
  | [], ds => ds = []
  | a :: l, ds => ∃ x y, ds = x ++ y ∧ a.has x ∧ hasL l y
mutual
def AT.fits (P : Program) : AT → TypeId → Bool
  | .int k, t => match P.underlying t with | some (.int k') => k == k' | _ => false
  | .str, t => match P.underlying t with | some .string => true | _ => false
  | .bool, t => match P.underlying t with | some .bool => true | _ => false
  | .sl e, t => match P.underlying t with | some (.slice t') => e.fits P t' && P.cellsOf t' == e.cells && decide (0 < e.cells) | _ => false
  | .st l, t => match P.underlying t with | some (.struct fs) => AT.fitsL P l fs.toList 0 && P.cellsOf t == AT.cells.cellsL l | _ => false
def AT.fitsL (P : Program) : List AT → List Field → Nat → Bool
  | [], [], _ => true
  | a :: l, f :: fs, o => f.offset == o && P.cellsOf f.type == a.cells && a.fits P f.type && AT.fitsL P l fs (o + a.cells)
  | _, _, _ => false
end
theorem has_len : ∀ {a : AT} {ds : List DV}, a.has ds → ds.length = a.cells := by
  intro a
  refine AT.rec (motive_1 := fun a => ∀ {ds : List DV}, a.has ds → ds.length = a.cells) (motive_2 := fun l => ∀ {ds : List DV}, AT.has.hasL l ds → ds.length = AT.cells.cellsL l) ?_ ?_ ?_ ?_ ?_ ?_ ?_ a
  · rintro k ds ⟨n, rfl, _⟩; rfl
  · rintro ds ⟨n, rfl, _⟩; rfl
  · rintro ds ⟨n, rfl⟩; rfl
  · rintro e _ ds ⟨n, rfl, _⟩; rfl
  · intro l ih ds h; exact ih h
  · intro ds h; simp only [AT.has.hasL] at h; subst h; rfl
  · rintro a l iha ihl ds ⟨x, y, rfl, hx, hy⟩
    rw [List.length_append, iha hx, ihl hy]; rfl
theorem list_of {α : Type} {p : Nat → α → Prop} : ∀ (n : Nat), (∀ i, i < n → ∃ x, p i x) → ∃ l : List α, l.length = n ∧ ∀ i x, l[i]? = some x → p i x
  | 0, _ => ⟨[], rfl, fun i x h => by simp at h⟩
  | n + 1, h => by
    obtain ⟨l, hl, hp⟩ := list_of n fun i hi => h i (by omega)
    obtain ⟨x, hx⟩ := h n (by omega)
    refine ⟨l ++ [x], by simp [hl], fun i y hy => ?_⟩
    rcases Nat.lt_or_ge i l.length with hi | hi
    · rw [List.getElem?_append_left hi] at hy; exact hp i y hy
    · rw [List.getElem?_append_right hi] at hy
      have : i = l.length := by
        rcases Nat.eq_or_lt_of_le hi with e | e
        · exact e.symm
        · rw [List.getElem?_eq_none (by simp; omega)] at hy; cases hy
      subst this
      simp at hy; subst hy; rw [hl]; exact hx
/-- Cells, and what stands for them. -/
def Cl (w : World) (cs : List Value) (ds : List DV) : Prop := cs.length = ds.length ∧ ∀ (i : Nat) v d, cs[i]? = some v → ds[i]? = some d → v.oneCell' = true ∧ Rep w (fun b => b < w.heap.size) noLoc v d
theorem Cl.nil {w : World} : Cl w [] [] := ⟨rfl, fun i v d h => by simp at h⟩
theorem Cl.one {w : World} {v : Value} {d : DV} (h1 : v.oneCell' = true) (h : Rep w (fun b => b < w.heap.size) noLoc v d) : Cl w [v] [d] := ⟨rfl, fun i v' d' hv hd => by
  rcases i with _ | i
  · simp at hv hd; subst hv; subst hd; exact ⟨h1, h⟩
  · simp at hv⟩
theorem Cl.app {w : World} {cs cs' : List Value} {ds ds' : List DV} (h : Cl w cs ds) (k : Cl w cs' ds') : Cl w (cs ++ cs') (ds ++ ds') := by
  refine ⟨by simp [h.1, k.1], fun i v d hv hd => ?_⟩
  rcases Nat.lt_or_ge i cs.length with hi | hi
  · rw [List.getElem?_append_left hi] at hv
    rw [List.getElem?_append_left (by rw [← h.1]; exact hi)] at hd
    exact h.2 i v d hv hd
  · rw [List.getElem?_append_right hi] at hv
    rw [List.getElem?_append_right (by rw [← h.1]; exact hi), ← h.1] at hd
    exact k.2 _ v d hv hd
section
variable {H : Type} {enc : TypeId × Value → H} {P : Program} {w : World} {base : Nat} {spare : Nat → Bool} {held : Bool}
end
end Go.Ai
