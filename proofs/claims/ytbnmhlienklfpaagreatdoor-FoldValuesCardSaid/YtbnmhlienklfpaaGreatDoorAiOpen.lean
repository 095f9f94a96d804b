/- What comes in, as plain data: numbers, texts, rows of them, structs of them. -/
import Derived.Test.YtbnmhlienklfpaaGreatDoorAiRow
import Derived.ChangeArms
import Derived.ChangeSlices
set_option linter.all false
namespace Go.Ai
inductive AT where
  | int (k : IntKind)
  | str
  | bool
  | sl (e : AT)
  | st (l : List AT)
def AT.cells : AT → Nat
  | .st l => cellsL l
  | _ => 1
where cellsL : List AT → Nat
  | [] => 0
  | a :: l => a.cells + cellsL l
/-- The cells of a value of that type. -/
def AT.has : AT → List DV → Prop
  | .int k, ds => ∃ n, ds = [.int k n] ∧ (Lit.int k n).wf = true
  | .str, ds => ∃ s : List UInt8, ds = [.str s] ∧ s.length ≤ maxLen
  | .bool, ds => ∃ b, ds = [.bool b]
  | .sl e, ds => ∃ es, ds = [.sl e.cells es] ∧ es.length ≤ maxLen ∧ ∀ x ∈ es, e.has x
  | .st l, ds => hasL l ds
where hasL : List AT → List DV → Prop
  | [], ds => ds = []
  | a :: l, ds => ∃ x y, ds = x ++ y ∧ a.has x ∧ hasL l y
mutual
def AT.fits (P : Program) : AT → TypeId → Bool
  | .int k, t => match P.underlying t with | some (.int k') => k == k' | _ => false
  | .str, t => match P.underlying t with | some .string => true | _ => false
  | .bool, t => match P.underlying t with | some .bool => true | _ => false
  | .sl e, t => match P.underlying t with | some (.slice t') => e.fits P t' && P.cellsOf t' == e.cells && decide (0 < e.cells) | _ => false
  | .st l, t => match P.underlying t with | some (.struct fs) => AT.fitsL P l fs.toList 0 && P.cellsOf t == AT.cells.cellsL l | _ => false
def AT.fitsL (P : Program) : List AT → List Field → Nat → Bool
  | [], [], _ => true
  | a :: l, f :: fs, o => f.offset == o && P.cellsOf f.type == a.cells && a.fits P f.type && AT.fitsL P l fs (o + a.cells)
  | _, _, _ => false
end
theorem has_len : ∀ {a : AT} {ds : List DV}, a.has ds → ds.length = a.cells := by
  intro a
  refine AT.rec (motive_1 := fun a => ∀ {ds : List DV}, a.has ds → ds.length = a.cells) (motive_2 := fun l => ∀ {ds : List DV}, AT.has.hasL l ds → ds.length = AT.cells.cellsL l) ?_ ?_ ?_ ?_ ?_ ?_ ?_ a
  · rintro k ds ⟨n, rfl, _⟩; rfl
  · rintro ds ⟨n, rfl, _⟩; rfl
  · rintro ds ⟨n, rfl⟩; rfl
  · rintro e _ ds ⟨n, rfl, _⟩; rfl
  · intro l ih ds h; exact ih h
  · intro ds h; simp only [AT.has.hasL] at h; subst h; rfl
  · rintro a l iha ihl ds ⟨x, y, rfl, hx, hy⟩
    rw [List.length_append, iha hx, ihl hy]; rfl
theorem list_of {α : Type} {p : Nat → α → Prop} : ∀ (n : Nat), (∀ i, i < n → ∃ x, p i x) → ∃ l : List α, l.length = n ∧ ∀ i x, l[i]? = some x → p i x
  | 0, _ => ⟨[], rfl, fun i x h => by simp at h⟩
  | n + 1, h => by
    obtain ⟨l, hl, hp⟩ := list_of n fun i hi => h i (by omega)
    obtain ⟨x, hx⟩ := h n (by omega)
    refine ⟨l ++ [x], by simp [hl], fun i y hy => ?_⟩
    rcases Nat.lt_or_ge i l.length with hi | hi
    · rw [List.getElem?_append_left hi] at hy; exact hp i y hy
    · rw [List.getElem?_append_right hi] at hy
      have : i = l.length := by
        rcases Nat.eq_or_lt_of_le hi with e | e
        · exact e.symm
        · rw [List.getElem?_eq_none (by simp; omega)] at hy; cases hy
      subst this
      simp at hy; subst hy; rw [hl]; exact hx
/-- Cells, and what stands for them. -/
def Cl (w : World) (cs : List Value) (ds : List DV) : Prop := cs.length = ds.length ∧ ∀ (i : Nat) v d, cs[i]? = some v → ds[i]? = some d → v.oneCell' = true ∧ Rep w (fun b => b < w.heap.size) noLoc v d
theorem Cl.nil {w : World} : Cl w [] [] := ⟨rfl, fun i v d h => by simp at h⟩
theorem Cl.one {w : World} {v : Value} {d : DV} (h1 : v.oneCell' = true) (h : Rep w (fun b => b < w.heap.size) noLoc v d) : Cl w [v] [d] := ⟨rfl, fun i v' d' hv hd => by
  rcases i with _ | i
  · simp at hv hd; subst hv; subst hd; exact ⟨h1, h⟩
  · simp at hv⟩
theorem Cl.app {w : World} {cs cs' : List Value} {ds ds' : List DV} (h : Cl w cs ds) (k : Cl w cs' ds') : Cl w (cs ++ cs') (ds ++ ds') := by
  refine ⟨by simp [h.1, k.1], fun i v d hv hd => ?_⟩
  rcases Nat.lt_or_ge i cs.length with hi | hi
  · rw [List.getElem?_append_left hi] at hv
    rw [List.getElem?_append_left (by rw [← h.1]; exact hi)] at hd
    exact h.2 i v d hv hd
  · rw [List.getElem?_append_right hi] at hv
    rw [List.getElem?_append_right (by rw [← h.1]; exact hi), ← h.1] at hd
    exact k.2 _ v d hv hd
section
variable {H : Type} {enc : TypeId × Value → H} {P : Program} {w : World} {base : Nat} {spare : Nat → Bool} {held : Bool}
theorem open_at : ∀ (a : AT) {t : TypeId} {fuel : Nat} {cs : List Value} {x : DataW H × List MemPlace}, a.fits P t = true → DataW.trod enc P w base spare held fuel t cs = some x → ∃ ds, a.has ds ∧ Cl w cs ds := by
  intro a
  refine AT.rec (motive_1 := fun a => ∀ {t : TypeId} {fuel : Nat} {cs : List Value} {x : DataW H × List MemPlace}, a.fits P t = true → DataW.trod enc P w base spare held fuel t cs = some x → ∃ ds, a.has ds ∧ Cl w cs ds)
    (motive_2 := fun l => ∀ {fs : List Field} {o fuel : Nat} {cs : List Value}, AT.fitsL P l fs o = true → cs.length = o + AT.cells.cellsL l →
      (∀ f ∈ fs, ∃ y, DataW.trod enc P w base spare held fuel f.type ((cs.drop f.offset).take (P.cellsOf f.type)) = some y) → ∃ ds, AT.has.hasL l ds ∧ Cl w (cs.drop o) ds) ?_ ?_ ?_ ?_ ?_ ?_ ?_ a
  · intro k t fuel cs x hf h
    simp only [AT.fits] at hf
    split at hf
    · rename_i k' hu
      simp at hf; subst hf
      obtain ⟨n, rfl, rfl, hw⟩ := DataW.trod_int hu h
      exact ⟨_, ⟨n, rfl, hw⟩, .one rfl (.int _ _)⟩
    · cases hf
  · intro t fuel cs x hf h
    simp only [AT.fits] at hf
    split at hf
    · rename_i hu
      obtain ⟨s, rfl, rfl, hw⟩ := DataW.trod_string hu h
      exact ⟨_, ⟨s.data.toList, rfl, by simpa using hw⟩, .one rfl (.str s)⟩
    · cases hf
  · intro t fuel cs x hf h
    simp only [AT.fits] at hf
    split at hf
    · rename_i hu
      obtain ⟨b, rfl, rfl⟩ := DataW.trod_bool hu h
      exact ⟨_, ⟨b, rfl⟩, .one rfl (.bool _)⟩
    · cases hf
  · intro e ih t fuel cs x hf h
    simp only [AT.fits] at hf
    split at hf
    · rename_i t' hu
      simp only [Bool.and_eq_true, beq_iff_eq, decide_eq_true_eq] at hf
      obtain ⟨⟨hf, hc⟩, hpos⟩ := hf
      rcases DataW.trod_slice hu h with ⟨rfl, rfl⟩ | ⟨ad, len, cap, elems, rest, n, rfl, rfl, rfl, hb, hlc, hcap, hel, helem, _⟩
      · refine ⟨[.sl e.cells []], ⟨[], rfl, by simp, by simp⟩, .one rfl ?_⟩
        exact .sl none 0 0 e.cells [] 0 0 (fun _ => undef) rfl (Nat.le_refl _) hpos (by simp) (fun h => by omega) (fun k h => by simp at h) (fun k h => by simp at h) (fun k d h => by simp at h)
      · rw [hc] at helem
        obtain ⟨es, hes, hp⟩ := list_of (p := fun i (ds : List DV) => e.has ds ∧ ∃ cs, w.cells? base (ad.add (i * e.cells)) e.cells = some cs ∧ Cl w cs ds) len fun i hi => by
          have := helem i hi
          have hil : i < elems.length := by omega
          rw [List.getElem?_eq_getElem hil, Option.bind_eq_some_iff] at this
          obtain ⟨cs, h1, h2⟩ := this
          obtain ⟨ds, h3, h4⟩ := ih hf h2
          exact ⟨ds, h3, cs, h1, h4⟩
        have hlen : ∀ y ∈ es, y.length = e.cells := fun y hy => by
          obtain ⟨i, hi⟩ := List.getElem?_of_mem hy
          exact has_len (hp i y hi).1
        refine ⟨[.sl e.cells es], ⟨es, rfl, by omega, fun y hy => ?_⟩, .one rfl ?_⟩
        · obtain ⟨i, hi⟩ := List.getElem?_of_mem hy
          exact (hp i y hi).1
        have cell : ∀ k, k < len * e.cells → ∃ v d, w.cell? (ad.add k) = some v ∧ es.flatten[k]? = some d ∧ v.oneCell' = true ∧ Rep w (fun b => b < w.heap.size) noLoc v d := fun k hk => by
          have hi : k / e.cells < len := by rw [Nat.div_lt_iff_lt_mul hpos]; exact hk
          have hq : k % e.cells < e.cells := Nat.mod_lt _ hpos
          have hi' : k / e.cells < es.length := by omega
          have hge := List.getElem?_eq_getElem hi'
          obtain ⟨hh, cs, hcs, hcl⟩ := hp (k / e.cells) _ hge
          obtain ⟨_, hcl1, hcl2⟩ := World.cells?_some hcs
          have ek : k = k / e.cells * e.cells + k % e.cells := by rw [Nat.mul_comm]; exact (Nat.div_add_mod k e.cells).symm
          have hcell := hcl2 (k % e.cells) hq
          have hadd : ∀ x y, (ad.add x).add y = ad.add (x + y) := fun x y => by
            simp only [Addr.add]
            by_cases h1 : x = 0 <;> by_cases h2 : y = 0 <;> simp [h1, h2, Nat.add_assoc]
          rw [hadd, ← ek] at hcell
          have hv : cs[k % e.cells]? = some (cs[k % e.cells]'(by omega)) := List.getElem?_eq_getElem _
          have hfl := flatten_get hlen hge hq
          rw [← ek] at hfl
          have hdl : k % e.cells < (es[k / e.cells]).length := by rw [has_len hh]; exact hq
          have hd := List.getElem?_eq_getElem hdl
          have := hcl.2 _ _ _ hv hd
          exact ⟨_, _, hcell.trans hv, hfl.trans hd, this.1, this.2⟩
        have hspot : 0 < len → ad.spot = none ∧ ad.block < w.heap.size := fun hl => by
          obtain ⟨v, d, h1, _⟩ := cell 0 (Nat.mul_pos hl hpos)
          have h0 : ad.add 0 = ad := by simp [Addr.add]
          rw [h0] at h1
          unfold World.cell? at h1
          split at h1
          · rename_i hb
            by_cases hs : ad.spot.isSome = true
            · rw [if_pos hs] at h1; cases h1
            · exact ⟨by simpa using hs, (Array.getElem?_eq_some_iff.1 hb).1⟩
          · cases h1
        refine .sl (some ad) len cap e.cells es ad.block ad.off (fun k => (w.cell? (ad.add k)).getD undef) hes.symm hlc hpos hlen (fun hl => ⟨by obtain ⟨h1, _⟩ := hspot hl; cases ad; simp at h1; subst h1; rfl, (hspot hl).2⟩) (fun k hk => ?_) (fun k hk => ?_) (fun k d hd => ?_)
        · obtain ⟨v, d, h1, _⟩ := cell k hk
          have hl : 0 < len := by
            rcases Nat.eq_zero_or_pos len with h0 | h0
            · subst h0; simp at hk
            · exact h0
          have ha : ad.add k = ⟨ad.block, ad.off + k, none⟩ := by
            obtain ⟨h1, _⟩ := hspot hl
            cases ad; simp at h1; subst h1; exact add_mk _ _ _
          rw [← ha, h1]; rfl
        · obtain ⟨v, d, h1, _, h3, _⟩ := cell k hk
          rw [h1]; exact h3
        · have hk : k < len * e.cells := by
            rcases Nat.lt_or_ge k (len * e.cells) with h | h
            · exact h
            · rw [List.getElem?_eq_none (by rw [flatten_len hlen, hes]; exact h)] at hd; cases hd
          obtain ⟨v, d', h1, h2, _, h4⟩ := cell k hk
          rw [hd] at h2
          cases h2
          rw [h1]; exact h4
    · cases hf
  · intro l ih t fuel cs x hf h
    simp only [AT.fits] at hf
    split at hf
    · rename_i fs hu
      simp only [Bool.and_eq_true, beq_iff_eq] at hf
      obtain ⟨hf, hc⟩ := hf
      obtain ⟨xs, n, rfl, rfl, hcl, hxl, hx⟩ := DataW.trod_struct hu h
      obtain ⟨ds, h1, h2⟩ := ih (cs := cs) (fuel := n) hf (by rw [hcl, hc]; omega) fun f hfm => by
        obtain ⟨i, hi⟩ := List.getElem?_of_mem hfm
        have hi' : fs[i]? = some f := by simpa using hi
        have := hx i f hi'
        have hil : i < xs.length := by rw [hxl]; exact (Array.getElem?_eq_some_iff.1 hi').1
        exact ⟨_, this.trans (List.getElem?_eq_getElem hil)⟩
      exact ⟨ds, h1, by simpa using h2⟩
    · cases hf
  · intro fs o fuel cs hf hlen _
    refine ⟨[], rfl, ?_⟩
    have : cs.drop o = [] := List.drop_eq_nil_of_le (by simp [AT.cells.cellsL] at hlen; omega)
    rw [this]; exact .nil
  · intro a l iha ihl fs o fuel cs hf hlen hx
    cases fs with
    | nil => simp [AT.fitsL] at hf
    | cons f fs =>
      simp only [AT.fitsL, Bool.and_eq_true, beq_iff_eq] at hf
      obtain ⟨⟨⟨h1, h2⟩, h3⟩, h4⟩ := hf
      simp only [AT.cells.cellsL] at hlen
      obtain ⟨y, hy⟩ := hx f (by simp)
      obtain ⟨ds, k1, k2⟩ := iha h3 hy
      obtain ⟨ds', m1, m2⟩ := ihl (cs := cs) h4 (by omega) fun g hg => hx g (by simp [hg])
      refine ⟨ds ++ ds', ⟨ds, ds', rfl, k1, m1⟩, ?_⟩
      have e : cs.drop o = (cs.drop f.offset).take (P.cellsOf f.type) ++ cs.drop (o + a.cells) := by
        rw [h1, h2, ← List.drop_drop]
        exact (List.take_append_drop _ _).symm
      rw [e]
      exact k2.app m2
end
end Go.Ai
