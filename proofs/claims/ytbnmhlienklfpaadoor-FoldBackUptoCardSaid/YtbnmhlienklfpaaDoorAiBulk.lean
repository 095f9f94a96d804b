/- Arguments opened, and what they weigh. -/
import Derived.Test.YtbnmhlienklfpaaDoorAiOpen
set_option linter.all false
namespace Go.Ai
section
variable {H : Type} {enc : TypeId × Value → H} {P : Program} {w : World} {base : Nat} {spare : Nat → Bool} {held : Bool}
theorem sum_le_at {α β : Type} {f : α → Nat} {g : β → Nat} : ∀ (a : List α) (b : List β), a.length = b.length → (∀ (i : Nat) x y, a[i]? = some x → b[i]? = some y → f x ≤ g y) → (a.map f).sum ≤ (b.map g).sum
  | [], [], _, _ => Nat.le_refl _
  | x :: a, y :: b, hl, h => by
    have h0 := h 0 x y rfl rfl
    have ih := sum_le_at a b (by simpa using hl) fun i u v hu hv => h (i + 1) u v (by simpa using hu) (by simpa using hv)
    simp only [List.map_cons, List.sum_cons]
    omega
  | [], _ :: _, hl, _ => by simp at hl
  | _ :: _, [], hl, _ => by simp at hl
/-- A slice of what can be opened. -/
theorem open_slice {c : Nat} {p : List DV → Prop} {wt : List DV → Nat} {B : DataW H → Nat} {t t' : TypeId} (hu : P.underlying t = some (.slice t')) (hc : P.cellsOf t' = c) (hpos : 0 < c) (hB0 : 1 ≤ B .nil)
    (hB1 : ∀ el sp, (el.map B).sum + 1 ≤ B (.slice el sp))
    (ih : ∀ {fuel : Nat} {cs : List Value} {x : DataW H × List MemPlace}, DataW.trod enc P w base spare held fuel t' cs = some x → ∃ ds, ds.length = c ∧ p ds ∧ Cl w cs ds ∧ wt ds ≤ B x.1)
    {fuel : Nat} {cs : List Value} {x : DataW H × List MemPlace} (h : DataW.trod enc P w base spare held fuel t cs = some x) :
    ∃ es, Cl w cs [.sl c es] ∧ (∀ y ∈ es, p y) ∧ (es.map wt).sum + 1 ≤ B x.1 := by
  rcases DataW.trod_slice hu h with ⟨rfl, rfl⟩ | ⟨ad, len, cap, elems, rest, n, rfl, rfl, rfl, hb, hlc, hcap, hel, helem, _⟩
  · refine ⟨[], .one rfl ?_, by simp, by simpa using hB0⟩
    exact .sl none 0 0 c [] 0 0 (fun _ => undef) rfl (Nat.le_refl _) hpos (by simp) (fun h => by omega) (fun k h => by simp at h) (fun k h => by simp at h) (fun k d h => by simp at h)
  · rw [hc] at helem
    obtain ⟨es, hes, hp⟩ := list_of (p := fun i (ds : List DV) => (ds.length = c ∧ p ds ∧ ∀ y, elems[i]? = some y → wt ds ≤ B y.1) ∧ ∃ cs, w.cells? base (ad.add (i * c)) c = some cs ∧ Cl w cs ds) len fun i hi => by
      have := helem i hi
      have hil : i < elems.length := by omega
      rw [List.getElem?_eq_getElem hil, Option.bind_eq_some_iff] at this
      obtain ⟨cs, h1, h2⟩ := this
      obtain ⟨ds, h3, h4, h5, h6⟩ := ih h2
      exact ⟨ds, ⟨h3, h4, fun y hy => by rw [List.getElem?_eq_getElem hil] at hy; cases hy; exact h6⟩, cs, h1, h5⟩
    have hlen : ∀ y ∈ es, y.length = c := fun y hy => by
      obtain ⟨i, hi⟩ := List.getElem?_of_mem hy
      exact (hp i y hi).1.1
    have hsum : (es.map wt).sum ≤ ((elems.map (·.1)).map B).sum := by
      rw [List.map_map]
      exact sum_le_at es elems (by omega) fun i u v hu hv => (hp i u hu).1.2.2 v hv
    refine ⟨es, .one rfl ?_, fun y hy => ?_, ?_⟩
    rotate_left
    · obtain ⟨i, hi⟩ := List.getElem?_of_mem hy
      exact (hp i y hi).1.2.1
    · have := hB1 (elems.map (·.1)) (rest.map (·.1))
      show _ ≤ B (.slice (elems.map (·.1)) (rest.map (·.1)))
      omega
    have cell : ∀ k, k < len * c → ∃ v d, w.cell? (ad.add k) = some v ∧ es.flatten[k]? = some d ∧ v.oneCell' = true ∧ Rep w (fun b => b < w.heap.size) noLoc v d := fun k hk => by
      have hi : k / c < len := by rw [Nat.div_lt_iff_lt_mul hpos]; exact hk
      have hq : k % c < c := Nat.mod_lt _ hpos
      have hi' : k / c < es.length := by omega
      have hge := List.getElem?_eq_getElem hi'
      obtain ⟨hh, cs, hcs, hcl⟩ := hp (k / c) _ hge
      obtain ⟨_, hcl1, hcl2⟩ := World.cells?_some hcs
      have ek : k = k / c * c + k % c := by rw [Nat.mul_comm]; exact (Nat.div_add_mod k c).symm
      have hcell := hcl2 (k % c) hq
      have hadd : ∀ x y, (ad.add x).add y = ad.add (x + y) := fun x y => by
        simp only [Addr.add]
        by_cases h1 : x = 0 <;> by_cases h2 : y = 0 <;> simp [h1, h2, Nat.add_assoc]
      rw [hadd, ← ek] at hcell
      have hv : cs[k % c]? = some (cs[k % c]'(by omega)) := List.getElem?_eq_getElem _
      have hfl := flatten_get hlen hge hq
      rw [← ek] at hfl
      have hdl : k % c < (es[k / c]).length := by rw [hh.1]; exact hq
      have hd := List.getElem?_eq_getElem hdl
      have := hcl.2 _ _ _ hv hd
      exact ⟨_, _, hcell.trans hv, hfl.trans hd, this.1, this.2⟩
    have hspot : 0 < len → ad.spot = none ∧ ad.block < w.heap.size := fun hl => by
      obtain ⟨v, d, h1, _⟩ := cell 0 (Nat.mul_pos hl hpos)
      have h0 : ad.add 0 = ad := by simp [Addr.add]
      rw [h0] at h1
      unfold World.cell? at h1
      split at h1
      · rename_i hb
        by_cases hs : ad.spot.isSome = true
        · rw [if_pos hs] at h1; cases h1
        · exact ⟨by simpa using hs, (Array.getElem?_eq_some_iff.1 hb).1⟩
      · cases h1
    refine .sl (some ad) len cap c es ad.block ad.off (fun k => (w.cell? (ad.add k)).getD undef) hes.symm hlc hpos hlen (fun hl => ⟨by obtain ⟨h1, _⟩ := hspot hl; cases ad; simp at h1; subst h1; rfl, (hspot hl).2⟩) (fun k hk => ?_) (fun k hk => ?_) (fun k d hd => ?_)
    · obtain ⟨v, d, h1, _⟩ := cell k hk
      have hl : 0 < len := by
        rcases Nat.eq_zero_or_pos len with h0 | h0
        · subst h0; simp at hk
        · exact h0
      have ha : ad.add k = ⟨ad.block, ad.off + k, none⟩ := by
        obtain ⟨h1, _⟩ := hspot hl
        cases ad; simp at h1; subst h1; exact add_mk _ _ _
      rw [← ha, h1]; rfl
    · obtain ⟨v, d, h1, _, h3, _⟩ := cell k hk
      rw [h1]; exact h3
    · have hk : k < len * c := by
        rcases Nat.lt_or_ge k (len * c) with h | h
        · exact h
        · rw [List.getElem?_eq_none (by rw [flatten_len hlen, hes]; exact h)] at hd; cases hd
      obtain ⟨v, d', h1, h2, _, h4⟩ := cell k hk
      rw [hd] at h2
      cases h2
      rw [h1]; exact h4
/-- A text. -/
theorem open_str {B : DataW H → Nat} {t : TypeId} (hu : P.underlying t = some .string) (hB : ∀ b, B (.lit (.string b)) = b.length + 1)
    {fuel : Nat} {cs : List Value} {x : DataW H × List MemPlace} (h : DataW.trod enc P w base spare held fuel t cs = some x) :
    ∃ s : List UInt8, Cl w cs [.str s] ∧ s.length + 1 ≤ B x.1 := by
  obtain ⟨s, rfl, rfl, hw⟩ := DataW.trod_string hu h
  exact ⟨s.data.toList, .one rfl (.str s), by rw [hB]; exact Nat.le_refl _⟩
end
end Go.Ai
