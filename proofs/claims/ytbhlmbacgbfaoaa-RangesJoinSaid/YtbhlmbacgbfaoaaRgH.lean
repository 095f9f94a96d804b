import Derived.Test.YtbhlmbacgbfaoaaRgG
set_option linter.all false
namespace Go.Proofs.Rg
open Go.Ai Classical
/-- Within some ranges. -/
def memR (l : List (Int × Int)) (c : Int) : Prop := ∃ r ∈ l, r.1 ≤ c ∧ c ≤ r.2
structure Norm (J : List (Int × Int)) : Prop where
  le : ∀ r ∈ J, r.1 ≤ r.2
  gap : J.Pairwise fun x y => x.2 + 1 < y.1
theorem any_mem (l : List (Int × Int)) (c : Int) : l.any (hasB · c) = decide (memR l c) := by
  rw [Bool.eq_iff_iff, List.any_eq_true, decide_eq_true_iff]
  simp [memR, hasB]
theorem lastR_snoc (l : List (Int × Int)) (q : Int × Int) : lastR (l ++ [q]) = q := by simp [lastR]
theorem mg_snoc (l : List (Int × Int)) (q r : Int × Int) : mg (l ++ [q]) r = if r.1 ≤ q.2 + 1 then l ++ [(q.1, max q.2 r.2)] else l ++ [q] ++ [r] := by
  unfold mg
  rw [if_neg (by simp), lastR_snoc]
  split
  · simp
  · rfl
theorem fold_mg : ∀ (s out : List (Int × Int)), Norm out → s.Pairwise (fun x y => x.1 ≤ y.1) → (∀ r ∈ s, r.1 ≤ r.2) → (∀ q ∈ out, ∀ r ∈ s, q.1 ≤ r.1) →
    Norm (s.foldl mg out) ∧ (∀ c, memR (s.foldl mg out) c ↔ memR out c ∨ memR s c) ∧ (s.foldl mg out).length ≤ out.length + s.length
  | [], out, h, _, _, _ => ⟨h, fun c => by simp [memR], by simp⟩
  | r :: s, out, h, hs, hr, ho => by
    have hrr := hr r (by simp)
    have step : Norm (mg out r) ∧ (∀ c, memR (mg out r) c ↔ memR out c ∨ (r.1 ≤ c ∧ c ≤ r.2)) ∧ ∀ q ∈ mg out r, q.1 ≤ r.1 := by
      rcases List.eq_nil_or_concat out with rfl | ⟨l, q, rfl⟩
      · have e : mg [] r = [r] := rfl
        rw [e]
        exact ⟨⟨by simpa using hrr, by simp⟩, fun c => by simp [memR], by simp⟩
      · simp only [List.concat_eq_append] at *
        rw [mg_snoc]
        have hq := h.le q (by simp)
        have hqr := ho q (by simp) r (by simp)
        obtain ⟨g1, g2, g3⟩ := List.pairwise_append.1 h.gap
        have hl : ∀ x ∈ l, x.2 + 1 < q.1 := fun x hx => g3 x hx q (by simp)
        split
        · rename_i hle
          refine ⟨⟨fun x hx => ?_, ?_⟩, fun c => ?_, fun x hx => ?_⟩
          · rcases List.mem_append.1 hx with hx | hx
            · exact h.le x (by simp [hx])
            · simp at hx; subst hx; simp only; omega
          · rw [List.pairwise_append]
            exact ⟨g1, by simp, fun x hx y hy => by simp at hy; subst hy; exact hl x hx⟩
          · constructor
            · rintro ⟨x, hx, k1, k2⟩
              rcases List.mem_append.1 hx with hx | hx
              · exact .inl ⟨x, by simp [hx], k1, k2⟩
              · simp at hx; subst hx; simp only at k1 k2
                rcases Int.le_total c q.2 with hc | hc
                · exact .inl ⟨q, by simp, k1, hc⟩
                · by_cases hc' : c = q.2
                  · exact .inl ⟨q, by simp, k1, by omega⟩
                  · exact .inr ⟨by omega, by omega⟩
            · rintro (⟨x, hx, k1, k2⟩ | ⟨k1, k2⟩)
              · rcases List.mem_append.1 hx with hx | hx
                · exact ⟨x, by simp [hx], k1, k2⟩
                · simp at hx; subst hx
                  exact ⟨(x.1, max x.2 r.2), by simp, k1, by simp only; omega⟩
              · exact ⟨(q.1, max q.2 r.2), by simp, by simp only; omega, by simp only; omega⟩
          · rcases List.mem_append.1 hx with hx | hx
            · exact ho x (by simp [hx]) r (by simp)
            · simp at hx; subst hx; exact hqr
        · rename_i hle
          refine ⟨⟨fun x hx => ?_, ?_⟩, fun c => ?_, fun x hx => ?_⟩
          · rcases List.mem_append.1 hx with hx | hx
            · exact h.le x hx
            · simp at hx; subst hx; exact hrr
          · rw [List.pairwise_append]
            refine ⟨h.gap, by simp, fun x hx y hy => ?_⟩
            simp at hy; subst hy
            rcases List.mem_append.1 hx with hx | hx
            · have := hl x hx; omega
            · simp at hx; subst hx; omega
          · constructor
            · rintro ⟨x, hx, k1, k2⟩
              rcases List.mem_append.1 hx with hx | hx
              · exact .inl ⟨x, hx, k1, k2⟩
              · simp at hx; subst hx; exact .inr ⟨k1, k2⟩
            · rintro (⟨x, hx, k1, k2⟩ | ⟨k1, k2⟩)
              · exact ⟨x, List.mem_append.2 (.inl hx), k1, k2⟩
              · exact ⟨r, by simp, k1, k2⟩
          · rcases List.mem_append.1 hx with hx | hx
            · exact ho x hx r (by simp)
            · simp at hx; subst hx; exact Int.le_refl _
    obtain ⟨hp1, hp2⟩ := List.pairwise_cons.1 hs
    have ih := fold_mg s (mg out r) step.1 hp2 (fun x hx => hr x (by simp [hx])) (fun q hq x hx => Int.le_trans (step.2.2 q hq) (hp1 x hx))
    refine ⟨ih.1, fun c => ?_, ?_⟩
    · rw [List.foldl_cons, ih.2.1 c, step.2.1 c]
      have : memR (r :: s) c ↔ (r.1 ≤ c ∧ c ≤ r.2) ∨ memR s c := by simp [memR]
      rw [this, or_assoc]
    · have := ih.2.2
      have h2 := mg_len out r
      simp only [List.foldl_cons, List.length_cons] at *
      omega
theorem norm_lo {x : Int × Int} {J : List (Int × Int)} (h : Norm (x :: J)) {c : Int} (hc : memR (x :: J) c) : x.1 ≤ c ∧ (c ≤ x.2 ∨ x.2 + 1 < c ∧ memR J c) := by
  obtain ⟨r, hr, k1, k2⟩ := hc
  have hx := h.le x (by simp)
  rcases List.mem_cons.1 hr with rfl | hr
  · exact ⟨k1, .inl k2⟩
  · have := (List.pairwise_cons.1 h.gap).1 r hr
    exact ⟨by omega, .inr ⟨by omega, r, hr, k1, k2⟩⟩
theorem norm_tail {x : Int × Int} {J : List (Int × Int)} (h : Norm (x :: J)) : Norm J := ⟨fun r hr => h.le r (by simp [hr]), (List.pairwise_cons.1 h.gap).2⟩
/-- Ranges that do not touch are told by what is within. -/
theorem norm_unique : ∀ (J K : List (Int × Int)), Norm J → Norm K → (∀ c, memR J c ↔ memR K c) → J = K
  | [], [], _, _, _ => rfl
  | [], y :: K, _, hK, h => by
    have := (h y.1).2 ⟨y, by simp, Int.le_refl _, hK.le y (by simp)⟩
    obtain ⟨r, hr, _⟩ := this
    simp at hr
  | x :: J, [], hJ, _, h => by
    have := (h x.1).1 ⟨x, by simp, Int.le_refl _, hJ.le x (by simp)⟩
    obtain ⟨r, hr, _⟩ := this
    simp at hr
  | x :: J, y :: K, hJ, hK, h => by
    have hx := hJ.le x (by simp)
    have hy := hK.le y (by simp)
    have h1 := (norm_lo hK ((h x.1).1 ⟨x, by simp, Int.le_refl _, hx⟩)).1
    have h2 := (norm_lo hJ ((h y.1).2 ⟨y, by simp, Int.le_refl _, hy⟩)).1
    have e1 : x.1 = y.1 := by omega
    have e2 : x.2 = y.2 := by
      rcases Int.lt_trichotomy x.2 y.2 with hlt | he | hgt
      · have := (norm_lo hJ ((h (x.2 + 1)).2 ⟨y, by simp, by omega, by omega⟩)).2
        omega
      · exact he
      · have := (norm_lo hK ((h (y.2 + 1)).1 ⟨x, by simp, by omega, by omega⟩)).2
        omega
    have hxy : x = y := Prod.ext e1 e2
    subst hxy
    rw [norm_unique J K (norm_tail hJ) (norm_tail hK) fun c => ?_]
    constructor
    · rintro ⟨r, hr, k1, k2⟩
      have hg := (List.pairwise_cons.1 hJ.gap).1 r hr
      have := (norm_lo hK ((h c).1 ⟨r, by simp [hr], k1, k2⟩)).2
      rcases this with q | q
      · omega
      · exact q.2
    · rintro ⟨r, hr, k1, k2⟩
      have hg := (List.pairwise_cons.1 hK.gap).1 r hr
      have := (norm_lo hJ ((h c).2 ⟨r, by simp [hr], k1, k2⟩)).2
      rcases this with q | q
      · omega
      · exact q.2
theorem rt_le {l : List (Int × Int)} (h : Rt l) : ∀ r ∈ l, r.1 ≤ r.2 := fun r hr => by
  obtain ⟨i, hi, rfl⟩ := List.getElem_of_mem hr
  have := (h i hi).1
  simpa [hi] using this
theorem norm_rt {J : List (Int × Int)} (h : Norm J) : Rt J := fun j hj => by
  refine ⟨?_, fun hp => ?_⟩
  · simpa [hj] using h.le J[j] (List.getElem_mem hj)
  · have := (List.pairwise_iff_getElem.1 h.gap) (j - 1) j (by omega) hj (by omega)
    simp [hj, show j - 1 < J.length by omega]
    omega
/-- What two right ones have, joined. -/
theorem joinR_right {a b J : List (Int × Int)} (h : JoinR a b J) (ha : Rt a) (hb : Rt b) : Norm J ∧ (∀ c, memR J c ↔ memR a c ∨ memR b c) ∧ J.length ≤ a.length + b.length := by
  obtain ⟨s, hp, hs, rfl⟩ := h.1 ⟨ha, hb⟩
  have hle : ∀ r ∈ s, r.1 ≤ r.2 := fun r hr => by
    rcases List.mem_append.1 (hp.mem_iff.1 hr) with h | h
    · exact rt_le ha r h
    · exact rt_le hb r h
  have := fold_mg s [] ⟨by simp, .nil⟩ hs hle (by simp)
  refine ⟨this.1, fun c => ?_, ?_⟩
  · rw [this.2.1 c]
    simp only [memR, List.not_mem_nil, false_and, exists_false, false_or, hp.mem_iff, List.mem_append, or_and_right, exists_or]
  · have h2 := this.2.2
    have := hp.length_eq
    simp at this h2; omega
theorem joinR_unique {a b J K : List (Int × Int)} (h : JoinR a b J) (k : JoinR a b K) : J = K := by
  by_cases hr : Rt a ∧ Rt b
  · have h1 := joinR_right h hr.1 hr.2
    have h2 := joinR_right k hr.1 hr.2
    exact norm_unique J K h1.1 h2.1 fun c => (h1.2.1 c).trans (h2.2.1 c).symm
  · rw [h.2 hr, k.2 hr]
theorem joinR_len {a b J : List (Int × Int)} (h : JoinR a b J) : J.length ≤ a.length + b.length := by
  by_cases hr : Rt a ∧ Rt b
  · exact (joinR_right h hr.1 hr.2).2.2
  · rw [h.2 hr]; simp
end Go.Proofs.Rg
