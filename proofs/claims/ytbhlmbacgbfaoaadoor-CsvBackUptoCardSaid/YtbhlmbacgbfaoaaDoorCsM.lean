/- What is written is read: the plain law of csv, no program in sight. -/
import Derived.Test.YtbhlmbacgbfaoaaDoorCsD
set_option linter.all false
namespace Go.Proofs.Ut
open Go.Ai Classical
set_option linter.unusedSimpArgs false
set_option linter.unusedVariables false
set_option maxHeartbeats 1000000
/-! ### Where a text may be parted -/
theorem D_pre (a t : List UInt8) (i : Nat) (hw : i + (D (a ++ t) i).2 ≤ a.length) (hi : i < a.length) (hg : D (a ++ t) i ≠ (65533, 1)) : D a i = D (a ++ t) i := by
  have e : ∀ q, q < a.length → by_ (a ++ t) q = by_ a q := fun q h => by_app_l h
  have hb := by_lt a i
  have e0 := e i hi
  by_cases h1 : by_ a i < 128
  · rw [D1 h1, D1 (by rw [e0]; exact h1), e0]
  by_cases h2 : 192 ≤ by_ a i ∧ by_ a i < 224
  · have d := D2 (s := a ++ t) (i := i) (by rw [e0]; exact h2)
    rw [d] at hw hg ⊢
    rw [D2 h2]
    split at hw
    · rename_i c
      split at hw
      · rename_i c2
        simp only at hw
        have e1 := e (i + 1) (by omega)
        rw [if_pos c, if_pos c2]
        simp only [e0, e1] at c c2 ⊢
        rw [if_pos ⟨by omega, c.2⟩, if_pos c2]
      · rename_i c2
        rw [if_pos c, if_neg c2] at hg
        exact absurd rfl hg
    · rename_i c
      rw [if_neg c] at hg
      exact absurd rfl hg
  by_cases h3 : 224 ≤ by_ a i ∧ by_ a i < 240
  · have d := D3 (s := a ++ t) (i := i) (by rw [e0]; exact h3)
    rw [d] at hw hg ⊢
    rw [D3 h3]
    split at hw
    · rename_i c
      split at hw
      · rename_i c2
        simp only at hw
        have e1 := e (i + 1) (by omega)
        have e2 := e (i + 2) (by omega)
        rw [if_pos c, if_pos c2]
        simp only [e0, e1, e2] at c c2 ⊢
        rw [if_pos ⟨⟨by omega, c.1.2⟩, by omega, c.2.2⟩, if_pos c2]
      · rename_i c2
        rw [if_pos c, if_neg c2] at hg
        exact absurd rfl hg
    · rename_i c
      rw [if_neg c] at hg
      exact absurd rfl hg
  by_cases h4 : 240 ≤ by_ a i ∧ by_ a i < 248
  · have d := D4 (s := a ++ t) (i := i) (by rw [e0]; exact h4)
    rw [d] at hw hg ⊢
    rw [D4 h4]
    split at hw
    · rename_i c
      split at hw
      · rename_i c2
        simp only at hw
        have e1 := e (i + 1) (by omega)
        have e2 := e (i + 2) (by omega)
        have e3 := e (i + 3) (by omega)
        rw [if_pos c, if_pos c2]
        simp only [e0, e1, e2, e3] at c c2 ⊢
        rw [if_pos ⟨⟨by omega, c.1.2⟩, ⟨by omega, c.2.1.2⟩, by omega, c.2.2.2⟩, if_pos c2]
      · rename_i c2
        rw [if_pos c, if_neg c2] at hg
        exact absurd rfl hg
    · rename_i c
      rw [if_neg c] at hg
      exact absurd rfl hg
  · have d := D0 (s := a ++ t) (i := i) (by rw [e0]; exact h1) (by rw [e0]; omega) (by rw [e0]; exact hb)
    exact absurd d hg
theorem run_pre (p : Int → Bool) (a : List UInt8) (x : UInt8) (b : List UInt8) (hx : x.toNat < 128) : ∀ n i, a.length - i ≤ n → i ≤ a.length → runAt p (a ++ x :: b) i = true → runAt p a i = true
  | n, i, hn, hi, h => by
    rcases Nat.lt_or_ge i a.length with hlt | hge
    · rw [runAt_step p _ i (by simp; omega)] at h
      rw [runAt_step p _ i hlt]
      split at h
      · cases h
      · rename_i hg
        have hl := D_len (a ++ x :: b) i (by simp; omega)
        have hw : i + (D (a ++ x :: b) i).2 ≤ a.length := by
          rcases D_sign (a ++ x :: b) i with ⟨_, h2⟩ | ⟨_, _, h3⟩
          · rw [h2]; simp only; omega
          · rcases Nat.lt_or_ge a.length (i + (D (a ++ x :: b) i).2) with q | q
            · have := h3 a.length hi q
              have e : by_ (a ++ x :: b) a.length = x.toNat := by
                have := by_app_r (a := a) (t := x :: b) (j := 0)
                simpa [by_] using this
              omega
            · exact q
        have e := D_pre a (x :: b) i hw hlt hg
        rw [e, if_neg hg]
        rw [Bool.and_eq_true] at h ⊢
        refine ⟨h.1, ?_⟩
        match n, hn with
        | 0, hn => omega
        | n + 1, hn => exact run_pre p a x b hx n _ (by omega) hw h.2
    · have : i = a.length := by omega
      subst this
      exact runAt_end p a _ (by omega)
/-- A text. -/
def Va (s : List UInt8) : Prop := runAt mayB s 0 = true
theorem va_app {a b : List UInt8} (h : Va a) (k : Va b) : Va (a ++ b) := by
  unfold Va at *
  rw [runAt_app mayB h, h, k]; rfl
theorem va_one {x : UInt8} (hx : x.toNat < 128) (hm : mayB x.toNat = true) : Va [x] := by
  unfold Va
  rw [(run_ascii mayB [x] (by simpa using hx)).1]
  simpa using hm
theorem va_part {a b : List UInt8} {x : UInt8} (hx : x.toNat < 128) (h : Va (a ++ x :: b)) : Va a ∧ Va b := by
  have h1 : Va a := run_pre mayB a x b hx _ 0 (Nat.le_refl _) (Nat.zero_le _) h
  refine ⟨h1, ?_⟩
  unfold Va at h h1 ⊢
  rw [runAt_app mayB h1, h1, Bool.true_and] at h
  have e : x :: b = [x] ++ b := rfl
  have hx1 : runAt (fun _ => true) [x] 0 = true := by
    rw [(run_ascii (fun _ => true) [x] (by simpa using hx)).1]; rfl
  rw [e, runAt_app mayB hx1, Bool.and_eq_true] at h
  exact h.2
theorem va_nil : Va [] := rfl
/-! ### Fields -/
theorem qd_cons {c : UInt8} (hc : c ≠ 34) : ∀ s : List UInt8, qd (c :: s) = (c :: (qd s).1, (qd s).2.1, (qd s).2.2)
  | [] => by simp [qd, hc]
  | d :: s => by rw [qd, if_neg hc]
def Sp (t : List UInt8) : Prop := t = [] ∨ ∃ t', t = 44 :: t' ∨ t = 13 :: t'
theorem sp_not {t : List UInt8} (h : Sp t) : [34].isPrefixOf t = false := by
  rcases h with rfl | ⟨t', rfl | rfl⟩ <;> simp [List.isPrefixOf]
theorem qd_dbl {t : List UInt8} (ht : [34].isPrefixOf t = false) : ∀ f : List UInt8, qd (dbl f ++ 34 :: t) = (f, t, true)
  | [] => by
    match t, ht with
    | [], _ => rfl
    | d :: t, ht =>
      have hd : d ≠ 34 := fun e => by subst e; simp [List.isPrefixOf] at ht
      simp [dbl, qd, hd]
  | c :: f => by
    rw [dbl]
    by_cases hc : c = 34
    · subst hc
      simp only [if_true, List.cons_append]
      rw [qd, if_pos rfl, if_pos rfl, qd_dbl ht f]
    · rw [if_neg hc, List.cons_append, qd_cons hc, qd_dbl ht f]
/-- A field, and one of the ways in which it may stand. -/
def Rn (f x : List UInt8) : Prop := (x = f ∧ f.all plainC = true) ∨ x = 34 :: dbl f ++ [34]
theorem take_plain {t : List UInt8} (ht : Sp t) : ∀ f : List UInt8, f.all plainC = true → (f ++ t).takeWhile plainC = f ∧ (f ++ t).dropWhile plainC = t
  | [], _ => by
    rcases ht with rfl | ⟨t', rfl | rfl⟩
    · exact ⟨rfl, rfl⟩
    · exact ⟨rfl, rfl⟩
    · exact ⟨rfl, rfl⟩
  | c :: f, h => by
    rw [List.all_cons, Bool.and_eq_true] at h
    have ih := take_plain ht f h.2
    simp only [List.cons_append, List.takeWhile_cons, List.dropWhile_cons, h.1, if_true, ih.1, ih.2]
    exact ⟨trivial, trivial⟩
theorem field_rn {f x t : List UInt8} (h : Rn f x) (ht : Sp t) : fieldF (x ++ t) = (f, t, true) := by
  unfold fieldF
  rcases h with ⟨rfl, hp⟩ | rfl
  · have hn : [34].isPrefixOf (x ++ t) = false := by
      match x, hp with
      | [], _ => exact sp_not ht
      | c :: x, hp =>
        rw [List.all_cons, Bool.and_eq_true] at hp
        have hc : c ≠ 34 := fun e => by subst e; exact absurd hp.1 (by decide)
        have : (34 == c) = false := by simpa using fun e => hc e.symm
        simp [List.isPrefixOf, this]
    rw [if_neg (by rw [hn]; simp), (take_plain ht x hp).1, (take_plain ht x hp).2]
  · have e : 34 :: dbl f ++ [34] ++ t = 34 :: (dbl f ++ 34 :: t) := by simp
    rw [e, if_pos (by simp [List.isPrefixOf]), List.drop_succ_cons, List.drop_zero, qd_dbl (sp_not ht)]
theorem written_rn (f : List UInt8) (alone : Bool) : Rn f (writtenF f alone) := by
  unfold writtenF
  cases h : (decide (f = []) && alone) || f.any SG.contains
  · refine .inl ⟨by simp, ?_⟩
    rw [Bool.or_eq_false_iff] at h
    rw [List.all_eq_true]
    intro c hc
    unfold plainC
    have := List.any_eq_false.1 h.2 c hc
    simpa using this
  · exact .inr (by simp)
/-! ### Rows -/
/-- Fields as they stand, and what is between them. -/
def jp : List (List UInt8 × List UInt8) → List UInt8
  | [] => []
  | [p] => p.2
  | p :: q :: l => p.2 ++ 44 :: jp (q :: l)
def En (t : List UInt8) : Prop := t = [] ∨ ∃ t', t = 13 :: 10 :: t'
theorem en_sp {t : List UInt8} (h : En t) : Sp t := by
  rcases h with rfl | ⟨t', rfl⟩
  · exact .inl rfl
  · exact .inr ⟨_, .inr rfl⟩
theorem row_rn {t : List UInt8} (ht : En t) : ∀ (ps : List (List UInt8 × List UInt8)), ps ≠ [] → (∀ p ∈ ps, Rn p.1 p.2) → ∀ (k : Nat) (fs : List (List UInt8)), ps.length ≤ k → rowF k fs (jp ps ++ t) = (fs ++ ps.map (·.1), t.drop 2, 0)
  | [], h, _, _, _, _ => absurd rfl h
  | [p], _, hp, k, fs, hk => by
    match k, hk with
    | k + 1, _ =>
      rw [rowF]
      simp only [jp, field_rn (hp p (by simp)) (en_sp ht), if_true]
      rcases ht with rfl | ⟨t', rfl⟩
      · simp
      · simp [List.isPrefixOf]
  | p :: q :: l, _, hp, k, fs, hk => by
    match k, hk with
    | k + 1, hk =>
      have e : jp (p :: q :: l) ++ t = p.2 ++ (44 :: (jp (q :: l) ++ t)) := by simp [jp]
      rw [rowF, e, field_rn (hp p (by simp)) (.inr ⟨_, .inl rfl⟩)]
      simp only [if_true]
      rw [if_neg (by simp), if_neg (by simp [List.isPrefixOf]), if_pos (by simp [List.isPrefixOf]), List.drop_succ_cons, List.drop_zero,
        row_rn ht (q :: l) (by simp) (fun x hx => hp x (by simp [hx])) k _ (by simp at hk ⊢; omega)]
      simp
theorem jn_jp (alone : Bool) : ∀ (x : List (List UInt8)), x ≠ [] → jn alone true x = jp (x.map fun f => (f, writtenF f alone)) := by
  have aux : ∀ (x : List (List UInt8)) , x ≠ [] → jn alone false x = 44 :: jp (x.map fun f => (f, writtenF f alone)) ∧ jn alone true x = jp (x.map fun f => (f, writtenF f alone)) := by
    intro x
    induction x with
    | nil => exact fun h => absurd rfl h
    | cons f l ih =>
      intro _
      cases l with
      | nil => simp [jn, jp]
      | cons g l =>
        have := ih (by simp)
        constructor
        · rw [jn, this.1]; simp [jp]
        · rw [jn, this.1]; simp [jp]
  exact fun x hx => (aux x hx).2
theorem row_back (x : List (List UInt8)) (hx : x ≠ []) (hl : x.length ≤ 30) (t : List UInt8) : rowF 30 [] (rowW x ++ t) = (x, t, 0) := by
  unfold rowW
  rw [if_neg hx, jn_jp _ x hx, List.append_assoc]
  rw [row_rn (t := [13, 10] ++ t) (.inr ⟨t, rfl⟩) _ (by simpa using hx) (fun p hp => by
    obtain ⟨f, _, rfl⟩ := List.mem_map.1 hp
    exact written_rn f _) 30 [] (by simpa using hl)]
  simp [Function.comp_def]
theorem rowW_ne {x : List (List UInt8)} (hx : x ≠ []) (t : List UInt8) : rowW x ++ t ≠ [] := by
  unfold rowW
  rw [if_neg hx]; simp
theorem read_back : ∀ (rows : List (List (List UInt8))) (k : Nat) (l : List (List (List UInt8))), rows.length ≤ k → (∀ x ∈ rows, x ≠ [] ∧ x.length ≤ 30) → readF k l (writeF rows) = (l ++ rows, 0)
  | [], k, l, _, _ => by
    unfold readF
    rw [if_pos (show writeF [] = [] from rfl)]
    simp
  | x :: rows, k, l, hk, hx => by
    match k, hk with
    | k + 1, hk =>
      have e : writeF (x :: rows) = rowW x ++ writeF rows := by simp [writeF]
      have h0 := hx x (by simp)
      unfold readF
      rw [e, if_neg (rowW_ne h0.1 _)]
      simp only [row_back x h0.1 h0.2, if_true]
      rw [read_back rows k _ (by simp at hk; omega) (fun y hy => hx y (by simp [hy]))]
      simp
/-! ### What is written is a text -/
theorem cut_split (c : UInt8) : ∀ u : List UInt8, (cut c u).2.2 = true → u = (cut c u).1 ++ c :: (cut c u).2.1
  | [], h => by cases h
  | x :: u, h => by
    unfold cut at h ⊢
    by_cases hx : x = c
    · subst hx; simp
    · rw [if_neg hx] at h ⊢
      have := cut_split c u h
      simp only [List.cons_append]
      rw [← this]
theorem va_34 : Va [34] := va_one (by decide) (by decide)
theorem va_44 : Va [44] := va_one (by decide) (by decide)
theorem va_13 : Va [13, 10] := va_app (va_one (by decide) (by decide)) (va_one (by decide) (by decide))
theorem va_dbl : ∀ n (f : List UInt8), f.length ≤ n → Va f → Va (dbl f)
  | n, f, hn, h => by
    rw [dbl_cut]
    cases hc : (cut 34 f).2.2
    · simpa using h
    · simp only [if_true]
      have e := cut_split 34 f hc
      have hl := cut_len2 34 f hc
      rw [e] at h
      have hv := va_part (by decide) h
      match n, hn with
      | 0, hn => omega
      | n + 1, hn => exact va_app hv.1 (va_app (a := [34]) va_34 (va_app (a := [34]) va_34 (va_dbl n _ (by omega) hv.2)))
theorem va_written {f : List UInt8} (alone : Bool) (h : Va f) : Va (writtenF f alone) := by
  unfold writtenF
  split
  · exact va_app (a := 34 :: dbl f) (va_app (a := [34]) va_34 (va_dbl _ f (Nat.le_refl _) h)) va_34
  · exact h
theorem va_jn (alone : Bool) : ∀ (b : Bool) (x : List (List UInt8)), (∀ f ∈ x, Va f) → Va (jn alone b x)
  | _, [], _ => va_nil
  | b, f :: x, h => by
    rw [jn]
    refine va_app ?_ (va_app (va_written alone (h f (by simp))) (va_jn alone false x fun g hg => h g (by simp [hg])))
    cases b
    · exact va_44
    · exact va_nil
theorem va_write : ∀ rows : List (List (List UInt8)), (∀ x ∈ rows, ∀ f ∈ x, Va f) → Va (writeF rows)
  | [], _ => va_nil
  | x :: rows, h => by
    have e : writeF (x :: rows) = rowW x ++ writeF rows := by simp [writeF]
    rw [e]
    refine va_app ?_ (va_write rows fun y hy => h y (by simp [hy]))
    unfold rowW
    split
    · exact va_nil
    · exact va_app (va_jn _ _ x (h x (by simp))) va_13
/-! ### What is read is a text, each field of it -/
theorem va_qd : ∀ n (u : List UInt8), u.length ≤ n → Va u → (qd u).2.2 = true → Va (qd u).1 ∧ Va (qd u).2.1
  | n, u, hn, h, ht => by
    have hq := qd_cut u
    cases hc : (cut 34 u).2.2
    · rw [hc] at hq
      rw [hq] at ht; cases ht
    · rw [hc] at hq
      simp only [if_true] at hq
      have e := cut_split 34 u hc
      have hl := cut_len2 34 u hc
      rw [e] at h
      have hv := va_part (by decide) h
      split at hq
      · rename_i hp
        obtain ⟨r, hr⟩ := List.isPrefixOf_iff_prefix.1 hp
        have hr : (cut 34 u).2.1 = 34 :: r := hr.symm
        rw [hr] at hq hv
        simp only [List.drop_succ_cons, List.drop_zero] at hq
        rw [hq] at ht ⊢
        match n, hn with
        | 0, hn => omega
        | n + 1, hn =>
          have ih := va_qd n r (by rw [hr] at hl; simp at hl; omega) (va_part (a := []) (by decide) hv.2).2 ht
          exact ⟨va_app hv.1 (va_app (a := [34]) va_34 ih.1), ih.2⟩
      · rw [hq]; exact hv
theorem va_field {s : List UInt8} (h : Va s) (ht : (fieldF s).2.2 = true) : Va (fieldF s).1 ∧ Va (fieldF s).2.1 := by
  unfold fieldF at ht ⊢
  split
  · rename_i hp
    rw [if_pos hp] at ht
    obtain ⟨r, hr⟩ := List.isPrefixOf_iff_prefix.1 hp
    subst hr
    exact va_qd _ r (Nat.le_refl _) (va_part (a := []) (b := r) (x := 34) (by decide) h).2 ht
  · have e := List.takeWhile_append_dropWhile (p := plainC) (l := s)
    simp only
    cases hd : s.dropWhile plainC with
    | nil =>
      rw [hd, List.append_nil] at e
      rw [e]; exact ⟨h, va_nil⟩
    | cons x r =>
      have hx : plainC x = false := by
        have := List.head_dropWhile_not plainC (l := s) (by rw [hd]; simp)
        simpa [hd] using this
      have hx1 : x ∈ SG := by
        unfold plainC at hx
        exact List.contains_iff_mem.1 (by simpa using hx)
      have hx2 : x.toNat < 128 ∧ mayB x.toNat = true := by
        have hall : ∀ b ∈ SG, b.toNat < 128 ∧ mayB b.toNat = true := by decide
        exact hall x hx1
      rw [hd] at e
      rw [← e] at h
      have := va_part hx2.1 h
      exact ⟨this.1, va_app (a := [x]) (va_one hx2.1 hx2.2) this.2⟩
theorem rowF_ok : ∀ (k : Nat) (fs : List (List UInt8)) (s : List UInt8), (rowF k fs s).2.2 = 0 → Va s → (∀ f ∈ fs, Va f) →
    (rowF k fs s).1 ≠ [] ∧ (rowF k fs s).1.length ≤ fs.length + k ∧ (∀ f ∈ (rowF k fs s).1, Va f) ∧ Va (rowF k fs s).2.1
  | 0, fs, s, h, _, _ => by simp [rowF] at h
  | k + 1, fs, s, h, hv, hf => by
    unfold rowF at h ⊢
    split
    · rename_i h1
      rw [if_pos h1] at h
      have hvf := va_field hv h1
      have hff : ∀ f ∈ fs ++ [(fieldF s).1], Va f := fun f hm => by
        rcases List.mem_append.1 hm with q | q
        · exact hf f q
        · rw [List.mem_singleton] at q; subst q; exact hvf.1
      split
      · exact ⟨by simp, by simp, hff, va_nil⟩
      · rename_i h2
        rw [if_neg h2] at h
        split
        · rename_i h3
          obtain ⟨r, hr⟩ := List.isPrefixOf_iff_prefix.1 h3
          refine ⟨by simp, by simp, hff, ?_⟩
          rw [← hr] at hvf ⊢
          have := (va_part (a := []) (b := 10 :: r) (x := 13) (by decide) hvf.2).2
          exact (va_part (a := []) (b := r) (x := 10) (by decide) this).2
        · rename_i h3
          rw [if_neg h3] at h
          split
          · rename_i h4
            rw [if_pos h4] at h
            obtain ⟨r, hr⟩ := List.isPrefixOf_iff_prefix.1 h4
            have hvr : Va ((fieldF s).2.1.drop 1) := by
              rw [← hr] at hvf ⊢
              exact (va_part (a := []) (b := r) (x := 44) (by decide) hvf.2).2
            have ih := rowF_ok k _ _ h hvr hff
            refine ⟨ih.1, ?_, ih.2.2⟩
            have := ih.2.1
            rw [List.length_append, List.length_singleton] at this
            omega
          · rename_i h4
            rw [if_neg h4] at h; simp at h
    · rename_i h1
      rw [if_neg h1] at h; simp at h
def Good (x : List (List UInt8)) : Prop := x ≠ [] ∧ x.length ≤ 30 ∧ ∀ f ∈ x, Va f
theorem readF_ok : ∀ (k : Nat) (l : List (List (List UInt8))) (s : List UInt8), (readF k l s).2 = 0 → Va s → (∀ x ∈ l, Good x) → (∀ x ∈ (readF k l s).1, Good x) ∧ (readF k l s).1.length ≤ l.length + k
  | k, l, s, h, hv, hl => by
    unfold readF at h ⊢
    split
    · exact ⟨hl, by simp⟩
    · rename_i h1
      rw [if_neg h1] at h
      match k with
      | 0 => simp at h
      | k + 1 =>
        simp only at h ⊢
        split
        · rename_i h2
          rw [if_pos h2] at h
          have hr := rowF_ok 30 [] s h2 hv (by simp)
          have ih := readF_ok k (l ++ [(rowF 30 [] s).1]) (rowF 30 [] s).2.1 h hr.2.2.2 fun x hx => by
            rcases List.mem_append.1 hx with q | q
            · exact hl x q
            · rw [List.mem_singleton] at q; subst q
              exact ⟨hr.1, by simpa using hr.2.1, hr.2.2.1⟩
          refine ⟨ih.1, ?_⟩
          have := ih.2
          rw [List.length_append, List.length_singleton] at this
          omega
        · rename_i h2
          rw [if_neg h2] at h
          exact absurd h h2
/-- What is written is read as it was. -/
theorem back {rows : List (List (List UInt8))} (hn : rows.length ≤ 200) (hg : ∀ x ∈ rows, Good x) (hl : (writeF rows).length ≤ 20000) : readG (writeF rows) = (rows, 0) := by
  unfold readG
  rw [if_neg (by omega), if_pos (show runAt mayB (writeF rows) 0 = true from va_write rows fun x hx => (hg x hx).2.2), read_back rows 200 [] hn fun x hx => ⟨(hg x hx).1, (hg x hx).2.1⟩]
  rfl
/-- What is read is good. -/
theorem read_good {s : List UInt8} (h : (readG s).2 = 0) : (∀ x ∈ (readG s).1, Good x) ∧ (readG s).1.length ≤ 200 := by
  unfold readG at h ⊢
  split
  · exact ⟨by simp, by simp⟩
  · rename_i h1
    rw [if_neg h1] at h
    split
    · rename_i h2
      rw [if_pos h2] at h
      have := readF_ok 200 [] s h h2 (by simp)
      exact ⟨this.1, by simpa using this.2⟩
    · exact ⟨by simp, by simp⟩
end Go.Proofs.Ut
