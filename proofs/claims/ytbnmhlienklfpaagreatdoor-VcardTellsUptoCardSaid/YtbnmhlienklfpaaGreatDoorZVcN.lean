/- Cards: the plain law. -/
import Derived.Test.YtbnmhlienklfpaaGreatDoorZFoD
import Derived.Lib.Case
import Derived.Test.YtbnmhlienklfpaaGreatDoorZFoJ
set_option linter.all false
namespace Go.Proofs.Ut
open Go.Ai
set_option linter.unusedSimpArgs false
set_option linter.unusedVariables false
set_option maxRecDepth 100000
theorem u8_all {P : UInt8 → Prop} (h : ∀ n, n < 256 → P (UInt8.ofNat n)) (c : UInt8) : P c := by
  have := h c.toNat (UInt8.toNat_lt c)
  rwa [UInt8.ofNat_toNat] at this
/-- The signs of a word. -/
def SGN : List UInt8 := [65, 66, 67, 68, 69, 70, 71, 72, 73, 74, 75, 76, 77, 78, 79, 80, 81, 82, 83, 84, 85, 86, 87, 88, 89, 90, 97, 98, 99, 100, 101, 102, 103, 104, 105, 106, 107, 108, 109, 110, 111, 112, 113, 114, 115, 116, 117, 118, 119, 120, 121, 122, 48, 49, 50, 51, 52, 53, 54, 55, 56, 57, 45]
def isS (c : UInt8) : Bool := SGN.contains c
def A4 : List UInt8 := [59, 58, 44, 34]
def A3 : List UInt8 := [59, 58, 44]
def up (s : List UInt8) : List UInt8 := s.map Lib.upperB
theorem sgn_a (c : UInt8) : isS c = true → c.toNat < 128 ∧ 32 ≤ c.toNat ∧ mayB c.toNat = true := u8_all (P := fun c => isS c = true → c.toNat < 128 ∧ 32 ≤ c.toNat ∧ mayB c.toNat = true) (by decide +kernel) c
theorem sgn_b (c : UInt8) : isS c = true → c ≠ 10 ∧ c ≠ 13 ∧ c ≠ 46 ∧ c ≠ 58 := u8_all (P := fun c => isS c = true → c ≠ 10 ∧ c ≠ 13 ∧ c ≠ 46 ∧ c ≠ 58) (by decide +kernel) c
theorem sgn_c (c : UInt8) : isS c = true → c ≠ 59 ∧ c ≠ 61 ∧ c ≠ 34 ∧ c ≠ 32 ∧ c ≠ 9 := u8_all (P := fun c => isS c = true → c ≠ 59 ∧ c ≠ 61 ∧ c ≠ 34 ∧ c ≠ 32 ∧ c ≠ 9) (by decide +kernel) c
theorem up_sgn (c : UInt8) : isS (Lib.upperB c) = isS c := u8_all (P := fun c => isS (Lib.upperB c) = isS c) (by decide +kernel) c
theorem up_up (c : UInt8) : Lib.upperB (Lib.upperB c) = Lib.upperB c := u8_all (P := fun c => Lib.upperB (Lib.upperB c) = Lib.upperB c) (by decide +kernel) c
theorem up_58 (c : UInt8) : Lib.upperB c = 58 ↔ c = 58 := u8_all (P := fun c => Lib.upperB c = 58 ↔ c = 58) (by decide +kernel) c
theorem up_nat (c : UInt8) : (Lib.upperB c).toNat = if 97 ≤ c.toNat ∧ c.toNat ≤ 122 then c.toNat - 32 else c.toNat :=
  u8_all (P := fun c => (Lib.upperB c).toNat = if 97 ≤ c.toNat ∧ c.toNat ≤ 122 then c.toNat - 32 else c.toNat) (by decide +kernel) c
theorem fold_up (x y : UInt8) : Lib.foldEq x y = decide (Lib.upperB x = Lib.upperB y) := by
  unfold Lib.foldEq
  refine decide_eq_decide.2 ?_
  rw [← UInt8.toNat_inj, up_nat, up_nat]
  split <;> split <;> omega
theorem ef_up : ∀ s t : List UInt8, Lib.equalFold s t = decide (up s = up t)
  | [], [] => rfl
  | [], y :: t => by simp [Lib.equalFold, up]
  | x :: s, [] => by simp [Lib.equalFold, up]
  | x :: s, y :: t => by
    rw [Lib.equalFold, fold_up, ef_up s t, Bool.eq_iff_iff]
    simp only [up, List.map_cons, List.cons.injEq, Bool.and_eq_true, decide_eq_true_iff]
    exact and_congr_right fun _ => ⟨fun h => of_decide_eq_true h, fun h => decide_eq_true h⟩
theorem upup (s : List UInt8) : up (up s) = up s := by
  simp only [up, List.map_map]
  exact List.map_congr_left fun x _ => up_up x
def wordL (s : List UInt8) : List UInt8 := s.takeWhile isS
def restL (s : List UInt8) : List UInt8 := s.dropWhile isS
theorem word_rest (s : List UInt8) : wordL s ++ restL s = s := List.takeWhile_append_dropWhile
theorem word_sgn (s : List UInt8) : ∀ x ∈ wordL s, isS x = true := fun x hx => by
  have := List.all_takeWhile (p := isS) (l := s)
  exact List.all_eq_true.1 this x hx
/-- It does not begin with a sign. -/
def noS (t : List UInt8) : Prop := ∀ x, t.head? = some x → isS x = false
theorem rest_no (s : List UInt8) : noS (restL s) := by
  induction s with
  | nil => intro x h; simp [restL] at h
  | cons y s ih =>
    unfold restL at *
    rw [List.dropWhile_cons]
    split
    · exact ih
    · rename_i h
      intro x hx
      simp only [List.head?_cons, Option.some.injEq] at hx
      subst hx
      simpa using h
theorem word_app {w t : List UInt8} (hw : ∀ x ∈ w, isS x = true) (ht : noS t) : wordL (w ++ t) = w ∧ restL (w ++ t) = t := by
  induction w with
  | nil =>
    cases t with
    | nil => exact ⟨rfl, rfl⟩
    | cons x t =>
      have := ht x rfl
      simp [wordL, restL, this]
  | cons x w ih =>
    have hx := hw x (by simp)
    have := ih fun y hy => hw y (by simp [hy])
    simp only [wordL, restL, List.cons_append, List.takeWhile_cons, List.dropWhile_cons, hx, if_true] at *
    exact ⟨by rw [this.1], this.2⟩
theorem up_word (s : List UInt8) : ∀ x ∈ up (wordL s), isS x = true := fun x hx => by
  obtain ⟨y, hy, rfl⟩ := List.mem_map.1 hx
  rw [up_sgn]; exact word_sgn s y hy
/-- A parameter's value; a parameter. -/
def valueL (s : List UInt8) : List UInt8 × List UInt8 × Bool :=
  match s with
  | [] => ([], [], true)
  | x :: t => if x = 34 then cut 34 t else ((x :: t).takeWhile (fun c => !A4.contains c), (x :: t).dropWhile (fun c => !A4.contains c), true)
def paramL (s : List UInt8) : (List UInt8 × List UInt8) × List UInt8 × Bool :=
  if up (wordL s) = [] then ((up (wordL s), []), restL s, false) else
  match restL s with
  | [] => ((up (wordL s), []), [], false)
  | x :: t => if x = 61 then ((up (wordL s), (valueL t).1), (valueL t).2) else ((up (wordL s), []), x :: t, false)
def parsL : Nat → List (List UInt8 × List UInt8) → List UInt8 → List (List UInt8 × List UInt8) × List UInt8 × Bool
  | 0, acc, s => (acc, s, true)
  | k + 1, acc, s => match s with
    | [] => (acc, [], true)
    | x :: t => if x = 59 then (if (paramL t).2.2 = true then parsL k (acc ++ [(paramL t).1]) (paramL t).2.1 else (acc, (paramL t).2.1, false)) else (acc, x :: t, true)
theorem cut_app (c : UInt8) : ∀ (v t : List UInt8), c ∉ v → cut c (v ++ c :: t) = (v, t, true)
  | [], t, _ => by simp [cut]
  | x :: v, t, h => by
    rw [List.cons_append, cut, if_neg (fun e => h (by simp [e])), cut_app c v t (fun q => h (by simp [q]))]
theorem cut_yes (c : UInt8) : ∀ s : List UInt8, (cut c s).2.2 = true → s = (cut c s).1 ++ c :: (cut c s).2.1 ∧ c ∉ (cut c s).1
  | [], h => by simp [cut] at h
  | x :: s, h => by
    rw [cut] at h ⊢
    by_cases hx : x = c
    · rw [if_pos hx]; subst hx; simp
    · rw [if_neg hx] at h ⊢
      have := cut_yes c s h
      simp only at this ⊢
      refine ⟨by rw [List.cons_append, ← this.1], ?_⟩
      simp only [List.mem_cons, not_or]
      exact ⟨fun e => hx e.symm, this.2⟩
theorem value_len (s : List UInt8) : (valueL s).2.1.length ≤ s.length := by
  unfold valueL
  cases s with
  | nil => simp
  | cons x t =>
    simp only
    split
    · have := (cut_lenB 34 t).1; simp only [List.length_cons]; omega
    · exact (List.dropWhile_sublist _).length_le
theorem rest_len (s : List UInt8) : (restL s).length ≤ s.length := (List.dropWhile_sublist _).length_le
theorem param_len (s : List UInt8) : (paramL s).2.1.length ≤ s.length := by
  unfold paramL
  have := rest_len s
  split
  · exact this
  · cases hr : restL s with
    | nil => simp
    | cons x t =>
      rw [hr] at this
      simp only
      split
      · have h2 := value_len t
        simp only [List.length_cons] at this
        show (valueL t).2.1.length ≤ _
        omega
      · exact this
theorem parsL_fuel : ∀ k j acc (s : List UInt8), s.length ≤ k → s.length ≤ j → parsL k acc s = parsL j acc s
  | 0, 0, _, _, _, _ => rfl
  | 0, j + 1, acc, s, h, _ => by obtain rfl := List.eq_nil_of_length_eq_zero (show s.length = 0 by omega); rfl
  | k + 1, 0, acc, s, _, h => by obtain rfl := List.eq_nil_of_length_eq_zero (show s.length = 0 by omega); rfl
  | k + 1, j + 1, acc, [], _, _ => rfl
  | k + 1, j + 1, acc, x :: t, h1, h2 => by
    have := param_len t
    simp only [List.length_cons] at h1 h2
    simp only [parsL]
    rw [parsL_fuel k j _ (paramL t).2.1 (by omega) (by omega)]
def parsA (acc : List (List UInt8 × List UInt8)) (s : List UInt8) := parsL s.length acc s
theorem parsA_step (acc : List (List UInt8 × List UInt8)) (t : List UInt8) : parsA acc (59 :: t) = if (paramL t).2.2 = true then parsA (acc ++ [(paramL t).1]) (paramL t).2.1 else (acc, (paramL t).2.1, false) := by
  have := param_len t
  unfold parsA
  rw [List.length_cons, parsL, if_pos rfl, parsL_fuel t.length (paramL t).2.1.length _ _ (by omega) (Nat.le_refl _)]
theorem parsA_end (acc : List (List UInt8 × List UInt8)) (s : List UInt8) (h : s.head? ≠ some 59) : parsA acc s = (acc, s, true) := by
  cases s with
  | nil => rfl
  | cons x t =>
    unfold parsA
    rw [List.length_cons, parsL, if_neg (fun e => h (by rw [e]; rfl))]
/-- A property. -/
structure PR where
  g : List UInt8
  n : List UInt8
  ps : List (List UInt8 × List UInt8)
  v : List UInt8
  deriving DecidableEq
def headL (s : List UInt8) : List UInt8 × List UInt8 × List UInt8 :=
  if wordL s ≠ [] ∧ (restL s).head? = some 46 then (wordL s, wordL (restL s).tail, restL (restL s).tail) else ([], wordL s, restL s)
def lastL (s : List UInt8) : List UInt8 × Bool := if s.head? = some 58 then (s.tail, true) else (s, false)
def propL (s : List UInt8) : PR × Bool :=
  if up (headL s).2.1 = [] then (⟨(headL s).1, [], [], (lastL (headL s).2.2).1⟩, false) else
  if (parsA [] (headL s).2.2).2.2 = false then (⟨(headL s).1, up (headL s).2.1, (parsA [] (headL s).2.2).1, []⟩, false) else
  (⟨(headL s).1, up (headL s).2.1, (parsA [] (headL s).2.2).1, (lastL (parsA [] (headL s).2.2).2.1).1⟩, (lastL (parsA [] (headL s).2.2).2.1).2)
def quoL (v : List UInt8) : List UInt8 := if v = [] ∨ v.any A3.contains = true then 34 :: v ++ [34] else v
def attL (a : List UInt8 × List UInt8) : List UInt8 := 59 :: a.1 ++ 61 :: quoL a.2
def frontL (p : PR) : List UInt8 := if p.g = [] then p.n else p.g ++ 46 :: p.n
def writtenL (p : PR) : List UInt8 := frontL p ++ p.ps.flatMap attL ++ 58 :: p.v
def okA (a : List UInt8 × List UInt8) : Prop := a.1 ≠ [] ∧ (∀ x ∈ a.1, isS x = true) ∧ up a.1 = a.1 ∧ 34 ∉ a.2
def okP (p : PR) : Prop := (∀ x ∈ p.g, isS x = true) ∧ p.n ≠ [] ∧ (∀ x ∈ p.n, isS x = true) ∧ up p.n = p.n ∧ ∀ a ∈ p.ps, okA a
theorem value_ok {s : List UInt8} (h : (valueL s).2.2 = true) : 34 ∉ (valueL s).1 := by
  unfold valueL at *
  cases s with
  | nil => simp
  | cons x t =>
    simp only at *
    by_cases hx : x = 34
    · rw [if_pos hx] at h ⊢
      exact (cut_yes 34 t h).2
    · rw [if_neg hx]
      simp only
      intro hm
      have := List.all_eq_true.1 (List.all_takeWhile (p := fun c => !A4.contains c) (l := x :: t)) _ hm
      simp [A4] at this
theorem param_ok {s : List UInt8} (h : (paramL s).2.2 = true) : okA (paramL s).1 ∧ ∃ t, restL s = 61 :: t ∧ (paramL s) = ((up (wordL s), (valueL t).1), (valueL t).2) ∧ (valueL t).2.2 = true := by
  unfold paramL at *
  by_cases h0 : up (wordL s) = []
  · rw [if_pos h0] at h; cases h
  rw [if_neg h0] at h ⊢
  cases hr : restL s with
  | nil => rw [hr] at h; cases h
  | cons x t =>
    rw [hr] at h
    simp only at h ⊢
    by_cases hx : x = 61
    · rw [if_pos hx] at h ⊢
      exact ⟨⟨h0, up_word s, upup _, value_ok h⟩, t, by rw [hx], rfl, h⟩
    · rw [if_neg hx] at h; cases h
theorem pars_ok : ∀ n (s : List UInt8) acc, s.length ≤ n → (∀ a ∈ acc, okA a) → (parsA acc s).2.2 = true → (∀ a ∈ (parsA acc s).1, okA a)
  | n, s, acc, hn, ha, h => by
    by_cases h59 : s.head? = some 59
    · obtain ⟨t, rfl⟩ : ∃ t, s = 59 :: t := by
        cases s with
        | nil => simp at h59
        | cons x t => simp at h59; exact ⟨t, by rw [h59]⟩
      rw [parsA_step] at h ⊢
      by_cases hp : (paramL t).2.2 = true
      · rw [if_pos hp] at h ⊢
        have hl := param_len t
        cases n with
        | zero => simp at hn
        | succ n =>
          simp only [List.length_cons] at hn
          exact pars_ok n _ _ (by omega) (fun a hm => by
            rcases List.mem_append.1 hm with hm | hm
            · exact ha a hm
            · rw [List.mem_singleton.1 hm]; exact (param_ok hp).1) h
      · rw [if_neg hp] at h; cases h
    · rw [parsA_end _ _ h59]; exact ha
theorem head_ok (s : List UInt8) : (∀ x ∈ (headL s).1, isS x = true) ∧ (∀ x ∈ up (headL s).2.1, isS x = true) := by
  unfold headL
  split
  · exact ⟨word_sgn s, up_word _⟩
  · exact ⟨by simp, up_word s⟩
theorem prop_yes {s : List UInt8} (h : (propL s).2 = true) : up (headL s).2.1 ≠ [] ∧ (parsA [] (headL s).2.2).2.2 = true ∧ ∃ t, (parsA [] (headL s).2.2).2.1 = 58 :: t ∧ (propL s).1 = ⟨(headL s).1, up (headL s).2.1, (parsA [] (headL s).2.2).1, t⟩ := by
  unfold propL at *
  by_cases h0 : up (headL s).2.1 = []
  · rw [if_pos h0] at h; cases h
  rw [if_neg h0] at h ⊢
  cases h1 : (parsA [] (headL s).2.2).2.2 with
  | false => rw [h1, if_pos rfl] at h; cases h
  | true =>
    rw [h1, if_neg (by simp)] at h
    rw [if_neg (by simp)]
    refine ⟨h0, rfl, ?_⟩
    simp only [lastL] at h ⊢
    by_cases h2 : ((parsA [] (headL s).2.2).2.1).head? = some 58
    · rw [if_pos h2]
      generalize (parsA [] (headL s).2.2).2.1 = r at h2
      cases r with
      | nil => simp at h2
      | cons x t => simp at h2; subst h2; exact ⟨t, rfl, rfl⟩
    · rw [if_neg h2] at h; cases h
theorem prop_ok {s : List UInt8} (h : (propL s).2 = true) : okP (propL s).1 := by
  obtain ⟨h0, h1, t, h2, h3⟩ := prop_yes h
  rw [h3]
  exact ⟨(head_ok s).1, h0, (head_ok s).2, upup _, pars_ok _ _ [] (Nat.le_refl _) (by simp) h1⟩
theorem quo_back (v t : List UInt8) (hv : 34 ∉ v) (ht : ∃ x t', t = x :: t' ∧ (x = 59 ∨ x = 58)) : valueL (quoL v ++ t) = (v, t, true) := by
  obtain ⟨y, t', rfl, hy⟩ := ht
  unfold quoL
  by_cases h : v = [] ∨ v.any A3.contains = true
  · rw [if_pos h]
    simp only [List.cons_append, List.append_assoc, List.nil_append, valueL]
    simp only [if_true]
    exact cut_app 34 v _ hv
  · rw [if_neg h]
    simp only [not_or] at h
    cases v with
    | nil => exact absurd rfl h.1
    | cons x v =>
      have hn : ∀ c ∈ (x :: v), (!A4.contains c) = true := fun c hc => by
        have h3 : A3.contains c = false := by
          have := h.2
          simp only [List.any_eq_true, not_exists, not_and, Bool.not_eq_true] at this
          exact this c hc
        have h34 : c ≠ 34 := fun e => hv (e ▸ hc)
        simp [A3] at h3
        simp [A4, h3, h34]
      have hx : x ≠ 34 := fun e => hv (by simp [e])
      have hy4 : (!A4.contains y) = false := by rcases hy with rfl | rfl <;> rfl
      rw [List.cons_append, valueL, if_neg hx, ← List.cons_append, List.takeWhile_append_of_pos hn, List.dropWhile_append_of_pos hn, List.takeWhile_cons, List.dropWhile_cons, hy4]
      simp
theorem param_back (a : List UInt8 × List UInt8) (ha : okA a) (t : List UInt8) (ht : ∃ x t', t = x :: t' ∧ (x = 59 ∨ x = 58)) : paramL (a.1 ++ 61 :: quoL a.2 ++ t) = (a, t, true) := by
  obtain ⟨h0, h1, h2, h3⟩ := ha
  have hw := word_app (w := a.1) (t := 61 :: (quoL a.2 ++ t)) h1 (fun x hx => by simp at hx; subst hx; rfl)
  have e : a.1 ++ 61 :: quoL a.2 ++ t = a.1 ++ 61 :: (quoL a.2 ++ t) := by simp
  rw [e, paramL, hw.1, hw.2, h2, if_neg h0]
  simp only [if_true]
  rw [quo_back a.2 t h3 ht]
theorem att_head (l : List (List UInt8 × List UInt8)) (v : List UInt8) : ∃ x t', l.flatMap attL ++ 58 :: v = x :: t' ∧ (x = 59 ∨ x = 58) := by
  cases l with
  | nil => exact ⟨58, v, rfl, .inr rfl⟩
  | cons a l => exact ⟨59, _, rfl, .inl rfl⟩
theorem pars_back (v : List UInt8) : ∀ (l acc : List (List UInt8 × List UInt8)), (∀ a ∈ l, okA a) → parsA acc (l.flatMap attL ++ 58 :: v) = (acc ++ l, 58 :: v, true)
  | [], acc, _ => by
    rw [List.flatMap_nil, List.nil_append, parsA_end _ _ (by simp), List.append_nil]
  | a :: l, acc, h => by
    have e : (a :: l).flatMap attL ++ 58 :: v = 59 :: (a.1 ++ 61 :: quoL a.2 ++ (l.flatMap attL ++ 58 :: v)) := by simp [List.flatMap_cons, attL]
    rw [e, parsA_step, param_back a (h a (by simp)) _ (att_head l v)]
    simp only [if_true]
    rw [pars_back v l _ fun b hb => h b (by simp [hb])]
    simp
theorem front_head (p : PR) (hp : okP p) (T : List UInt8) (hT : ∃ x t', T = x :: t' ∧ (x = 59 ∨ x = 58)) : headL (frontL p ++ T) = (p.g, p.n, T) := by
  obtain ⟨x, t', rfl, hx⟩ := hT
  obtain ⟨hg, hn0, hn, hu, _⟩ := hp
  have hT : noS (x :: t') := fun y hy => by simp at hy; subst hy; rcases hx with rfl | rfl <;> rfl
  have hx46 : x ≠ 46 := by rcases hx with rfl | rfl <;> decide
  unfold frontL headL
  by_cases h : p.g = []
  · rw [if_pos h]
    have := word_app hn hT
    rw [this.1, this.2, if_neg (by simp [hx46]), h]
  · rw [if_neg h, List.append_assoc, List.cons_append]
    have := word_app (w := p.g) (t := 46 :: (p.n ++ x :: t')) hg (fun y hy => by simp at hy; subst hy; rfl)
    rw [this.1, this.2, if_pos ⟨h, rfl⟩, List.tail_cons]
    have h2 := word_app hn hT
    rw [h2.1, h2.2]
/-- What is written of a right property is read as it was. -/
theorem prop_back (p : PR) (hp : okP p) : propL (writtenL p) = (p, true) := by
  have hh := front_head p hp _ (att_head p.ps p.v)
  rw [← List.append_assoc] at hh
  have hb := pars_back p.v p.ps [] hp.2.2.2.2
  rw [List.nil_append] at hb
  unfold propL writtenL
  rw [hh]
  simp only
  rw [hp.2.2.2.1, if_neg hp.2.1, hb]
  simp [lastL]
end Go.Proofs.Ut

/- Cards: texts cut at plain signs; lines of cards, read and written. -/
namespace Go.Proofs.Ut
open Go.Ai
set_option linter.unusedSimpArgs false
set_option linter.unusedVariables false
set_option maxRecDepth 100000
theorem en_high {c : Nat} (h : okC c) (h1 : 128 ≤ c) : ∀ x ∈ en (c : Int), 128 ≤ x.toNat := by
  intro x hx
  rw [en_eq h, if_neg (by omega)] at hx
  unfold okC at h
  split at hx
  · simp only [List.mem_cons, List.mem_nil_iff, or_false] at hx
    rcases hx with rfl | rfl
    · rw [toNat_of _ (by omega)]; omega
    · rw [toNat_of _ (by omega)]; omega
  · split at hx
    · simp only [List.mem_cons, List.mem_nil_iff, or_false] at hx
      rcases hx with rfl | rfl | rfl
      · rw [toNat_of _ (by omega)]; omega
      · rw [toNat_of _ (by omega)]; omega
      · rw [toNat_of _ (by omega)]; omega
    · simp only [List.mem_cons, List.mem_nil_iff, or_false] at hx
      rcases hx with rfl | rfl | rfl | rfl
      · rw [toNat_of _ (by omega)]; omega
      · rw [toNat_of _ (by omega)]; omega
      · rw [toNat_of _ (by omega)]; omega
      · rw [toNat_of _ (by omega)]; omega
/-- It does not begin within a character. -/
def headA (b : List UInt8) : Prop := ∀ x, b.head? = some x → x.toNat < 128
theorem wr_cut : ∀ (cs : List Nat) (a b : List UInt8), (∀ c ∈ cs, okC c) → a ++ b = wr cs → headA b → ∃ ca cb, a = wr ca ∧ b = wr cb ∧ cs = ca ++ cb
  | [], a, b, _, h, _ => by
    have := List.append_eq_nil_iff.1 (h.trans rfl)
    exact ⟨[], [], this.1, this.2, rfl⟩
  | c :: cs, [], b, hc, h, _ => ⟨[], c :: cs, rfl, h, rfl⟩
  | c :: cs, x :: a, b, hc, h, hb => by
    rw [wr_cons] at h
    rcases List.append_eq_append_iff.1 h with ⟨m, h1, h2⟩ | ⟨m, h1, h2⟩
    · cases m with
      | nil =>
        rw [List.append_nil] at h1
        rw [List.nil_append] at h2
        exact ⟨[c], cs, by rw [← h1]; simp [wr], h2, rfl⟩
      | cons y m =>
        have hy : y ∈ en (c : Int) := by rw [h1]; simp
        have h128 : 128 ≤ c := by
          rcases Nat.lt_or_ge c 128 with hl | hg
          · have := congrArg List.length h1
            rw [en_eq (hc c (by simp)), if_pos hl] at this
            simp at this
          · exact hg
        have := en_high (hc c (by simp)) h128 y hy
        have h3 := hb y (by rw [h2]; rfl)
        omega
    · obtain ⟨ca, cb, e1, e2, e3⟩ := wr_cut cs m b (fun d hd => hc d (by simp [hd])) h2.symm hb
      exact ⟨c :: ca, cb, by rw [wr_cons, ← e1, h1], e2, by rw [e3]; rfl⟩
theorem run_cut (p : Int → Bool) {a b : List UInt8} (h : runAt p (a ++ b) 0 = true) (hb : headA b) : runAt p a 0 = true ∧ runAt p b 0 = true := by
  obtain ⟨cs, h1, h2⟩ := wr_of p _ _ (Nat.le_refl _) h
  obtain ⟨ca, cb, rfl, rfl, rfl⟩ := wr_cut cs a b (fun c hc => (h2 c hc).1) h1 hb
  rw [run_wr p ca fun c hc => (h2 c (by simp [hc])).1, run_wr p cb fun c hc => (h2 c (by simp [hc])).1, List.all_eq_true, List.all_eq_true]
  exact ⟨fun c hc => (h2 c (by simp [hc])).2, fun c hc => (h2 c (by simp [hc])).2⟩
theorem run_asc (p : Int → Bool) (c : UInt8) (h : c.toNat < 128) (s : List UInt8) : runAt p (c :: s) 0 = (p c.toNat && runAt p s 0) := by
  have e := en_of1 c h
  have := run_en p (c := c.toNat) (.inl (by omega)) s
  rw [e] at this
  exact this
/-- Text of one row. -/
def Cl (s : List UInt8) : Prop := runAt mayB s 0 = true ∧ ∀ x ∈ s, x ≠ 13 ∧ x ≠ 10
theorem cl_nil : Cl [] := ⟨rfl, by simp⟩
theorem cl_app {a b : List UInt8} (ha : Cl a) (hb : Cl b) : Cl (a ++ b) := by
  refine ⟨by rw [runAt_app mayB ha.1, ha.1, hb.1]; rfl, fun x hx => ?_⟩
  rcases List.mem_append.1 hx with h | h
  · exact ha.2 x h
  · exact hb.2 x h
theorem cl_cut {a b : List UInt8} (h : Cl (a ++ b)) (hb : headA b) : Cl a ∧ Cl b := by
  have := run_cut mayB h.1 hb
  exact ⟨⟨this.1, fun x hx => h.2 x (by simp [hx])⟩, this.2, fun x hx => h.2 x (by simp [hx])⟩
theorem cl_cons {c : UInt8} {s : List UInt8} (hc : c.toNat < 128 ∧ 32 ≤ c.toNat ∧ mayB c.toNat = true) (h : Cl s) : Cl (c :: s) := by
  refine ⟨by rw [run_asc _ _ hc.1, hc.2.2, h.1]; rfl, fun x hx => ?_⟩
  rcases List.mem_cons.1 hx with rfl | hx
  · exact ⟨fun e => by subst e; exact absurd hc.2.1 (by decide), fun e => by subst e; exact absurd hc.2.1 (by decide)⟩
  · exact h.2 x hx
theorem cl_tail {c : UInt8} {s : List UInt8} (hc : c.toNat < 128) (h : Cl (c :: s)) : Cl s := by
  have := h.1
  rw [run_asc _ _ hc, Bool.and_eq_true] at this
  exact ⟨this.2, fun x hx => h.2 x (by simp [hx])⟩
theorem cl_word {w : List UInt8} (h : ∀ x ∈ w, isS x = true) : Cl w := by
  induction w with
  | nil => exact cl_nil
  | cons x w ih => exact cl_cons (sgn_a x (h x (by simp))) (ih fun y hy => h y (by simp [hy]))
theorem cl_rest {s : List UInt8} (h : Cl s) : Cl (restL s) := by
  rw [← word_rest s] at h
  have hw := (cl_word (word_sgn s)).1
  have := h.1
  rw [runAt_app mayB hw, Bool.and_eq_true] at this
  exact ⟨this.2, fun x hx => h.2 x (by simp [hx])⟩
theorem cl_value {s : List UInt8} (h : Cl s) (hv : (valueL s).2.2 = true) : Cl (valueL s).1 ∧ Cl (valueL s).2.1 := by
  unfold valueL at *
  cases s with
  | nil => exact ⟨cl_nil, cl_nil⟩
  | cons x t =>
    simp only at *
    by_cases hx : x = 34
    · rw [if_pos hx] at hv ⊢
      subst hx
      have ht := cl_tail (by decide) h
      have := cut_yes 34 t hv
      generalize cut 34 t = c at this
      rw [this.1] at ht
      have := cl_cut ht (fun y hy => by simp at hy; subst hy; decide)
      exact ⟨this.1, cl_tail (by decide) this.2⟩
    · rw [if_neg hx]
      simp only
      have e := List.takeWhile_append_dropWhile (p := fun c => !A4.contains c) (l := x :: t)
      rw [← e] at h
      refine cl_cut h fun y hy => ?_
      have := List.head?_dropWhile_not (fun c => !A4.contains c) (x :: t)
      rw [hy] at this
      simp [A4] at this
      have h4 : y = 59 ∨ y = 58 ∨ y = 44 ∨ y = 34 := by
        by_cases h1 : y = 59
        · exact .inl h1
        · by_cases h2 : y = 58
          · exact .inr (.inl h2)
          · by_cases h3 : y = 44
            · exact .inr (.inr (.inl h3))
            · exact .inr (.inr (.inr (this h1 h2 h3)))
      rcases h4 with rfl | rfl | rfl | rfl <;> decide
theorem cl_param {s : List UInt8} (h : Cl s) (hp : (paramL s).2.2 = true) : Cl (paramL s).1.2 ∧ Cl (paramL s).2.1 := by
  obtain ⟨_, t, h1, h2, h3⟩ := param_ok hp
  have hr := cl_rest h
  rw [h1] at hr
  have := cl_value (cl_tail (by decide) hr) h3
  rw [h2]
  exact this
theorem cl_pars : ∀ n (s : List UInt8) acc, s.length ≤ n → Cl s → (∀ a ∈ acc, Cl a.2) → (parsA acc s).2.2 = true → (∀ a ∈ (parsA acc s).1, Cl a.2) ∧ Cl (parsA acc s).2.1
  | n, s, acc, hn, hc, ha, h => by
    by_cases h59 : s.head? = some 59
    · obtain ⟨t, rfl⟩ : ∃ t, s = 59 :: t := by
        cases s with
        | nil => simp at h59
        | cons x t => simp at h59; exact ⟨t, by rw [h59]⟩
      rw [parsA_step] at h ⊢
      by_cases hp : (paramL t).2.2 = true
      · rw [if_pos hp] at h ⊢
        have hl := param_len t
        have hcp := cl_param (cl_tail (by decide) hc) hp
        cases n with
        | zero => simp at hn
        | succ n =>
          simp only [List.length_cons] at hn
          exact cl_pars n _ _ (by omega) hcp.2 (fun a hm => by
            rcases List.mem_append.1 hm with hm | hm
            · exact ha a hm
            · rw [List.mem_singleton.1 hm]; exact hcp.1) h
      · rw [if_neg hp] at h; cases h
    · rw [parsA_end _ _ h59]; exact ⟨ha, hc⟩
theorem cl_head {s : List UInt8} (h : Cl s) : Cl (headL s).2.2 := by
  unfold headL
  split
  · rename_i hh
    refine cl_rest ?_
    have := cl_rest h
    cases hr : restL s with
    | nil => exact cl_nil
    | cons x t =>
      rw [hr] at hh this
      have : x = 46 := by simpa using hh.2
      subst this
      exact cl_tail (c := 46) (by decide) ‹_›
  · exact cl_rest h
theorem cl_quo {v : List UInt8} (h : Cl v) : Cl (quoL v) := by
  unfold quoL
  have h34 : (34 : UInt8).toNat < 128 ∧ 32 ≤ (34 : UInt8).toNat ∧ mayB (34 : UInt8).toNat = true := by decide
  split
  · exact cl_cons h34 (cl_app h (cl_cons h34 cl_nil))
  · exact h
theorem cl_written {p : PR} (hp : okP p) (ha : ∀ a ∈ p.ps, Cl a.2) (hv : Cl p.v) : Cl (writtenL p) := by
  have k59 : (59 : UInt8).toNat < 128 ∧ 32 ≤ (59 : UInt8).toNat ∧ mayB (59 : UInt8).toNat = true := by decide
  have k61 : (61 : UInt8).toNat < 128 ∧ 32 ≤ (61 : UInt8).toNat ∧ mayB (61 : UInt8).toNat = true := by decide
  have k58 : (58 : UInt8).toNat < 128 ∧ 32 ≤ (58 : UInt8).toNat ∧ mayB (58 : UInt8).toNat = true := by decide
  have k46 : (46 : UInt8).toNat < 128 ∧ 32 ≤ (46 : UInt8).toNat ∧ mayB (46 : UInt8).toNat = true := by decide
  unfold writtenL
  refine cl_app (cl_app ?_ ?_) (cl_cons k58 hv)
  · unfold frontL
    split
    · exact cl_word hp.2.2.1
    · exact cl_app (cl_word hp.1) (cl_cons k46 (cl_word hp.2.2.1))
  · have hok := hp.2.2.2.2
    generalize p.ps = l at ha hok
    induction l with
    | nil => exact cl_nil
    | cons a l ih =>
      rw [List.flatMap_cons]
      refine cl_app ?_ (ih (fun b hb => ha b (by simp [hb])) fun b hb => hok b (by simp [hb]))
      exact cl_cons k59 (cl_app (cl_word (hok a (by simp)).2.1) (cl_cons k61 (cl_quo (ha a (by simp)))))
theorem prop_cl {s : List UInt8} (h : (propL s).2 = true) (hc : Cl s) : Cl (writtenL (propL s).1) := by
  have hok := prop_ok h
  obtain ⟨h0, h1, t, h2, h3⟩ := prop_yes h
  have := cl_pars _ _ [] (Nat.le_refl _) (cl_head hc) (by simp) h1
  refine cl_written hok ?_ ?_
  · rw [h3]; exact this.1
  · rw [h3]
    have h4 := this.2
    rw [h2] at h4
    exact cl_tail (by decide) h4
theorem prop_more {s : List UInt8} (h : (propL s).2 = true) : moreB s = false := by
  obtain ⟨h0, h1, t, h2, h3⟩ := prop_yes h
  have hw : wordL s ≠ [] := by
    intro e
    apply h0
    unfold headL
    rw [if_neg (by simp [e])]
    simp only [e]; rfl
  cases s with
  | nil => exact absurd rfl hw
  | cons x s =>
    have hx : isS x = true := by
      cases hc : isS x with
      | true => rfl
      | false => exact absurd (by simp [wordL, hc]) hw
    have := sgn_c x hx
    unfold moreB
    simp [this]
/-- Cards. -/
def BEG : List UInt8 := [66, 69, 71, 73, 78, 58, 86, 67, 65, 82, 68]
def END : List UInt8 := [69, 78, 68, 58, 86, 67, 65, 82, 68]
def VER : List UInt8 := [86, 69, 82, 83, 73, 79, 78]
def FIR : List UInt8 := [66, 69, 71, 73, 78]
def V40 : List UInt8 := [52, 46, 48]
def ef (s t : List UInt8) : Bool := Lib.equalFold s t
def mayP (p : PR) : Bool := !decide (p.n = FIR) && !decide (p.n = VER)
def keptP (p : PR) : Bool := (propL (writtenL p)).2 && decide ((propL (writtenL p)).1 = p) && mayP p && !ef (writtenL p) END && runAt mayB (writtenL p) 0 && !endB (writtenL p)
def rdL : List (List PR) → Option (List PR × Bool) → Nat → List (List UInt8) → List (List PR) × Int × Int
  | cards, none, _, [] => (cards, 0, 0)
  | _, some _, i, [] => ([], i, 20)
  | cards, none, i, x :: l => if ef x BEG = false then ([], ((i + 1 : Nat) : Int), 20) else if 60 ≤ cards.length then ([], ((i + 1 : Nat) : Int), 4) else rdL cards (some ([], false)) (i + 1) l
  | cards, some (c, v), i, x :: l =>
    if v = false then (if (propL x).2 = false ∨ (propL x).1.n ≠ VER ∨ (propL x).1.v ≠ V40 then ([], ((i + 1 : Nat) : Int), 20) else rdL cards (some (c, true)) (i + 1) l)
    else if ef x END = true then rdL (cards ++ [c]) none (i + 1) l
    else if (propL x).2 = false then ([], ((i + 1 : Nat) : Int), 17)
    else if mayP (propL x).1 = false then ([], ((i + 1 : Nat) : Int), 20)
    else if 40 ≤ c.length then ([], ((i + 1 : Nat) : Int), 4)
    else rdL cards (some (c ++ [(propL x).1], true)) (i + 1) l
def readL (s : List UInt8) : List (List PR) × Int × Int := if (unfoldR s).2 = 0 then rdL [] none 0 (unfoldR s).1 else ([], 0, (unfoldR s).2)
def linesW (l : List (List PR)) : List (List UInt8) := l.flatMap fun c => [BEG, VER ++ 58 :: V40] ++ c.map writtenL ++ [END]
def okW (l : List (List PR)) : Bool := decide (l.length ≤ 60) && l.all fun c => decide (c.length ≤ 40) && c.all keptP
def writeL (l : List (List PR)) : List UInt8 × Int := if okW l = false then ([], 12) else if 20000 < (foldF (linesW l)).length then ([], 4) else (foldF (linesW l), 0)
theorem rd_props : ∀ (ps : List PR) (cards : List (List PR)) (c : List PR) (i : Nat) (l : List (List UInt8)), c.length + ps.length ≤ 40 → (∀ p ∈ ps, keptP p = true) → rdL cards (some (c, true)) i (ps.map writtenL ++ l) = rdL cards (some (c ++ ps, true)) (i + ps.length) l
  | [], cards, c, i, l, _, _ => by simp
  | p :: ps, cards, c, i, l, h, hk => by
    have hp := hk p (by simp)
    simp only [keptP, Bool.and_eq_true, decide_eq_true_eq, Bool.not_eq_true'] at hp
    obtain ⟨⟨⟨⟨⟨h1, h2⟩, h3⟩, h4⟩, h5⟩, h6⟩ := hp
    simp only [List.length_cons] at h
    rw [List.map_cons, List.cons_append, rdL, if_neg (by simp), if_neg (by rw [h4]; simp), if_neg (by rw [h1]; simp), h2, if_neg (by rw [h3]; simp), if_neg (by omega), rd_props ps cards (c ++ [p]) (i + 1) l (by simp; omega) fun q hq => hk q (by simp [hq])]
    have e : i + 1 + ps.length = i + (ps.length + 1) := by omega
    simp [e]
theorem prop_ver : propL (VER ++ 58 :: V40) = (⟨[], VER, [], V40⟩, true) := by decide +kernel
theorem ef_self (s : List UInt8) : ef s s = true := by rw [ef, ef_up]; simp
theorem rd_cards : ∀ (l cards : List (List PR)) (i : Nat), cards.length + l.length ≤ 60 → (∀ c ∈ l, c.length ≤ 40 ∧ ∀ p ∈ c, keptP p = true) → rdL cards none i (linesW l) = (cards ++ l, 0, 0)
  | [], cards, i, _, _ => by simp [linesW, rdL]
  | c :: l, cards, i, h, hk => by
    simp only [List.length_cons] at h
    have hc := hk c (by simp)
    have e : linesW (c :: l) = BEG :: (VER ++ 58 :: V40) :: (c.map writtenL ++ (END :: linesW l)) := by simp [linesW]
    rw [e, rdL, if_neg (by rw [ef_self]; simp), if_neg (by omega), rdL, if_pos rfl, prop_ver, if_neg (by simp), rd_props c cards [] _ _ (by simpa using hc.1) hc.2, rdL, if_neg (by simp), if_pos (ef_self _), rd_cards l _ _ (by simp; omega) fun d hd => hk d (by simp [hd])]
    simp
theorem cl_bytes {s : List UInt8} (h : s.all (fun c => decide (c.toNat < 128) && decide (32 ≤ c.toNat) && mayB c.toNat) = true) : Cl s := by
  induction s with
  | nil => exact cl_nil
  | cons x s ih =>
    rw [List.all_cons, Bool.and_eq_true] at h
    have h1 := h.1
    simp only [Bool.and_eq_true, decide_eq_true_eq] at h1
    exact cl_cons ⟨h1.1.1, h1.1.2, h1.2⟩ (ih h.2)
theorem lines_good {l : List (List PR)} (hk : ∀ c ∈ l, ∀ p ∈ c, keptP p = true) : goodM (linesW l) := by
  intro s hs
  obtain ⟨c, hc, hs⟩ := List.mem_flatMap.1 hs
  have key : Cl s → moreB s = false → runAt mayB s 0 = true ∧ (∀ x ∈ s, x ≠ 13 ∧ x ≠ 10) ∧ moreB s = false := fun h1 h2 => ⟨h1.1, h1.2, h2⟩
  simp only [List.mem_append, List.mem_cons, List.mem_nil_iff, or_false, List.mem_map] at hs
  rcases hs with ((rfl | rfl) | ⟨p, hp, rfl⟩) | rfl
  · exact key (cl_bytes (by decide)) (by decide)
  · exact key (cl_bytes (by decide)) (by decide)
  · have := hk c hc p hp
    simp only [keptP, Bool.and_eq_true, decide_eq_true_eq, Bool.not_eq_true'] at this
    obtain ⟨⟨⟨⟨⟨h1, h2⟩, h3⟩, h4⟩, h5⟩, h6⟩ := this
    refine key ⟨h5, fun x hx => ?_⟩ (prop_more h1)
    unfold endB at h6
    rw [List.any_eq_false] at h6
    have := h6 x hx
    simpa using this
  · exact key (cl_bytes (by decide)) (by decide)
theorem unfold_fold {m : List (List UInt8)} (hm : goodM m) (hl : (foldF m).length ≤ 20000) : unfoldR (foldF m) = (m, 0) := by
  have hrows : ∀ r ∈ m.flatMap rowsL, rowG r := fun r hr => by
    obtain ⟨s, hs, hr⟩ := List.mem_flatMap.1 hr
    exact rows_line s (hm s hs).1 (hm s hs).2.1 r hr
  have hrun : runAt mayB (foldF m) 0 = true := by
    rw [foldF_rows]
    exact run_ended _ fun r hr => (hrows r hr).2.1
  have hu : unfA [] (foldF m) = some m := by
    rw [foldF_rows]
    unfold unfA
    rw [unf_rows _ _ _ (Nat.le_refl _) fun r hr => (hrows r hr).2.2, unfR_all m [] fun s hs => (hm s hs).2.2, List.nil_append]
  unfold unfoldR
  rw [if_neg (by omega), hrun, hu]
  rfl
/-- What is written is read as it was. -/
theorem write_read {l : List (List PR)} (h : (writeL l).2 = 0) : readL (writeL l).1 = (l, 0, 0) := by
  unfold writeL at *
  by_cases h1 : okW l = false
  · rw [if_pos h1] at h; cases h
  rw [if_neg h1] at h ⊢
  by_cases h2 : 20000 < (foldF (linesW l)).length
  · rw [if_pos h2] at h; cases h
  rw [if_neg h2]
  have h1 : okW l = true := by simpa using h1
  simp only [okW, Bool.and_eq_true, decide_eq_true_eq, List.all_eq_true] at h1
  have hu := unfold_fold (lines_good fun c hc p hp => (h1.2 c hc).2 p hp) (show (foldF (linesW l)).length ≤ 20000 by omega)
  unfold readL
  rw [hu, if_pos rfl]
  have := rd_cards l [] 0 (by simpa using h1.1) fun c hc => ⟨(h1.2 c hc).1, fun p hp => (h1.2 c hc).2 p hp⟩
  simpa using this
theorem cutE_yes : ∀ s : List UInt8, (cutE s).2.2 = true → s = (cutE s).1 ++ 13 :: 10 :: (cutE s).2.1
  | [], h => by simp [cutE] at h
  | x :: s, h => by
    rw [cutE] at h ⊢
    by_cases hx : x = 13 ∧ s.head? = some 10
    · rw [if_pos hx]
      obtain ⟨rfl, h2⟩ := hx
      cases s with
      | nil => simp at h2
      | cons y s => simp at h2; subst h2; rfl
    · rw [if_neg hx] at h ⊢
      have := cutE_yes s h
      simp only at this ⊢
      rw [List.cons_append, ← this]
theorem cl_last {acc : List (List UInt8)} (h : ∀ x ∈ acc, Cl x) : Cl (acc.getLastD []) := by
  cases acc with
  | nil => exact cl_nil
  | cons a l => rw [List.getLastD_cons]; exact h _ (List.getLastD_mem_cons)
theorem unf_cl : ∀ n (s : List UInt8) acc l, s.length ≤ n → runAt mayB s 0 = true → (∀ x ∈ acc, Cl x) → unfA acc s = some l → ∀ x ∈ l, Cl x
  | n, s, acc, l, hn, hr, ha, h => by
    by_cases hs : s = []
    · subst hs
      rw [unfA_nil] at h
      injection h with h; subst h; exact ha
    · rw [unfA_step acc s hs] at h
      split at h
      · cases h
      rename_i h1
      simp only [Bool.or_eq_true, not_or, Bool.not_eq_true', Bool.not_eq_true] at h1
      obtain ⟨⟨h1, h2⟩, h3⟩ := h1
      have h1 : (cutE s).2.2 = true := by simpa using h1
      have hc := cutE_yes s h1
      have hl := (cutE_len s).2 h1
      generalize cutE s = c at h h1 h2 h3 hc hl
      obtain ⟨row, rest, is⟩ := c
      simp only at h h1 h2 h3 hc hl
      rw [hc] at hr
      have hcut := run_cut mayB hr (fun x hx => by simp at hx; subst hx; decide)
      have hrest := hcut.2
      rw [run_asc _ _ (by decide), Bool.and_eq_true, run_asc _ _ (by decide), Bool.and_eq_true] at hrest
      have hrow : Cl row := ⟨hcut.1, fun x hx => by
        unfold endB at h2
        rw [List.any_eq_false] at h2
        simpa using h2 x hx⟩
      have hs0 : 0 < s.length := List.length_pos_iff.2 hs
      cases n with
      | zero => omega
      | succ n =>
        split at h
        · rename_i hm
          refine unf_cl n rest _ l (by omega) hrest.2.2 (fun x hx => ?_) h
          rcases List.mem_append.1 hx with hx | hx
          · exact ha x (List.dropLast_subset _ hx)
          · rw [List.mem_singleton.1 hx]
            refine cl_app (cl_last ha) ?_
            cases row with
            | nil => exact cl_nil
            | cons y row =>
              refine cl_tail (c := y) ?_ hrow
              simp [moreB] at hm
              rcases hm with rfl | rfl <;> decide
        · refine unf_cl n rest _ l (by omega) hrest.2.2 (fun x hx => ?_) h
          rcases List.mem_append.1 hx with hx | hx
          · exact ha x hx
          · rw [List.mem_singleton.1 hx]; exact hrow
theorem pars_len : ∀ n (s : List UInt8) acc, s.length ≤ n → acc.length ≤ (parsA acc s).1.length
  | n, s, acc, hn => by
    by_cases h59 : s.head? = some 59
    · obtain ⟨t, rfl⟩ : ∃ t, s = 59 :: t := by
        cases s with
        | nil => simp at h59
        | cons x t => simp at h59; exact ⟨t, by rw [h59]⟩
      rw [parsA_step]
      have hl := param_len t
      cases n with
      | zero => simp at hn
      | succ n =>
        simp only [List.length_cons] at hn
        split
        · have := pars_len n (paramL t).2.1 (acc ++ [(paramL t).1]) (by omega)
          simp at this; omega
        · exact Nat.le_refl _
    · rw [parsA_end _ _ h59]; exact Nat.le_refl _
theorem rest_up (s : List UInt8) : restL (up s) = up (restL s) := by
  unfold restL up
  rw [List.dropWhile_map]
  congr 2
  funext x
  exact up_sgn x
theorem ef_written {s : List UInt8} (h : (propL s).2 = true) (he : ef (writtenL (propL s).1) END = true) : ef s END = true := by
  have hok := prop_ok h
  obtain ⟨h0, h1, t, h2, h3⟩ := prop_yes h
  rw [ef, ef_up, decide_eq_true_eq] at he ⊢
  have hu : up END = END := by decide
  rw [hu] at he ⊢
  have hr : up (restL (writtenL (propL s).1)) = 58 :: [86, 67, 65, 82, 68] := by
    rw [← rest_up, he]; decide
  generalize hp : (propL s).1 = p at *
  have hT := att_head p.ps p.v
  have hnoT : noS (p.ps.flatMap attL ++ 58 :: p.v) := by
    obtain ⟨x, t', e, hx⟩ := hT
    rw [e]
    intro y hy
    simp at hy; subst hy
    rcases hx with rfl | rfl <;> rfl
  by_cases hg : p.g = []
  · have hw : writtenL p = p.n ++ (p.ps.flatMap attL ++ 58 :: p.v) := by rw [writtenL, frontL, if_pos hg, List.append_assoc]
    rw [hw, (word_app hok.2.2.1 hnoT).2] at hr
    have hps : p.ps = [] := by
      cases hc : p.ps with
      | nil => rfl
      | cons a l =>
        rw [hc, List.flatMap_cons, attL] at hr
        simp only [up, List.cons_append, List.map_cons] at hr
        have := (List.cons.inj hr).1
        exact absurd this (by decide)
    rw [hw, hps, List.flatMap_nil, List.nil_append] at he
    have hh : headL s = ([], wordL s, restL s) := by
      unfold headL
      split
      · rename_i hc
        exfalso
        apply hc.1
        have : p.g = (headL s).1 := by rw [h3]
        rw [hg] at this
        unfold headL at this
        rw [if_pos hc] at this
        exact this.symm
      · rfl
    rw [hh] at h1 h2 h3
    simp only at h1 h2 h3
    have hrs : restL s = 58 :: t := by
      by_cases h59 : (restL s).head? = some 59
      · exfalso
        obtain ⟨t', ht'⟩ : ∃ t', restL s = 59 :: t' := by
          cases hrr : restL s with
          | nil => rw [hrr] at h59; simp at h59
          | cons x t' => rw [hrr] at h59; simp at h59; exact ⟨t', by rw [h59]⟩
        rw [ht', parsA_step] at h1 h3
        split at h1
        · rename_i hpp
          rw [if_pos hpp] at h3
          have := pars_len _ (paramL t').2.1 ([] ++ [(paramL t').1]) (Nat.le_refl _)
          have e : p.ps = (parsA ([] ++ [(paramL t').1]) (paramL t').2.1).1 := by rw [h3]
          rw [← e, hps] at this
          simp at this
        · cases h1
      · rw [parsA_end _ _ h59] at h2
        exact h2
    have hs := word_rest s
    rw [hrs] at hs
    have e1 : p.n = up (wordL s) := by rw [h3]
    have e2 : p.v = t := by rw [h3]
    rw [← hs, ← he, e1, e2]
    simp only [up, List.map_append, List.map_cons]
    have := upup (wordL s)
    simp only [up] at this
    rw [this]
  · exfalso
    have hw : writtenL p = p.g ++ 46 :: (p.n ++ (p.ps.flatMap attL ++ 58 :: p.v)) := by rw [writtenL, frontL, if_neg hg]; simp
    rw [hw, (word_app hok.1 (fun x hx => by simp at hx; subst hx; rfl)).2] at hr
    simp only [up, List.map_cons] at hr
    exact absurd (List.cons.inj hr).1 (by decide)
theorem kept_read {x : List UInt8} (h : (propL x).2 = true) (hc : Cl x) (he : ef x END = false) (hm : mayP (propL x).1 = true) : keptP (propL x).1 = true := by
  have hb := prop_back _ (prop_ok h)
  have hcl := prop_cl h hc
  have hef : ef (writtenL (propL x).1) END = false := by
    cases hh : ef (writtenL (propL x).1) END with
    | false => rfl
    | true => rw [ef_written h hh] at he; cases he
  have hend : endB (writtenL (propL x).1) = false := by
    unfold endB
    rw [List.any_eq_false]
    intro y hy
    have := hcl.2 y hy
    simp [this]
  unfold keptP
  rw [hb, hm, hef, hcl.1, hend]
  simp
def okC' (c : List PR) : Prop := c.length ≤ 40 ∧ ∀ p ∈ c, keptP p = true
theorem rd_ok : ∀ (l : List (List UInt8)) (cards : List (List PR)) (card : Option (List PR × Bool)) (i : Nat), (∀ x ∈ l, Cl x) → (∀ c ∈ cards, okC' c) → cards.length ≤ 60 → (∀ c v, card = some (c, v) → okC' c ∧ cards.length < 60) →
    (rdL cards card i l).2.2 = 0 → (∀ c ∈ (rdL cards card i l).1, okC' c) ∧ (rdL cards card i l).1.length ≤ 60
  | [], cards, none, i, hl, hc, h60, ho, h => by
    rw [rdL]; exact ⟨hc, h60⟩
  | [], cards, some _, i, hl, hc, h60, ho, h => by
    rw [rdL] at h; simp at h
  | x :: l, cards, none, i, hl, hc, h60, ho, h => by
    rw [rdL] at h ⊢
    split
    · rename_i q; rw [if_pos q] at h; simp at h
    · rename_i q
      rw [if_neg q] at h
      split
      · rename_i q; rw [if_pos q] at h; simp at h
      · rename_i q
        rw [if_neg q] at h
        exact rd_ok l cards _ _ (fun y hy => hl y (by simp [hy])) hc h60 (fun c v e => by
          injection e with e
          injection e with e1 e2
          subst e1
          exact ⟨⟨by simp, by simp⟩, by omega⟩) h
  | x :: l, cards, some (c, v), i, hl, hc, h60, ho, h => by
    have hcv := ho c v rfl
    have hxl : ∀ y ∈ l, Cl y := fun y hy => hl y (by simp [hy])
    rw [rdL] at h ⊢
    split
    · rename_i q
      rw [if_pos q] at h
      split
      · rename_i q2; rw [if_pos q2] at h; simp at h
      · rename_i q2
        rw [if_neg q2] at h
        exact rd_ok l cards _ _ hxl hc h60 (fun c' v' e => by
          injection e with e
          injection e with e1 e2
          subst e1
          exact hcv) h
    · rename_i q
      rw [if_neg q] at h
      split
      · rename_i q2
        rw [if_pos q2] at h
        exact rd_ok l (cards ++ [c]) none _ hxl (fun d hd => by
          rcases List.mem_append.1 hd with hd | hd
          · exact hc d hd
          · rw [List.mem_singleton.1 hd]; exact hcv.1) (by simp; omega) (fun c' v' e => by cases e) h
      · rename_i q2
        rw [if_neg q2] at h
        split
        · rename_i q3; rw [if_pos q3] at h; simp at h
        · rename_i q3
          rw [if_neg q3] at h
          split
          · rename_i q4; rw [if_pos q4] at h; simp at h
          · rename_i q4
            rw [if_neg q4] at h
            split
            · rename_i q5; rw [if_pos q5] at h; simp at h
            · rename_i q5
              rw [if_neg q5] at h
              refine rd_ok l cards _ _ hxl hc h60 (fun c' v' e => ?_) h
              injection e with e
              injection e with e1 e2
              subst e1
              refine ⟨⟨by simp; omega, fun p hp => ?_⟩, hcv.2⟩
              rcases List.mem_append.1 hp with hp | hp
              · exact hcv.1.2 p hp
              · rw [List.mem_singleton.1 hp]
                exact kept_read (by simpa using q3) (hl x (by simp)) (by simpa using q2) (by simpa using q4)
/-- What is read is written, if it is not too much. -/
theorem read_write {s : List UInt8} (h : (readL s).2.2 = 0) : okW (readL s).1 = true := by
  unfold readL at *
  by_cases h0 : (unfoldR s).2 = 0
  · rw [if_pos h0] at h ⊢
    have hcl : ∀ x ∈ (unfoldR s).1, Cl x := by
      unfold unfoldR at h0 ⊢
      split
      · rename_i q; rw [if_pos q] at h0; simp at h0
      · rename_i q
        rw [if_neg q] at h0
        split
        · rename_i q2; rw [if_pos q2] at h0; simp at h0
        · rename_i q2
          rw [if_neg q2] at h0
          split
          · rename_i q3; rw [q3] at h0; simp at h0
          · rename_i l q3
            exact unf_cl _ _ _ _ (Nat.le_refl _) (by simpa using q2) (by simp) q3
    have := rd_ok (unfoldR s).1 [] none 0 hcl (by simp) (by simp) (fun c v e => by cases e) h
    unfold okW
    rw [Bool.and_eq_true, List.all_eq_true]
    refine ⟨by simpa using this.2, fun c hc => ?_⟩
    rw [Bool.and_eq_true, List.all_eq_true]
    exact ⟨by simpa using (this.1 c hc).1, (this.1 c hc).2⟩
  · rw [if_neg h0] at h
    exact absurd h h0
theorem write_cases (l : List (List PR)) : (writeL l = ([], 12) ∧ okW l = false) ∨ (okW l = true ∧ ((writeL l = ([], 4)) ∨ (writeL l = (foldF (linesW l), 0) ∧ (foldF (linesW l)).length ≤ 20000))) := by
  unfold writeL
  cases h : okW l with
  | false => exact .inl ⟨by rw [if_pos rfl], rfl⟩
  | true =>
    refine .inr ⟨rfl, ?_⟩
    rw [if_neg (by simp)]
    split
    · exact .inl rfl
    · exact .inr ⟨rfl, by omega⟩
end Go.Proofs.Ut
