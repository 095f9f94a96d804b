/- Characters and their bytes; lines in rows and rows as lines, in plain words. -/
import Derived.Test.YtbnmhlienklfpaaGreatDoorZFoCsA
set_option linter.all false
namespace Go.Proofs.Ut
open Go.Ai Classical
set_option linter.unusedSimpArgs false
set_option linter.unusedVariables false
set_option maxHeartbeats 1000000
set_option maxRecDepth 100000
theorem ofn (x : UInt8) (n : Nat) (h : x.toNat = n) : UInt8.ofNat n = x := by subst h; simp
/-- A character's bytes are those that were read. -/
theorem en_of1 (x : UInt8) (h : x.toNat < 128) : en (x.toNat : Int) = [x] := by
  rw [en_eq (by unfold okC; omega), if_pos h]
  exact congrArg (fun b => [b]) (ofn x _ rfl)
theorem en_of2 (x y : UInt8) (h1 : x.toNat / 32 = 6) (h2 : y.toNat / 64 = 2) (h : x.toNat % 32 * 64 + y.toNat % 64 ≥ 128) (ok : okC (x.toNat % 32 * 64 + y.toNat % 64)) : en ((x.toNat % 32 * 64 + y.toNat % 64 : Nat) : Int) = [x, y] := by
  rw [en_eq ok, if_neg (by omega), if_pos (by omega), ofn x _ (by omega), ofn y _ (by omega)]
theorem en_of3 (x y z : UInt8) (h1 : x.toNat / 16 = 14) (h2 : y.toNat / 64 = 2) (h3 : z.toNat / 64 = 2) (h : x.toNat % 16 * 4096 + y.toNat % 64 * 64 + z.toNat % 64 ≥ 2048) (ok : okC (x.toNat % 16 * 4096 + y.toNat % 64 * 64 + z.toNat % 64)) :
    en ((x.toNat % 16 * 4096 + y.toNat % 64 * 64 + z.toNat % 64 : Nat) : Int) = [x, y, z] := by
  rw [en_eq ok, if_neg (by omega), if_neg (by omega), if_pos (by omega), ofn x _ (by omega), ofn y _ (by omega), ofn z _ (by omega)]
theorem en_of4 (x y z u : UInt8) (h1 : x.toNat / 8 = 30) (h2 : y.toNat / 64 = 2) (h3 : z.toNat / 64 = 2) (h4 : u.toNat / 64 = 2) (h : x.toNat % 8 * 262144 + y.toNat % 64 * 4096 + z.toNat % 64 * 64 + u.toNat % 64 ≥ 65536)
    (ok : okC (x.toNat % 8 * 262144 + y.toNat % 64 * 4096 + z.toNat % 64 * 64 + u.toNat % 64)) : en ((x.toNat % 8 * 262144 + y.toNat % 64 * 4096 + z.toNat % 64 * 64 + u.toNat % 64 : Nat) : Int) = [x, y, z, u] := by
  rw [en_eq ok, if_neg (by omega), if_neg (by omega), if_neg (by omega), ofn x _ (by omega), ofn y _ (by omega), ofn z _ (by omega), ofn u _ (by omega)]
theorem four_of (s : List UInt8) (h : 3 < s.length) : ∃ x y z u t, s = x :: y :: z :: u :: t := by
  match s, h with
  | x :: y :: z :: u :: t, _ => exact ⟨x, y, z, u, t, rfl⟩
  | [_], h => simp at h
  | [_, _], h => simp at h
  | [_, _, _], h => simp at h
theorem en_of (s : List UInt8) (h0 : 0 < s.length) (hg : D s 0 ≠ (65533, 1)) : en ((D s 0).1 : Nat) = s.take (D s 0).2 := by
  have hok := (D_len s 0 h0).2.2
  revert hg hok
  rw [D_eq]
  by_cases b1 : by_ s 0 < 128
  · rw [if_pos b1]
    intro _ hok
    match s, h0, b1 with
    | x :: t, _, b1 => exact en_of1 x b1
  rw [if_neg b1]
  by_cases c2 : by_ s 0 / 32 = 6 ∧ 0 + 1 < s.length ∧ by_ s (0 + 1) / 64 = 2
  · rw [if_pos c2]
    by_cases h : by_ s 0 % 32 * 64 + by_ s (0 + 1) % 64 ≥ 128
    · rw [if_pos h]
      intro _ hok
      match s, c2, h, hok with
      | [_], c2, _, _ => simp at c2
      | x :: y :: t, c2, h, hok => exact en_of2 x y c2.1 c2.2.2 h hok
    · rw [if_neg h]; intro q; exact absurd rfl q
  rw [if_neg c2]
  by_cases c3 : by_ s 0 / 16 = 14 ∧ (0 + 1 < s.length ∧ by_ s (0 + 1) / 64 = 2) ∧ 0 + 2 < s.length ∧ by_ s (0 + 2) / 64 = 2
  · rw [if_pos c3]
    by_cases h : by_ s 0 % 16 * 4096 + by_ s (0 + 1) % 64 * 64 + by_ s (0 + 2) % 64 ≥ 2048 ∧ okC (by_ s 0 % 16 * 4096 + by_ s (0 + 1) % 64 * 64 + by_ s (0 + 2) % 64)
    · rw [if_pos h]
      intro _ hok
      match s, c3, h, hok with
      | [_], c3, _, _ => simp at c3
      | [_, _], c3, _, _ => simp at c3
      | x :: y :: z :: t, c3, h, hok => exact en_of3 x y z c3.1 c3.2.1.2 c3.2.2.2 h.1 hok
    · rw [if_neg h]; intro q; exact absurd rfl q
  rw [if_neg c3]
  by_cases c4 : by_ s 0 / 8 = 30 ∧ (0 + 1 < s.length ∧ by_ s (0 + 1) / 64 = 2) ∧ (0 + 2 < s.length ∧ by_ s (0 + 2) / 64 = 2) ∧ 0 + 3 < s.length ∧ by_ s (0 + 3) / 64 = 2
  · rw [if_pos c4]
    by_cases h : by_ s 0 % 8 * 262144 + by_ s (0 + 1) % 64 * 4096 + by_ s (0 + 2) % 64 * 64 + by_ s (0 + 3) % 64 ≥ 65536 ∧ okC (by_ s 0 % 8 * 262144 + by_ s (0 + 1) % 64 * 4096 + by_ s (0 + 2) % 64 * 64 + by_ s (0 + 3) % 64)
    · rw [if_pos h]
      intro _ hok
      obtain ⟨x, y, z, u, t, rfl⟩ : ∃ x y z u t, s = x :: y :: z :: u :: t := four_of s (by have := c4.2.2.2.1; omega)
      have e0 : by_ (x :: y :: z :: u :: t) 0 = x.toNat := rfl
      have e1 : by_ (x :: y :: z :: u :: t) (0 + 1) = y.toNat := rfl
      have e2 : by_ (x :: y :: z :: u :: t) (0 + 2) = z.toNat := rfl
      have e3 : by_ (x :: y :: z :: u :: t) (0 + 3) = u.toNat := rfl
      simp only [e0, e1, e2, e3] at c4 h hok ⊢
      exact en_of4 x y z u c4.1 c4.2.1.2 c4.2.2.1.2 c4.2.2.2.2 h.1 hok
    · rw [if_neg h]; intro q; exact absurd rfl q
  rw [if_neg c4]
  intro q; exact absurd rfl q
/-- Characters, written. -/
def wr (cs : List Nat) : List UInt8 := cs.flatMap fun c : Nat => en c
theorem wr_app (a b : List Nat) : wr (a ++ b) = wr a ++ wr b := by simp [wr]
theorem wr_cons (c : Nat) (b : List Nat) : wr (c :: b) = en c ++ wr b := rfl
theorem wr_of (p : Int → Bool) : ∀ n (s : List UInt8), s.length ≤ n → runAt p s 0 = true → ∃ cs, s = wr cs ∧ ∀ c ∈ cs, okC c ∧ p c = true
  | _, [], _, _ => ⟨[], rfl, by simp⟩
  | 0, x :: t, h, _ => by simp at h
  | n + 1, x :: t, h, hr => by
    have hl := D_len (x :: t) 0 (by simp)
    rw [runAt_step _ _ _ (by simp)] at hr
    split at hr
    · cases hr
    rename_i hg
    rw [Bool.and_eq_true] at hr
    have hen := en_of (x :: t) (by simp) hg
    have hsp := List.take_append_drop (D (x :: t) 0).2 (x :: t)
    have hlt : ((x :: t).take (D (x :: t) 0).2).length = (D (x :: t) 0).2 := by
      rw [List.length_take]; omega
    have hsh := runAt_shift p ((x :: t).take (D (x :: t) 0).2) ((x :: t).drop (D (x :: t) 0).2) _ 0 (Nat.le_refl _)
    rw [hsp, hlt, Nat.add_zero] at hsh
    rw [Nat.zero_add, hsh] at hr
    obtain ⟨cs, h1, h2⟩ := wr_of p n ((x :: t).drop (D (x :: t) 0).2) (by rw [List.length_drop]; simp only [List.length_cons] at h ⊢; omega) hr.2
    refine ⟨(D (x :: t) 0).1 :: cs, ?_, ?_⟩
    · rw [wr_cons, hen, ← h1, hsp]
    · intro c hc
      rcases List.mem_cons.1 hc with rfl | hc
      · exact ⟨hl.2.2, hr.1⟩
      · exact h2 c hc
theorem run_wr (p : Int → Bool) (cs : List Nat) (h : ∀ c ∈ cs, okC c) : runAt p (wr cs) 0 = cs.all (fun c : Nat => p c) := by
  have := run_ens p [] cs h
  rw [List.append_nil] at this
  rw [wr, this, run_nil, Bool.and_true]
/-- How many bytes fit. -/
def fitG (s : List UInt8) (most : Nat) : Nat → Nat → Nat
  | 0, n => n
  | k + 1, n => if n < s.length then (if 0 < n ∧ most < n + (D s n).2 then n else fitG s most k (n + (D s n).2)) else n
def fits (s : List UInt8) (most : Nat) : Nat := fitG s most s.length 0
theorem fitG_fuel (s : List UInt8) (most : Nat) : ∀ k j n, s.length - n ≤ k → s.length - n ≤ j → fitG s most k n = fitG s most j n
  | 0, 0, _, _, _ => rfl
  | 0, j + 1, n, h, _ => by rw [fitG, fitG, if_neg (by omega)]
  | k + 1, 0, n, _, h => by rw [fitG, fitG, if_neg (by omega)]
  | k + 1, j + 1, n, h1, h2 => by
    rw [fitG, fitG]
    by_cases hn : n < s.length
    · have := D_len s n hn
      rw [if_pos hn, if_pos hn, fitG_fuel s most k j (n + (D s n).2) (by omega) (by omega)]
    · rw [if_neg hn, if_neg hn]
/-- From some place on. -/
def fitA (s : List UInt8) (most n : Nat) : Nat := fitG s most (s.length - n) n
theorem fitA_step (s : List UInt8) (most n : Nat) (hn : n < s.length) : fitA s most n = if 0 < n ∧ most < n + (D s n).2 then n else fitA s most (n + (D s n).2) := by
  have := D_len s n hn
  rw [fitA, show s.length - n = (s.length - n - 1) + 1 by omega, fitG, if_pos hn, fitG_fuel s most _ (s.length - (n + (D s n).2)) (n + (D s n).2) (by omega) (Nat.le_refl _)]
  rfl
theorem fitA_end (s : List UInt8) (most n : Nat) (hn : ¬ n < s.length) : fitA s most n = n := by
  rw [fitA, show s.length - n = 0 by omega]; rfl
theorem fitA_le (s : List UInt8) (most : Nat) : ∀ k n, s.length - n ≤ k → n ≤ s.length → n ≤ fitA s most n ∧ fitA s most n ≤ s.length
  | 0, n, h, hn => by rw [fitA_end s most n (by omega)]; omega
  | k + 1, n, h, hn => by
    by_cases c : n < s.length
    · have := D_len s n c
      have ih := fitA_le s most k (n + (D s n).2) (by omega) (by omega)
      rw [fitA_step s most n c]
      split <;> omega
    · rw [fitA_end s most n c]; omega
theorem fits_le (s : List UInt8) (most : Nat) (h : s ≠ []) : 0 < fits s most ∧ fits s most ≤ s.length := by
  have h0 : 0 < s.length := List.length_pos_iff.2 h
  have := D_len s 0 h0
  have e : fits s most = fitA s most 0 := rfl
  rw [e, fitA_step s most 0 h0, if_neg (by omega)]
  have := fitA_le s most _ (0 + (D s 0).2) (Nat.le_refl _) (by omega)
  omega
theorem fits_nil (most : Nat) : fits [] most = 0 := rfl
/-- What is behind the first row of a line. -/
def foldT : Nat → List UInt8 → List (List UInt8)
  | 0, _ => []
  | k + 1, s => if s = [] then [] else (32 :: s.take (fits s 74)) :: foldT k (s.drop (fits s 74))
def rowsL (s : List UInt8) : List (List UInt8) := s.take (fits s 75) :: foldT s.length (s.drop (fits s 75))
def ended (l : List (List UInt8)) : List UInt8 := l.flatMap fun r => r ++ [13, 10]
def foldF (l : List (List UInt8)) : List UInt8 := l.flatMap fun s => ended (rowsL s)
theorem ended_cons (r : List UInt8) (l : List (List UInt8)) : ended (r :: l) = r ++ 13 :: 10 :: ended l := by simp [ended]
theorem ended_app (a b : List (List UInt8)) : ended (a ++ b) = ended a ++ ended b := by simp [ended]
theorem foldF_rows (l : List (List UInt8)) : foldF l = ended (l.flatMap rowsL) := by
  induction l with
  | nil => rfl
  | cons s l ih => rw [List.flatMap_cons, ended_app, ← ih]; rfl
theorem foldT_fuel : ∀ k j (s : List UInt8), s.length ≤ k → s.length ≤ j → foldT k s = foldT j s
  | 0, 0, _, _, _ => rfl
  | 0, j + 1, s, h, _ => by rw [foldT, foldT, if_pos (List.eq_nil_of_length_eq_zero (by omega))]
  | k + 1, 0, s, _, h => by rw [foldT, foldT, if_pos (List.eq_nil_of_length_eq_zero (by omega))]
  | k + 1, j + 1, s, h1, h2 => by
    rw [foldT, foldT]
    by_cases hs : s = []
    · rw [if_pos hs, if_pos hs]
    · have := fits_le s 74 hs
      rw [if_neg hs, if_neg hs, foldT_fuel k j _ (by rw [List.length_drop]; omega) (by rw [List.length_drop]; omega)]
def foldR (s : List UInt8) : List (List UInt8) := foldT s.length s
theorem foldR_step (s : List UInt8) (hs : s ≠ []) : foldR s = (32 :: s.take (fits s 74)) :: foldR (s.drop (fits s 74)) := by
  have := fits_le s 74 hs
  have h0 : 0 < s.length := List.length_pos_iff.2 hs
  rw [foldR, show s.length = (s.length - 1) + 1 by omega, foldT, if_neg hs, foldT_fuel _ (s.drop (fits s 74)).length _ (by rw [List.length_drop]; omega) (Nat.le_refl _)]
  rfl
theorem foldR_nil : foldR [] = [] := rfl
theorem rowsL_eq (s : List UInt8) : rowsL s = s.take (fits s 75) :: foldR (s.drop (fits s 75)) := by
  rw [rowsL, foldR, foldT_fuel s.length _ _ (by simp) (Nat.le_refl _)]
/-- What is ahead of a row's end, and what behind it. -/
def cutE : List UInt8 → List UInt8 × List UInt8 × Bool
  | [] => ([], [], false)
  | x :: s => if x = 13 ∧ s.head? = some 10 then ([], s.tail, true) else (x :: (cutE s).1, (cutE s).2.1, (cutE s).2.2)
theorem cutE_row : ∀ (r t : List UInt8), (∀ x ∈ r, x ≠ 13) → cutE (r ++ 13 :: 10 :: t) = (r, t, true)
  | [], t, _ => by simp [cutE]
  | x :: r, t, h => by
    rw [List.cons_append, cutE, if_neg (fun q => h x (by simp) q.1), cutE_row r t (fun y hy => h y (by simp [hy]))]
theorem cutE_len : ∀ s : List UInt8, (cutE s).1.length + (cutE s).2.1.length ≤ s.length ∧ ((cutE s).2.2 = true → (cutE s).2.1.length < s.length)
  | [] => by simp [cutE]
  | x :: s => by
    have ih := cutE_len s
    rw [cutE]
    split
    · simp; omega
    · simp only [List.length_cons]
      exact ⟨by omega, fun h => by have := ih.2 h; omega⟩
def moreB (r : List UInt8) : Bool := decide (r.head? = some 32) || decide (r.head? = some 9)
def endB (r : List UInt8) : Bool := r.any fun x => decide (x = 13) || decide (x = 10)
/-- Rows as lines; none: they are not. -/
def unf : Nat → List (List UInt8) → List UInt8 → Option (List (List UInt8))
  | 0, acc, _ => some acc
  | k + 1, acc, s => if s = [] then some acc else
    if ((!(cutE s).2.2) || endB (cutE s).1 || (moreB (cutE s).1 && acc.isEmpty)) = true then none else
    if moreB (cutE s).1 = true then unf k (acc.dropLast ++ [acc.getLastD [] ++ (cutE s).1.tail]) (cutE s).2.1 else unf k (acc ++ [(cutE s).1]) (cutE s).2.1
def unfR : List (List UInt8) → List (List UInt8) → Option (List (List UInt8))
  | acc, [] => some acc
  | acc, r :: rs => if (moreB r && acc.isEmpty) = true then none else if moreB r = true then unfR (acc.dropLast ++ [acc.getLastD [] ++ r.tail]) rs else unfR (acc ++ [r]) rs
theorem unf_rows : ∀ (rs acc : List (List UInt8)) k, (ended rs).length ≤ k → (∀ r ∈ rs, ∀ x ∈ r, x ≠ 13 ∧ x ≠ 10) → unf k acc (ended rs) = unfR acc rs
  | [], acc, 0, _, _ => rfl
  | [], acc, k + 1, _, _ => by rw [unf, if_pos (show ended [] = [] from rfl)]; rfl
  | r :: rs, acc, 0, h, _ => by rw [ended_cons] at h; simp at h
  | r :: rs, acc, k + 1, h, hr => by
    have hc := cutE_row r (ended rs) (fun x hx => (hr r (by simp) x hx).1)
    have he : endB r = false := by
      unfold endB
      rw [List.any_eq_false]
      intro x hx
      have := hr r (by simp) x hx
      simp [this]
    rw [ended_cons] at h ⊢
    simp only [List.length_append, List.length_cons] at h
    rw [unf, if_neg (by simp), hc, he]
    simp only [Bool.not_true, Bool.false_or]
    rw [unfR, unf_rows rs _ k (by omega) (fun q hq => hr q (by simp [hq])), unf_rows rs _ k (by omega) (fun q hq => hr q (by simp [hq]))]
end Go.Proofs.Ut

/- What is folded is unfolded as it was, in plain words. -/
namespace Go.Proofs.Ut
open Go.Ai Classical
set_option linter.unusedSimpArgs false
set_option linter.unusedVariables false
set_option maxHeartbeats 1000000
set_option maxRecDepth 100000
theorem getLastD_app (acc : List (List UInt8)) (x d : List UInt8) : (acc ++ [x]).getLastD d = x := by
  rw [List.getLastD_eq_getLast?]; simp
theorem moreB_take {s : List UInt8} {n : Nat} (h : 0 < n) : moreB (s.take n) = moreB s := by
  unfold moreB
  rw [List.head?_take, if_neg (by omega)]
theorem unfR_rest (rs : List (List UInt8)) : ∀ k (s : List UInt8) acc x, s.length ≤ k → unfR (acc ++ [x]) (foldR s ++ rs) = unfR (acc ++ [x ++ s]) rs
  | k, [], acc, x, _ => by rw [foldR_nil, List.nil_append, List.append_nil]
  | 0, y :: s, acc, x, h => by simp at h
  | k + 1, y :: s, acc, x, h => by
    have hf := fits_le (y :: s) 74 (by simp)
    rw [foldR_step _ (by simp), List.cons_append, unfR, if_neg (by simp), if_pos (by simp [moreB]), List.dropLast_concat, getLastD_app, List.tail_cons,
      unfR_rest rs k _ acc _ (by rw [List.length_drop]; simp only [List.length_cons] at h ⊢; omega), List.append_assoc x, List.take_append_drop]
theorem unfR_line (acc rs : List (List UInt8)) (s : List UInt8) (hm : moreB s = false) : unfR acc (rowsL s ++ rs) = unfR (acc ++ [s]) rs := by
  rw [rowsL_eq, List.cons_append]
  have hm2 : moreB (s.take (fits s 75)) = false := by
    by_cases hs : s = []
    · subst hs; exact hm
    · rw [moreB_take (fits_le s 75 hs).1]; exact hm
  rw [unfR, hm2]
  simp only [Bool.false_and, Bool.false_eq_true, if_false]
  rw [unfR_rest rs _ _ acc _ (Nat.le_refl _), List.take_append_drop]
theorem unfR_all : ∀ (m acc : List (List UInt8)), (∀ s ∈ m, moreB s = false) → unfR acc (m.flatMap rowsL) = some (acc ++ m)
  | [], acc, _ => by simp [unfR]
  | s :: m, acc, h => by
    rw [List.flatMap_cons, unfR_line acc _ s (h s (by simp)), unfR_all m _ (fun x hx => h x (by simp [hx])), List.append_assoc]; rfl
theorem D_le4 (s : List UInt8) (i : Nat) : (D s i).2 ≤ 4 := by
  rw [D_eq]
  repeat' split
  all_goals simp
theorem fitA_max (s : List UInt8) (most : Nat) : ∀ k n, s.length - n ≤ k → 0 < n → fitA s most n ≤ max most n
  | 0, n, h, hn => by rw [fitA_end s most n (by omega)]; omega
  | k + 1, n, h, hn => by
    by_cases c : n < s.length
    · have := D_len s n c
      rw [fitA_step s most n c]
      split
      · omega
      · have := fitA_max s most k (n + (D s n).2) (by omega) (by omega)
        omega
    · rw [fitA_end s most n c]; omega
theorem fits_max (s : List UInt8) (most : Nat) (h : 4 ≤ most) : fits s most ≤ most := by
  by_cases h0 : 0 < s.length
  · have := D_le4 s 0
    have := D_len s 0 h0
    have e : fits s most = fitA s most 0 := rfl
    rw [e, fitA_step s most 0 h0, if_neg (by omega)]
    have := fitA_max s most _ (0 + (D s 0).2) (Nat.le_refl _) (by omega)
    omega
  · have : s = [] := List.eq_nil_of_length_eq_zero (by omega)
    subst this
    rw [fits_nil]; omega
theorem run_drop (p : Int → Bool) (s : List UInt8) (n : Nat) (hn : n ≤ s.length) : runAt p s n = runAt p (s.drop n) 0 := by
  have := runAt_shift p (s.take n) (s.drop n) _ 0 (Nat.le_refl _)
  rwa [List.take_append_drop, List.length_take, Nat.min_eq_left hn, Nat.add_zero] at this
theorem D_drop (s : List UInt8) (n : Nat) (hn : n ≤ s.length) : D s n = D (s.drop n) 0 := by
  have := D_shift (s.take n) (s.drop n) 0
  rwa [List.take_append_drop, List.length_take, Nat.min_eq_left hn, Nat.add_zero] at this
/-- A cut between characters. -/
theorem fit_cut (p : Int → Bool) (s : List UInt8) (most : Nat) : ∀ k n, s.length - n ≤ k → n ≤ s.length → runAt p (s.take n) 0 = true → runAt p s n = true → runAt p (s.take (fitA s most n)) 0 = true ∧ runAt p (s.drop (fitA s most n)) 0 = true
  | 0, n, h, hn, h1, h2 => by
    rw [fitA_end s most n (by omega)]
    exact ⟨h1, by rw [← run_drop p s n hn]; exact h2⟩
  | k + 1, n, h, hn, h1, h2 => by
    by_cases c : n < s.length
    · have hl := D_len s n c
      rw [fitA_step s most n c]
      split
      · exact ⟨h1, by rw [← run_drop p s n hn]; exact h2⟩
      · rw [runAt_step p s n c] at h2
        split at h2
        · cases h2
        rename_i hg
        rw [Bool.and_eq_true] at h2
        refine fit_cut p s most k _ (by omega) (by omega) ?_ h2.2
        have e : s.take (n + (D s n).2) = s.take n ++ (s.drop n).take (D s n).2 := List.take_add
        have hd := D_drop s n hn
        rw [e, runAt_app p h1, h1, Bool.true_and, hd, ← en_of (s.drop n) (by rw [List.length_drop]; omega) (by rw [← hd]; exact hg), ← hd]
        have := run_en p hl.2.2 []
        rw [List.append_nil] at this
        rw [this, run_nil, h2.1]; rfl
    · rw [fitA_end s most n c]
      exact ⟨h1, by rw [← run_drop p s n hn]; exact h2⟩
theorem fits_cut (p : Int → Bool) (s : List UInt8) (most : Nat) (h : runAt p s 0 = true) : runAt p (s.take (fits s most)) 0 = true ∧ runAt p (s.drop (fits s most)) 0 = true :=
  fit_cut p s most _ 0 (Nat.le_refl _) (Nat.zero_le _) (run_nil p) h
def rowG (r : List UInt8) : Prop := r.length ≤ 75 ∧ runAt mayB r 0 = true ∧ ∀ x ∈ r, x ≠ 13 ∧ x ≠ 10
theorem run32 (s : List UInt8) : runAt mayB (32 :: s) 0 = runAt mayB s 0 := by
  have := run_en mayB (c := 32) (by unfold okC; omega) s
  have e : en (32 : Nat) = [32] := by rw [en_eq (by unfold okC; omega)]; rfl
  rw [e] at this
  rw [List.singleton_append] at this
  rw [this]
  show (mayB 32 && _) = _
  rw [show mayB 32 = true by decide]; rfl
theorem rows_rest : ∀ k (s : List UInt8), s.length ≤ k → runAt mayB s 0 = true → (∀ x ∈ s, x ≠ 13 ∧ x ≠ 10) → ∀ r ∈ foldR s, rowG r
  | k, [], _, _, _ => by rw [foldR_nil]; simp
  | 0, y :: s, h, _, _ => by simp at h
  | k + 1, y :: s, h, hv, hn => by
    have hf := fits_le (y :: s) 74 (by simp)
    have hc := fits_cut mayB (y :: s) 74 hv
    rw [foldR_step _ (by simp)]
    intro r hr
    rcases List.mem_cons.1 hr with rfl | hr
    · refine ⟨?_, ?_, ?_⟩
      · have := fits_max (y :: s) 74 (by omega)
        simp only [List.length_cons, List.length_take]; omega
      · rw [run32]; exact hc.1
      · intro x hx
        rcases List.mem_cons.1 hx with rfl | hx
        · decide
        · exact hn x (List.mem_of_mem_take hx)
    · exact rows_rest k _ (by rw [List.length_drop]; simp only [List.length_cons] at h ⊢; omega) hc.2 (fun x hx => hn x (List.mem_of_mem_drop hx)) r hr
theorem rows_line (s : List UInt8) (hv : runAt mayB s 0 = true) (hn : ∀ x ∈ s, x ≠ 13 ∧ x ≠ 10) : ∀ r ∈ rowsL s, rowG r := by
  have hc := fits_cut mayB s 75 hv
  rw [rowsL_eq]
  intro r hr
  rcases List.mem_cons.1 hr with rfl | hr
  · refine ⟨?_, hc.1, fun x hx => hn x (List.mem_of_mem_take hx)⟩
    have := fits_max s 75 (by omega)
    rw [List.length_take]; omega
  · exact rows_rest _ _ (Nat.le_refl _) hc.2 (fun x hx => hn x (List.mem_of_mem_drop hx)) r hr
theorem run_ended : ∀ rs : List (List UInt8), (∀ r ∈ rs, runAt mayB r 0 = true) → runAt mayB (ended rs) 0 = true
  | [], _ => rfl
  | r :: rs, h => by
    rw [ended_cons, runAt_app mayB (h r (by simp)), h r (by simp), Bool.true_and]
    have ih := run_ended rs (fun q hq => h q (by simp [hq]))
    have e1 := run_en mayB (c := 13) (by unfold okC; omega) (10 :: ended rs)
    have e2 := run_en mayB (c := 10) (by unfold okC; omega) (ended rs)
    rw [show en (13 : Nat) = [13] by rw [en_eq (by unfold okC; omega)]; rfl, List.singleton_append] at e1
    rw [show en (10 : Nat) = [10] by rw [en_eq (by unfold okC; omega)]; rfl, List.singleton_append] at e2
    rw [e1, e2, ih]
    rfl
theorem foldR_len : ∀ k (s : List UInt8), s.length ≤ k → (ended (foldR s)).length = s.length + 3 * (foldR s).length
  | k, [], _ => by simp [foldR_nil, ended]
  | 0, y :: s, h => by simp at h
  | k + 1, y :: s, h => by
    have hf := fits_le (y :: s) 74 (by simp)
    rw [foldR_step _ (by simp), ended_cons]
    have ih := foldR_len k ((y :: s).drop (fits (y :: s) 74)) (by rw [List.length_drop]; simp only [List.length_cons] at h ⊢; omega)
    simp only [List.length_append, List.length_cons, List.length_take, List.length_drop] at ih ⊢
    simp only [List.length_cons] at hf
    omega
theorem rows_len (s : List UInt8) : (ended (rowsL s)).length + 1 = s.length + 3 * (rowsL s).length := by
  have h1 := foldR_len _ (s.drop (fits s 75)) (Nat.le_refl _)
  have h2 : fits s 75 ≤ s.length := by
    by_cases hs : s = []
    · subst hs; simp [fits_nil]
    · exact (fits_le s 75 hs).2
  rw [rowsL_eq, ended_cons]
  simp only [List.length_append, List.length_cons, List.length_take, List.length_drop] at h1 ⊢
  omega
theorem foldR_few : ∀ k (s : List UInt8), s.length ≤ k → (foldR s).length ≤ s.length
  | k, [], _ => by simp [foldR_nil]
  | 0, y :: s, h => by simp at h
  | k + 1, y :: s, h => by
    have hf := fits_le (y :: s) 74 (by simp)
    rw [foldR_step _ (by simp)]
    have ih := foldR_few k ((y :: s).drop (fits (y :: s) 74)) (by rw [List.length_drop]; simp only [List.length_cons] at h ⊢; omega)
    simp only [List.length_cons, List.length_drop] at ih hf ⊢
    omega
theorem rows_few (s : List UInt8) : (rowsL s).length ≤ s.length + 1 := by
  have h1 := foldR_few _ (s.drop (fits s 75)) (Nat.le_refl _)
  rw [rowsL_eq]
  simp only [List.length_cons, List.length_drop] at h1 ⊢
  omega
theorem foldF_len : ∀ l : List (List UInt8), (foldF l).length ≤ (l.map fun s => 4 * s.length + 2).sum
  | [] => by simp [foldF]
  | s :: l => by
    have h1 := rows_len s
    have h2 := rows_few s
    have ih := foldF_len l
    rw [foldF] at ih ⊢
    simp only [List.flatMap_cons, List.length_append, List.map_cons, List.sum_cons]
    omega
theorem count_ended : ∀ rs : List (List UInt8), (∀ r ∈ rs, ∀ x ∈ r, x ≠ 10) → (ended rs).count 10 = rs.length
  | [], _ => rfl
  | r :: rs, h => by
    rw [ended_cons, List.count_append, List.count_cons, List.count_cons, count_ended rs (fun q hq => h q (by simp [hq])), List.count_eq_zero.2 (fun hx => h r (by simp) 10 hx rfl)]
    simp
end Go.Proofs.Ut

/- A line folded anywhere between its characters, in plain words. -/
namespace Go.Proofs.Ut
open Go.Ai Classical
set_option linter.unusedSimpArgs false
set_option linter.unusedVariables false
set_option maxHeartbeats 1000000
set_option maxRecDepth 100000
/-- Characters, some with a row's end ahead of them. -/
def txt : List (Option UInt8 × Nat) → List UInt8
  | [] => []
  | (none, c) :: t => en c ++ txt t
  | (some b, c) :: t => 13 :: 10 :: b :: en c ++ txt t
def asR : List UInt8 → List (Option UInt8 × Nat) → List (List UInt8)
  | cur, [] => [cur]
  | cur, (none, c) :: t => asR (cur ++ en c) t
  | cur, (some b, c) :: t => cur :: asR (b :: en c) t
theorem txt_rows : ∀ (t : List (Option UInt8 × Nat)) (cur : List UInt8), cur ++ txt t ++ [13, 10] = ended (asR cur t)
  | [], cur => by simp [txt, asR, ended]
  | (none, c) :: t, cur => by rw [txt, asR, ← txt_rows t]; simp
  | (some b, c) :: t, cur => by rw [txt, asR, ended_cons, ← txt_rows t]; simp
theorem txt_app (a b : List (Option UInt8 × Nat)) : txt (a ++ b) = txt a ++ txt b := by
  induction a with
  | nil => rfl
  | cons x a ih =>
    obtain ⟨o, c⟩ := x
    cases o <;> simp [txt, ih]
def chars (t : List (Option UInt8 × Nat)) : List Nat := t.map (·.2)
def okT (t : List (Option UInt8 × Nat)) : Prop := ∀ x ∈ t, (okC x.2 ∧ mayB x.2 = true ∧ 32 ≤ x.2) ∧ (x.1 = none ∨ x.1 = some 32 ∨ x.1 = some 9)
theorem more_b {b : UInt8} {s : List UInt8} (h : b = 32 ∨ b = 9) : moreB (b :: s) = true := by
  rcases h with rfl | rfl <;> simp [moreB]
theorem unfR_as : ∀ (t : List (Option UInt8 × Nat)) (acc : List (List UInt8)) (x cur : List UInt8) (b : UInt8), okT t → (b = 32 ∨ b = 9) → unfR (acc ++ [x]) (asR (b :: cur) t) = some (acc ++ [x ++ (cur ++ wr (chars t))])
  | [], acc, x, cur, b, _, hb => by
    rw [asR, unfR, if_neg (by simp), if_pos (more_b hb), unfR, List.dropLast_concat, getLastD_app]
    simp [chars, wr]
  | (none, c) :: t, acc, x, cur, b, h, hb => by
    rw [asR, List.cons_append, unfR_as t acc x _ b (fun y hy => h y (by simp [hy])) hb]
    simp [chars, wr]
  | (some d, c) :: t, acc, x, cur, b, h, hb => by
    have hd : d = 32 ∨ d = 9 := by
      rcases (h (some d, c) (by simp)).2 with q | q | q
      · cases q
      · exact .inl (Option.some.inj q)
      · exact .inr (Option.some.inj q)
    rw [asR, unfR, if_neg (by simp), if_pos (more_b hb), List.dropLast_concat, getLastD_app, unfR_as t acc _ _ d (fun y hy => h y (by simp [hy])) hd]
    simp [chars, wr]
theorem unfR_first : ∀ (t : List (Option UInt8 × Nat)) (acc : List (List UInt8)) (x : UInt8) (cur : List UInt8), okT t → x ≠ 32 → x ≠ 9 → unfR acc (asR (x :: cur) t) = some (acc ++ [x :: (cur ++ wr (chars t))])
  | [], acc, x, cur, _, h1, h2 => by
    rw [asR, unfR, show moreB (x :: cur) = false by simp [moreB, h1, h2]]
    simp [unfR, chars, wr]
  | (none, c) :: t, acc, x, cur, h, h1, h2 => by
    rw [asR, List.cons_append, unfR_first t acc x _ (fun y hy => h y (by simp [hy])) h1 h2]
    simp [chars, wr]
  | (some d, c) :: t, acc, x, cur, h, h1, h2 => by
    have hd : d = 32 ∨ d = 9 := by
      rcases (h (some d, c) (by simp)).2 with q | q | q
      · cases q
      · exact .inl (Option.some.inj q)
      · exact .inr (Option.some.inj q)
    rw [asR, unfR, show moreB (x :: cur) = false by simp [moreB, h1, h2]]
    simp only [Bool.false_and, Bool.false_eq_true, if_false]
    rw [unfR_as t acc _ _ d (fun y hy => h y (by simp [hy])) hd]
    simp [chars, wr]
theorem en_low {c : Nat} (h : okC c) (h3 : 32 ≤ c) : ∀ x ∈ en (c : Int), x ≠ 13 ∧ x ≠ 10 := by
  have hu : ∀ n, 32 ≤ n → n < 256 → UInt8.ofNat n ≠ 13 ∧ UInt8.ofNat n ≠ 10 := fun n a b => by
    have := toNat_of n b
    refine ⟨fun e => ?_, fun e => ?_⟩ <;> rw [e] at this <;> simp at this <;> omega
  unfold okC at h
  rw [en_eq (by unfold okC; exact h)]
  intro x hx
  split at hx
  · simp only [List.mem_singleton] at hx; subst hx; exact hu _ (by omega) (by omega)
  split at hx
  · simp only [List.mem_cons, List.not_mem_nil, or_false] at hx
    rcases hx with rfl | rfl <;> exact hu _ (by omega) (by omega)
  split at hx
  · simp only [List.mem_cons, List.not_mem_nil, or_false] at hx
    rcases hx with rfl | rfl | rfl <;> exact hu _ (by omega) (by omega)
  · simp only [List.mem_cons, List.not_mem_nil, or_false] at hx
    rcases hx with rfl | rfl | rfl | rfl <;> exact hu _ (by omega) (by omega)
theorem run9 (s : List UInt8) : runAt mayB (9 :: s) 0 = runAt mayB s 0 := by
  have := run_en mayB (c := 9) (by unfold okC; omega) s
  have e : en (9 : Nat) = [9] := by rw [en_eq (by unfold okC; omega)]; rfl
  rw [e] at this
  rw [List.singleton_append] at this
  rw [this]
  show (mayB 9 && _) = _
  rw [show mayB 9 = true by decide]; rfl
theorem asR_good : ∀ (t : List (Option UInt8 × Nat)) (cur : List UInt8), okT t → (runAt mayB cur 0 = true ∧ ∀ x ∈ cur, x ≠ 13 ∧ x ≠ 10) → ∀ r ∈ asR cur t, runAt mayB r 0 = true ∧ ∀ x ∈ r, x ≠ 13 ∧ x ≠ 10
  | [], cur, _, hc => by rw [asR]; intro r hr; rw [List.mem_singleton] at hr; subst hr; exact hc
  | (none, c) :: t, cur, h, hc => by
    have h1 := (h (none, c) (by simp)).1
    rw [asR]
    refine asR_good t _ (fun y hy => h y (by simp [hy])) ⟨?_, fun x hx => ?_⟩
    · have := run_en mayB h1.1 []
      rw [List.append_nil] at this
      rw [runAt_app mayB hc.1, hc.1, this, run_nil, h1.2.1]; rfl
    · rcases List.mem_append.1 hx with hx | hx
      · exact hc.2 x hx
      · exact en_low h1.1 h1.2.2 x hx
  | (some d, c) :: t, cur, h, hc => by
    have h1 := h (some d, c) (by simp)
    rw [asR]
    intro r hr
    rcases List.mem_cons.1 hr with rfl | hr
    · exact hc
    · refine asR_good t _ (fun y hy => h y (by simp [hy])) ⟨?_, fun x hx => ?_⟩ r hr
      · have := run_en mayB h1.1.1 []
        rw [List.append_nil] at this
        rcases h1.2 with q | q | q
        · cases q
        · cases Option.some.inj q; rw [run32, this, run_nil, h1.1.2.1]; rfl
        · cases Option.some.inj q; rw [run9, this, run_nil, h1.1.2.1]; rfl
      · rcases List.mem_cons.1 hx with rfl | hx
        · rcases h1.2 with q | q | q
          · cases q
          · cases Option.some.inj q; decide
          · cases Option.some.inj q; decide
        · exact en_low h1.1.1 h1.1.2.2 x hx
theorem txt_len : ∀ t : List (Option UInt8 × Nat), okT t → (txt t).length ≤ 7 * t.length
  | [], _ => by simp [txt]
  | (o, c) :: t, h => by
    have h1 := (en_len (h (o, c) (by simp)).1.1).2.1
    have ih := txt_len t (fun y hy => h y (by simp [hy]))
    simp only at h1
    cases o <;> simp only [txt, List.length_append, List.length_cons] <;> omega
/-- It is the same line. -/
theorem any_where (x : UInt8) (t : List (Option UInt8 × Nat)) (h : okT t) (hx : x = 120) (k : Nat) (hk : (x :: txt t ++ [13, 10]).length ≤ k) : unf k [] (x :: txt t ++ [13, 10]) = some [x :: wr (chars t)] ∧ runAt mayB (x :: txt t ++ [13, 10]) 0 = true := by
  have e : x :: txt t ++ [13, 10] = ended (asR [x] t) := by rw [← txt_rows]; rfl
  have g := asR_good t [x] h (by subst hx; exact ⟨by decide, by decide⟩)
  rw [e] at hk ⊢
  refine ⟨?_, run_ended _ fun r hr => (g r hr).1⟩
  rw [unf_rows _ _ _ hk fun r hr => (g r hr).2, unfR_first t [] x [] h (by subst hx; decide) (by subst hx; decide)]
  rfl
end Go.Proofs.Ut
