/- Characters and their bytes; lines in rows and rows as lines, in plain words. -/
import Derived.Test.YtgamnnfndidclaaGreatDoorAiUn
set_option linter.all false
namespace Go.Proofs.Ut
open Go.Ai Classical
set_option linter.unusedSimpArgs false
set_option linter.unusedVariables false
set_option maxHeartbeats 1000000
set_option maxRecDepth 100000
/-- How many bytes fit. -/
def fitG (s : List UInt8) (most : Nat) : Nat → Nat → Nat
  | 0, n => n
  | k + 1, n => if n < s.length then (if 0 < n ∧ most < n + (D s n).2 then n else fitG s most k (n + (D s n).2)) else n
def fits (s : List UInt8) (most : Nat) : Nat := fitG s most s.length 0
theorem fitG_fuel (s : List UInt8) (most : Nat) : ∀ k j n, s.length - n ≤ k → s.length - n ≤ j → fitG s most k n = fitG s most j n
  | 0, 0, _, _, _ => rfl
  | 0, j + 1, n, h, _ => by rw [fitG, fitG, if_neg (by omega)]
  | k + 1, 0, n, _, h => by rw [fitG, fitG, if_neg (by omega)]
  | k + 1, j + 1, n, h1, h2 => by
    rw [fitG, fitG]
    by_cases hn : n < s.length
    · have := D_len s n hn
      rw [if_pos hn, if_pos hn, fitG_fuel s most k j (n + (D s n).2) (by omega) (by omega)]
    · rw [if_neg hn, if_neg hn]
/-- From some place on. -/
def fitA (s : List UInt8) (most n : Nat) : Nat := fitG s most (s.length - n) n
theorem fitA_step (s : List UInt8) (most n : Nat) (hn : n < s.length) : fitA s most n = if 0 < n ∧ most < n + (D s n).2 then n else fitA s most (n + (D s n).2) := by
  have := D_len s n hn
  rw [fitA, show s.length - n = (s.length - n - 1) + 1 by omega, fitG, if_pos hn, fitG_fuel s most _ (s.length - (n + (D s n).2)) (n + (D s n).2) (by omega) (Nat.le_refl _)]
  rfl
theorem fitA_end (s : List UInt8) (most n : Nat) (hn : ¬ n < s.length) : fitA s most n = n := by
  rw [fitA, show s.length - n = 0 by omega]; rfl
theorem fitA_le (s : List UInt8) (most : Nat) : ∀ k n, s.length - n ≤ k → n ≤ s.length → n ≤ fitA s most n ∧ fitA s most n ≤ s.length
  | 0, n, h, hn => by rw [fitA_end s most n (by omega)]; omega
  | k + 1, n, h, hn => by
    by_cases c : n < s.length
    · have := D_len s n c
      have ih := fitA_le s most k (n + (D s n).2) (by omega) (by omega)
      rw [fitA_step s most n c]
      split <;> omega
    · rw [fitA_end s most n c]; omega
theorem fits_le (s : List UInt8) (most : Nat) (h : s ≠ []) : 0 < fits s most ∧ fits s most ≤ s.length := by
  have h0 : 0 < s.length := List.length_pos_iff.2 h
  have := D_len s 0 h0
  have e : fits s most = fitA s most 0 := rfl
  rw [e, fitA_step s most 0 h0, if_neg (by omega)]
  have := fitA_le s most _ (0 + (D s 0).2) (Nat.le_refl _) (by omega)
  omega
theorem fits_nil (most : Nat) : fits [] most = 0 := rfl
/-- What is behind the first row of a line. -/
def foldT : Nat → List UInt8 → List (List UInt8)
  | 0, _ => []
  | k + 1, s => if s = [] then [] else (32 :: s.take (fits s 74)) :: foldT k (s.drop (fits s 74))
def rowsL (s : List UInt8) : List (List UInt8) := s.take (fits s 75) :: foldT s.length (s.drop (fits s 75))
def ended (l : List (List UInt8)) : List UInt8 := l.flatMap fun r => r ++ [13, 10]
def foldF (l : List (List UInt8)) : List UInt8 := l.flatMap fun s => ended (rowsL s)
theorem ended_cons (r : List UInt8) (l : List (List UInt8)) : ended (r :: l) = r ++ 13 :: 10 :: ended l := by simp [ended]
theorem foldT_fuel : ∀ k j (s : List UInt8), s.length ≤ k → s.length ≤ j → foldT k s = foldT j s
  | 0, 0, _, _, _ => rfl
  | 0, j + 1, s, h, _ => by rw [foldT, foldT, if_pos (List.eq_nil_of_length_eq_zero (by omega))]
  | k + 1, 0, s, _, h => by rw [foldT, foldT, if_pos (List.eq_nil_of_length_eq_zero (by omega))]
  | k + 1, j + 1, s, h1, h2 => by
    rw [foldT, foldT]
    by_cases hs : s = []
    · rw [if_pos hs, if_pos hs]
    · have := fits_le s 74 hs
      rw [if_neg hs, if_neg hs, foldT_fuel k j _ (by rw [List.length_drop]; omega) (by rw [List.length_drop]; omega)]
def foldR (s : List UInt8) : List (List UInt8) := foldT s.length s
theorem foldR_step (s : List UInt8) (hs : s ≠ []) : foldR s = (32 :: s.take (fits s 74)) :: foldR (s.drop (fits s 74)) := by
  have := fits_le s 74 hs
  have h0 : 0 < s.length := List.length_pos_iff.2 hs
  rw [foldR, show s.length = (s.length - 1) + 1 by omega, foldT, if_neg hs, foldT_fuel _ (s.drop (fits s 74)).length _ (by rw [List.length_drop]; omega) (Nat.le_refl _)]
  rfl
theorem foldR_nil : foldR [] = [] := rfl
theorem rowsL_eq (s : List UInt8) : rowsL s = s.take (fits s 75) :: foldR (s.drop (fits s 75)) := by
  rw [rowsL, foldR, foldT_fuel s.length _ _ (by simp) (Nat.le_refl _)]
def endB (r : List UInt8) : Bool := r.any fun x => decide (x = 13) || decide (x = 10)
end Go.Proofs.Ut

/- What is folded is unfolded as it was, in plain words. -/
namespace Go.Proofs.Ut
open Go.Ai Classical
set_option linter.unusedSimpArgs false
set_option linter.unusedVariables false
set_option maxHeartbeats 1000000
set_option maxRecDepth 100000
theorem D_drop (s : List UInt8) (n : Nat) (hn : n ≤ s.length) : D s n = D (s.drop n) 0 := by
  have := D_shift (s.take n) (s.drop n) 0
  rwa [List.take_append_drop, List.length_take, Nat.min_eq_left hn, Nat.add_zero] at this
theorem foldR_len : ∀ k (s : List UInt8), s.length ≤ k → (ended (foldR s)).length = s.length + 3 * (foldR s).length
  | k, [], _ => by simp [foldR_nil, ended]
  | 0, y :: s, h => by simp at h
  | k + 1, y :: s, h => by
    have hf := fits_le (y :: s) 74 (by simp)
    rw [foldR_step _ (by simp), ended_cons]
    have ih := foldR_len k ((y :: s).drop (fits (y :: s) 74)) (by rw [List.length_drop]; simp only [List.length_cons] at h ⊢; omega)
    simp only [List.length_append, List.length_cons, List.length_take, List.length_drop] at ih ⊢
    simp only [List.length_cons] at hf
    omega
theorem rows_len (s : List UInt8) : (ended (rowsL s)).length + 1 = s.length + 3 * (rowsL s).length := by
  have h1 := foldR_len _ (s.drop (fits s 75)) (Nat.le_refl _)
  have h2 : fits s 75 ≤ s.length := by
    by_cases hs : s = []
    · subst hs; simp [fits_nil]
    · exact (fits_le s 75 hs).2
  rw [rowsL_eq, ended_cons]
  simp only [List.length_append, List.length_cons, List.length_take, List.length_drop] at h1 ⊢
  omega
theorem foldR_few : ∀ k (s : List UInt8), s.length ≤ k → (foldR s).length ≤ s.length
  | k, [], _ => by simp [foldR_nil]
  | 0, y :: s, h => by simp at h
  | k + 1, y :: s, h => by
    have hf := fits_le (y :: s) 74 (by simp)
    rw [foldR_step _ (by simp)]
    have ih := foldR_few k ((y :: s).drop (fits (y :: s) 74)) (by rw [List.length_drop]; simp only [List.length_cons] at h ⊢; omega)
    simp only [List.length_cons, List.length_drop] at ih hf ⊢
    omega
theorem rows_few (s : List UInt8) : (rowsL s).length ≤ s.length + 1 := by
  have h1 := foldR_few _ (s.drop (fits s 75)) (Nat.le_refl _)
  rw [rowsL_eq]
  simp only [List.length_cons, List.length_drop] at h1 ⊢
  omega
theorem foldF_len : ∀ l : List (List UInt8), (foldF l).length ≤ (l.map fun s => 4 * s.length + 2).sum
  | [] => by simp [foldF]
  | s :: l => by
    have h1 := rows_len s
    have h2 := rows_few s
    have ih := foldF_len l
    rw [foldF] at ih ⊢
    simp only [List.flatMap_cons, List.length_append, List.map_cons, List.sum_cons]
    omega
end Go.Proofs.Ut

/- A line folded anywhere between its characters, in plain words. -/
namespace Go.Proofs.Ut
open Go.Ai Classical
set_option linter.unusedSimpArgs false
set_option linter.unusedVariables false
set_option maxHeartbeats 1000000
set_option maxRecDepth 100000
end Go.Proofs.Ut
