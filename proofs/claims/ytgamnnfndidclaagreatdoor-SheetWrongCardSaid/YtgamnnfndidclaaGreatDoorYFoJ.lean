/- Cards: the plain law. -/
import Derived.Test.YtgamnnfndidclaaGreatDoorYO
import Derived.Lib.Case
import Derived.Test.YtgamnnfndidclaaGreatDoorYFoUtD
set_option linter.all false
namespace Go.Proofs.Ut
open Go.Ai
set_option linter.unusedSimpArgs false
set_option linter.unusedVariables false
set_option maxRecDepth 100000
theorem u8_all {P : UInt8 → Prop} (h : ∀ n, n < 256 → P (UInt8.ofNat n)) (c : UInt8) : P c := by
  have := h c.toNat (UInt8.toNat_lt c)
  rwa [UInt8.ofNat_toNat] at this
/-- The signs of a word. -/
def SGN : List UInt8 := [65, 66, 67, 68, 69, 70, 71, 72, 73, 74, 75, 76, 77, 78, 79, 80, 81, 82, 83, 84, 85, 86, 87, 88, 89, 90, 97, 98, 99, 100, 101, 102, 103, 104, 105, 106, 107, 108, 109, 110, 111, 112, 113, 114, 115, 116, 117, 118, 119, 120, 121, 122, 48, 49, 50, 51, 52, 53, 54, 55, 56, 57, 45]
def isS (c : UInt8) : Bool := SGN.contains c
def A4 : List UInt8 := [59, 58, 44, 34]
def A3 : List UInt8 := [59, 58, 44]
def up (s : List UInt8) : List UInt8 := s.map Lib.upperB
theorem sgn_a (c : UInt8) : isS c = true → c.toNat < 128 ∧ 32 ≤ c.toNat ∧ mayB c.toNat = true := u8_all (P := fun c => isS c = true → c.toNat < 128 ∧ 32 ≤ c.toNat ∧ mayB c.toNat = true) (by decide +kernel) c
def wordL (s : List UInt8) : List UInt8 := s.takeWhile isS
def restL (s : List UInt8) : List UInt8 := s.dropWhile isS
theorem word_rest (s : List UInt8) : wordL s ++ restL s = s := List.takeWhile_append_dropWhile
theorem word_sgn (s : List UInt8) : ∀ x ∈ wordL s, isS x = true := fun x hx => by
  have := List.all_takeWhile (p := isS) (l := s)
  exact List.all_eq_true.1 this x hx
/-- A parameter's value; a parameter. -/
def valueL (s : List UInt8) : List UInt8 × List UInt8 × Bool :=
  match s with
  | [] => ([], [], true)
  | x :: t => if x = 34 then cut 34 t else ((x :: t).takeWhile (fun c => !A4.contains c), (x :: t).dropWhile (fun c => !A4.contains c), true)
def paramL (s : List UInt8) : (List UInt8 × List UInt8) × List UInt8 × Bool :=
  if up (wordL s) = [] then ((up (wordL s), []), restL s, false) else
  match restL s with
  | [] => ((up (wordL s), []), [], false)
  | x :: t => if x = 61 then ((up (wordL s), (valueL t).1), (valueL t).2) else ((up (wordL s), []), x :: t, false)
def parsL : Nat → List (List UInt8 × List UInt8) → List UInt8 → List (List UInt8 × List UInt8) × List UInt8 × Bool
  | 0, acc, s => (acc, s, true)
  | k + 1, acc, s => match s with
    | [] => (acc, [], true)
    | x :: t => if x = 59 then (if (paramL t).2.2 = true then parsL k (acc ++ [(paramL t).1]) (paramL t).2.1 else (acc, (paramL t).2.1, false)) else (acc, x :: t, true)
theorem cut_yes (c : UInt8) : ∀ s : List UInt8, (cut c s).2.2 = true → s = (cut c s).1 ++ c :: (cut c s).2.1 ∧ c ∉ (cut c s).1
  | [], h => by simp [cut] at h
  | x :: s, h => by
    rw [cut] at h ⊢
    by_cases hx : x = c
    · rw [if_pos hx]; subst hx; simp
    · rw [if_neg hx] at h ⊢
      have := cut_yes c s h
      simp only at this ⊢
      refine ⟨by rw [List.cons_append, ← this.1], ?_⟩
      simp only [List.mem_cons, not_or]
      exact ⟨fun e => hx e.symm, this.2⟩
theorem value_len (s : List UInt8) : (valueL s).2.1.length ≤ s.length := by
  unfold valueL
  cases s with
  | nil => simp
  | cons x t =>
    simp only
    split
    · have := (cut_lenB 34 t).1; simp only [List.length_cons]; omega
    · exact (List.dropWhile_sublist _).length_le
theorem rest_len (s : List UInt8) : (restL s).length ≤ s.length := (List.dropWhile_sublist _).length_le
theorem param_len (s : List UInt8) : (paramL s).2.1.length ≤ s.length := by
  unfold paramL
  have := rest_len s
  split
  · exact this
  · cases hr : restL s with
    | nil => simp
    | cons x t =>
      rw [hr] at this
      simp only
      split
      · have h2 := value_len t
        simp only [List.length_cons] at this
        show (valueL t).2.1.length ≤ _
        omega
      · exact this
theorem parsL_fuel : ∀ k j acc (s : List UInt8), s.length ≤ k → s.length ≤ j → parsL k acc s = parsL j acc s
  | 0, 0, _, _, _, _ => rfl
  | 0, j + 1, acc, s, h, _ => by obtain rfl := List.eq_nil_of_length_eq_zero (show s.length = 0 by omega); rfl
  | k + 1, 0, acc, s, _, h => by obtain rfl := List.eq_nil_of_length_eq_zero (show s.length = 0 by omega); rfl
  | k + 1, j + 1, acc, [], _, _ => rfl
  | k + 1, j + 1, acc, x :: t, h1, h2 => by
    have := param_len t
    simp only [List.length_cons] at h1 h2
    simp only [parsL]
    rw [parsL_fuel k j _ (paramL t).2.1 (by omega) (by omega)]
def parsA (acc : List (List UInt8 × List UInt8)) (s : List UInt8) := parsL s.length acc s
theorem parsA_step (acc : List (List UInt8 × List UInt8)) (t : List UInt8) : parsA acc (59 :: t) = if (paramL t).2.2 = true then parsA (acc ++ [(paramL t).1]) (paramL t).2.1 else (acc, (paramL t).2.1, false) := by
  have := param_len t
  unfold parsA
  rw [List.length_cons, parsL, if_pos rfl, parsL_fuel t.length (paramL t).2.1.length _ _ (by omega) (Nat.le_refl _)]
theorem parsA_end (acc : List (List UInt8 × List UInt8)) (s : List UInt8) (h : s.head? ≠ some 59) : parsA acc s = (acc, s, true) := by
  cases s with
  | nil => rfl
  | cons x t =>
    unfold parsA
    rw [List.length_cons, parsL, if_neg (fun e => h (by rw [e]; rfl))]
/-- A property. -/
structure PR where
  g : List UInt8
  n : List UInt8
  ps : List (List UInt8 × List UInt8)
  v : List UInt8
  deriving DecidableEq
def headL (s : List UInt8) : List UInt8 × List UInt8 × List UInt8 :=
  if wordL s ≠ [] ∧ (restL s).head? = some 46 then (wordL s, wordL (restL s).tail, restL (restL s).tail) else ([], wordL s, restL s)
def lastL (s : List UInt8) : List UInt8 × Bool := if s.head? = some 58 then (s.tail, true) else (s, false)
def propL (s : List UInt8) : PR × Bool :=
  if up (headL s).2.1 = [] then (⟨(headL s).1, [], [], (lastL (headL s).2.2).1⟩, false) else
  if (parsA [] (headL s).2.2).2.2 = false then (⟨(headL s).1, up (headL s).2.1, (parsA [] (headL s).2.2).1, []⟩, false) else
  (⟨(headL s).1, up (headL s).2.1, (parsA [] (headL s).2.2).1, (lastL (parsA [] (headL s).2.2).2.1).1⟩, (lastL (parsA [] (headL s).2.2).2.1).2)
def quoL (v : List UInt8) : List UInt8 := if v = [] ∨ v.any A3.contains = true then 34 :: v ++ [34] else v
def attL (a : List UInt8 × List UInt8) : List UInt8 := 59 :: a.1 ++ 61 :: quoL a.2
def frontL (p : PR) : List UInt8 := if p.g = [] then p.n else p.g ++ 46 :: p.n
def writtenL (p : PR) : List UInt8 := frontL p ++ p.ps.flatMap attL ++ 58 :: p.v
end Go.Proofs.Ut

/- What the laws of fold ask first; what is folded is unfolded as it was. -/
namespace Go.Proofs.Ut
open Go.Ai Classical Go.Shelf Go.RowKit
set_option linter.unusedSimpArgs false
set_option linter.unusedVariables false
set_option maxHeartbeats 1000000
set_option maxRecDepth 100000
end Go.Proofs.Ut

/- What is refused: rows without their end, escapes that are none, too much. -/
namespace Go.Proofs.Ut
open Go.Ai Classical Go.Shelf Go.RowKit
set_option linter.unusedSimpArgs false
set_option linter.unusedVariables false
set_option maxHeartbeats 1000000
set_option maxRecDepth 100000
/-- Bytes in a row. -/
def byv (bs : List UInt8) : List (List DV) := bs.map fun b => [.int .u8 b.toNat]
theorem byv_set (bs : List UInt8) (i : Nat) (c : UInt8) (n : Int) (hn : (c.toNat : Int) = n) : (byv bs).set i [.int .u8 n] = byv (bs.set i c) := by
  subst hn
  unfold byv
  rw [List.map_set]
end Go.Proofs.Ut

/- What is folded is unfolded as it was. -/
namespace Go.Proofs.Ut
open Go.Ai Classical Go.Shelf Go.RowKit
set_option linter.unusedSimpArgs false
set_option linter.unusedVariables false
set_option maxHeartbeats 1000000
set_option maxRecDepth 100000
end Go.Proofs.Ut
