import Derived.Test.YtbhlmbacgbfaoaaDoorUtC
import Derived.Lib.TrimUEq
set_option linter.all false
namespace Go.Proofs.Ut
open Go.Ai Classical
set_option linter.unusedSimpArgs false
set_option maxHeartbeats 1000000
set_option maxRecDepth 100000
theorem D_len (s : List UInt8) (i : Nat) (hi : i < s.length) : 1 ≤ (D s i).2 ∧ i + (D s i).2 ≤ s.length ∧ okC (D s i).1 := by
  have hb := by_lt s i
  have m1 : by_ s (i + 1) % 64 < 64 := Nat.mod_lt _ (by omega)
  rw [D_eq]
  by_cases b1 : by_ s i < 128
  · rw [if_pos b1]; exact ⟨by simp, by simp; omega, by unfold okC; simp only; omega⟩
  rw [if_neg b1]
  have z : 1 ≤ ((65533, 1) : Nat × Nat).2 ∧ i + ((65533, 1) : Nat × Nat).2 ≤ s.length ∧ okC ((65533, 1) : Nat × Nat).1 := ⟨by simp, by simp; omega, by unfold okC; simp⟩
  by_cases c2 : by_ s i / 32 = 6 ∧ i + 1 < s.length ∧ by_ s (i + 1) / 64 = 2
  · rw [if_pos c2]
    split
    · exact ⟨by simp, by simp; omega, by
        have : by_ s i % 32 < 32 := Nat.mod_lt _ (by omega)
        unfold okC; simp only; omega⟩
    · exact z
  rw [if_neg c2]
  by_cases c3 : by_ s i / 16 = 14 ∧ (i + 1 < s.length ∧ by_ s (i + 1) / 64 = 2) ∧ i + 2 < s.length ∧ by_ s (i + 2) / 64 = 2
  · rw [if_pos c3]
    split
    · rename_i h; exact ⟨by simp, by simp; omega, h.2⟩
    · exact z
  rw [if_neg c3]
  by_cases c4 : by_ s i / 8 = 30 ∧ (i + 1 < s.length ∧ by_ s (i + 1) / 64 = 2) ∧ (i + 2 < s.length ∧ by_ s (i + 2) / 64 = 2) ∧ i + 3 < s.length ∧ by_ s (i + 3) / 64 = 2
  · rw [if_pos c4]
    split
    · rename_i h; exact ⟨by simp, by simp; omega, h.2⟩
    · exact z
  rw [if_neg c4]; exact z
/-- Characters all the way, of each of which something is so. -/
def run (p : Int → Bool) (s : List UInt8) : Nat → Nat → Bool
  | 0, _ => true
  | n + 1, i => if i < s.length then (if D s i = (65533, 1) then false else p (D s i).1 && run p s n (i + (D s i).2)) else true
theorem run_fuel (p : Int → Bool) (s : List UInt8) : ∀ n m i, s.length - i ≤ n → s.length - i ≤ m → run p s n i = run p s m i
  | 0, 0, _, _, _ => rfl
  | 0, m + 1, i, h, _ => by simp only [run]; rw [if_neg (by omega)]
  | n + 1, 0, i, _, h => by simp only [run]; rw [if_neg (by omega)]
  | n + 1, m + 1, i, h1, h2 => by
    simp only [run]
    by_cases hi : i < s.length
    · have := D_len s i hi
      rw [if_pos hi, if_pos hi, run_fuel p s n m (i + (D s i).2) (by omega) (by omega)]
    · rw [if_neg hi, if_neg hi]
def runAt (p : Int → Bool) (s : List UInt8) (i : Nat) : Bool := run p s (s.length - i) i
theorem runAt_step (p : Int → Bool) (s : List UInt8) (i : Nat) (hi : i < s.length) : runAt p s i = if D s i = (65533, 1) then false else p (D s i).1 && runAt p s (i + (D s i).2) := by
  have := D_len s i hi
  unfold runAt
  obtain ⟨n, hn⟩ : ∃ n, s.length - i = n + 1 := ⟨s.length - i - 1, by omega⟩
  rw [hn]
  simp only [run]
  rw [if_pos hi, run_fuel p s n (s.length - (i + (D s i).2)) _ (by omega) (Nat.le_refl _)]
theorem runAt_end (p : Int → Bool) (s : List UInt8) (i : Nat) (hi : ¬ i < s.length) : runAt p s i = true := by
  unfold runAt
  rw [show s.length - i = 0 by omega]; rfl
theorem rl_fuel (s : List UInt8) : ∀ n m i, s.length - i ≤ n → s.length - i ≤ m → runesL s n i = runesL s m i
  | 0, 0, _, _, _ => rfl
  | 0, m + 1, i, h, _ => by simp only [runesL]; rw [if_neg (by omega)]
  | n + 1, 0, i, _, h => by simp only [runesL]; rw [if_neg (by omega)]
  | n + 1, m + 1, i, h1, h2 => by
    simp only [runesL]
    by_cases hi : i < s.length
    · have : 1 ≤ (D s i).2 := (D_len s i hi).1
      rw [if_pos hi, if_pos hi]
      show _ :: runesL s n (i + (D s i).2) = _ :: runesL s m (i + (D s i).2)
      rw [rl_fuel s n m (i + (D s i).2) (by omega) (by omega)]
    · rw [if_neg hi, if_neg hi]
def rlAt (s : List UInt8) (i : Nat) : List Int := runesL s (s.length - i) i
theorem rlAt_step (s : List UInt8) (i : Nat) (hi : i < s.length) : rlAt s i = ((D s i).1 : Int) :: rlAt s (i + (D s i).2) := by
  have := (D_len s i hi).1
  unfold rlAt
  obtain ⟨n, hn⟩ : ∃ n, s.length - i = n + 1 := ⟨s.length - i - 1, by omega⟩
  rw [hn]
  simp only [runesL]
  rw [if_pos hi]
  show _ :: runesL s n (i + (D s i).2) = _
  rw [rl_fuel s n (s.length - (i + (D s i).2)) _ (by omega) (Nat.le_refl _)]
  rfl
theorem rlAt_end (s : List UInt8) (i : Nat) (hi : ¬ i < s.length) : rlAt s i = [] := by
  unfold rlAt
  rw [show s.length - i = 0 by omega]; rfl
theorem decodeL_at (s : List UInt8) (i : Nat) : Lib.decodeL (s.drop i) = D s i := by
  have := Lib.decodeL_drop ⟨s.toArray⟩ i
  simpa [D] using this
theorem validGo_run (s : List UInt8) : ∀ n i, s.length - i ≤ n → Lib.validGoD n (s.drop i) = run (fun _ => true) s n i
  | 0, _, _ => rfl
  | n + 1, i, h => by
    simp only [Lib.validGoD, run]
    by_cases hi : i < s.length
    · have hne : ¬ s.drop i = [] := by simp; omega
      have := D_len s i hi
      rw [if_neg hne, if_pos hi, decodeL_at, List.drop_drop, validGo_run s n (i + (D s i).2) (by omega), Bool.true_and]
      have e : ((D s i).1 = 65533 ∧ (D s i).2 = 1) ↔ D s i = (65533, 1) := by rw [Prod.ext_iff]
      by_cases hb : D s i = (65533, 1)
      · rw [if_pos hb, if_pos (e.2 hb)]
      · rw [if_neg hb, if_neg (fun q => hb (e.1 q))]
    · have hne : s.drop i = [] := by simp; omega
      rw [if_pos hne, if_neg hi]
theorem run_all (p : Int → Bool) (s : List UInt8) : ∀ n i, (run (fun _ => true) s n i && (runesL s n i).all p) = run p s n i
  | 0, _ => rfl
  | n + 1, i => by
    simp only [run, runesL]
    by_cases hi : i < s.length
    · rw [if_pos hi, if_pos hi, if_pos hi]
      by_cases hb : D s i = (65533, 1)
      · rw [if_pos hb, if_pos hb]; rfl
      · rw [if_neg hb, if_neg hb, ← run_all p s n (i + (D s i).2), List.all_cons, Bool.true_and]
        show (_ && (p (D s i).1 && (runesL s n (i + (D s i).2)).all p)) = _
        cases p (D s i).1 <;> cases run (fun _ => true) s n (i + (D s i).2) <;> rfl
    · rw [if_neg hi, if_neg hi, if_neg hi]; rfl
/-- A text: characters all the way, each of which may be. -/
theorem valid_runAt (p : Int → Bool) (s : List UInt8) : (Lib.validD s && (runes s).all p) = runAt p s 0 := by
  have h := validGo_run s s.length 0 (by omega)
  rw [List.drop_zero] at h
  unfold Lib.validD runes runAt
  rw [h, run_all, Nat.sub_zero]
theorem char_may {c : Nat} (h : okC c) : charB c = mayB c := by
  unfold okC at h
  unfold charB mayB shownB
  rw [Bool.eq_iff_iff]
  simp only [Bool.or_eq_true, Bool.and_eq_true, decide_eq_true_eq]
  omega
end Go.Proofs.Ut
