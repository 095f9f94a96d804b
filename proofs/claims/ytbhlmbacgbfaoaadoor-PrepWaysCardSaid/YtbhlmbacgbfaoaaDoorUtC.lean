import Derived.Test.YtbhlmbacgbfaoaaDoorUtB
set_option linter.all false
namespace Go.Proofs.Ut
open Go.Ai Classical
set_option linter.unusedSimpArgs false
set_option maxHeartbeats 1000000
set_option maxRecDepth 100000
/-- The model's decoder, over a list. -/
def D (s : List UInt8) (i : Nat) : Nat × Nat := Utf8.decode ⟨s.toArray⟩ i
theorem get_by (s : List UInt8) (i : Nat) : ((⟨s.toArray⟩ : ByteArray).get! i).toNat = by_ s i := by
  simp [ByteArray.get!, by_]
  rfl
def okC (c : Nat) : Prop := c < 55296 ∨ (57344 ≤ c ∧ c ≤ 1114111)
theorem valid_iff (c : Nat) : Utf8.valid (c : Int) = true ↔ okC c := by
  simp [Utf8.valid, okC]; omega
theorem D_eq (s : List UInt8) (i : Nat) : D s i =
    (if by_ s i < 128 then (by_ s i, 1)
     else if by_ s i / 32 = 6 ∧ i + 1 < s.length ∧ by_ s (i + 1) / 64 = 2 then
       (if by_ s i % 32 * 64 + by_ s (i + 1) % 64 ≥ 128 then (by_ s i % 32 * 64 + by_ s (i + 1) % 64, 2) else (65533, 1))
     else if by_ s i / 16 = 14 ∧ (i + 1 < s.length ∧ by_ s (i + 1) / 64 = 2) ∧ i + 2 < s.length ∧ by_ s (i + 2) / 64 = 2 then
       (if by_ s i % 16 * 4096 + by_ s (i + 1) % 64 * 64 + by_ s (i + 2) % 64 ≥ 2048 ∧ okC (by_ s i % 16 * 4096 + by_ s (i + 1) % 64 * 64 + by_ s (i + 2) % 64) then (by_ s i % 16 * 4096 + by_ s (i + 1) % 64 * 64 + by_ s (i + 2) % 64, 3) else (65533, 1))
     else if by_ s i / 8 = 30 ∧ (i + 1 < s.length ∧ by_ s (i + 1) / 64 = 2) ∧ (i + 2 < s.length ∧ by_ s (i + 2) / 64 = 2) ∧ i + 3 < s.length ∧ by_ s (i + 3) / 64 = 2 then
       (if by_ s i % 8 * 262144 + by_ s (i + 1) % 64 * 4096 + by_ s (i + 2) % 64 * 64 + by_ s (i + 3) % 64 ≥ 65536 ∧ okC (by_ s i % 8 * 262144 + by_ s (i + 1) % 64 * 4096 + by_ s (i + 2) % 64 * 64 + by_ s (i + 3) % 64) then (by_ s i % 8 * 262144 + by_ s (i + 1) % 64 * 4096 + by_ s (i + 2) % 64 * 64 + by_ s (i + 3) % 64, 4) else (65533, 1))
     else (65533, 1)) := by
  unfold D Utf8.decode
  simp only [get_by, Nat.add_zero, Bool.and_eq_true, decide_eq_true_eq, beq_iff_eq, and_assoc, Utf8.runeError, valid_iff, ge_iff_le]
  rfl
theorem D1 {s : List UInt8} {i : Nat} (h : by_ s i < 128) : D s i = (by_ s i, 1) := by rw [D_eq, if_pos h]
theorem D2 {s : List UInt8} {i : Nat} (h : 192 ≤ by_ s i ∧ by_ s i < 224) : D s i = if i + 1 < s.length ∧ by_ s (i + 1) / 64 = 2 then
    (if by_ s i % 32 * 64 + by_ s (i + 1) % 64 ≥ 128 then (by_ s i % 32 * 64 + by_ s (i + 1) % 64, 2) else (65533, 1)) else (65533, 1) := by
  have n1 : ¬ by_ s i < 128 := by omega
  have n2 : ¬ by_ s i / 16 = 14 := by omega
  have n3 : ¬ by_ s i / 8 = 30 := by omega
  have e : by_ s i / 32 = 6 := by omega
  rw [D_eq, if_neg n1]
  by_cases c : i + 1 < s.length ∧ by_ s (i + 1) / 64 = 2
  · rw [if_pos ⟨e, c⟩, if_pos c]
  · rw [if_neg (fun q => c q.2), if_neg (fun q => n2 q.1), if_neg (fun q => n3 q.1), if_neg c]
theorem D3 {s : List UInt8} {i : Nat} (h : 224 ≤ by_ s i ∧ by_ s i < 240) : D s i = if (i + 1 < s.length ∧ by_ s (i + 1) / 64 = 2) ∧ i + 2 < s.length ∧ by_ s (i + 2) / 64 = 2 then
    (if by_ s i % 16 * 4096 + by_ s (i + 1) % 64 * 64 + by_ s (i + 2) % 64 ≥ 2048 ∧ okC (by_ s i % 16 * 4096 + by_ s (i + 1) % 64 * 64 + by_ s (i + 2) % 64) then (by_ s i % 16 * 4096 + by_ s (i + 1) % 64 * 64 + by_ s (i + 2) % 64, 3) else (65533, 1)) else (65533, 1) := by
  have n1 : ¬ by_ s i < 128 := by omega
  have n2 : ¬ by_ s i / 32 = 6 := by omega
  have n3 : ¬ by_ s i / 8 = 30 := by omega
  have e : by_ s i / 16 = 14 := by omega
  rw [D_eq, if_neg n1, if_neg (fun q => n2 q.1)]
  by_cases c : (i + 1 < s.length ∧ by_ s (i + 1) / 64 = 2) ∧ i + 2 < s.length ∧ by_ s (i + 2) / 64 = 2
  · rw [if_pos ⟨e, c⟩, if_pos c]
  · rw [if_neg (fun q => c q.2), if_neg (fun q => n3 q.1), if_neg c]
theorem D4 {s : List UInt8} {i : Nat} (h : 240 ≤ by_ s i ∧ by_ s i < 248) : D s i = if (i + 1 < s.length ∧ by_ s (i + 1) / 64 = 2) ∧ (i + 2 < s.length ∧ by_ s (i + 2) / 64 = 2) ∧ i + 3 < s.length ∧ by_ s (i + 3) / 64 = 2 then
    (if by_ s i % 8 * 262144 + by_ s (i + 1) % 64 * 4096 + by_ s (i + 2) % 64 * 64 + by_ s (i + 3) % 64 ≥ 65536 ∧ okC (by_ s i % 8 * 262144 + by_ s (i + 1) % 64 * 4096 + by_ s (i + 2) % 64 * 64 + by_ s (i + 3) % 64) then (by_ s i % 8 * 262144 + by_ s (i + 1) % 64 * 4096 + by_ s (i + 2) % 64 * 64 + by_ s (i + 3) % 64, 4) else (65533, 1)) else (65533, 1) := by
  have n1 : ¬ by_ s i < 128 := by omega
  have n2 : ¬ by_ s i / 32 = 6 := by omega
  have n3 : ¬ by_ s i / 16 = 14 := by omega
  have e : by_ s i / 8 = 30 := by omega
  rw [D_eq, if_neg n1, if_neg (fun q => n2 q.1), if_neg (fun q => n3 q.1)]
  by_cases c : (i + 1 < s.length ∧ by_ s (i + 1) / 64 = 2) ∧ (i + 2 < s.length ∧ by_ s (i + 2) / 64 = 2) ∧ i + 3 < s.length ∧ by_ s (i + 3) / 64 = 2
  · rw [if_pos ⟨e, c⟩, if_pos c]
  · rw [if_neg (fun q => c q.2), if_neg c]
theorem D0 {s : List UInt8} {i : Nat} (h1 : ¬ by_ s i < 128) (h2 : ¬ (192 ≤ by_ s i ∧ by_ s i < 248)) (hb : by_ s i < 256) : D s i = (65533, 1) := by
  have n2 : ¬ by_ s i / 32 = 6 := by omega
  have n3 : ¬ by_ s i / 16 = 14 := by omega
  have n4 : ¬ by_ s i / 8 = 30 := by omega
  rw [D_eq, if_neg h1, if_neg (fun q => n2 q.1), if_neg (fun q => n3 q.1), if_neg (fun q => n4 q.1)]
theorem bad_eq {x : Nat × Nat} (h : x = (65533, 1)) : (0, 0) = if x = (65533, 1) then (0, 0) else x := by rw [if_pos h]
theorem good_eq {x : Nat × Nat} (h : x.2 ≠ 1 ∨ x.1 ≠ 65533) : x = if x = (65533, 1) then (0, 0) else x := by
  rw [if_neg]
  rintro rfl
  rcases h with h | h <;> exact h rfl
/-- The document's decoder is Go's, but for what is no character. -/
theorem decR_D (s : List UInt8) (i : Nat) (hi : i < s.length) : decR s i = if D s i = (65533, 1) then (0, 0) else D s i := by
  have hb := by_lt s i
  unfold decR
  by_cases b1 : by_ s i < 128
  · have hD := D1 b1
    rw [if_pos b1]
    have hT : tailR s i 1 0 (by_ s i) = (by_ s i, 1) := by
      unfold tailR
      rw [if_neg (by omega), if_pos (fun k h1 h2 => by omega), if_neg (by simp [accR]; omega)]
      rfl
    rw [hT, ← hD]
    exact good_eq (.inr (by rw [hD]; simp only; omega))
  rw [if_neg b1]
  by_cases b2 : 192 ≤ by_ s i ∧ by_ s i < 224
  · have hD := D2 b2
    rw [if_pos b2]
    have ea : accR s i (by_ s i % 32) (2 - 1) = by_ s i % 32 * 64 + by_ s (i + 1) % 64 := rfl
    have hall : (∀ k, 1 ≤ k → k < 2 → by_ s (i + k) / 64 = 2) ↔ by_ s (i + 1) / 64 = 2 := by
      constructor
      · exact fun h => h 1 (by omega) (by omega)
      · intro h k h1 h2
        obtain rfl : k = 1 := by omega
        exact h
    unfold tailR
    rw [ea]
    have m0 : by_ s i % 32 < 32 := Nat.mod_lt _ (by omega)
    have m1 : by_ s (i + 1) % 64 < 64 := Nat.mod_lt _ (by omega)
    generalize hg : by_ s i % 32 * 64 + by_ s (i + 1) % 64 = c at hD
    by_cases hc : i + 1 < s.length ∧ by_ s (i + 1) / 64 = 2
    · rw [if_pos hc] at hD
      rw [if_neg (by omega), if_pos (hall.2 hc.2)]
      by_cases h8 : c ≥ 128
      · rw [if_pos h8] at hD
        rw [if_neg (by omega), ← hD]
        exact good_eq (.inl (by rw [hD]; simp))
      · rw [if_neg h8] at hD
        rw [if_pos (by omega)]; exact bad_eq hD
    · rw [if_neg hc] at hD
      by_cases hl : i + 2 > s.length
      · rw [if_pos hl]; exact bad_eq hD
      · rw [if_neg hl, if_neg (fun h => hc ⟨by omega, hall.1 h⟩)]; exact bad_eq hD
  rw [if_neg b2]
  by_cases b3 : 224 ≤ by_ s i ∧ by_ s i < 240
  · have hD := D3 b3
    rw [if_pos b3]
    have hall : (∀ k, 1 ≤ k → k < 3 → by_ s (i + k) / 64 = 2) ↔ by_ s (i + 1) / 64 = 2 ∧ by_ s (i + 2) / 64 = 2 := by
      constructor
      · exact fun h => ⟨h 1 (by omega) (by omega), h 2 (by omega) (by omega)⟩
      · intro h k h1 h2
        have : k = 1 ∨ k = 2 := by omega
        rcases this with rfl | rfl
        · exact h.1
        · exact h.2
    have ea : accR s i (by_ s i % 16) (3 - 1) = by_ s i % 16 * 4096 + by_ s (i + 1) % 64 * 64 + by_ s (i + 2) % 64 := by
      show (by_ s i % 16 * 64 + by_ s (i + 1) % 64) * 64 + by_ s (i + 2) % 64 = _
      omega
    unfold tailR
    rw [ea]
    generalize hg : by_ s i % 16 * 4096 + by_ s (i + 1) % 64 * 64 + by_ s (i + 2) % 64 = c at hD
    by_cases hc : (i + 1 < s.length ∧ by_ s (i + 1) / 64 = 2) ∧ i + 2 < s.length ∧ by_ s (i + 2) / 64 = 2
    · rw [if_pos hc] at hD
      rw [if_neg (by omega), if_pos (hall.2 ⟨hc.1.2, hc.2.2⟩)]
      by_cases h8 : c ≥ 2048 ∧ okC c
      · rw [if_pos h8] at hD
        rw [if_neg (by unfold okC at h8; omega), ← hD]
        exact good_eq (.inl (by rw [hD]; simp))
      · rw [if_neg h8] at hD
        rw [if_pos (by unfold okC at h8; omega)]; exact bad_eq hD
    · rw [if_neg hc] at hD
      by_cases hl : i + 3 > s.length
      · rw [if_pos hl]; exact bad_eq hD
      · rw [if_neg hl, if_neg (fun h => hc ⟨⟨by omega, (hall.1 h).1⟩, by omega, (hall.1 h).2⟩)]; exact bad_eq hD
  rw [if_neg b3]
  by_cases b4 : 240 ≤ by_ s i ∧ by_ s i < 248
  · have hD := D4 b4
    rw [if_pos b4]
    have hall : (∀ k, 1 ≤ k → k < 4 → by_ s (i + k) / 64 = 2) ↔ by_ s (i + 1) / 64 = 2 ∧ by_ s (i + 2) / 64 = 2 ∧ by_ s (i + 3) / 64 = 2 := by
      constructor
      · exact fun h => ⟨h 1 (by omega) (by omega), h 2 (by omega) (by omega), h 3 (by omega) (by omega)⟩
      · intro h k h1 h2
        have : k = 1 ∨ k = 2 ∨ k = 3 := by omega
        rcases this with rfl | rfl | rfl
        · exact h.1
        · exact h.2.1
        · exact h.2.2
    have ea : accR s i (by_ s i % 8) (4 - 1) = by_ s i % 8 * 262144 + by_ s (i + 1) % 64 * 4096 + by_ s (i + 2) % 64 * 64 + by_ s (i + 3) % 64 := by
      show ((by_ s i % 8 * 64 + by_ s (i + 1) % 64) * 64 + by_ s (i + 2) % 64) * 64 + by_ s (i + 3) % 64 = _
      omega
    unfold tailR
    rw [ea]
    generalize hg : by_ s i % 8 * 262144 + by_ s (i + 1) % 64 * 4096 + by_ s (i + 2) % 64 * 64 + by_ s (i + 3) % 64 = c at hD
    by_cases hc : (i + 1 < s.length ∧ by_ s (i + 1) / 64 = 2) ∧ (i + 2 < s.length ∧ by_ s (i + 2) / 64 = 2) ∧ i + 3 < s.length ∧ by_ s (i + 3) / 64 = 2
    · rw [if_pos hc] at hD
      rw [if_neg (by omega), if_pos (hall.2 ⟨hc.1.2, hc.2.1.2, hc.2.2.2⟩)]
      by_cases h8 : c ≥ 65536 ∧ okC c
      · rw [if_pos h8] at hD
        rw [if_neg (by unfold okC at h8; omega), ← hD]
        exact good_eq (.inl (by rw [hD]; simp))
      · rw [if_neg h8] at hD
        rw [if_pos (by unfold okC at h8; omega)]; exact bad_eq hD
    · rw [if_neg hc] at hD
      by_cases hl : i + 4 > s.length
      · rw [if_pos hl]; exact bad_eq hD
      · rw [if_neg hl, if_neg (fun h => hc ⟨⟨by omega, (hall.1 h).1⟩, ⟨by omega, (hall.1 h).2.1⟩, by omega, (hall.1 h).2.2⟩)]; exact bad_eq hD
  rw [if_neg b4]
  exact bad_eq (D0 b1 (by omega) hb)
end Go.Proofs.Ut
