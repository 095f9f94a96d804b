/- What is refused: rows without their end, escapes that are none, too much. -/
import Derived.Test.YtbnmhlienklfpaaGreatDoorZFoE
set_option linter.all false
namespace Go.Proofs.Ut
open Go.Ai Classical Go.Shelf Go.RowKit
set_option linter.unusedSimpArgs false
set_option linter.unusedVariables false
set_option maxHeartbeats 1000000
set_option maxRecDepth 100000
theorem wrap_u64_bd (x : Int) : 0 ≤ IntKind.u64.wrap x ∧ IntKind.u64.wrap x < 18446744073709551616 := by
  simp only [IntKind.wrap, IntKind.bits, IntKind.signed]
  simp
  constructor
  · exact Int.emod_nonneg _ (by decide)
  · exact Int.emod_lt_of_pos _ (by decide)
theorem tmod_range (x m : Int) (hx : 0 ≤ x) (hm : 0 < m) : 0 ≤ x.tmod m ∧ x.tmod m < m := by
  rw [Int.tmod_eq_emod_of_nonneg hx]
  exact ⟨Int.emod_nonneg _ (by omega), Int.emod_lt_of_pos _ hm⟩
def T9 : List (List UInt8) := [[97], [97, 10], [97, 13], [97, 13, 98, 13, 10], [32, 97, 13, 10], [9, 97, 13, 10], [97, 13, 10, 98], [10, 13, 10], [97, 13, 13, 10]]
def T5 : List (List UInt8) := [[92], [92, 120], [97, 92], [92, 92, 92], [92, 116]]
def resU : Option (List (List UInt8)) → List (List UInt8) × Int
  | none => ([], 17)
  | some l => (l, 0)
theorem unfoldR_good {s : List UInt8} {R : Option (List (List UInt8))} (hl : s.length ≤ 20000) (h : runAt mayB s 0 = true) (e : unfA [] s = R) : unfoldR s = resU R := by
  subst e
  unfold unfoldR
  rw [if_neg (by omega), h, if_neg (by simp)]
  cases unfA [] s <;> rfl
theorem unfoldR_asc {s : List UInt8} {R : Option (List (List UInt8))} (hl : s.length ≤ 20000) (h : ∀ b ∈ s, b.toNat < 128) (hm : s.all (fun b => mayB b.toNat) = true) (e : unfA [] s = R) : unfoldR s = resU R :=
  unfoldR_good hl (by rw [(run_ascii mayB s h).1, hm]) e
theorem refused9 : ∀ k, k < 9 → unfoldR (T9.getD k []) = ([], 17) := by
  intro k hk
  have h : k = 0 ∨ k = 1 ∨ k = 2 ∨ k = 3 ∨ k = 4 ∨ k = 5 ∨ k = 6 ∨ k = 7 ∨ k = 8 := by omega
  rcases h with rfl | rfl | rfl | rfl | rfl | rfl | rfl | rfl | rfl <;> exact unfoldR_asc (R := none) (by decide) (by decide) (by decide) rfl
theorem refused5 : ∀ k, k < 5 → plainF (T5.getD k []) = none := by
  intro k hk
  have h : k = 0 ∨ k = 1 ∨ k = 2 ∨ k = 3 ∨ k = 4 := by omega
  rcases h with rfl | rfl | rfl | rfl | rfl <;> simp [T5, plainF, escC]
/-- Bytes in a row. -/
def byv (bs : List UInt8) : List (List DV) := bs.map fun b => [.int .u8 b.toNat]
theorem optB {bs : List UInt8} {i : Nat} {K : List DV → Prop} (h : i < bs.length) (hk : ∀ x : Int, K [.int .u8 x]) : optP (byv bs)[i]? K := by
  unfold byv
  rw [optP_map]
  exact optP_at 0 h (hk _)
theorem byv_set (bs : List UInt8) (i : Nat) (c : UInt8) (n : Int) (hn : (c.toNat : Int) = n) : (byv bs).set i [.int .u8 n] = byv (bs.set i c) := by
  subst hn
  unfold byv
  rw [List.map_set]
theorem rep_set {α : Type} (i q : Nat) (a b : α) (h : i < q) : (List.replicate i a ++ List.replicate (q - i) b).set i a = List.replicate (i + 1) a ++ List.replicate (q - (i + 1)) b := by
  rw [List.set_append_right _ _ (by simp), List.length_replicate, Nat.sub_self, show q - i = (q - (i + 1)) + 1 by omega, List.replicate_succ, List.set_cons_zero, List.replicate_succ', List.append_assoc]
  rfl
theorem rep_end2 (i : Nat) (a : UInt8) (h : 2 ≤ i) : ((List.replicate i a).set (i - 2) 13).set (i - 1) 10 = List.replicate (i - 2) a ++ [13, 10] := by
  obtain ⟨k, rfl⟩ : ∃ k, i = k + 2 := ⟨i - 2, by omega⟩
  rw [show k + 2 - 2 = k by omega, show k + 2 - 1 = k + 1 by omega, show List.replicate (k + 2) a = List.replicate k a ++ [a, a] by rw [List.replicate_succ', List.replicate_succ']; simp]
  rw [List.set_append_right _ _ (by simp), List.set_append_right _ _ (by simp)]
  simp
theorem unfold_aa (k : Nat) (h : k < 100000) : unfoldR (List.replicate k 97 ++ [13, 10]) = if k + 2 ≤ 20000 then ([List.replicate k 97], 0) else ([], 4) := by
  by_cases hb : k + 2 ≤ 20000
  · rw [if_pos hb]
    have e : List.replicate k 97 ++ [13, 10] = ended [List.replicate k (97 : UInt8)] := by simp [ended]
    have hn : ∀ x ∈ List.replicate k (97 : UInt8), x = 97 := fun x hx => (List.mem_replicate.1 hx).2
    refine unfoldR_good (R := some [List.replicate k 97]) (by simp; omega) ?_ ?_
    · rw [(run_ascii mayB _ (by
        intro b hb
        rcases List.mem_append.1 hb with hb | hb
        · rw [hn b hb]; decide
        · simp at hb; rcases hb with rfl | rfl <;> decide)).1, List.all_eq_true]
      intro b hb
      rcases List.mem_append.1 hb with hb | hb
      · rw [hn b hb]; decide
      · simp at hb; rcases hb with rfl | rfl <;> decide
    · unfold unfA
      rw [e, unf_rows _ _ _ (Nat.le_refl _) (by
        intro r hr x hx
        rw [List.mem_singleton] at hr
        subst hr
        rw [hn x hx]; decide)]
      have hm : moreB (List.replicate k 97) = false := by
        cases k with
        | zero => rfl
        | succ k => rw [List.replicate_succ]; rfl
      rw [unfR, hm]
      rfl
  · rw [if_neg hb]
    unfold unfoldR
    rw [if_pos (by simp; omega)]
end Go.Proofs.Ut
