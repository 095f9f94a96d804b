/- What is refused: rows without their end, escapes that are none, too much. -/
import Derived.Test.YtbnmhlienklfpaaDoorFoE
set_option linter.all false
namespace Go.Proofs.Ut
open Go.Ai Classical Go.Shelf Go.RowKit
set_option linter.unusedSimpArgs false
set_option linter.unusedVariables false
set_option maxHeartbeats 1000000
set_option maxRecDepth 100000
theorem wrap_u64_bd (x : Int) : 0 ≤ IntKind.u64.wrap x ∧ IntKind.u64.wrap x < 18446744073709551616 := by
  simp only [IntKind.wrap, IntKind.bits, IntKind.signed]
  simp
  constructor
  · exact Int.emod_nonneg _ (by decide)
  · exact Int.emod_lt_of_pos _ (by decide)
theorem tmod_range (x m : Int) (hx : 0 ≤ x) (hm : 0 < m) : 0 ≤ x.tmod m ∧ x.tmod m < m := by
  rw [Int.tmod_eq_emod_of_nonneg hx]
  exact ⟨Int.emod_nonneg _ (by omega), Int.emod_lt_of_pos _ hm⟩
def T9 : List (List UInt8) := [[97], [97, 10], [97, 13], [97, 13, 98, 13, 10], [32, 97, 13, 10], [9, 97, 13, 10], [97, 13, 10, 98], [10, 13, 10], [97, 13, 13, 10]]
def T5 : List (List UInt8) := [[92], [92, 120], [97, 92], [92, 92, 92], [92, 116]]
def resU : Option (List (List UInt8)) → List (List UInt8) × Int
  | none => ([], 17)
  | some l => (l, 0)
theorem unfoldR_good {s : List UInt8} {R : Option (List (List UInt8))} (hl : s.length ≤ 20000) (h : runAt mayB s 0 = true) (e : unfA [] s = R) : unfoldR s = resU R := by
  subst e
  unfold unfoldR
  rw [if_neg (by omega), h, if_neg (by simp)]
  cases unfA [] s <;> rfl
theorem unfoldR_asc {s : List UInt8} {R : Option (List (List UInt8))} (hl : s.length ≤ 20000) (h : ∀ b ∈ s, b.toNat < 128) (hm : s.all (fun b => mayB b.toNat) = true) (e : unfA [] s = R) : unfoldR s = resU R :=
  unfoldR_good hl (by rw [(run_ascii mayB s h).1, hm]) e
theorem refused9 : ∀ k, k < 9 → unfoldR (T9.getD k []) = ([], 17) := by
  intro k hk
  have h : k = 0 ∨ k = 1 ∨ k = 2 ∨ k = 3 ∨ k = 4 ∨ k = 5 ∨ k = 6 ∨ k = 7 ∨ k = 8 := by omega
  rcases h with rfl | rfl | rfl | rfl | rfl | rfl | rfl | rfl | rfl <;> exact unfoldR_asc (R := none) (by decide) (by decide) (by decide) rfl
theorem refused5 : ∀ k, k < 5 → plainF (T5.getD k []) = none := by
  intro k hk
  have h : k = 0 ∨ k = 1 ∨ k = 2 ∨ k = 3 ∨ k = 4 := by omega
  rcases h with rfl | rfl | rfl | rfl | rfl <;> simp [T5, plainF, escC]
/-- Bytes in a row. -/
def byv (bs : List UInt8) : List (List DV) := bs.map fun b => [.int .u8 b.toNat]
theorem optB {bs : List UInt8} {i : Nat} {K : List DV → Prop} (h : i < bs.length) (hk : ∀ x : Int, K [.int .u8 x]) : optP (byv bs)[i]? K := by
  unfold byv
  rw [optP_map]
  exact optP_at 0 h (hk _)
theorem byv_set (bs : List UInt8) (i : Nat) (c : UInt8) (n : Int) (hn : (c.toNat : Int) = n) : (byv bs).set i [.int .u8 n] = byv (bs.set i c) := by
  subst hn
  unfold byv
  rw [List.map_set]
theorem rep_set {α : Type} (i q : Nat) (a b : α) (h : i < q) : (List.replicate i a ++ List.replicate (q - i) b).set i a = List.replicate (i + 1) a ++ List.replicate (q - (i + 1)) b := by
  rw [List.set_append_right _ _ (by simp), List.length_replicate, Nat.sub_self, show q - i = (q - (i + 1)) + 1 by omega, List.replicate_succ, List.set_cons_zero, List.replicate_succ', List.append_assoc]
  rfl
theorem rep_end2 (i : Nat) (a : UInt8) (h : 2 ≤ i) : ((List.replicate i a).set (i - 2) 13).set (i - 1) 10 = List.replicate (i - 2) a ++ [13, 10] := by
  obtain ⟨k, rfl⟩ : ∃ k, i = k + 2 := ⟨i - 2, by omega⟩
  rw [show k + 2 - 2 = k by omega, show k + 2 - 1 = k + 1 by omega, show List.replicate (k + 2) a = List.replicate k a ++ [a, a] by rw [List.replicate_succ', List.replicate_succ']; simp]
  rw [List.set_append_right _ _ (by simp), List.set_append_right _ _ (by simp)]
  simp
theorem unfold_aa (k : Nat) (h : k < 100000) : unfoldR (List.replicate k 97 ++ [13, 10]) = if k + 2 ≤ 20000 then ([List.replicate k 97], 0) else ([], 4) := by
  by_cases hb : k + 2 ≤ 20000
  · rw [if_pos hb]
    have e : List.replicate k 97 ++ [13, 10] = ended [List.replicate k (97 : UInt8)] := by simp [ended]
    have hn : ∀ x ∈ List.replicate k (97 : UInt8), x = 97 := fun x hx => (List.mem_replicate.1 hx).2
    refine unfoldR_good (R := some [List.replicate k 97]) (by simp; omega) ?_ ?_
    · rw [(run_ascii mayB _ (by
        intro b hb
        rcases List.mem_append.1 hb with hb | hb
        · rw [hn b hb]; decide
        · simp at hb; rcases hb with rfl | rfl <;> decide)).1, List.all_eq_true]
      intro b hb
      rcases List.mem_append.1 hb with hb | hb
      · rw [hn b hb]; decide
      · simp at hb; rcases hb with rfl | rfl <;> decide
    · unfold unfA
      rw [e, unf_rows _ _ _ (Nat.le_refl _) (by
        intro r hr x hx
        rw [List.mem_singleton] at hr
        subst hr
        rw [hn x hx]; decide)]
      have hm : moreB (List.replicate k 97) = false := by
        cases k with
        | zero => rfl
        | succ k => rw [List.replicate_succ]; rfl
      rw [unfR, hm]
      rfl
  · rw [if_neg hb]
    unfold unfoldR
    rw [if_pos (by simp; omega)]
theorem refuses4 (what n : Int) : DRet 4 [.int .i64 what, .int .i64 n] (.bool true) := by
  refine acalls_go c4 (by simp [f4]) ?_
  simp only [f4, ↓gos, gop, Nat.reduceBEq, Nat.reduceAdd, Nat.reduceSub, Nat.reduceLeDiff, Nat.reduceMul, Int.reduceLE, Int.reduceLT, Int.reduceNe, Int.reduceToNat]
  intro u0 hu0 u1 hu1 k hk
  have a0 := wrap_u64_bd what
  rw [← hu0] at a0
  have b0 := tmod_range u0 9 a0.1 (by omega)
  rw [← hu1] at b0
  rw [wrap_i64 (by omega) (by omega)] at hk
  obtain ⟨j, rfl⟩ : ∃ j : Nat, k = j := ⟨k.toNat, by omega⟩
  refine ⟨by omega, by omega, ?_⟩
  rw [Int.toNat_natCast]
  show optP (List.map sv T9)[j]? _
  rw [optP_map]
  refine optP_at [] (show j < 9 by omega) ?_
  have hr9 := refused9 j (by omega)
  have hl9 : ∀ j, j < 9 → (T9.getD j []).length < 1000000000 := by decide
  have hu9 := unfold14 (T9.getD j []) (hl9 j (by omega))
  rw [hr9] at hu9
  generalize T9.getD j [] = tt at hu9
  simp only [sv, ↓gos, gop, Nat.reduceBEq, Nat.reduceAdd, Nat.reduceSub, Nat.reduceLeDiff, Nat.reduceMul, Int.reduceLE, Int.reduceLT, Int.reduceNe, Int.reduceToNat]
  refine call_new hu9 (fun d hd => by simp at hd; subst hd; rfl) ?_
  simp only [DV.ren, DV.ren.renAll, renO, ↓gos, gop, Nat.reduceBEq, Nat.reduceAdd, Nat.reduceSub, Nat.reduceLeDiff, Nat.reduceMul, Int.reduceLE, Int.reduceLT, Int.reduceNe, Int.reduceToNat]
  intro w0 hw0 w1 hw1 k2 hk2
  have a1 := wrap_u64_bd what
  rw [← hw0] at a1
  have b1 := tmod_range w0 5 a1.1 (by omega)
  rw [← hw1] at b1
  rw [wrap_i64 (by omega) (by omega)] at hk2
  obtain ⟨j2, rfl⟩ : ∃ j : Nat, k2 = j := ⟨k2.toNat, by omega⟩
  refine ⟨by omega, by omega, ?_⟩
  rw [Int.toNat_natCast]
  show optP (List.map sv T5)[j2]? _
  rw [optP_map]
  refine optP_at [] (show j2 < 5 by omega) ?_
  have hr5 := refused5 j2 (by omega)
  have hl5 : ∀ j, j < 5 → (T5.getD j []).length < 1000000000 := by decide
  have hp5 := plain16 (T5.getD j2 []) (hl5 j2 (by omega))
  rw [hr5] at hp5
  generalize T5.getD j2 [] = t5 at hp5
  simp only [sv, ↓gos, gop, Nat.reduceBEq, Nat.reduceAdd, Nat.reduceSub, Nat.reduceLeDiff, Nat.reduceMul, Int.reduceLE, Int.reduceLT, Int.reduceNe, Int.reduceToNat]
  refine call_ret hp5 rfl rfl ?_
  simp only [Option.getD_none, Option.isSome_none, Bool.false_eq_true, if_false, ↓gos, gop, Nat.reduceBEq, Nat.reduceAdd, Nat.reduceSub, Nat.reduceLeDiff, Nat.reduceMul, Int.reduceLE, Int.reduceLT, Int.reduceNe, Int.reduceToNat]
  intro z0 hz0 z1 hz1 z2 hz2 m hm
  have a2 := wrap_u64_bd n
  rw [← hz0] at a2
  have b2 := tmod_range z0 6 a2.1 (by omega)
  rw [← hz1] at b2
  rw [wrap_i64 (by omega) (by omega)] at hz2
  rw [wrap_i64 (by omega) (by omega)] at hm
  obtain ⟨q, rfl⟩ : ∃ j : Nat, m = j := ⟨m.toNat, by omega⟩
  have hq : 19997 ≤ q ∧ q ≤ 20002 := by omega
  refine ⟨by omega, by omega, by omega, by omega, ?_⟩
  simp only [Int.toNat_natCast]
  refine goN_lp (γ := Nat) (fun i => [(49, .int .i64 (i : Nat)), (48, .int .i64 (q : Nat)), (11, .osl 1 3 0 q (some q)), (1, .int .i64 (q : Nat)), (7, .int .i64 17), (10, .int .i64 18)])
    (fun i => [.arr 1 (T9.map sv), .arr 1 [], .arr 1 (T5.map sv), .arr 1 (byv (List.replicate i 97 ++ List.replicate (q - i) 0))]) (fun i => i ≤ q) (fun i => q - i) 0
    (wks (by simp [byv, T9, T5, sv]) (by simp) ⟨rfl, rfl, rfl, rfl, rfl, rfl, trivial⟩) (by simp) fun i hi => ?_
  simp only [f4l0, ↓gos, gop, Nat.reduceBEq, Nat.reduceAdd, Nat.reduceSub, Nat.reduceLeDiff, Nat.reduceMul, Int.reduceLE, Int.reduceLT, Int.reduceNe, Int.reduceToNat]
  refine ⟨fun h1 => ?_, fun h1 => ?_⟩
  · refine ⟨by omega, optB (by simp; omega) fun x => ⟨by simp, fun v hv => ?_⟩⟩
    rw [wrap_i64 (by omega) (by omega)] at hv
    have hv : v = ((i + 1 : Nat) : Int) := by omega
    subst hv
    simp only [List.drop_succ_cons, List.drop_zero]
    rw [byv_set _ i 97 97 rfl, rep_set i q 97 0 (by omega)]
    exact rnd_s (i + 1) rfl (by simp) ⟨rfl, rfl, rfl, rfl, rfl, rfl, trivial⟩ (by omega) (by omega)
  · have hi2 : i = q := by omega
    subst hi2
    rw [Nat.sub_self, List.replicate_zero, List.append_nil]
    intro v hv v1 hv1
    rw [wrap_i64 (by omega) (by omega)] at hv
    have hv : v = ((i - 2 : Nat) : Int) := by omega
    subst hv
    rw [wrap_i64 (by omega) (by omega)] at hv1
    have hv1 : v1 = ((i - 1 : Nat) : Int) := by omega
    subst hv1
    refine ⟨by omega, by omega, optB (by simp; omega) fun x => ⟨by simp, by omega, by omega, ?_⟩⟩
    simp only [List.drop_succ_cons, List.drop_zero, Int.toNat_natCast]
    rw [byv_set _ (i - 2) 13 13 rfl]
    refine optB (by simp; omega) fun x2 => ⟨by simp, .inr ⟨_, rfl, ?_⟩⟩
    simp only [List.drop_succ_cons, List.drop_zero]
    rw [byv_set _ (i - 1) 10 10 rfl, rep_end2 i 97 (by omega)]
    refine ⟨by simp [byv]; omega, List.replicate (i - 2) 97 ++ [13, 10], by rw [List.take_of_length_le (by simp [byv]; omega)]; rfl, ?_⟩
    have hu := unfold14 (List.replicate (i - 2) 97 ++ [13, 10]) (by simp; omega)
    rw [unfold_aa (i - 2) (by omega)] at hu
    by_cases hb : i ≤ 20000
    · rw [if_pos (by omega)] at hu
      refine call_new hu (fun d hd => by simp at hd; subst hd; rfl) ?_
      simp only [DV.ren, DV.ren.renAll, renO, ↓gos, gop, Nat.reduceBEq, Nat.reduceAdd, Nat.reduceSub, Nat.reduceLeDiff, Nat.reduceMul, Int.reduceLE, Int.reduceLT, Int.reduceNe, Int.reduceToNat]
      refine ⟨fun h => absurd h (by omega), fun _ => call_ret awake12 rfl rfl ?_⟩
      simp only [↓gos, gop, Nat.reduceBEq, Nat.reduceAdd, Nat.reduceSub, Nat.reduceLeDiff, Nat.reduceMul, Int.reduceLE, Int.reduceLT, Int.reduceNe, Int.reduceToNat]
      exact endb rfl
    · rw [if_neg (by omega)] at hu
      refine call_new hu (fun d hd => by simp at hd; subst hd; rfl) ?_
      simp only [DV.ren, DV.ren.renAll, renO, ↓gos, gop, Nat.reduceBEq, Nat.reduceAdd, Nat.reduceSub, Nat.reduceLeDiff, Nat.reduceMul, Int.reduceLE, Int.reduceLT, Int.reduceNe, Int.reduceToNat]
      refine ⟨fun _ => call_ret awake12 rfl rfl ?_, fun h => absurd h (by omega)⟩
      simp only [↓gos, gop, Nat.reduceBEq, Nat.reduceAdd, Nat.reduceSub, Nat.reduceLeDiff, Nat.reduceMul, Int.reduceLE, Int.reduceLT, Int.reduceNe, Int.reduceToNat]
      exact endb rfl
end Go.Proofs.Ut
