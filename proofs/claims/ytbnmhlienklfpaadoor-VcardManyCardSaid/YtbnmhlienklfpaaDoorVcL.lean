/- Lines that may not be there are told by their number. -/
import Derived.Test.YtbnmhlienklfpaaDoorVcI
import Derived.Test.YtbnmhlienklfpaaDoorFoF
set_option linter.all false
namespace Go.Proofs.Ut
open Go.Ai Go.Shelf Go.RowKit
set_option linter.unusedSimpArgs false
set_option linter.unusedVariables false
set_option maxHeartbeats 1000000
set_option maxRecDepth 100000
def cardB : List UInt8 := [66, 69, 71, 73, 78, 58, 86, 67, 65, 82, 68, 13, 10, 86, 69, 82, 83, 73, 79, 78, 58, 52, 46, 48, 13, 10, 70, 78, 58, 110, 13, 10, 120, 46, 84, 69, 76, 59, 84, 89, 80, 69, 61, 34, 97, 59, 98, 34, 58, 53, 13, 10, 69, 78, 68, 58, 86, 67, 65, 82, 68, 13, 10]
def V40R : List UInt8 := VER ++ 58 :: V40
def badR : List (List (List UInt8)) := [[[70, 78, 58, 110]], [BEG, [70, 78, 58, 110]], [BEG, [86, 69, 82, 83, 73, 79, 78, 58, 51, 46, 48]], [BEG, V40R, [70, 78]], [BEG, V40R, BEG], [BEG, V40R, [70, 78, 58, 110], V40R], [BEG, V40R, [70, 78, 58, 110]],
  [BEG, V40R, [65, 59, 66, 58, 99]], [BEG, V40R, [58, 99]], [BEG, V40R, [65, 59, 66, 61, 34, 99, 58, 100]], [[]], [END]]
def whereN : List Int := [1, 2, 2, 3, 3, 4, 3, 3, 3, 3, 1, 1]
def wantN : List Int := [20, 20, 20, 17, 20, 20, 20, 17, 17, 17, 20, 20]
theorem bad_good : ∀ a, a < 5 → ∀ k, k < 12 → ((((List.replicate a cardRows).flatten ++ badR.getD k []).all (fun s => s.all (fun c => decide (c.toNat < 128) && decide (32 ≤ c.toNat) && mayB c.toNat) && !moreB s)) && decide ((ended ((List.replicate a cardRows).flatten ++ badR.getD k [])).length ≤ 20000)) = true := by decide +kernel
theorem bad_read : ∀ a, a < 5 → ∀ k, k < 12 → rdL [] none 0 ((List.replicate a cardRows).flatten ++ badR.getD k []) = ([], 5 * (a : Int) + whereN.getD k 0, wantN.getD k 0) := by decide +kernel
theorem bad_text : ∀ a, a < 5 → ∀ k, k < 12 → ended ((List.replicate a cardRows).flatten ++ badR.getD k []) = (List.replicate a cardB).flatten ++ (badR.map ended).getD k [] := by decide +kernel
theorem read_bad (a k : Nat) (ha : a < 5) (hk : k < 12) : readL ((List.replicate a cardB).flatten ++ (badR.map ended).getD k []) = ([], 5 * (a : Int) + whereN.getD k 0, wantN.getD k 0) := by
  have h := bad_good a ha k hk
  rw [Bool.and_eq_true, decide_eq_true_eq] at h
  rw [← bad_text a ha k hk, read_ended (good_asc h.1) h.2, bad_read a ha k hk]
theorem wrong7 (what ahead : Int) : DRet 7 [.int .i64 what, .int .i64 ahead] (.bool true) := by
  refine acalls_go c7 (by simp [f7]) ?_
  simp only [f7, ↓gos, gop, Nat.reduceBEq, Nat.reduceAdd, Nat.reduceSub, Nat.reduceLeDiff, Nat.reduceMul, Int.reduceLE, Int.reduceLT, Int.reduceNe, Int.reduceToNat]
  intro u0 hu0 u1 hu1 k hk
  have a0 := wrap_u64_bd ahead
  rw [← hu0] at a0
  have b0 := Ut.tmod_range u0 5 a0.1 (by omega)
  rw [← hu1] at b0
  rw [wrap_i64 (by omega) (by omega)] at hk
  obtain ⟨a, rfl⟩ : ∃ j : Nat, k = j := ⟨k.toNat, by omega⟩
  refine goN_lp (γ := Nat) (fun i => [(6, .int .i64 i), (5, .str (List.replicate i cardB).flatten), (1, .int .i64 a), (0, .int .i64 what)]) (fun _ => []) (fun i => i ≤ a) (fun i => a - i) 0
    (wks rfl (by simp) ⟨rfl, rfl, rfl, rfl, trivial⟩) (by omega) fun i hi => ?_
  have hlen : (List.replicate i cardB).flatten.length = i * 63 := by simp [cardB]
  simp only [f7l0, ↓gos, gop, Nat.reduceBEq, Nat.reduceAdd, Nat.reduceSub, Nat.reduceLeDiff, Nat.reduceMul, Int.reduceLE, Int.reduceLT, Int.reduceNe, Int.reduceToNat]
  refine ⟨fun h1 => ?_, fun h1 => ?_⟩
  · refine ⟨by omega, ?_⟩
    intro v hv
    rw [wrap_i64 (by omega) (by omega)] at hv
    subst hv
    refine rnd_s (i + 1) rfl (by simp) ⟨rfl, ?_, rfl, rfl, trivial⟩ (by omega) (by omega)
    have e : (List.replicate i cardB).flatten ++ cardB = (List.replicate (i + 1) cardB).flatten := by
      rw [List.replicate_succ', List.flatten_append]; simp
    rw [← e]; rfl
  · have : i = a := by omega
    subst this
    intro w0 hw0 w1 hw1 k2 hk2
    have a1 := wrap_u64_bd what
    rw [← hw0] at a1
    have b1 := Ut.tmod_range w0 12 a1.1 (by omega)
    rw [← hw1] at b1
    rw [wrap_i64 (by omega) (by omega)] at hk2
    obtain ⟨j, rfl⟩ : ∃ j : Nat, k2 = j := ⟨k2.toNat, by omega⟩
    refine ⟨by omega, by omega, ?_⟩
    rw [Int.toNat_natCast]
    show optP (List.map sv (badR.map ended))[j]? _
    rw [optP_map]
    refine optP_at [] (show j < 12 by omega) ?_
    have hrd := read_bad i j (by omega) (by omega)
    have hbl : ∀ j, j < 12 → ((badR.map ended).getD j []).length < 100 := by decide
    have hbl := hbl j (by omega)
    generalize (badR.map ended).getD j [] = t at hrd hbl
    have hcl : ((List.replicate i cardB).flatten ++ t).length < 1000 := by rw [List.length_append, hlen]; omega
    simp only [sv, ↓gos, gop, Nat.reduceBEq, Nat.reduceAdd, Nat.reduceSub, Nat.reduceLeDiff, Nat.reduceMul, Int.reduceLE, Int.reduceLT, Int.reduceNe, Int.reduceToNat]
    refine ⟨by rw [hlen]; omega, ?_⟩
    have hr := read18 ((List.replicate i cardB).flatten ++ t) (by omega)
    rw [hrd] at hr
    refine call_new hr (by simp [DV.closed]) ?_
    have hw : ∀ j, j < 12 → 0 ≤ whereN.getD j 0 ∧ whereN.getD j 0 ≤ 4 := by decide
    have hw := hw j (by omega)
    simp only [DV.ren, DV.ren.renAll, renO, ↓gos, gop, Nat.reduceBEq, Nat.reduceAdd, Nat.reduceSub, Nat.reduceLeDiff, Nat.reduceMul, Int.reduceLE, Int.reduceLT, Int.reduceNe, Int.reduceToNat]
    refine call_ret awake19 rfl rfl ?_
    simp only [↓gos, gop, Nat.reduceBEq, Nat.reduceAdd, Nat.reduceSub, Nat.reduceLeDiff, Nat.reduceMul, Int.reduceLE, Int.reduceLT, Int.reduceNe, Int.reduceToNat]
    refine ⟨by omega, ?_⟩
    show optP (List.map num wantN)[j]? _
    rw [optP_map]
    refine optP_at 0 (show j < 12 by omega) ?_
    simp only [num, ↓gos, gop, Nat.reduceBEq, Nat.reduceAdd, Nat.reduceSub, Nat.reduceLeDiff, Nat.reduceMul, Int.reduceLE, Int.reduceLT, Int.reduceNe, Int.reduceToNat]
    intro v hv
    rw [wrap_i64 (by omega) (by omega)] at hv
    subst hv
    refine ⟨by omega, ?_⟩
    show optP (List.map num whereN)[j]? _
    rw [optP_map]
    refine optP_at 0 (show j < 12 by omega) ?_
    simp only [num, ↓gos, gop, Nat.reduceBEq, Nat.reduceAdd, Nat.reduceSub, Nat.reduceLeDiff, Nat.reduceMul, Int.reduceLE, Int.reduceLT, Int.reduceNe, Int.reduceToNat]
    intro v hv
    rw [wrap_i64 (by omega) (by omega)] at hv
    subst hv
    simp only [↓gos, gop, Nat.reduceBEq, Nat.reduceAdd, Nat.reduceSub, Nat.reduceLeDiff, Nat.reduceMul, Int.reduceLE, Int.reduceLT, Int.reduceNe, Int.reduceToNat]
    exact endb rfl
end Go.Proofs.Ut
