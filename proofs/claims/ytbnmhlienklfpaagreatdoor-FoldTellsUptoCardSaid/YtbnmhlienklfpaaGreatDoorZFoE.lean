/- What the laws of fold ask first; what is folded is unfolded as it was. -/
import Derived.Test.YtbnmhlienklfpaaGreatDoorZFoD
import Derived.Test.YtbnmhlienklfpaaGreatDoorZFunsB
set_option linter.all false
namespace Go.Proofs.Ut
open Go.Ai Classical Go.Shelf Go.RowKit
set_option linter.unusedSimpArgs false
set_option linter.unusedVariables false
set_option maxHeartbeats 1000000
set_option maxRecDepth 100000
theorem awakeU : unfoldR [97, 13, 10, 32, 98, 13, 10] = ([[97, 98]], 0) := by
  unfold unfoldR
  rw [if_neg (by decide), (run_ascii mayB [97, 13, 10, 32, 98, 13, 10] (by decide)).1]
  rfl
theorem awakeP : plainF [97, 92, 44, 98] = some [97, 44, 98] := by
  simp [plainF, escC]
theorem awakeS : splitF 59 false [] [97, 59, 98] = [[97], [98]] := by
  simp [splitF, escN]
theorem foldF_one (s : List UInt8) : foldF [s] = ended (rowsL s) := by simp [foldF]
theorem fitA_all (s : List UInt8) (most : Nat) : ∀ k n, s.length - n ≤ k → n ≤ s.length → s.length ≤ most → fitA s most n = s.length
  | 0, n, h, hn, hm => by rw [fitA_end s most n (by omega)]; omega
  | k + 1, n, h, hn, hm => by
    by_cases c : n < s.length
    · have := D_len s n c
      rw [fitA_step s most n c, if_neg (by omega)]
      exact fitA_all s most k _ (by omega) (by omega) hm
    · rw [fitA_end s most n c]; omega
theorem rows_short (s : List UInt8) (h : s.length ≤ 75) : rowsL s = [s] := by
  have e : fits s 75 = s.length := fitA_all s 75 _ 0 (Nat.le_refl _) (Nat.zero_le _) h
  rw [rowsL_eq, e, List.take_length, List.drop_length]; rfl
theorem awakeF : foldF [[120]] = [120, 13, 10] := by
  rw [foldF_one, rows_short _ (by simp)]; rfl
theorem awake12 : DRet 6 [] (.bool true) := by
  have hu := unfold14 [97, 13, 10, 32, 98, 13, 10] (by simp)
  have hp := plain16 [97, 92, 44, 98] (by simp)
  have hs := split26 [97, 59, 98] 59 (by simp)
  have hf := fold13 [[120]] (by simp) (by rw [awakeF]; simp)
  rw [awakeU] at hu
  rw [awakeP] at hp
  rw [awakeS] at hs
  rw [awakeF] at hf
  refine acalls_go c6 (by simp [f6]) ?_
  simp only [f6, ↓gos, gop, Nat.reduceBEq, Nat.reduceAdd, Nat.reduceSub, Nat.reduceLeDiff, Nat.reduceMul, Int.reduceLE, Int.reduceLT, Int.reduceNe, Int.reduceToNat]
  refine call_new hu (fun d hd => by simp at hd; subst hd; rfl) ?_
  simp only [DV.ren, DV.ren.renAll, renO, ↓gos, gop, Nat.reduceBEq, Nat.reduceAdd, Nat.reduceSub, Nat.reduceLeDiff, Nat.reduceMul, Int.reduceLE, Int.reduceLT, Int.reduceNe, Int.reduceToNat]
  refine call_ret hp rfl rfl ?_
  simp only [Option.getD_some, Option.isSome_some, if_true, ↓gos, gop, Nat.reduceBEq, Nat.reduceAdd, Nat.reduceSub, Nat.reduceLeDiff, Nat.reduceMul, Int.reduceLE, Int.reduceLT, Int.reduceNe, Int.reduceToNat]
  refine call_ret (plain62 [[97, 98]] [[97, 98]] (by decide) (by decide)) rfl rfl ?_
  rw [decide_eq_true rfl]
  simp only [↓gos, gop, Nat.reduceBEq, Nat.reduceAdd, Nat.reduceSub, Nat.reduceLeDiff, Nat.reduceMul, Int.reduceLE, Int.reduceLT, Int.reduceNe, Int.reduceToNat]
  refine call_ret hf rfl rfl ?_
  simp only [↓gos, gop, Nat.reduceBEq, Nat.reduceAdd, Nat.reduceSub, Nat.reduceLeDiff, Nat.reduceMul, Int.reduceLE, Int.reduceLT, Int.reduceNe, Int.reduceToNat]
  refine call_new hs (fun d hd => by simp at hd; rcases hd with rfl | rfl <;> rfl) ?_
  simp only [DV.ren, DV.ren.renAll, renO, ↓gos, gop, Nat.reduceBEq, Nat.reduceAdd, Nat.reduceSub, Nat.reduceLeDiff, Nat.reduceMul, Int.reduceLE, Int.reduceLT, Int.reduceNe, Int.reduceToNat]
  exact endb rfl
end Go.Proofs.Ut
