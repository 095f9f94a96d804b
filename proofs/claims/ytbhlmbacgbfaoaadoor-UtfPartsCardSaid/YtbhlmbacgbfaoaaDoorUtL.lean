/- UtfParts. -/
import Derived.Test.YtbhlmbacgbfaoaaDoorUtH
import Derived.Test.YtbhlmbacgbfaoaaDoorUtRow
set_option linter.all false
namespace Go.Proofs.Ut
open Go.Ai Go.RowKit Classical
set_option linter.unusedSimpArgs false
set_option maxHeartbeats 1000000
set_option maxRecDepth 100000
theorem parts5 (a b : List UInt8) (c : Int) (hc : 0 ≤ c ∧ c < 256) : DRet 5 [.str a, .str b, .int .u8 c] (.bool true) := by
  refine acalls_go c5 (by simp [f5]) ?_
  simp only [f5, ↓gos, gop, Nat.reduceBEq, Nat.reduceAdd, Nat.reduceSub, Nat.reduceLeDiff, Nat.reduceMul, Int.reduceLE, Int.reduceLT, Int.reduceNe, Int.reduceToNat]
  refine ⟨fun h1 => call_ret awake15 rfl rfl ?_, fun h1 => ⟨fun h2 => call_ret awake15 rfl rfl ?_, fun h2 => ?_⟩⟩
  · simp only [↓gos, gop, Nat.reduceBEq, Nat.reduceAdd, Nat.reduceSub, Nat.reduceLeDiff, Nat.reduceMul, Int.reduceLE, Int.reduceLT, Int.reduceNe, Int.reduceToNat]
    exact endb rfl
  · simp only [↓gos, gop, Nat.reduceBEq, Nat.reduceAdd, Nat.reduceSub, Nat.reduceLeDiff, Nat.reduceMul, Int.reduceLE, Int.reduceLT, Int.reduceNe, Int.reduceToNat]
    exact endb rfl
  have ha : a.length < 100000000000 := by omega
  have hb : b.length < 100000000000 := by omega
  refine call_ret (valid_c a ha) rfl rfl ?_
  cases hva : runAt mayB a 0
  · simp only [↓gos, gop, Nat.reduceBEq, Nat.reduceAdd, Nat.reduceSub, Nat.reduceLeDiff, Nat.reduceMul, Int.reduceLE, Int.reduceLT, Int.reduceNe, Int.reduceToNat]
    refine call_ret awake15 rfl rfl ?_
    simp only [↓gos, gop, Nat.reduceBEq, Nat.reduceAdd, Nat.reduceSub, Nat.reduceLeDiff, Nat.reduceMul, Int.reduceLE, Int.reduceLT, Int.reduceNe, Int.reduceToNat]
    refine call_ret (rvalid17 rfl a ha) rfl rfl ?_
    rw [hva]
    simp only [↓gos, gop, Nat.reduceBEq, Nat.reduceAdd, Nat.reduceSub, Nat.reduceLeDiff, Nat.reduceMul, Int.reduceLE, Int.reduceLT, Int.reduceNe, Int.reduceToNat]
    exact endb rfl
  simp only [↓gos, gop, Nat.reduceBEq, Nat.reduceAdd, Nat.reduceSub, Nat.reduceLeDiff, Nat.reduceMul, Int.reduceLE, Int.reduceLT, Int.reduceNe, Int.reduceToNat]
  refine call_ret (valid_c b hb) rfl rfl ?_
  cases hvb : runAt mayB b 0
  · simp only [↓gos, gop, Nat.reduceBEq, Nat.reduceAdd, Nat.reduceSub, Nat.reduceLeDiff, Nat.reduceMul, Int.reduceLE, Int.reduceLT, Int.reduceNe, Int.reduceToNat]
    refine call_ret awake15 rfl rfl ?_
    simp only [↓gos, gop, Nat.reduceBEq, Nat.reduceAdd, Nat.reduceSub, Nat.reduceLeDiff, Nat.reduceMul, Int.reduceLE, Int.reduceLT, Int.reduceNe, Int.reduceToNat]
    refine call_ret (rvalid17 rfl a ha) rfl rfl ?_
    rw [hva]
    simp only [↓gos, gop, Nat.reduceBEq, Nat.reduceAdd, Nat.reduceSub, Nat.reduceLeDiff, Nat.reduceMul, Int.reduceLE, Int.reduceLT, Int.reduceNe, Int.reduceToNat]
    refine call_ret awake15 rfl rfl ?_
    simp only [↓gos, gop, Nat.reduceBEq, Nat.reduceAdd, Nat.reduceSub, Nat.reduceLeDiff, Nat.reduceMul, Int.reduceLE, Int.reduceLT, Int.reduceNe, Int.reduceToNat]
    refine call_ret (rvalid17 rfl b hb) rfl rfl ?_
    rw [hvb]
    simp only [↓gos, gop, Nat.reduceBEq, Nat.reduceAdd, Nat.reduceSub, Nat.reduceLeDiff, Nat.reduceMul, Int.reduceLE, Int.reduceLT, Int.reduceNe, Int.reduceToNat]
    exact endb rfl
  simp only [↓gos, gop, Nat.reduceBEq, Nat.reduceAdd, Nat.reduceSub, Nat.reduceLeDiff, Nat.reduceMul, Int.reduceLE, Int.reduceLT, Int.reduceNe, Int.reduceToNat]
  intro v hv v1 hv1
  obtain ⟨x, hx, hx1⟩ : ∃ x : UInt8, 128 ≤ x.toNat ∧ v1 = (x.toNat : Int) := by
    have q : v = c % 128 := by rw [hv, Int.tmod_eq_emod_of_nonneg hc.1]
    rw [wrap_u8 (by omega) (by omega)] at hv1
    refine ⟨UInt8.ofNat v1.toNat, ?_, ?_⟩
    · rw [toNat_of _ (by omega)]; omega
    · rw [toNat_of _ (by omega)]; omega
  clear hv hv1
  subst hx1
  refine .inr ⟨_, rfl, by simp, [x], rfl, ?_⟩
  refine call_ret awake15 rfl rfl ?_
  have hab : (a ++ b).length < 100000000000 := by simp; omega
  have rab : runAt mayB (a ++ b) 0 = true := by rw [runAt_app _ hva, hva, hvb]; rfl
  have rsab : rs (a ++ b) = rs a ++ rs b := by unfold rs; rw [rab, hva, hvb, if_pos rfl, if_pos rfl, if_pos rfl, rlAt_app hva]
  have hla := rs_len a
  have hlb := rs_len b
  simp only [↓gos, gop, Nat.reduceBEq, Nat.reduceAdd, Nat.reduceSub, Nat.reduceLeDiff, Nat.reduceMul, Int.reduceLE, Int.reduceLT, Int.reduceNe, Int.reduceToNat]
  refine ⟨by omega, ?_⟩
  have vab := valid_c (a ++ b) hab
  rw [rab] at vab
  refine call_ret vab rfl rfl ?_
  simp only [↓gos, gop, Nat.reduceBEq, Nat.reduceAdd, Nat.reduceSub, Nat.reduceLeDiff, Nat.reduceMul, Int.reduceLE, Int.reduceLT, Int.reduceNe, Int.reduceToNat]
  refine ⟨by omega, ?_⟩
  refine call_lend (runes19 rfl vED (a ++ b) hab) rfl (free_num _) ?_
  simp only [DV.ren, renO, ↓gos, gop, Nat.reduceBEq, Nat.reduceAdd, Nat.reduceSub, Nat.reduceLeDiff, Nat.reduceMul, Int.reduceLE, Int.reduceLT, Int.reduceNe, Int.reduceToNat]
  refine call_lend (runes19 rfl vED a ha) rfl (free_num _) ?_
  simp only [DV.ren, renO, ↓gos, gop, Nat.reduceBEq, Nat.reduceAdd, Nat.reduceSub, Nat.reduceLeDiff, Nat.reduceMul, Int.reduceLE, Int.reduceLT, Int.reduceNe, Int.reduceToNat]
  refine call_lend (runes19 rfl vED b hb) rfl (free_num _) ?_
  simp only [DV.ren, renO, ↓gos, gop, Nat.reduceBEq, Nat.reduceAdd, Nat.reduceSub, Nat.reduceLeDiff, Nat.reduceMul, Int.reduceLE, Int.reduceLT, Int.reduceNe, Int.reduceToNat]
  refine ⟨by omega, by omega, ?_⟩
  have p := plain18 (E := ED) rfl (rs (a ++ b)) (rs a ++ rs b) (by rw [rsab, List.length_append]; omega) (by rw [List.length_append]; omega)
  rw [decide_eq_true rsab] at p
  refine call_ret p (by rw [List.map_cons, dn_row (i := 1) rfl rfl, List.map_cons, dn_row (i := 2) (l := rs a ++ rs b) (by rw [List.map_append]; rfl) (by rw [List.length_append])]; rfl) rfl ?_
  simp only [↓gos, gop, Nat.reduceBEq, Nat.reduceAdd, Nat.reduceSub, Nat.reduceLeDiff, Nat.reduceMul, Int.reduceLE, Int.reduceLT, Int.reduceNe, Int.reduceToNat]
  refine ⟨by omega, by simp; omega, by simp; omega, ?_⟩
  have hbad : runAt mayB (a ++ [x] ++ [120] ++ b) 0 = false := by
    rw [List.append_assoc, List.append_assoc, runAt_app _ hva, hva, Bool.true_and]
    exact run_none _ x _ hx (.inr ⟨120, rfl, by decide⟩)
  have vbad := valid_c (a ++ [x] ++ [120] ++ b) (by simp; omega)
  rw [hbad] at vbad
  refine call_ret vbad rfl rfl ?_
  simp only [↓gos, gop, Nat.reduceBEq, Nat.reduceAdd, Nat.reduceSub, Nat.reduceLeDiff, Nat.reduceMul, Int.reduceLE, Int.reduceLT, Int.reduceNe, Int.reduceToNat]
  refine ⟨by omega, ?_⟩
  refine call_ret (count21 rfl vED (a ++ b) hab) rfl rfl ?_
  simp only [↓gos, gop, Nat.reduceBEq, Nat.reduceAdd, Nat.reduceSub, Nat.reduceLeDiff, Nat.reduceMul, Int.reduceLE, Int.reduceLT, Int.reduceNe, Int.reduceToNat]
  refine call_ret (count21 rfl vED a ha) rfl rfl ?_
  simp only [↓gos, gop, Nat.reduceBEq, Nat.reduceAdd, Nat.reduceSub, Nat.reduceLeDiff, Nat.reduceMul, Int.reduceLE, Int.reduceLT, Int.reduceNe, Int.reduceToNat]
  refine call_ret (count21 rfl vED b hb) rfl rfl ?_
  simp only [↓gos, gop, Nat.reduceBEq, Nat.reduceAdd, Nat.reduceSub, Nat.reduceLeDiff, Nat.reduceMul, Int.reduceLE, Int.reduceLT, Int.reduceNe, Int.reduceToNat]
  intro w hw
  rw [wrap_i64 (by omega) (by omega)] at hw
  have : (rs (a ++ b)).length = (rs a).length + (rs b).length := by rw [rsab, List.length_append]
  exact ⟨fun _ => endb rfl, fun hn => absurd (by omega) hn⟩
theorem parts_walk (W : World) (hT : Lib.Utf8Tabs 0 1 W) (a0 : ByteArray) (_ : a0.size ≤ 140737488351232) (a1 : ByteArray) (_ : a1.size ≤ 140737488351232) (a2 : Int) (w2 : (Lit.int IntKind.u8 a2).wf = true) : Calls Tryd.prog 5 #[.string a0, .string a1, .int .u8 a2] W fun e W' => e = .returned (.bool true) ∧ Below W.heap.size W W' :=
  door_walk (parts5 a0.data.toList a1.data.toList a2 (by simp [Lit.wf, IntKind.min, IntKind.max, IntKind.bits, IntKind.signed] at w2; omega)) W hT [.string a0, .string a1, .int .u8 a2] rfl fun i v d h1 h2 => by
    rcases i with _ | _ | _ | i
    · cases h1; cases h2; exact .str _
    · cases h1; cases h2; exact .str _
    · cases h1; cases h2; exact .int _ _
    · simp at h1
end Go.Proofs.Ut
