/- UtfEach. -/
import Derived.Test.YtbhlmbacgbfaoaaDoorUtH
import Derived.Test.YtbhlmbacgbfaoaaDoorUtRow
set_option linter.all false
namespace Go.Proofs.Ut
open Go.Ai Go.RowKit Classical
set_option linter.unusedSimpArgs false
set_option maxHeartbeats 1000000
set_option maxRecDepth 100000
theorem wrap_u64_bd (x : Int) : 0 ≤ IntKind.u64.wrap x ∧ IntKind.u64.wrap x < 18446744073709551616 := by
  simp only [IntKind.wrap, IntKind.bits, IntKind.signed]
  simp
  constructor
  · exact Int.emod_nonneg _ (by decide)
  · exact Int.emod_lt_of_pos _ (by decide)
theorem en_bad {k : Nat} (h : ¬ okC k) : en k = en (65533 : Nat) := by
  have e1 : Utf8.valid (k : Int) = false := Bool.eq_false_iff.2 fun q => h ((valid_iff k).1 q)
  have e2 : Utf8.valid ((65533 : Nat) : Int) = true := by decide
  unfold en Utf8.encode
  rw [e1, e2]
  rfl
theorem run_one (p : Int → Bool) {k : Nat} (h : okC k) : runAt p (en k) 0 = p k := by
  have := run_en p h []
  rwa [List.append_nil, run_nil, Bool.and_true] at this
theorem rs_one {k : Nat} (h : okC k) : rs (en k) = if mayB k then [(k : Int)] else [] := by
  have := rl_en h []
  rw [List.append_nil, rl_nil] at this
  unfold rs
  rw [run_one _ h, this]
theorem each4 (c cut : Int) : DRet 4 [.int .i64 c, .int .i64 cut] (.bool true) := by
  refine acalls_go c4 (by simp [f4]) ?_
  simp only [f4, ↓gos, gop, Nat.reduceBEq, Nat.reduceAdd, Nat.reduceSub, Nat.reduceLeDiff, Nat.reduceMul, Int.reduceLE, Int.reduceLT, Int.reduceNe, Int.reduceToNat]
  intro v hv v1 hv1 v2 hv2 v3 hv3
  obtain ⟨k, hk, rfl⟩ : ∃ k : Nat, k < 1200000 ∧ v2 = (k : Int) := by
    have hb := wrap_u64_bd c
    rw [← hv] at hb
    have : v1 = v % 1200000 := by rw [hv1, Int.tmod_eq_emod_of_nonneg hb.1]
    rw [wrap_i64 (by omega) (by omega)] at hv2
    exact ⟨v1.toNat, by omega, by omega⟩
  rw [wrap_i32 (by omega) (by omega)] at hv3
  subst hv3
  clear hv hv1 hv2
  have hen : (Utf8.encode (k : Int)).data.toList = en k := rfl
  have bad : ∀ h : ¬ okC k, DRet 16 [.str (en k)] (.bool true) := fun h => by
    have := valid_c (en k) (by rw [en_bad h]; have := @en_len 65533 (by unfold okC; omega); omega)
    rw [en_bad h, run_one _ (by unfold okC; omega)] at this
    rwa [en_bad h]
  rw [hen]
  refine ⟨fun h1 => call_ret awake15 rfl rfl ?_, fun h1 => ⟨fun h2 => ⟨fun h3 => call_ret awake15 rfl rfl ?_, fun h3 => ?_⟩, fun h2 => ?_⟩⟩
  · simp only [↓gos, gop, Nat.reduceBEq, Nat.reduceAdd, Nat.reduceSub, Nat.reduceLeDiff, Nat.reduceMul, Int.reduceLE, Int.reduceLT, Int.reduceNe, Int.reduceToNat]
    refine call_ret (bad (by unfold okC; omega)) rfl rfl ?_
    simp only [↓gos, gop, Nat.reduceBEq, Nat.reduceAdd, Nat.reduceSub, Nat.reduceLeDiff, Nat.reduceMul, Int.reduceLE, Int.reduceLT, Int.reduceNe, Int.reduceToNat]
    exact endb rfl
  · simp only [↓gos, gop, Nat.reduceBEq, Nat.reduceAdd, Nat.reduceSub, Nat.reduceLeDiff, Nat.reduceMul, Int.reduceLE, Int.reduceLT, Int.reduceNe, Int.reduceToNat]
    refine call_ret (bad (by unfold okC; omega)) rfl rfl ?_
    simp only [↓gos, gop, Nat.reduceBEq, Nat.reduceAdd, Nat.reduceSub, Nat.reduceLeDiff, Nat.reduceMul, Int.reduceLE, Int.reduceLT, Int.reduceNe, Int.reduceToNat]
    exact endb rfl
  all_goals
    have hok : okC k := by unfold okC; omega
    have hl := en_len hok
    have hs : (en k).length < 100000000000 := by omega
    refine call_ret (char24 rfl (k : Int)) rfl rfl ?_
    rw [char_may hok]
    simp only [↓gos, gop, Nat.reduceBEq, Nat.reduceAdd, Nat.reduceSub, Nat.reduceLeDiff, Nat.reduceMul, Int.reduceLE, Int.reduceLT, Int.reduceNe, Int.reduceToNat]
    intro a ha b hb d hd e he f hf g hg
    obtain ⟨m, hm, rfl⟩ : ∃ m : Nat, m < (en k).length ∧ g = (m : Int) := by
      have q1 := wrap_u64_bd cut
      rw [← hb] at q1
      have q2 : d = b % 3 := by rw [hd, Int.tmod_eq_emod_of_nonneg q1.1]
      rw [wrap_i64 (by omega) (by omega)] at ha he
      rw [wrap_i64 (by omega) (by omega)] at hf
      refine ⟨g.toNat, ?_, ?_⟩ <;> (rw [hg]; split <;> omega)
    clear ha hb hd he hf hg
    refine ⟨by omega, by omega, ?_⟩
    rw [show ((m : Int)).toNat = m by omega]
    refine call_ret awake15 rfl rfl ?_
    simp only [↓gos, gop, Nat.reduceBEq, Nat.reduceAdd, Nat.reduceSub, Nat.reduceLeDiff, Nat.reduceMul, Int.reduceLE, Int.reduceLT, Int.reduceNe, Int.reduceToNat]
    refine call_ret (valid_c (en k) hs) rfl rfl ?_
    rw [run_one _ hok]
    simp only [↓gos, gop, Nat.reduceBEq, Nat.reduceAdd, Nat.reduceSub, Nat.reduceLeDiff, Nat.reduceMul, Int.reduceLE, Int.reduceLT, Int.reduceNe, Int.reduceToNat]
    have hcut : ∀ (hm0 : m ≠ 0), DRet 16 [.str ((en k).take m)] (.bool false) := fun hm0 => by
      have := valid_c ((en k).take m) (by rw [List.length_take]; omega)
      rwa [en_cut _ hok m hm (by omega)] at this
    have hm0 : (en k).take m = [] ↔ m = 0 := by
      rw [List.take_eq_nil_iff]
      constructor
      · rintro (h | h)
        · exact h
        · rw [h] at hl; simp at hl
      · exact .inl
    have hsh : runAt shownB (en k) 0 = (mayB k && decide (32 ≤ (k : Int))) := by rw [run_one _ hok, shown_may]
    have hrs := rs_one hok
    refine ⟨fun _ => ?_, fun hn => by simp at hn⟩
    have hrl : (rs (en k)).length ≤ 1 := by rw [hrs]; split <;> simp
    have l1 : DRet 22 [.str (en k), .int .i64 1] (.bool (mayB k && decide (32 ≤ (k : Int)))) := by
      have := line22 rfl vED (en k) 1 hs
      have h1' : ((rs (en k)).length : Int) ≤ 1 := by omega
      rwa [hsh, decide_eq_true h1', Bool.and_true] at this
    have l0 : DRet 22 [.str (en k), .int .i64 0] (.bool false) := by
      have := line22 rfl vED (en k) 0 hs
      rw [hsh, hrs] at this
      cases hmm : mayB k <;> simpa [hmm] using this
    cases hmay : mayB k
    · rw [hmay, Bool.false_and] at l1
      simp only [hmay, ↓gos, gop, Nat.reduceBEq, Nat.reduceAdd, Nat.reduceSub, Nat.reduceLeDiff, Nat.reduceMul, Int.reduceLE, Int.reduceLT, Int.reduceNe, Int.reduceToNat]
      refine ⟨fun hz => ?_, fun hz => call_ret (hcut (fun q => hz (hm0.2 q))) rfl rfl ?_⟩
      · refine call_ret l1 rfl rfl ?_
        simp only [↓gos, gop, Nat.reduceBEq, Nat.reduceAdd, Nat.reduceSub, Nat.reduceLeDiff, Nat.reduceMul, Int.reduceLE, Int.reduceLT, Int.reduceNe, Int.reduceToNat]
        refine ⟨fun _ => call_ret l0 rfl rfl ?_, fun hn => by simp at hn⟩
        simp only [↓gos, gop, Nat.reduceBEq, Nat.reduceAdd, Nat.reduceSub, Nat.reduceLeDiff, Nat.reduceMul, Int.reduceLE, Int.reduceLT, Int.reduceNe, Int.reduceToNat]
        exact endb rfl
      · simp only [↓gos, gop, Nat.reduceBEq, Nat.reduceAdd, Nat.reduceSub, Nat.reduceLeDiff, Nat.reduceMul, Int.reduceLE, Int.reduceLT, Int.reduceNe, Int.reduceToNat]
        refine call_ret l1 rfl rfl ?_
        simp only [↓gos, gop, Nat.reduceBEq, Nat.reduceAdd, Nat.reduceSub, Nat.reduceLeDiff, Nat.reduceMul, Int.reduceLE, Int.reduceLT, Int.reduceNe, Int.reduceToNat]
        refine ⟨fun _ => call_ret l0 rfl rfl ?_, fun hn => by simp at hn⟩
        simp only [↓gos, gop, Nat.reduceBEq, Nat.reduceAdd, Nat.reduceSub, Nat.reduceLeDiff, Nat.reduceMul, Int.reduceLE, Int.reduceLT, Int.reduceNe, Int.reduceToNat]
        exact endb rfl
    · rw [hmay, Bool.true_and] at l1
      rw [hmay, if_pos rfl] at hrs
      simp only [hmay, ↓gos, gop, Nat.reduceBEq, Nat.reduceAdd, Nat.reduceSub, Nat.reduceLeDiff, Nat.reduceMul, Int.reduceLE, Int.reduceLT, Int.reduceNe, Int.reduceToNat]
      have r := runes19 (E := ED) rfl vED (en k) hs
      rw [hrs] at r
      refine call_lend r rfl (free_num _) ?_
      simp only [DV.ren, renO, List.map_cons, List.map_nil, num, ↓gos, gop, Nat.reduceBEq, Nat.reduceAdd, Nat.reduceSub, Nat.reduceLeDiff, Nat.reduceMul, Int.reduceLE, Int.reduceLT, Int.reduceNe, Int.reduceToNat]
      refine call_ret (plain18 (E := ED) rfl [(k : Int)] [(k : Int)] (by simp) (by simp)) rfl rfl ?_
      simp only [↓gos, gop, Nat.reduceBEq, Nat.reduceAdd, Nat.reduceSub, Nat.reduceLeDiff, Nat.reduceMul, Int.reduceLE, Int.reduceLT, Int.reduceNe, Int.reduceToNat]
      refine ⟨fun hz => ?_, fun hz => call_ret (hcut (fun q => hz (hm0.2 q))) rfl rfl ?_⟩
      · by_cases hq : 32 ≤ (k : Int)
        · rw [decide_eq_true hq] at l1
          refine call_ret l1 rfl rfl ?_
          simp only [↓gos, gop, Nat.reduceBEq, Nat.reduceAdd, Nat.reduceSub, Nat.reduceLeDiff, Nat.reduceMul, Int.reduceLE, Int.reduceLT, Int.reduceNe, Int.reduceToNat]
          refine ⟨fun _ => ⟨fun _ => call_ret l0 rfl rfl ?_, fun hn => by simp at hn⟩, fun q => absurd hq q⟩
          simp only [↓gos, gop, Nat.reduceBEq, Nat.reduceAdd, Nat.reduceSub, Nat.reduceLeDiff, Nat.reduceMul, Int.reduceLE, Int.reduceLT, Int.reduceNe, Int.reduceToNat]
          exact endb rfl
        · rw [decide_eq_false hq] at l1
          refine call_ret l1 rfl rfl ?_
          simp only [↓gos, gop, Nat.reduceBEq, Nat.reduceAdd, Nat.reduceSub, Nat.reduceLeDiff, Nat.reduceMul, Int.reduceLE, Int.reduceLT, Int.reduceNe, Int.reduceToNat]
          refine ⟨fun q => absurd q hq, fun _ => ⟨fun _ => call_ret l0 rfl rfl ?_, fun hn => by simp at hn⟩⟩
          simp only [↓gos, gop, Nat.reduceBEq, Nat.reduceAdd, Nat.reduceSub, Nat.reduceLeDiff, Nat.reduceMul, Int.reduceLE, Int.reduceLT, Int.reduceNe, Int.reduceToNat]
          exact endb rfl
      · simp only [↓gos, gop, Nat.reduceBEq, Nat.reduceAdd, Nat.reduceSub, Nat.reduceLeDiff, Nat.reduceMul, Int.reduceLE, Int.reduceLT, Int.reduceNe, Int.reduceToNat]
        by_cases hq : 32 ≤ (k : Int)
        · rw [decide_eq_true hq] at l1
          refine call_ret l1 rfl rfl ?_
          simp only [↓gos, gop, Nat.reduceBEq, Nat.reduceAdd, Nat.reduceSub, Nat.reduceLeDiff, Nat.reduceMul, Int.reduceLE, Int.reduceLT, Int.reduceNe, Int.reduceToNat]
          refine ⟨fun _ => ⟨fun _ => call_ret l0 rfl rfl ?_, fun hn => by simp at hn⟩, fun q => absurd hq q⟩
          simp only [↓gos, gop, Nat.reduceBEq, Nat.reduceAdd, Nat.reduceSub, Nat.reduceLeDiff, Nat.reduceMul, Int.reduceLE, Int.reduceLT, Int.reduceNe, Int.reduceToNat]
          exact endb rfl
        · rw [decide_eq_false hq] at l1
          refine call_ret l1 rfl rfl ?_
          simp only [↓gos, gop, Nat.reduceBEq, Nat.reduceAdd, Nat.reduceSub, Nat.reduceLeDiff, Nat.reduceMul, Int.reduceLE, Int.reduceLT, Int.reduceNe, Int.reduceToNat]
          refine ⟨fun q => absurd q hq, fun _ => ⟨fun _ => call_ret l0 rfl rfl ?_, fun hn => by simp at hn⟩⟩
          simp only [↓gos, gop, Nat.reduceBEq, Nat.reduceAdd, Nat.reduceSub, Nat.reduceLeDiff, Nat.reduceMul, Int.reduceLE, Int.reduceLT, Int.reduceNe, Int.reduceToNat]
          exact endb rfl
end Go.Proofs.Ut
