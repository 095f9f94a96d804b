import Derived.Test.YtbhlmbacgbfaoaaRgH
set_option linter.all false
namespace Go.Proofs.Rg
open Go.Ai Classical
set_option linter.unusedSimpArgs false
set_option maxHeartbeats 1000000
set_option maxRecDepth 100000
theorem free_row (J : List (Int × Int)) : ((DV.osl 2 0 0 J.length none).free && [AObj.arr 2 (J.map rg)].all freeO) = true := by simp [DV.free, freeO, rg]
theorem norm_one {x : Int × Int} (h : x.1 ≤ x.2) : Norm [x] := ⟨by simpa using h, by simp⟩
theorem rt_one {x : Int × Int} (h : x.1 ≤ x.2) : Rt [x] := norm_rt (norm_one h)
theorem rt_nil : Rt [] := fun j hj => by simp at hj
theorem i64_one {x : Int × Int} (h : I64 x) : ∀ r ∈ [x], I64 r := by simpa using h
theorem awake_calls : Ret 7 [] (.bool true) := by
  refine acalls_go c7 (by simp [f7]) ?_
  simp only [f7, ↓gos, gop, Nat.reduceBEq, Nat.reduceAdd, Nat.reduceSub, Nat.reduceLeDiff, Nat.reduceMul, Int.reduceLE, Int.reduceLT, Int.reduceNe, Int.reduceToNat]
  refine call_lend letters18_calls rfl (free_row _) ?_
  simp only [DV.ren, renO, ↓gos, gop, Nat.reduceBEq, Nat.reduceAdd, Nat.reduceSub, Nat.reduceLeDiff, Nat.reduceMul, Int.reduceLE, Int.reduceLT, Int.reduceNe, Int.reduceToNat]
  refine call_ret (in_calls (prs lettersL) 65 (by decide)) (by simp [dn_osl (h := [.arr 2 ((prs lettersL).map rg)]) (i := 0) rfl]; rfl) rfl ?_
  have e1 : (prs lettersL).any (hasB · 65) = true := by decide
  rw [e1]
  simp only [↓gos, gop, Nat.reduceBEq, Nat.reduceAdd, Nat.reduceSub, Nat.reduceLeDiff, Nat.reduceMul, Int.reduceLE, Int.reduceLT, Int.reduceNe, Int.reduceToNat]
  refine call_ret (right_calls [(1, 2)] (by decide)) rfl rfl ?_
  rw [show decide (Rt [((1 : Int), (2 : Int))]) = true from decide_eq_true (rt_one (by decide))]
  simp only [↓gos, gop, Nat.reduceBEq, Nat.reduceAdd, Nat.reduceSub, Nat.reduceLeDiff, Nat.reduceMul, Int.reduceLE, Int.reduceLT, Int.reduceNe, Int.reduceToNat]
  refine call_lendP (join_calls [(1, 2)] [(3, 4)] (by decide) (by decide) (i64_one ⟨by decide, by decide, by decide, by decide⟩) (i64_one ⟨by decide, by decide, by decide, by decide⟩)) rfl (fun h' d hp => ?_) fun h' d hp => ?_
  · obtain ⟨J, hJ, rfl, rfl⟩ := hp
    exact free_row J
  · obtain ⟨J, hJ, rfl, rfl⟩ := hp
    have hR := joinR_right hJ (rt_one (by decide)) (rt_one (by decide))
    obtain rfl : J = [(1, 4)] := norm_unique _ _ hR.1 (norm_one (by decide)) fun c => by
      rw [hR.2.1]; simp [memR]; omega
    simp only [DV.ren, renO, rg, ↓gos, gop, Nat.reduceBEq, Nat.reduceAdd, Nat.reduceSub, Nat.reduceLeDiff, Nat.reduceMul, Int.reduceLE, Int.reduceLT, Int.reduceNe, Int.reduceToNat]
    refine call_ret (plain_calls [(1, 4)] [(1, 4)] (by decide) (by decide)) rfl rfl ?_
    simp only [decide_true, ↓gos, gop, Nat.reduceBEq, Nat.reduceAdd, Nat.reduceSub, Nat.reduceLeDiff, Nat.reduceMul, Int.reduceLE, Int.reduceLT, Int.reduceNe, Int.reduceToNat]
    exact endb rfl
theorem join_nil (a : List (Int × Int)) (ha : a.length < 100000000) (hai : ∀ r ∈ a, I64 r) : ACalls E0 14 [] [.sl 2 (a.map rg), .nils 1] fun h d => ∃ J, JoinR a [] J ∧ h = [.arr 2 (J.map rg)] ∧ d = .osl 2 0 0 J.length none := by
  refine weaken (args' := [.sl 2 (a.map rg), .nils 1]) (join_calls a [] ha (by simp) hai (by simp)) rfl fun k d' d h1 h2 w ok β v hv => ?_
  rcases k with _ | _ | k
  · simp at h1 h2; subst h1; subst h2; exact hv
  · simp at h1 h2; subst h1; subst h2; exact nils_sl (by omega) hv
  · simp at h1
theorem one_calls (low n : Int) : Ret 5 [.int .i64 low, .int .i64 n] (.bool true) := by
  refine acalls_go c5 (by simp [f5]) ?_
  simp only [f5, ↓gos, gop, Nat.reduceBEq, Nat.reduceAdd, Nat.reduceSub, Nat.reduceLeDiff, Nat.reduceMul, Int.reduceLE, Int.reduceLT, Int.reduceNe, Int.reduceToNat]
  intro v1 hv1 v2 hv2 lo hlo v3 hv3 v4 hv4 k hk s1 hs1 s2 hs2 s3 hs3 s4 hs4 s5 hs5
  have r1 := u64_range low
  rw [← hv1] at r1
  have r2 := tmod_range v1 1000 r1.1 (by omega)
  rw [← hv2] at r2
  rw [wrap_i64 (by omega) (by omega)] at hlo
  have r3 := u64_range n
  rw [← hv3] at r3
  have r4 := tmod_range v3 50 r3.1 (by omega)
  rw [← hv4] at r4
  rw [wrap_i64 (by omega) (by omega)] at hk
  rw [wrap_i64 (by omega) (by omega)] at hs1 hs2 hs3 hs4 hs5
  obtain rfl : s3 = s1 := by omega
  obtain rfl : s4 = s3 := by omega
  obtain rfl : s5 = s4 := by omega
  have b1 : 0 ≤ lo ∧ lo < 1000 := by omega
  have b2 : lo ≤ s5 ∧ s5 < 1050 := by omega
  clear hv1 hv2 hlo hv3 hv4 hk r1 r2 r3 r4
  have hl : Norm [(lo, s5)] := norm_one b2.1
  have hlr := norm_rt hl
  have hI : ∀ r ∈ [(lo, s5)], I64 r := i64_one ⟨by omega, by omega, by omega, by omega⟩
  have hIb : ∀ r ∈ [(s2, lo)], I64 r := i64_one ⟨by omega, by omega, by omega, by omega⟩
  have hI2 : ∀ r ∈ [(lo, s5), (s5, s5)], I64 r := by
    intro r hr
    rcases List.mem_cons.1 hr with rfl | hr
    · exact ⟨by omega, by omega, by omega, by omega⟩
    · exact i64_one (x := (s5, s5)) ⟨by omega, by omega, by omega, by omega⟩ r hr
  have hbad : ¬ Rt [(s2, lo)] := fun h => by have := rt_le h (s2, lo) (by simp); simp at this; omega
  have htwo : ¬ Rt [(lo, s5), (s5, s5)] := fun h => by have := (h 1 (by simp)).2 (by omega); simp at this
  refine call_ret awake_calls rfl rfl ?_
  simp only [↓gos, gop, Nat.reduceBEq, Nat.reduceAdd, Nat.reduceSub, Nat.reduceLeDiff, Nat.reduceMul, Int.reduceLE, Int.reduceLT, Int.reduceNe, Int.reduceToNat]
  refine call_ret (in_calls [(lo, s5)] lo (by simp)) rfl rfl ?_
  rw [show [(lo, s5)].any (hasB · lo) = true by simp [hasB]; omega]
  simp only [↓gos, gop, Nat.reduceBEq, Nat.reduceAdd, Nat.reduceSub, Nat.reduceLeDiff, Nat.reduceMul, Int.reduceLE, Int.reduceLT, Int.reduceNe, Int.reduceToNat]
  intro u1 hu1
  rw [wrap_i64 (by omega) (by omega)] at hu1
  obtain rfl : u1 = s5 := by omega
  refine call_ret (in_calls [(lo, u1)] u1 (by simp)) rfl rfl ?_
  rw [show [(lo, u1)].any (hasB · u1) = true by simp [hasB]; omega]
  simp only [↓gos, gop, Nat.reduceBEq, Nat.reduceAdd, Nat.reduceSub, Nat.reduceLeDiff, Nat.reduceMul, Int.reduceLE, Int.reduceLT, Int.reduceNe, Int.reduceToNat]
  intro u2 hu2
  rw [wrap_i64 (by omega) (by omega)] at hu2
  refine call_ret (in_calls [(lo, u1)] u2 (by simp)) rfl rfl ?_
  rw [show [(lo, u1)].any (hasB · u2) = false by simp [hasB]; omega]
  simp only [↓gos, gop, Nat.reduceBEq, Nat.reduceAdd, Nat.reduceSub, Nat.reduceLeDiff, Nat.reduceMul, Int.reduceLE, Int.reduceLT, Int.reduceNe, Int.reduceToNat]
  intro u3 hu3 u4 hu4
  rw [wrap_i64 (by omega) (by omega)] at hu3
  rw [wrap_i64 (by omega) (by omega)] at hu4
  refine call_ret (in_calls [(lo, u1)] u4 (by simp)) rfl rfl ?_
  rw [show [(lo, u1)].any (hasB · u4) = false by simp [hasB]; omega]
  simp only [↓gos, gop, Nat.reduceBEq, Nat.reduceAdd, Nat.reduceSub, Nat.reduceLeDiff, Nat.reduceMul, Int.reduceLE, Int.reduceLT, Int.reduceNe, Int.reduceToNat]
  have fr : ∀ (a b : List (Int × Int)) (h' : List AObj) (d : DV), (∃ J, JoinR a b J ∧ h' = [.arr 2 (J.map rg)] ∧ d = .osl 2 0 0 J.length none) → (d.free && h'.all freeO) = true := fun a b h' d hp => by
    obtain ⟨J, hJ, rfl, rfl⟩ := hp
    exact free_row J
  refine call_lendP (join_nil [(lo, u1)] (by simp) hI) rfl (fr _ _) fun h' d hp => ?_
  obtain ⟨J, hJ, rfl, rfl⟩ := hp
  have hR := joinR_right hJ hlr rt_nil
  obtain rfl : J = [(lo, u1)] := norm_unique _ _ hR.1 hl fun c => by rw [hR.2.1]; simp [memR]
  simp only [DV.ren, renO, rg, ↓gos, gop, Nat.reduceBEq, Nat.reduceAdd, Nat.reduceSub, Nat.reduceLeDiff, Nat.reduceMul, Int.reduceLE, Int.reduceLT, Int.reduceNe, Int.reduceToNat]
  refine call_ret (plain_calls [(lo, u1)] [(lo, u1)] (by simp) (by simp)) rfl rfl ?_
  simp only [decide_true, ↓gos, gop, Nat.reduceBEq, Nat.reduceAdd, Nat.reduceSub, Nat.reduceLeDiff, Nat.reduceMul, Int.reduceLE, Int.reduceLT, Int.reduceNe, Int.reduceToNat]
  refine call_lendP (join_calls [(lo, u1)] [(lo, u1)] (by simp) (by simp) hI hI) rfl (fr _ _) fun h' d hp => ?_
  obtain ⟨J, hJ, rfl, rfl⟩ := hp
  have hR := joinR_right hJ hlr hlr
  obtain rfl : J = [(lo, u1)] := norm_unique _ _ hR.1 hl fun c => by rw [hR.2.1]; simp
  simp only [DV.ren, renO, rg, ↓gos, gop, Nat.reduceBEq, Nat.reduceAdd, Nat.reduceSub, Nat.reduceLeDiff, Nat.reduceMul, Int.reduceLE, Int.reduceLT, Int.reduceNe, Int.reduceToNat]
  refine call_ret (plain_calls [(lo, u1)] [(lo, u1)] (by simp) (by simp)) rfl rfl ?_
  simp only [decide_true, ↓gos, gop, Nat.reduceBEq, Nat.reduceAdd, Nat.reduceSub, Nat.reduceLeDiff, Nat.reduceMul, Int.reduceLE, Int.reduceLT, Int.reduceNe, Int.reduceToNat]
  refine call_ret (right_calls [(s2, lo)] (by simp)) rfl rfl ?_
  simp only [hbad, decide_false, ↓gos, gop, Nat.reduceBEq, Nat.reduceAdd, Nat.reduceSub, Nat.reduceLeDiff, Nat.reduceMul, Int.reduceLE, Int.reduceLT, Int.reduceNe, Int.reduceToNat]
  refine call_ret (right_calls [(lo, u1), (u1, u1)] (by simp)) rfl rfl ?_
  simp only [htwo, decide_false, ↓gos, gop, Nat.reduceBEq, Nat.reduceAdd, Nat.reduceSub, Nat.reduceLeDiff, Nat.reduceMul, Int.reduceLE, Int.reduceLT, Int.reduceNe, Int.reduceToNat]
  refine call_lendP (join_calls [(lo, u1)] [(s2, lo)] (by simp) (by simp) hI hIb) rfl (fr _ _) fun h' d hp => ?_
  obtain ⟨J, hJ, rfl, rfl⟩ := hp
  obtain rfl : J = [] := hJ.2 fun q => hbad q.2
  simp only [DV.ren, renO, rg, ↓gos, gop, Nat.reduceBEq, Nat.reduceAdd, Nat.reduceSub, Nat.reduceLeDiff, Nat.reduceMul, Int.reduceLE, Int.reduceLT, Int.reduceNe, Int.reduceToNat]
  refine call_lendP (join_nil [(lo, u1), (u1, u1)] (by simp) hI2) rfl (fr _ _) fun h' d hp => ?_
  obtain ⟨J, hJ, rfl, rfl⟩ := hp
  obtain rfl : J = [] := hJ.2 fun q => htwo q.1
  simp only [DV.ren, renO, rg, ↓gos, gop, Nat.reduceBEq, Nat.reduceAdd, Nat.reduceSub, Nat.reduceLeDiff, Nat.reduceMul, Int.reduceLE, Int.reduceLT, Int.reduceNe, Int.reduceToNat]
  exact endb rfl
end Go.Proofs.Rg
