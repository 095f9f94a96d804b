/- A line of signs of one byte has so many rows, all but the last one full. -/
import Derived.Test.YtbnmhlienklfpaaDoorFoF
set_option linter.all false
namespace Go.Proofs.Ut
open Go.Ai Classical Go.Shelf Go.RowKit
set_option linter.unusedSimpArgs false
set_option linter.unusedVariables false
set_option maxHeartbeats 1000000
set_option maxRecDepth 100000
theorem D_asc {s : List UInt8} (h : ∀ b ∈ s, b.toNat < 128) {i : Nat} (hi : i < s.length) : (D s i).2 = 1 := by
  have hb : by_ s i < 128 := by
    unfold by_
    rw [List.getD_eq_getElem?_getD, List.getElem?_eq_getElem hi]
    exact h _ (List.getElem_mem _)
  rw [D1 hb]
theorem fitA_asc {s : List UInt8} (h : ∀ b ∈ s, b.toNat < 128) (most : Nat) (hm : 0 < most) : ∀ k n, s.length - n ≤ k → n ≤ s.length → n ≤ most → fitA s most n = min s.length most
  | 0, n, hk, hn, hp => by rw [fitA_end s most n (by omega)]; omega
  | k + 1, n, hk, hn, hp => by
    by_cases c : n < s.length
    · rw [fitA_step s most n c, D_asc h c]
      split
      · omega
      · exact fitA_asc h most hm k (n + 1) (by omega) (by omega) (by omega)
    · rw [fitA_end s most n c]; omega
theorem fits_asc {s : List UInt8} (h : ∀ b ∈ s, b.toNat < 128) (most : Nat) (hm : 0 < most) : fits s most = min s.length most := fitA_asc h most hm _ 0 (Nat.le_refl _) (Nat.zero_le _) (Nat.zero_le _)
theorem foldR_asc : ∀ k (s : List UInt8), s.length ≤ k → (∀ b ∈ s, b.toNat < 128) → (foldR s).length = (s.length + 73) / 74
  | k, [], _, _ => by rw [foldR_nil]; rfl
  | 0, y :: s, h, _ => by simp at h
  | k + 1, y :: s, h, ha => by
    have hf := fits_le (y :: s) 74 (by simp)
    have he := fits_asc ha 74 (by omega)
    rw [foldR_step _ (by simp), List.length_cons, foldR_asc k _ (by rw [List.length_drop]; simp only [List.length_cons] at h ⊢; omega) (fun b hb => ha b (List.mem_of_mem_drop hb)), List.length_drop, he]
    simp only [List.length_cons] at he hf ⊢
    omega
theorem rows_asc {s : List UInt8} (ha : ∀ b ∈ s, b.toNat < 128) : (rowsL s).length = if s.length ≤ 75 then 1 else 1 + (s.length - 75 + 73) / 74 := by
  rw [rowsL_eq, List.length_cons, foldR_asc _ _ (Nat.le_refl _) (fun b hb => ha b (List.mem_of_mem_drop hb)), List.length_drop, fits_asc ha 75 (by omega)]
  split <;> omega
/-- A line that may stand is folded, and unfolded as it was. -/
theorem back_one {s : List UInt8} (hl : (ended (rowsL s)).length ≤ 20000) (hv : runAt mayB s 0 = true) (hn : ∀ x ∈ s, x ≠ 13 ∧ x ≠ 10) (hm : moreB s = false) : unfoldR (ended (rowsL s)) = ([s], 0) := by
  have hg := rows_line s hv hn
  refine unfoldR_good (R := some [s]) hl (run_ended _ fun r hr => (hg r hr).2.1) ?_
  unfold unfA
  rw [unf_rows _ _ _ (Nat.le_refl _) fun r hr => (hg r hr).2.2]
  have := unfR_line [] [] s hm
  rw [List.append_nil] at this
  rw [this]; rfl
theorem wrap_u8 {x : Int} (h0 : 0 ≤ x) (h1 : x < 256) : IntKind.u8.wrap x = x := by
  simp [IntKind.wrap, IntKind.bits, IntKind.signed]; omega
theorem z_nat (c : UInt8) : (97 + c % 26 : UInt8).toNat = 97 + c.toNat % 26 := by
  have := c.toNat_lt
  rw [UInt8.toNat_add, UInt8.toNat_mod]
  simp; omega
theorem rows5 (n : Int) (c : UInt8) : DRet 5 [.int .i64 n, .int .u8 c.toNat] (.bool true) := by
  refine acalls_go c5 (by simp [f5]) ?_
  simp only [f5, ↓gos, gop, Nat.reduceBEq, Nat.reduceAdd, Nat.reduceSub, Nat.reduceLeDiff, Nat.reduceMul, Int.reduceLE, Int.reduceLT, Int.reduceNe, Int.reduceToNat]
  intro u0 hu0 u1 hu1 k hk
  have a0 := wrap_u64_bd n
  rw [← hu0] at a0
  have b0 := tmod_range u0 400 a0.1 (by omega)
  rw [← hu1] at b0
  rw [wrap_i64 (by omega) (by omega)] at hk
  obtain ⟨q, rfl⟩ : ∃ j : Nat, k = j := ⟨k.toNat, by omega⟩
  have hq : q < 400 := by omega
  refine ⟨by omega, by omega, by omega, by omega, ?_⟩
  simp only [Int.toNat_natCast]
  refine goN_lp (γ := Nat) (fun i => [(21, .int .i64 (i : Nat)), (20, .int .i64 (q : Nat)), (5, .osl 1 0 0 q (some q)), (0, .int .i64 (q : Nat)), (1, .int .u8 c.toNat)])
    (fun i => [.arr 1 (byv (List.replicate i (97 + c % 26) ++ List.replicate (q - i) 0))]) (fun i => i ≤ q) (fun i => q - i) 0
    (wks (by simp [byv]) (by simp) ⟨rfl, rfl, rfl, rfl, rfl, trivial⟩) (by simp) fun i hi => ?_
  simp only [f5l0, ↓gos, gop, Nat.reduceBEq, Nat.reduceAdd, Nat.reduceSub, Nat.reduceLeDiff, Nat.reduceMul, Int.reduceLE, Int.reduceLT, Int.reduceNe, Int.reduceToNat]
  refine ⟨fun h1 => ?_, fun h1 => ?_⟩
  · intro v hv v1 hv1
    have hb0 := tmod_range (c.toNat : Int) 26 (by omega) (by omega)
    rw [← hv] at hb0
    rw [Int.tmod_eq_emod_of_nonneg (by omega)] at hv
    rw [wrap_u8 (by omega) (by omega)] at hv1
    refine ⟨by omega, optB (by simp; omega) fun x => ⟨by simp, fun w hw => ?_⟩⟩
    rw [wrap_i64 (by omega) (by omega)] at hw
    have hw : w = ((i + 1 : Nat) : Int) := by omega
    subst hw
    simp only [List.drop_succ_cons, List.drop_zero]
    rw [byv_set _ i (97 + c % 26) v1 (by rw [z_nat c]; omega), rep_set i q (97 + c % 26) 0 (by omega)]
    exact rnd_s (i + 1) rfl (by simp) ⟨rfl, rfl, rfl, rfl, rfl, trivial⟩ (by omega) (by omega)
  · have hi2 : i = q := by omega
    subst hi2
    rw [Nat.sub_self, List.replicate_zero, List.append_nil]
    refine .inr ⟨_, rfl, by simp [byv], List.replicate i (97 + c % 26), by rw [List.take_of_length_le (by simp [byv])]; rfl, ?_⟩
    have hz := z_nat c
    have hmem : ∀ b ∈ List.replicate i (97 + c % 26), b = 97 + c % 26 := fun b hb => (List.mem_replicate.1 hb).2
    have hasc : ∀ b ∈ List.replicate i (97 + c % 26), b.toNat < 128 := fun b hb => by rw [hmem b hb, hz]; omega
    have hlen : (List.replicate i (97 + c % 26)).length = i := List.length_replicate
    have hno : ∀ x ∈ List.replicate i (97 + c % 26), x ≠ 13 ∧ x ≠ 10 := fun b hb => by
      rw [hmem b hb]
      exact ⟨fun e => by rw [e] at hz; simp at hz; omega, fun e => by rw [e] at hz; simp at hz; omega⟩
    have hmore : moreB (List.replicate i (97 + c % 26)) = false := by
      cases i with
      | zero => rfl
      | succ i =>
        have h1 : (97 + c % 26 : UInt8) ≠ 32 := fun e => by rw [e] at hz; simp at hz; omega
        have h2 : (97 + c % 26 : UInt8) ≠ 9 := fun e => by rw [e] at hz; simp at hz; omega
        rw [List.replicate_succ]
        simp [moreB, h1, h2]
    have hval : runAt mayB (List.replicate i (97 + c % 26)) 0 = true := by
      rw [(run_ascii mayB _ hasc).1, List.all_eq_true]
      intro b hb
      rw [hmem b hb, hz]
      unfold mayB shownB
      simp; omega
    have hrows := rows_asc hasc
    have hrl := rows_len (List.replicate i (97 + c % 26))
    rw [hlen] at hrows hrl
    generalize List.replicate i (97 + c % 26) = S at *
    have hR : (rowsL S).length ≤ 10 := by rw [hrows]; split <;> omega
    have hxl : (ended (rowsL S)).length < 1000 := by omega
    have hfo := fold13 [S] (by simp) (by rw [foldF_one]; omega)
    rw [foldF_one] at hfo
    have hu := unfold14 (ended (rowsL S)) (by omega)
    rw [back_one (by omega) hval hno hmore] at hu
    have hcnt := count_ended (rowsL S) fun r hr x hx => ((rows_line S hval hno r hr).2.2 x hx).2
    generalize hxx : ended (rowsL S) = X at *
    generalize (rowsL S).length = R at *
    refine call_ret hfo rfl rfl ?_
    simp only [↓gos, gop, Nat.reduceBEq, Nat.reduceAdd, Nat.reduceSub, Nat.reduceLeDiff, Nat.reduceMul, Int.reduceLE, Int.reduceLT, Int.reduceNe, Int.reduceToNat]
    refine ⟨fun h75 v hv v1 hv1 v2 hv2 v3 hv3 v4 hv4 => ?_, fun h75 => ?_⟩
    · rw [wrap_i64 (by omega) (by omega)] at hv
      rw [wrap_i64 (by omega) (by omega)] at hv1
      rw [wrap_i64 (by omega) (by omega)] at hv2
      rw [Int.tdiv_eq_ediv_of_nonneg (by omega), wrap_i64 (by omega) (by omega)] at hv3
      rw [wrap_i64 (by omega) (by omega)] at hv4
      rw [if_neg (by omega)] at hrows
      have hv4 : v4 = (R : Nat) := by omega
      clear hv hv1 hv2 hv3
      subst hv4
      refine goN_lp (γ := Nat) (fun k => [(10, .int .i64 (k : Nat)), (9, .int .i64 ((X.take k).count 10 : Nat)), (8, .int .i64 (R : Nat)), (7, .str X), (5, .osl 1 0 0 i (some i)), (0, .int .i64 (i : Nat))])
        (fun _ => [.arr 1 (byv S), .arr 1 [[.str S]]]) (fun k => k ≤ X.length) (fun k => X.length - k) 0
        (wks rfl (by simp) ⟨rfl, rfl, rfl, rfl, rfl, rfl, trivial⟩) (by simp) fun k hk => ?_
      simp only [f5l1, ↓gos, gop, Nat.reduceBEq, Nat.reduceAdd, Nat.reduceSub, Nat.reduceLeDiff, Nat.reduceMul, Int.reduceLE, Int.reduceLT, Int.reduceNe, Int.reduceToNat]
      refine ⟨fun h1 => ?_, fun h1 => ?_⟩
      · have hkl : k < X.length := by omega
        have htk : X.take (k + 1) = X.take k ++ [X.getD k 0] := by
          rw [List.take_add_one, List.getD_eq_getElem?_getD, List.getElem?_eq_getElem hkl]; rfl
        have hbt : bt X k = ((X.getD k 0).toNat : Int) := rfl
        have hle : (X.take k).count 10 ≤ 1000 := by
          have := List.count_le_length (a := 10) (l := X.take k)
          rw [List.length_take] at this; omega
        refine ⟨by omega, fun h2 w hw w2 hw2 => ?_, fun h2 w hw => ?_⟩
        · have hx : X.getD k 0 = 10 := UInt8.toNat_inj.1 (by rw [hbt] at h2; show _ = 10; omega)
          rw [wrap_i64 (by omega) (by omega)] at hw
          rw [wrap_i64 (by omega) (by omega)] at hw2
          have hw2 : w2 = ((k + 1 : Nat) : Int) := by omega
          have hcn : (X.take (k + 1)).count 10 = (X.take k).count 10 + 1 := by rw [htk, List.count_append, hx]; rfl
          have hw : w = (((X.take (k + 1)).count 10 : Nat) : Int) := by rw [hcn]; omega
          subst hw hw2
          exact rnd_s (k + 1) rfl (by simp) ⟨rfl, rfl, rfl, rfl, rfl, rfl, trivial⟩ (by omega) (by omega)
        · have hx : X.getD k 0 ≠ 10 := fun e => h2 (by rw [hbt, e]; rfl)
          rw [wrap_i64 (by omega) (by omega)] at hw
          have hw : w = ((k + 1 : Nat) : Int) := by omega
          have hcn : (X.take (k + 1)).count 10 = (X.take k).count 10 := by rw [htk, List.count_append, List.count_cons_of_ne (by simpa using hx)]; rfl
          subst hw
          refine rnd_s (k + 1) rfl (by simp) ⟨rfl, ?_, rfl, rfl, rfl, rfl, trivial⟩ (by omega) (by omega)
          rw [hcn]; rfl
      · have hk2 : k = X.length := by omega
        subst hk2
        rw [List.take_length, hcnt]
        refine call_new hu (fun d hd => by simp at hd; subst hd; rfl) ?_
        simp only [DV.ren, DV.ren.renAll, renO, ↓gos, gop, Nat.reduceBEq, Nat.reduceAdd, Nat.reduceSub, Nat.reduceLeDiff, Nat.reduceMul, Int.reduceLE, Int.reduceLT, Int.reduceNe, Int.reduceToNat]
        refine call_ret awake12 rfl rfl ?_
        simp only [↓gos, gop, Nat.reduceBEq, Nat.reduceAdd, Nat.reduceSub, Nat.reduceLeDiff, Nat.reduceMul, Int.reduceLE, Int.reduceLT, Int.reduceNe, Int.reduceToNat]
        intro e1 he1 e2 he2 e3 he3 e4 he4
        rw [wrap_i64 (by omega) (by omega)] at he1
        rw [wrap_i64 (by omega) (by omega)] at he2
        rw [wrap_i64 (by omega) (by omega)] at he3
        rw [wrap_i64 (by omega) (by omega)] at he4
        refine ⟨fun _ => .inr ⟨_, rfl, by simp [byv, hlen], S, by rw [List.take_of_length_le (by simp [byv, hlen])]; rfl, ?_⟩, fun q => by exfalso; omega⟩
        refine call_ret (plain62 [S] [S] (by simp) (by simp)) rfl rfl ?_
        rw [decide_eq_true rfl]
        simp only [↓gos, gop, Nat.reduceBEq, Nat.reduceAdd, Nat.reduceSub, Nat.reduceLeDiff, Nat.reduceMul, Int.reduceLE, Int.reduceLT, Int.reduceNe, Int.reduceToNat]
        exact endb rfl
    · rw [if_pos (by omega)] at hrows
      have hR1 : (1 : Int) = ((R : Nat) : Int) := by omega
      rw [hR1]
      refine goN_lp (γ := Nat) (fun k => [(10, .int .i64 (k : Nat)), (9, .int .i64 ((X.take k).count 10 : Nat)), (8, .int .i64 (R : Nat)), (7, .str X), (5, .osl 1 0 0 i (some i)), (0, .int .i64 (i : Nat))])
        (fun _ => [.arr 1 (byv S), .arr 1 [[.str S]]]) (fun k => k ≤ X.length) (fun k => X.length - k) 0
        (wks rfl (by simp) ⟨rfl, rfl, rfl, rfl, rfl, rfl, trivial⟩) (by simp) fun k hk => ?_
      simp only [f5l1, ↓gos, gop, Nat.reduceBEq, Nat.reduceAdd, Nat.reduceSub, Nat.reduceLeDiff, Nat.reduceMul, Int.reduceLE, Int.reduceLT, Int.reduceNe, Int.reduceToNat]
      refine ⟨fun h1 => ?_, fun h1 => ?_⟩
      · have hkl : k < X.length := by omega
        have htk : X.take (k + 1) = X.take k ++ [X.getD k 0] := by
          rw [List.take_add_one, List.getD_eq_getElem?_getD, List.getElem?_eq_getElem hkl]; rfl
        have hbt : bt X k = ((X.getD k 0).toNat : Int) := rfl
        have hle : (X.take k).count 10 ≤ 1000 := by
          have := List.count_le_length (a := 10) (l := X.take k)
          rw [List.length_take] at this; omega
        refine ⟨by omega, fun h2 w hw w2 hw2 => ?_, fun h2 w hw => ?_⟩
        · have hx : X.getD k 0 = 10 := UInt8.toNat_inj.1 (by rw [hbt] at h2; show _ = 10; omega)
          rw [wrap_i64 (by omega) (by omega)] at hw
          rw [wrap_i64 (by omega) (by omega)] at hw2
          have hw2 : w2 = ((k + 1 : Nat) : Int) := by omega
          have hcn : (X.take (k + 1)).count 10 = (X.take k).count 10 + 1 := by rw [htk, List.count_append, hx]; rfl
          have hw : w = (((X.take (k + 1)).count 10 : Nat) : Int) := by rw [hcn]; omega
          subst hw hw2
          exact rnd_s (k + 1) rfl (by simp) ⟨rfl, rfl, rfl, rfl, rfl, rfl, trivial⟩ (by omega) (by omega)
        · have hx : X.getD k 0 ≠ 10 := fun e => h2 (by rw [hbt, e]; rfl)
          rw [wrap_i64 (by omega) (by omega)] at hw
          have hw : w = ((k + 1 : Nat) : Int) := by omega
          have hcn : (X.take (k + 1)).count 10 = (X.take k).count 10 := by rw [htk, List.count_append, List.count_cons_of_ne (by simpa using hx)]; rfl
          subst hw
          refine rnd_s (k + 1) rfl (by simp) ⟨rfl, ?_, rfl, rfl, rfl, rfl, trivial⟩ (by omega) (by omega)
          rw [hcn]; rfl
      · have hk2 : k = X.length := by omega
        subst hk2
        rw [List.take_length, hcnt]
        refine call_new hu (fun d hd => by simp at hd; subst hd; rfl) ?_
        simp only [DV.ren, DV.ren.renAll, renO, ↓gos, gop, Nat.reduceBEq, Nat.reduceAdd, Nat.reduceSub, Nat.reduceLeDiff, Nat.reduceMul, Int.reduceLE, Int.reduceLT, Int.reduceNe, Int.reduceToNat]
        refine call_ret awake12 rfl rfl ?_
        simp only [↓gos, gop, Nat.reduceBEq, Nat.reduceAdd, Nat.reduceSub, Nat.reduceLeDiff, Nat.reduceMul, Int.reduceLE, Int.reduceLT, Int.reduceNe, Int.reduceToNat]
        intro e1 he1 e2 he2 e3 he3 e4 he4
        rw [wrap_i64 (by omega) (by omega)] at he1
        rw [wrap_i64 (by omega) (by omega)] at he2
        rw [wrap_i64 (by omega) (by omega)] at he3
        rw [wrap_i64 (by omega) (by omega)] at he4
        refine ⟨fun _ => .inr ⟨_, rfl, by simp [byv, hlen], S, by rw [List.take_of_length_le (by simp [byv, hlen])]; rfl, ?_⟩, fun q => by exfalso; omega⟩
        refine call_ret (plain62 [S] [S] (by simp) (by simp)) rfl rfl ?_
        rw [decide_eq_true rfl]
        simp only [↓gos, gop, Nat.reduceBEq, Nat.reduceAdd, Nat.reduceSub, Nat.reduceLeDiff, Nat.reduceMul, Int.reduceLE, Int.reduceLT, Int.reduceNe, Int.reduceToNat]
        exact endb rfl
end Go.Proofs.Ut
