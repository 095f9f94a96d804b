/- (*strings.byteStringReplacer).Replace over the table. -/
import Derived.Test.YtbnmhlienklfpaaGreatDoorZR
import Derived.Test.YtbnmhlienklfpaaGreatDoorZRpShelf
import Derived.Test.YtbnmhlienklfpaaGreatDoorZFoCsA
import Derived.Shelf.Strings.Count
import Derived.Test.YtbnmhlienklfpaaGreatDoorZFuns
set_option linter.all false
namespace Go.Proofs.Ut
open Go.Ai Go.Shelf Go.RowKit
set_option maxRecDepth 100000
set_option linter.all false
theorem count191 (s : List UInt8) (c : UInt8) : DRet 191 [.str s, .str [c]] (.int .i64 (s.count c : Nat)) := by
  refine scal ⟨Tryz.f191, Tryz.func191, by kernel_rfl, by kernel_rfl⟩ fun w ok β vs hl hv => ?_
  obtain ⟨u, v, rfl⟩ := two hl
  obtain rfl := of_str (hv 0 u _ rfl rfl)
  obtain rfl := of_str (hv 1 v _ rfl rfl)
  refine ⟨_, fun _ _ _ => .int _ _, (Any.strings_Count_one Tryz.lays138 ⟨s.toArray⟩ c w).mono ?_⟩
  rintro e w' ⟨rfl, rfl⟩
  exact ⟨rfl, Below.refl _ _⟩
def HR : List AObj := .box (tb (tabG 1 5 4 3 2)) :: RR
theorem l92 : (escB 92).length = 2 := rfl
theorem l44 : (escB 44).length = 2 := rfl
theorem l59 : (escB 59).length = 2 := rfl
theorem l10 : (escB 10).length = 2 := rfl
theorem l13 : (escB 13).length = 0 := rfl
theorem z02 : (0 < 2) = True := by simp
theorem u92 : (((92 : UInt8).toNat : Nat) : Int) = 92 := rfl
theorem u44 : (((44 : UInt8).toNat : Nat) : Int) = 44 := rfl
theorem u59 : (((59 : UInt8).toNat : Nat) : Int) = 59 := rfl
theorem u10 : (((10 : UInt8).toNat : Nat) : Int) = 10 := rfl
theorem u13 : (((13 : UInt8).toNat : Nat) : Int) = 13 := rfl
theorem tabG_no {n : Nat} (h : n ≤ 255) (h1 : n ≠ 92) (h2 : n ≠ 44) (h3 : n ≠ 59) (h4 : n ≠ 10) (h5 : n ≠ 13) : tabG 1 5 4 3 2 n = .emp true 1 := by
  unfold tabG
  rw [if_neg (by omega), if_neg h1, if_neg h2, if_neg h3, if_neg h4, if_neg h5]
theorem byB_len (l : List UInt8) : (byB l).length = l.length := by simp [byB]
theorem byB_app (a b : List UInt8) : byB (a ++ b) = byB a ++ byB b := by simp [byB]
theorem buf_put (a ys : List (List DV)) (k : Nat) (z : List DV) : (a ++ List.replicate k z).take a.length ++ ys ++ (a ++ List.replicate k z).drop (a.length + ys.length) = (a ++ ys) ++ List.replicate (k - ys.length) z := by
  rw [List.take_left', List.drop_append]
  · simp [Nat.add_sub_cancel_left]
  · rfl
theorem buf_set (a : List (List DV)) (k : Nat) (z y : List DV) (hk : 0 < k) : (a ++ List.replicate k z).set a.length y = (a ++ [y]) ++ List.replicate (k - 1) z := by
  obtain ⟨m, rfl⟩ : ∃ m, k = m + 1 := ⟨k - 1, by omega⟩
  simp [List.replicate_succ]
def BF (s : List UInt8) (j : Nat) : List (List DV) := byB (valF (s.take j)) ++ List.replicate ((valF s).length - (valF (s.take j)).length) [.int .u8 0]
theorem BF_len (s : List UInt8) (j : Nat) : (BF s j).length = (valF s).length := by
  have := value_part s j
  simp [BF, byB_len]; omega
theorem BF_put (s : List UInt8) (j : Nat) (e : List UInt8) (hv : valF (s.take (j + 1)) = valF (s.take j) ++ e) : (BF s j).take (valF (s.take j)).length ++ byB e ++ (BF s j).drop ((valF (s.take j)).length + e.length) = BF s (j + 1) := by
  have h := buf_put (byB (valF (s.take j))) (byB e) ((valF s).length - (valF (s.take j)).length) [.int .u8 0]
  rw [byB_len, byB_len] at h
  unfold BF
  rw [h, hv, byB_app, List.length_append, Nat.sub_sub]
theorem BF_at (s : List UInt8) (j : Nat) (h : (valF (s.take j)).length < (valF s).length) : (BF s j)[(valF (s.take j)).length]? = some [.int .u8 0] := by
  unfold BF
  rw [List.getElem?_append_right (by rw [byB_len]; exact Nat.le_refl _), byB_len, Nat.sub_self, List.getElem?_replicate, if_pos (by omega)]
theorem BF_set (s : List UInt8) (j : Nat) (b : UInt8) (hv : valF (s.take (j + 1)) = valF (s.take j) ++ [b]) (h : (valF (s.take j)).length < (valF s).length) : (BF s j).set (valF (s.take j)).length [.int .u8 b.toNat] = BF s (j + 1) := by
  have h := buf_set (byB (valF (s.take j))) ((valF s).length - (valF (s.take j)).length) [.int .u8 0] [.int .u8 b.toNat] (by omega)
  rw [byB_len] at h
  unfold BF
  rw [h, hv, byB_app, List.length_append, Nat.sub_sub]
  rfl
theorem BF_end (s : List UInt8) : BF s s.length = byB (valF s) := by
  unfold BF
  rw [List.take_length, Nat.sub_self]; simp
theorem byB_t2 (a b : UInt8) : List.take 2 (byB [a, b]) = byB [a, b] := rfl
theorem byB_l2 (a b : UInt8) : (byB [a, b]).length = 2 := rfl
theorem endHR (s : List UInt8) (tl : List AObj) : finE 6 (fun h' d => h' = HR ∧ d = DV.str s) (some [.str s]) (HR ++ tl) := by
  refine end_h [0, 1, 2, 3, 4, 5] (by decide) (by decide) (fun i hi => by match i, hi with | 0, _ => rfl | 1, _ => rfl | 2, _ => rfl | 3, _ => rfl | 4, _ => rfl | 5, _ => rfl) (fun l hl => ?_) rfl ?_ ?_ rfl ⟨rfl, rfl⟩
  · simp only [List.mem_cons, List.not_mem_nil, or_false] at hl
    simp only [HR, RR, List.length_append, List.length_cons, List.length_nil]
    omega
  · intro l hl
    simp only [List.mem_cons, List.not_mem_nil, or_false] at hl
    rcases hl with rfl | rfl | rfl | rfl | rfl | rfl
    all_goals first | rfl | exact tabG_all _ _ _ _ _ _ rfl rfl rfl rfl rfl rfl rfl
  · simp only [HR, RR, List.cons_append, List.map_cons, List.map_nil, List.getD_cons_zero, List.getD_cons_succ, renO, tabG_ren]
    rfl
set_option maxHeartbeats 1000000 in
theorem tail189 (s : List UInt8) (hs : s.length < 1000000000) (L : List (Nat × DV)) (h5 : slots L 5 = .int .i64 ((valF s).length : Nat)) (h6 : slots L 6 = .bool (s.any spB)) (h1 : slots L 1 = .str s) (h0 : slots L 0 = .ptr 0 0) :
    goN ED 6 (fin 6 [RV.t 4] fun h' d => h' = HR ∧ d = DV.str (valF s)) [] f189t L HR := by
  have hvl := valF_len s
  cases hany : s.any spB with
  | false =>
    rw [hany] at h6
    simp only [f189t, h1, h6, forall_eq, IntKind.wrap, IntKind.bits, IntKind.signed, Int.reduceEq, Int.reduceAdd, Int.reduceSub, Int.reduceMul, Int.reduceMod, Int.reduceDiv, Int.reduceTDiv, Int.reducePow, Nat.reducePow, Int.reduceNeg, reduceIte, reduceCtorEq, ge_iff_le, Nat.reduceEqDiff, ↓gos, gop, Nat.reduceBEq, Nat.reduceAdd, Nat.reduceSub, Nat.reduceLeDiff, Nat.reduceMul, Int.reduceLE, Int.reduceLT, Int.reduceNe, Int.reduceToNat]
    have := endHR s []
    rw [List.append_nil] at this
    rw [value_none s hany]
    exact this
  | true =>
    rw [hany] at h6
    simp only [f189t, h0, h1, h5, h6, HR, RR, ↓gos, gop, Nat.reduceBEq, Nat.reduceAdd, Nat.reduceSub, Nat.reduceLeDiff, Nat.reduceMul, Int.reduceLE, Int.reduceLT, Int.reduceNe, Int.reduceToNat]
    refine ⟨by omega, by omega, by omega, ?_⟩
    refine goN_lp (γ := Nat) (fun j => [(14, .int .i64 j), (13, .int .i64 (valF (s.take j)).length), (12, .osl 1 6 0 (valF s).length (some (valF s).length)), (0, .ptr 0 0), (1, .str s)]) (fun j => HR ++ [.arr 1 (BF s j)]) (fun j => j ≤ s.length) (fun j => s.length - j) 0
      (wks (by simp [HR, RR, BF, valF, byB]) (by simp) ⟨rfl, rfl, rfl, by simp [slots, h0], by simp [slots, h1], trivial⟩) (by omega) fun j hj => ?_
    simp only [f189l2, HR, RR, ↓gos, gop, Nat.reduceBEq, Nat.reduceAdd, Nat.reduceSub, Nat.reduceLeDiff, Nat.reduceMul, Int.reduceLE, Int.reduceLT, Int.reduceNe, Int.reduceToNat]
    refine ⟨fun a2 => ?_, fun a2 => ?_⟩
    · have hj : j < s.length := by omega
      have hv := value_next s j hj
      have hp := value_part s (j + 1)
      have hb : bt s j = ((s.getD j 0).toNat : Int) := rfl
      have hbl : (s.getD j 0).toNat < 256 := (s.getD j 0).toNat_lt
      rcases esc_cases (s.getD j 0) with hc | ⟨n1, n2, k1, k2, k3, k4, k5⟩
      · rcases hc with hc | hc | hc | hc | hc
        all_goals
          rw [hc] at hb hv
          have hvn := congrArg List.length hv
          rw [List.length_append] at hvn
          simp only [l92, l44, l59, l10, l13] at hvn
          simp only [hb, a2, z02, u92, u44, u59, u10, u13, tb_get, tabG, byB_t2, byB_l2, BF_len, Int.reduceEq, Nat.reduceEqDiff, reduceIte, ↓gos, gop, Nat.reduceBEq, Nat.reduceAdd, Nat.reduceSub, Nat.reduceLeDiff, Nat.reduceMul, Int.reduceLE, Int.reduceLT, Int.reduceNe, Int.reduceToNat]
          repeat (refine ⟨by omega, ?_⟩)
          intro v e1 v1 e2
          rw [wrap_i64 (by omega) (by omega)] at e1
          rw [wrap_i64 (by omega) (by omega)] at e2
          refine rnd_s (j + 1) ?_ (by simp) ⟨?_, ?_, rfl, rfl, rfl, trivial⟩ hj (by omega)
          · first
              | exact congrArg (fun x => HR ++ [AObj.arr 1 x]) (BF_put s j _ hv)
              | (refine congrArg (fun x => HR ++ [AObj.arr 1 x]) ?_
                 have := BF_put s j [] hv
                 simpa [byB] using this)
          · show DV.int .i64 v1 = _
            rw [e2]; rfl
          · show DV.int .i64 v = _
            rw [e1, hvn]
            congr 1
      · have hn := tabG_no (by omega) k1 k2 k3 k4 k5
        have hle : (s.getD j 0).toNat ≤ 256 := by omega
        have h256 : (((s.getD j 0).toNat : Nat) : Int) < 256 := by omega
        simp only [hb, a2, hn, hle, h256, tb_get, Nat.mul_one, Int.reduceEq, Nat.reduceEqDiff, reduceIte, ↓gos, gop, Nat.reduceBEq, Nat.reduceAdd, Nat.reduceSub, Nat.reduceLeDiff, Nat.reduceMul, Int.reduceLE, Int.reduceLT, Int.reduceNe, Int.reduceToNat]
        rw [n2] at hv
        have hvn := congrArg List.length hv
        rw [List.length_append, List.length_singleton] at hvn
        have hlt : (valF (s.take j)).length < (valF s).length := by omega
        refine ⟨by omega, ?_⟩
        rw [BF_at s j hlt, optP_some]
        refine ⟨by simp, ?_⟩
        intro v e1 v1 e2
        rw [wrap_i64 (by omega) (by omega)] at e1
        rw [wrap_i64 (by omega) (by omega)] at e2
        refine rnd_s (j + 1) ?_ (by simp) ⟨?_, ?_, rfl, rfl, rfl, trivial⟩ hj (by omega)
        · exact congrArg (fun x => HR ++ [AObj.arr 1 x]) (BF_set s j _ hv hlt)
        · show DV.int .i64 v1 = _
          rw [e2]; rfl
        · show DV.int .i64 v = _
          rw [e1, hvn]
          congr 1
    · have hj : j = s.length := by omega
      subst hj
      rw [BF_end]
      refine .inr ⟨_, rfl, by rw [byB_len]; exact Nat.le_refl _, valF s, ?_, endHR (valF s) [.arr 1 (byB (valF s))]⟩
      rw [List.take_of_length_le (by rw [byB_len]; exact Nat.le_refl _)]
      rfl
/-- What the sizes come to, sign by sign. -/
def nw (s : List UInt8) (k : Nat) : Int := (((s.length + (if 2 ≤ k then s.count 10 else 0) + (if 3 ≤ k then s.count 59 else 0) + (if 4 ≤ k then s.count 44 else 0) + (if 5 ≤ k then s.count 92 else 0) : Nat)) : Int) - ((if 1 ≤ k then s.count 13 else 0 : Nat) : Int)
def aw (s : List UInt8) (k : Nat) : Bool := (decide (1 ≤ k) && !decide (s.count 13 = 0)) || (decide (2 ≤ k) && !decide (s.count 10 = 0)) || (decide (3 ≤ k) && !decide (s.count 59 = 0)) || (decide (4 ≤ k) && !decide (s.count 44 = 0)) || (decide (5 ≤ k) && !decide (s.count 92 = 0))
set_option maxHeartbeats 1000000 in
theorem repl189 (s : List UInt8) (hs : s.length < 1000000000) : ACalls ED 189 HR [.ptr 0 0, .str s] (fun h' d => h' = HR ∧ d = .str (valF s)) := by
  refine acalls_go c189 (by simp [f189]) ?_
  have hvl := valF_len s
  simp only [f189, HR, RR, tb_get, tabG, forall_eq, IntKind.wrap, IntKind.bits, IntKind.signed, Int.reduceEq, Int.reduceAdd, Int.reduceSub, Int.reduceMul, Int.reduceMod, Int.reduceDiv, Int.reduceTDiv, Int.reducePow, Nat.reducePow, Int.reduceNeg, reduceIte, reduceCtorEq, ge_iff_le, Nat.reduceEqDiff, ↓gos, gop, Nat.reduceBEq, Nat.reduceAdd, Nat.reduceSub, Nat.reduceLeDiff, Nat.reduceMul, Int.reduceLE, Int.reduceLT, Int.reduceNe, Int.reduceToNat]
  refine ⟨fun a1 => ?_, fun a1 => ?_⟩
  · have hcount : ∀ c : UInt8, s.count c ≤ s.length := fun c => List.count_le_length
    have c1 := hcount 13
    have c2 := hcount 10
    have c3 := hcount 59
    have c4 := hcount 44
    have c5 := hcount 92
    refine goN_lp (γ := Nat) (fun k => [(32, .int .i64 k), (31, .int .i64 5), (30, .osl 1 1 0 5 (some 5)), (6, .bool (aw s k)), (5, .int .i64 (nw s k)), (0, .ptr 0 0), (1, .str s)]) (fun _ => HR) (fun k => k ≤ 5) (fun k => 5 - k) 0
      (wks rfl (by decide) ⟨rfl, rfl, rfl, rfl, by simp [nw, slots], rfl, rfl, trivial⟩) (by omega) fun k hk => ?_
    simp only [f189l0, HR, RR, ↓gos, gop, Nat.reduceBEq, Nat.reduceAdd, Nat.reduceSub, Nat.reduceLeDiff, Nat.reduceMul, Int.reduceLE, Int.reduceLT, Int.reduceNe, Int.reduceToNat]
    refine ⟨fun a2 => ?_, fun a2 => ?_⟩
    · have hk5 : k = 0 ∨ k = 1 ∨ k = 2 ∨ k = 3 ∨ k = 4 := by omega
      obtain ⟨k', hk'⟩ : ∃ k', k' = k + 1 := ⟨_, rfl⟩
      rcases hk5 with rfl | rfl | rfl | rfl | rfl
      all_goals
        simp only [forall_eq, IntKind.wrap, IntKind.bits, IntKind.signed, Int.reduceEq, Int.reduceAdd, Int.reduceSub, Int.reduceMul, Int.reduceMod, Int.reduceDiv, Int.reduceTDiv, Int.reducePow, Nat.reducePow, Int.reduceNeg, reduceIte, reduceCtorEq, ge_iff_le, Nat.reduceEqDiff, ↓gos, gop, Nat.reduceBEq, Nat.reduceAdd, Nat.reduceSub, Nat.reduceLeDiff, Nat.reduceMul, Int.reduceLE, Int.reduceLT, Int.reduceNe, Int.reduceToNat]
        refine call_ret (count191 s _) rfl rfl ?_
        simp only [b13, b10, b59, b44, b92, z02, tb_get, tabG, Int.reduceEq, Nat.reduceEqDiff, reduceIte, ↓gos, gop, Nat.reduceBEq, Nat.reduceAdd, Nat.reduceSub, Nat.reduceLeDiff, Nat.reduceMul, Int.reduceLE, Int.reduceLT, Int.reduceNe, Int.reduceToNat]
        refine ⟨fun q => ?_, fun q => ?_⟩
        · intro v1 e1 v2 e2 v3 e3 v4 e4
          rw [wrap_i64 (by omega) (by omega)] at e1
          subst e1
          rw [wrap_i64 (by omega) (by omega)] at e2
          simp only [nw, Nat.reduceLeDiff, if_true, if_false] at e3
          rw [wrap_i64 (by omega) (by omega)] at e3
          rw [wrap_i64 (by omega) (by omega)] at e4
          refine rnd_s k' rfl (by decide) ⟨?_, rfl, rfl, ?_, ?_, rfl, rfl, trivial⟩ (by omega) (by omega)
          · show DV.int .i64 v4 = _
            congr 1; omega
          · show DV.bool true = _
            congr 1; symm
            simp only [hk', aw, Nat.reduceAdd, Nat.zero_add, Nat.reduceLeDiff, Nat.le_refl, decide_true, decide_false, Bool.true_and, Bool.false_and, Bool.or_false, Bool.or_eq_true, Bool.not_eq_true', decide_eq_false_iff_not]
            omega
          · show DV.int .i64 v3 = _
            congr 1
            simp only [hk', nw, Nat.reduceAdd, Nat.zero_add, Nat.reduceLeDiff, Nat.le_refl, if_true, if_false]
            omega
        · intro v4 e4
          rw [wrap_i64 (by omega) (by omega)] at e4
          refine rnd_s k' rfl (by decide) ⟨?_, rfl, rfl, ?_, ?_, rfl, rfl, trivial⟩ (by omega) (by omega)
          · show DV.int .i64 v4 = _
            congr 1; omega
          · show DV.bool _ = _
            congr 1
            rw [Bool.eq_iff_iff]
            simp only [hk', aw, Nat.reduceAdd, Nat.zero_add, Nat.reduceLeDiff, Nat.le_refl, decide_true, decide_false, Bool.true_and, Bool.false_and, Bool.or_false, Bool.or_eq_true, Bool.not_eq_true', decide_eq_false_iff_not]
            first | omega | (simp; omega)
          · show DV.int .i64 _ = _
            congr 1
            simp only [hk', nw, Nat.reduceAdd, Nat.zero_add, Nat.reduceLeDiff, Nat.le_refl, if_true, if_false]
            omega
    · have hk : k = 5 := by omega
      subst hk
      have hc := value_count s
      refine tail189 s hs _ ?_ ?_ rfl rfl
      · show DV.int .i64 (nw s 5) = _
        congr 1
        simp only [nw, Nat.reduceLeDiff, if_true]
        omega
      · show DV.bool (aw s 5) = _
        rw [any_count]
        simp [aw]
  · refine goN_lp (γ := Nat) (fun j => [(10, .int .i64 j), (6, .bool ((s.take j).any spB)), (5, .int .i64 ((valF (s.take j)).length + (s.length - j : Nat) : Nat)), (0, .ptr 0 0), (1, .str s)]) (fun _ => HR) (fun j => j ≤ s.length) (fun j => s.length - j) 0
      (wks rfl (by decide) ⟨rfl, rfl, by simp [valF, slots], rfl, rfl, trivial⟩) (by omega) fun j hj => ?_
    simp only [f189l1, HR, RR, ↓gos, gop, Nat.reduceBEq, Nat.reduceAdd, Nat.reduceSub, Nat.reduceLeDiff, Nat.reduceMul, Int.reduceLE, Int.reduceLT, Int.reduceNe, Int.reduceToNat]
    refine ⟨fun a2 => ?_, fun a2 => ?_⟩
    · have hj : j < s.length := by omega
      have hv := value_next s j hj
      have ha := any_next s j hj
      have hp := value_part s (j + 1)
      have hb : bt s j = ((s.getD j 0).toNat : Int) := rfl
      have hbl : (s.getD j 0).toNat < 256 := (s.getD j 0).toNat_lt
      rcases esc_cases (s.getD j 0) with hc | ⟨n1, n2, k1, k2, k3, k4, k5⟩
      · rcases hc with hc | hc | hc | hc | hc
        all_goals
          rw [hc] at hb hv ha
          have hvn := congrArg List.length hv
          simp only [hb, a2, z02, u92, u44, u59, u10, u13, tb_get, tabG, Int.reduceEq, Nat.reduceEqDiff, reduceIte, ↓gos, gop, Nat.reduceBEq, Nat.reduceAdd, Nat.reduceSub, Nat.reduceLeDiff, Nat.reduceMul, Int.reduceLE, Int.reduceLT, Int.reduceNe, Int.reduceToNat]
          intro v e1 v1 e2 v2 e3
          rw [wrap_i64 (by omega) (by omega)] at e1
          rw [List.length_append] at hvn
          simp only [l92, l44, l59, l10, l13] at hvn
          rw [wrap_i64 (by omega) (by omega)] at e2
          rw [wrap_i64 (by omega) (by omega)] at e3
          refine rnd_s (j + 1) rfl (by decide) ⟨?_, ?_, ?_, rfl, rfl, trivial⟩ hj (by omega)
          · show DV.int .i64 v2 = _
            rw [e3]; rfl
          · show DV.bool true = _
            rw [ha]; simp [spB]
          · show DV.int .i64 v1 = _
            rw [e2, hv, List.length_append]
            simp only [l92, l44, l59, l10, l13, e1]
            congr 1
            omega
      · rw [n1] at ha
        rw [n2] at hv
        have hn := tabG_no (by omega) k1 k2 k3 k4 k5
        have hle : (s.getD j 0).toNat ≤ 256 := by omega
        have h256 : (((s.getD j 0).toNat : Nat) : Int) < 256 := by omega
        simp only [hb, a2, hn, hle, h256, tb_get, Nat.mul_one, Int.reduceEq, Nat.reduceEqDiff, reduceIte, ↓gos, gop, Nat.reduceBEq, Nat.reduceAdd, Nat.reduceSub, Nat.reduceLeDiff, Nat.reduceMul, Int.reduceLE, Int.reduceLT, Int.reduceNe, Int.reduceToNat]
        intro v e1
        rw [wrap_i64 (by omega) (by omega)] at e1
        refine rnd_s (j + 1) rfl (by decide) ⟨?_, ?_, ?_, rfl, rfl, trivial⟩ hj (by omega)
        · show DV.int .i64 v = _
          rw [e1]; rfl
        · show DV.bool _ = _
          rw [ha, Bool.or_false]
        · show DV.int .i64 _ = _
          rw [hv, List.length_append, List.length_singleton]
          congr 1
          omega
    · have hj : j = s.length := by omega
      subst hj
      refine tail189 s hs _ ?_ ?_ rfl rfl
      · show DV.int .i64 _ = _
        simp
      · show DV.bool _ = _
        rw [List.take_length]
end Go.Proofs.Ut

/- strings.NewReplacer(..).Replace as fold.Value calls it. -/
namespace Go.Proofs.Ut
open Go.Ai
set_option maxRecDepth 100000
set_option linter.all false
theorem call_hx {E : Env} {L L' : List (Nat × DV)} {h H' : List AObj} {f : Nat} {ds ds1 : List DV} {h1 h1' : List AObj} {D DR : DV} {K : DV → St → Prop} (ls ks : List Nat) (hnd : ls.Nodup) (hlt : ∀ l ∈ ls, l < h.length)
    (hks : ls.filter (fun l => !isBox h[l]?) = ks)
    (hlow : (ls.map fun l => lowO (fun l => ls.idxOf? l) h (h.getD l .dead)) = h1) (hds : ds.map (DV.dn ls h) = ds1)
    (hin : (ds.all (DV.inL ls.contains) && ls.all (fun l => inO ls.contains (h.getD l .dead))) = true)
    (hc : ACalls E f h1 ds1 (fun h' d => h' = h1' ∧ d = D)) (hD : D.ren (upL h.length ls) = DR)
    (hH : setAll (ks.foldl (fun h i => kilH i h) h) ls (h1'.map (renO (upL h.length ls))) ++ (h1'.drop ls.length).map (renO (upL h.length ls)) = H') (hL : ks.foldl (fun L i => kilS i L) L = L')
    (hk : K DR (sta L' H')) : acall E true f ds K (sta L h) := by
  subst hH; subst hL
  exact call_h ls ks hnd hlt hks hlow hds hin hc hD hk
theorem tabG_low (ρ : Nat → Option Nat) (h : List AObj) (tr p92 p44 p59 p10 tr' p92' p44' p59' p10' : Nat) (h1 : ρ tr = some tr') (h2 : ρ p92 = some p92') (h3 : ρ p44 = some p44') (h4 : ρ p59 = some p59') (h5 : ρ p10 = some p10') :
    (tb (tabG tr p92 p44 p59 p10)).map (DV.low ρ h) = tb (tabG tr' p92' p44' p59' p10') := by
  rw [tb_map]
  congr 1
  funext i
  unfold tabG
  repeat' split
  all_goals simp [DV.low, h1, h2, h3, h4, h5]
theorem once68 : ACalls ED 68 [.box [.int .u32 0, .int .i32 1, .int .u32 0, .nili, .osl 1 1 0 10 none], .arr 1 ON] [.ptr 0 0]
    (fun h' d => d = .tup [] ∧ ∃ rest' hs', h' = .box (.int .u32 0 :: .int .i32 1 :: rest') :: hs' ∧ (rest' = [.int .u32 0, .ifc 179 [.ptr 2 0], .osl 1 8 0 0 none] ∧ hs' = .arr 1 ON :: .box (tb (tabG 3 7 6 5 4)) :: RR ++ [.arr 1 []])) := by
  refine acalls_go c68 (by simp [f68]) ?_
  simp only [f68, ↓gos, gop, Nat.reduceBEq, Nat.reduceAdd, Nat.reduceSub, Nat.reduceLeDiff, Nat.reduceMul, Int.reduceLE, Int.reduceLT, Int.reduceNe, Int.reduceToNat]
  refine call_hx [0, 1] [1] (H' := .box [.int .u32 0, .int .i32 1, .int .u32 0, .nili, .osl 1 1 0 10 none] :: .arr 1 ON :: .box (tb (tabG 3 7 6 5 4)) :: RR) (DR := .ifc 179 [.ptr 2 0]) (by decide) (by decide) rfl rfl rfl rfl build94 rfl ?_ rfl ?_
  · simp only [RR, List.map_cons, List.map_nil, renO, tabG_ren, setAll, List.foldl_cons, List.foldl_nil, List.drop_succ_cons, List.drop_zero, List.length_cons, List.length_nil]
    rfl
  simp only [RR, List.foldl_cons, List.foldl_nil, forall_eq, IntKind.wrap, IntKind.bits, IntKind.signed, Int.reduceEq, Int.reduceAdd, Int.reduceSub, Int.reduceMul, Int.reduceMod, Int.reduceDiv, Int.reduceTDiv, Int.reducePow, Nat.reducePow, Int.reduceNeg, reduceIte, reduceCtorEq, ge_iff_le, Nat.reduceEqDiff, ↓gos, gop, Nat.reduceBEq, Nat.reduceAdd, Nat.reduceSub, Nat.reduceLeDiff, Nat.reduceMul, Int.reduceLE, Int.reduceLT, Int.reduceNe, Int.reduceToNat]
  refine end_h [0, 1, 2, 3, 4, 5, 6, 7, 8] (by decide) (by decide) (fun i hi => by match i, hi with | 0, _ => rfl | 1, _ => rfl) (fun l hl => ?_) rfl ?_ ?_ rfl ⟨rfl, _, _, rfl, rfl, rfl⟩
  · simp only [List.mem_cons, List.not_mem_nil, or_false] at hl
    simp only [List.length_cons, List.length_nil]
    omega
  · intro l hl
    simp only [List.mem_cons, List.not_mem_nil, or_false] at hl
    rcases hl with rfl | rfl | rfl | rfl | rfl | rfl | rfl | rfl | rfl
    all_goals first | rfl | exact tabG_all _ _ _ _ _ _ rfl rfl rfl rfl rfl rfl rfl
  · simp only [RR, List.cons_append, List.nil_append, List.map_cons, List.map_nil, List.getD_cons_zero, List.getD_cons_succ, renO, tabG_ren]
    rfl
theorem ACalls.weak {E : Env} {f : Nat} {h : List AObj} {args : List DV} {post post' : List AObj → DV → Prop} (hc : ACalls E f h args post) (hi : ∀ h' d, post h' d → post' h' d) : ACalls E f h args post' :=
  ⟨hc.1, fun w ok β vs a b c d e => (hc.2 w ok β vs a b c d e).mono fun _ _ ⟨v, ok', β', h', d, q1, q2, q⟩ => ⟨v, ok', β', h', d, q1, hi _ _ q2, q⟩⟩
theorem once67d : ACalls ED 67 [.box [.int .u32 0, .int .i32 0, .int .u32 0, .nili, .osl 1 1 0 10 none], .arr 1 ON] [.ptr 0 0, .bnd 68 [.ptr 0 0]]
    (fun h' d => h' = .box [.int .u32 1, .int .i32 0, .int .u32 0, .ifc 179 [.ptr 2 0], .osl 1 8 0 0 none] :: .arr 1 ON :: .box (tb (tabG 3 7 6 5 4)) :: RR ++ [.arr 1 []] ∧ d = .tup []) := by
  refine ACalls.weak (once67 (post := fun rest' hs' => rest' = [.int .u32 0, .ifc 179 [.ptr 2 0], .osl 1 8 0 0 none] ∧ hs' = .arr 1 ON :: .box (tb (tabG 3 7 6 5 4)) :: RR ++ [.arr 1 []]) once68) ?_
  rintro h' d ⟨rfl, rest', hs', rfl, rfl, rfl⟩
  exact ⟨rfl, rfl⟩
theorem meth179 : methF Tryz.prog 179 "Replace" = some 189 := by kernel_rfl
theorem repl42 (s : List UInt8) (hs : s.length < 1000000000) : ACalls ED 42 [.box [.int .u32 0, .int .i32 0, .int .u32 0, .nili, .osl 1 1 0 10 none], .arr 1 ON] [.ptr 0 0, .str s] (fun h' d => h' = .box [.int .u32 1, .int .i32 0, .int .u32 0, .ifc 179 [.ptr 2 0], .osl 1 8 0 0 none] :: .arr 1 ON :: .box (tb (tabG 3 7 6 5 4)) :: RR ++ [.arr 1 []] ∧ d = .str (valF s)) := by
  refine acalls_go c42 (by simp [f42]) ?_
  simp only [f42, ↓gos, gop, Nat.reduceBEq, Nat.reduceAdd, Nat.reduceSub, Nat.reduceLeDiff, Nat.reduceMul, Int.reduceLE, Int.reduceLT, Int.reduceNe, Int.reduceToNat]
  refine call_hx [0, 1] [1] (H' := .box [.int .u32 1, .int .i32 0, .int .u32 0, .ifc 179 [.ptr 2 0], .osl 1 8 0 0 none] :: .arr 1 ON :: .box (tb (tabG 3 7 6 5 4)) :: RR ++ [.arr 1 []]) (DR := .tup []) (by decide) (by decide) rfl rfl rfl rfl once67d rfl ?_ rfl ?_
  · simp only [RR, List.cons_append, List.nil_append, List.map_cons, List.map_nil, renO, tabG_ren, setAll, List.foldl_cons, List.foldl_nil, List.drop_succ_cons, List.drop_zero, List.length_cons, List.length_nil]
    rfl
  simp only [RR, List.foldl_cons, List.foldl_nil, forall_eq, IntKind.wrap, IntKind.bits, IntKind.signed, Int.reduceEq, Int.reduceAdd, Int.reduceSub, Int.reduceMul, Int.reduceMod, Int.reduceDiv, Int.reduceTDiv, Int.reducePow, Nat.reducePow, Int.reduceNeg, reduceIte, reduceCtorEq, ge_iff_le, Nat.reduceEqDiff, ↓gos, gop, Nat.reduceBEq, Nat.reduceAdd, Nat.reduceSub, Nat.reduceLeDiff, Nat.reduceMul, Int.reduceLE, Int.reduceLT, Int.reduceNe, Int.reduceToNat]
  refine optP_in 189 meth179 ?_
  refine call_hx [2, 3, 4, 5, 6, 7] [3, 4, 5, 6, 7] (H' := .box [.int .u32 1, .int .i32 0, .int .u32 0, .ifc 179 [.ptr 2 0], .osl 1 8 0 0 none] :: .arr 1 ON :: .box (tb (tabG 3 7 6 5 4)) :: RR ++ [.arr 1 []]) (DR := .str (valF s)) (by decide) (by decide) rfl ?_ rfl ?_ (repl189 s hs) rfl ?_ rfl ?_
  · simp only [HR, RR, List.map_cons, List.map_nil, List.getD_cons_zero, List.getD_cons_succ, lowO]
    rw [tabG_low (fun l => List.idxOf? l [2, 3, 4, 5, 6, 7]) _ 3 7 6 5 4 1 5 4 3 2 rfl rfl rfl rfl rfl]
  · rw [Bool.and_eq_true]
    refine ⟨rfl, ?_⟩
    rw [List.all_eq_true]
    intro l hl
    simp only [List.mem_cons, List.not_mem_nil, or_false] at hl
    rcases hl with rfl | rfl | rfl | rfl | rfl | rfl
    all_goals first | rfl | exact tabG_all _ _ _ _ _ _ rfl rfl rfl rfl rfl rfl rfl
  · simp only [HR, RR, List.cons_append, List.nil_append, List.map_cons, List.map_nil, renO, tabG_ren, setAll, List.foldl_cons, List.foldl_nil, List.drop_succ_cons, List.drop_zero, List.length_cons, List.length_nil, ↓gos, gop, Nat.reduceBEq, Nat.reduceAdd, Nat.reduceSub, Nat.reduceLeDiff, Nat.reduceMul, Int.reduceLE, Int.reduceLT, Int.reduceNe, Int.reduceToNat]
    rfl
  simp only [RR, List.foldl_cons, List.foldl_nil, forall_eq, IntKind.wrap, IntKind.bits, IntKind.signed, Int.reduceEq, Int.reduceAdd, Int.reduceSub, Int.reduceMul, Int.reduceMod, Int.reduceDiv, Int.reduceTDiv, Int.reducePow, Nat.reducePow, Int.reduceNeg, reduceIte, reduceCtorEq, ge_iff_le, Nat.reduceEqDiff, ↓gos, gop, Nat.reduceBEq, Nat.reduceAdd, Nat.reduceSub, Nat.reduceLeDiff, Nat.reduceMul, Int.reduceLE, Int.reduceLT, Int.reduceNe, Int.reduceToNat]
  refine end_h [0, 1, 2, 3, 4, 5, 6, 7, 8] (by decide) (by decide) (fun i hi => by match i, hi with | 0, _ => rfl | 1, _ => rfl) (fun l hl => ?_) rfl ?_ ?_ rfl ⟨rfl, rfl⟩
  · simp only [List.mem_cons, List.not_mem_nil, or_false] at hl
    simp only [List.length_cons, List.length_nil]
    omega
  · intro l hl
    simp only [List.mem_cons, List.not_mem_nil, or_false] at hl
    rcases hl with rfl | rfl | rfl | rfl | rfl | rfl | rfl | rfl | rfl
    all_goals first | rfl | exact tabG_all _ _ _ _ _ _ rfl rfl rfl rfl rfl rfl rfl
  · simp only [RR, List.cons_append, List.nil_append, List.map_cons, List.map_nil, List.getD_cons_zero, List.getD_cons_succ, renO, tabG_ren]
    rfl
theorem new41 : ACalls ED 41 [] [.sl 1 ON] (fun h' d => h' = [.box [.int .u32 0, .int .i32 0, .int .u32 0, .nili, .osl 1 1 0 10 none], .arr 1 ON] ∧ d = .ptr 0 0) := by
  refine acalls_go c41 (by simp [f41]) ?_
  simp only [f41, forall_eq, IntKind.wrap, IntKind.bits, IntKind.signed, Int.reduceEq, Int.reduceAdd, Int.reduceSub, Int.reduceMul, Int.reduceMod, Int.reduceDiv, Int.reduceTDiv, Int.reducePow, Nat.reducePow, Int.reduceNeg, reduceIte, reduceCtorEq, ge_iff_le, Nat.reduceEqDiff, ↓gos, gop, Nat.reduceBEq, Nat.reduceAdd, Nat.reduceSub, Nat.reduceLeDiff, Nat.reduceMul, Int.reduceLE, Int.reduceLT, Int.reduceNe, Int.reduceToNat]
  refine ⟨by decide, fun _ => ⟨by decide, by decide, ?_⟩⟩
  exact end_h [1, 0] (by decide) (by decide) (fun i hi => by omega) (by decide) rfl (by decide) rfl rfl ⟨rfl, rfl⟩
theorem value14 (s : List UInt8) (hs : s.length < 1000000000) : DRet 14 [.str s] (.str (valF s)) := by
  refine acalls_go c14 (by simp [f14]) ?_
  simp only [f14, forall_eq, IntKind.wrap, IntKind.bits, IntKind.signed, Int.reduceEq, Int.reduceAdd, Int.reduceSub, Int.reduceMul, Int.reduceMod, Int.reduceDiv, Int.reduceTDiv, Int.reducePow, Nat.reducePow, Int.reduceNeg, reduceIte, reduceCtorEq, ge_iff_le, Nat.reduceEqDiff, ↓gos, gop, Nat.reduceBEq, Nat.reduceAdd, Nat.reduceSub, Nat.reduceLeDiff, Nat.reduceMul, Int.reduceLE, Int.reduceLT, Int.reduceNe, Int.reduceToNat]
  refine call_lend (ds' := [.sl 1 ON]) new41 rfl rfl ?_
  simp only [List.map_cons, List.map_nil, renO, forall_eq, IntKind.wrap, IntKind.bits, IntKind.signed, Int.reduceEq, Int.reduceAdd, Int.reduceSub, Int.reduceMul, Int.reduceMod, Int.reduceDiv, Int.reduceTDiv, Int.reducePow, Nat.reducePow, Int.reduceNeg, reduceIte, reduceCtorEq, ge_iff_le, Nat.reduceEqDiff, ↓gos, gop, Nat.reduceBEq, Nat.reduceAdd, Nat.reduceSub, Nat.reduceLeDiff, Nat.reduceMul, Int.reduceLE, Int.reduceLT, Int.reduceNe, Int.reduceToNat]
  refine call_hx [1, 2] [2] (H' := .arr 1 ON :: .box [.int .u32 1, .int .i32 0, .int .u32 0, .ifc 179 [.ptr 3 0], .osl 1 9 0 0 none] :: .arr 1 ON :: .box (tb (tabG 4 8 7 6 5)) :: RR ++ [.arr 1 []]) (DR := .str (valF s)) (by decide) (by simp) rfl rfl rfl rfl (repl42 s hs) rfl ?_ rfl ?_
  · simp only [HR, RR, List.cons_append, List.nil_append, List.map_cons, List.map_nil, renO, tabG_ren, setAll, List.foldl_cons, List.foldl_nil, List.drop_succ_cons, List.drop_zero, List.length_cons, List.length_nil, ↓gos, gop, Nat.reduceBEq, Nat.reduceAdd, Nat.reduceSub, Nat.reduceLeDiff, Nat.reduceMul, Int.reduceLE, Int.reduceLT, Int.reduceNe, Int.reduceToNat]
    rfl
  simp only [RR, List.foldl_cons, List.foldl_nil, forall_eq, IntKind.wrap, IntKind.bits, IntKind.signed, Int.reduceEq, Int.reduceAdd, Int.reduceSub, Int.reduceMul, Int.reduceMod, Int.reduceDiv, Int.reduceTDiv, Int.reducePow, Nat.reducePow, Int.reduceNeg, reduceIte, reduceCtorEq, ge_iff_le, Nat.reduceEqDiff, ↓gos, gop, Nat.reduceBEq, Nat.reduceAdd, Nat.reduceSub, Nat.reduceLeDiff, Nat.reduceMul, Int.reduceLE, Int.reduceLT, Int.reduceNe, Int.reduceToNat]
  exact ends rfl
end Go.Proofs.Ut
