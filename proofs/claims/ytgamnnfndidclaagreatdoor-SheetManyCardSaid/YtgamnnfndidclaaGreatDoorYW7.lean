/- (*strings.byteStringReplacer).Replace over the table. -/
import Derived.Test.YtgamnnfndidclaaGreatDoorYR
import Derived.Test.YtgamnnfndidclaaGreatDoorYJ
import Derived.Test.YtgamnnfndidclaaGreatDoorYFoM
import Derived.Shelf.Strings.Count
import Derived.Test.YtgamnnfndidclaaGreatDoorYFoUtD
open Nat renaming reduceBEq → qA, reduceAdd → qB, reduceSub → qC, reduceLeDiff → qD, reduceMul → qE
open Int renaming reduceLE → qF, reduceLT → qG, reduceNe → qH, reduceToNat → qI
open Int renaming reduceEq → rA, reduceAdd → rB, reduceSub → rC, reduceMul → rD, reduceMod → rE, reduceDiv → rF, reduceTDiv → rG, reducePow → rH
open Nat renaming reducePow → rI
set_option linter.all false
namespace Go.Proofs.Ut
open Go.Ai Go.Shelf Go.RowKit
set_option maxRecDepth 100000
set_option linter.all false
theorem count191 (s : List UInt8) (c : UInt8) : DRet 326 [.str s, .str [c]] (.int .i64 (s.count c : Nat)) := by
  refine scal ⟨Tryz.f326, Tryz.func326, by kernel_rfl, by kernel_rfl⟩ fun w ok β vs hl hv => ?_
  obtain ⟨u, v, rfl⟩ := two hl
  obtain rfl := of_str (hv 0 u _ rfl rfl)
  obtain rfl := of_str (hv 1 v _ rfl rfl)
  refine ⟨_, fun _ _ _ => .int _ _, (Any.strings_Count_one Tryz.lays138 ⟨s.toArray⟩ c w).mono ?_⟩
  rintro e w' ⟨rfl, rfl⟩
  exact ⟨rfl, Below.refl _ _⟩
def HR : List AObj := .box (tb (tabG 1 5 4 3 2)) :: RR
theorem l92 : (escB 92).length = 2 := rfl
theorem l44 : (escB 44).length = 2 := rfl
theorem l59 : (escB 59).length = 2 := rfl
theorem l10 : (escB 10).length = 2 := rfl
theorem l13 : (escB 13).length = 0 := rfl
theorem z02 : (0 < 2) = True := by simp
theorem u92 : (((92 : UInt8).toNat : Nat) : Int) = 92 := rfl
theorem u44 : (((44 : UInt8).toNat : Nat) : Int) = 44 := rfl
theorem u59 : (((59 : UInt8).toNat : Nat) : Int) = 59 := rfl
theorem u10 : (((10 : UInt8).toNat : Nat) : Int) = 10 := rfl
theorem u13 : (((13 : UInt8).toNat : Nat) : Int) = 13 := rfl
theorem tabG_no {n : Nat} (h : n ≤ 255) (h1 : n ≠ 92) (h2 : n ≠ 44) (h3 : n ≠ 59) (h4 : n ≠ 10) (h5 : n ≠ 13) : tabG 1 5 4 3 2 n = .emp true 1 := by
  unfold tabG
  rw [if_neg (by omega), if_neg h1, if_neg h2, if_neg h3, if_neg h4, if_neg h5]
theorem byB_len (l : List UInt8) : (byB l).length = l.length := by simp [byB]
theorem byB_app (a b : List UInt8) : byB (a ++ b) = byB a ++ byB b := by simp [byB]
theorem buf_put (a ys : List (List DV)) (k : Nat) (z : List DV) : (a ++ List.replicate k z).take a.length ++ ys ++ (a ++ List.replicate k z).drop (a.length + ys.length) = (a ++ ys) ++ List.replicate (k - ys.length) z := by
  rw [List.take_left', List.drop_append]
  · simp [Nat.add_sub_cancel_left]
  · rfl
theorem buf_set (a : List (List DV)) (k : Nat) (z y : List DV) (hk : 0 < k) : (a ++ List.replicate k z).set a.length y = (a ++ [y]) ++ List.replicate (k - 1) z := by
  obtain ⟨m, rfl⟩ : ∃ m, k = m + 1 := ⟨k - 1, by omega⟩
  simp [List.replicate_succ]
def BF (s : List UInt8) (j : Nat) : List (List DV) := byB (valF (s.take j)) ++ List.replicate ((valF s).length - (valF (s.take j)).length) [.int .u8 0]
theorem BF_len (s : List UInt8) (j : Nat) : (BF s j).length = (valF s).length := by
  have := value_part s j
  simp [BF, byB_len]; omega
theorem BF_put (s : List UInt8) (j : Nat) (e : List UInt8) (hv : valF (s.take (j + 1)) = valF (s.take j) ++ e) : (BF s j).take (valF (s.take j)).length ++ byB e ++ (BF s j).drop ((valF (s.take j)).length + e.length) = BF s (j + 1) := by
  have h := buf_put (byB (valF (s.take j))) (byB e) ((valF s).length - (valF (s.take j)).length) [.int .u8 0]
  rw [byB_len, byB_len] at h
  unfold BF
  rw [h, hv, byB_app, List.length_append, Nat.sub_sub]
theorem BF_at (s : List UInt8) (j : Nat) (h : (valF (s.take j)).length < (valF s).length) : (BF s j)[(valF (s.take j)).length]? = some [.int .u8 0] := by
  unfold BF
  rw [List.getElem?_append_right (by rw [byB_len]; exact Nat.le_refl _), byB_len, Nat.sub_self, List.getElem?_replicate, if_pos (by omega)]
theorem BF_set (s : List UInt8) (j : Nat) (b : UInt8) (hv : valF (s.take (j + 1)) = valF (s.take j) ++ [b]) (h : (valF (s.take j)).length < (valF s).length) : (BF s j).set (valF (s.take j)).length [.int .u8 b.toNat] = BF s (j + 1) := by
  have h := buf_set (byB (valF (s.take j))) ((valF s).length - (valF (s.take j)).length) [.int .u8 0] [.int .u8 b.toNat] (by omega)
  rw [byB_len] at h
  unfold BF
  rw [h, hv, byB_app, List.length_append, Nat.sub_sub]
  rfl
theorem BF_end (s : List UInt8) : BF s s.length = byB (valF s) := by
  unfold BF
  rw [List.take_length, Nat.sub_self]; simp
theorem byB_t2 (a b : UInt8) : List.take 2 (byB [a, b]) = byB [a, b] := rfl
theorem byB_l2 (a b : UInt8) : (byB [a, b]).length = 2 := rfl
theorem endHR (s : List UInt8) (tl : List AObj) : finE 6 (fun h' d => h' = HR ∧ d = DV.str s) (some [.str s]) (HR ++ tl) := by
  refine end_h [0, 1, 2, 3, 4, 5] (by decide) (by decide) (fun i hi => by match i, hi with | 0, _ => rfl | 1, _ => rfl | 2, _ => rfl | 3, _ => rfl | 4, _ => rfl | 5, _ => rfl) (fun l hl => ?_) rfl ?_ ?_ rfl ⟨rfl, rfl⟩
  · simp only [List.mem_cons, List.not_mem_nil, or_false] at hl
    simp only [HR, RR, List.length_append, List.length_cons, List.length_nil]
    omega
  · intro l hl
    simp only [List.mem_cons, List.not_mem_nil, or_false] at hl
    rcases hl with rfl | rfl | rfl | rfl | rfl | rfl
    all_goals first | rfl | exact tabG_all _ _ _ _ _ _ rfl rfl rfl rfl rfl rfl rfl
  · simp only [HR, RR, List.cons_append, List.map_cons, List.map_nil, List.getD_cons_zero, List.getD_cons_succ, renO, tabG_ren]
    rfl
set_option maxHeartbeats 1000000 in
theorem tail189 (s : List UInt8) (hs : s.length < 1000000000) (L : List (Nat × DV)) (h5 : slots L 5 = .int .i64 ((valF s).length : Nat)) (h6 : slots L 6 = .bool (s.any spB)) (h1 : slots L 1 = .str s) (h0 : slots L 0 = .ptr 0 0) :
    goN ED 6 (fin 6 [RV.t 4] fun h' d => h' = HR ∧ d = DV.str (valF s)) [] f383t L HR := by
  have hvl := valF_len s
  cases hany : s.any spB with
  | false =>
    rw [hany] at h6
    simp only [f383t, h1, h6, forall_eq, IntKind.wrap, IntKind.bits, IntKind.signed, rA, rB, rC, rD, rE, rF, rG, rH, rI, Int.reduceNeg, reduceIte, reduceCtorEq, ge_iff_le, Nat.reduceEqDiff, ↓gos, gop, qA, qB, qC, qD, qE, qF, qG, qH, qI]
    have := endHR s []
    rw [List.append_nil] at this
    rw [value_none s hany]
    exact this
  | true =>
    rw [hany] at h6
    simp only [f383t, h0, h1, h5, h6, HR, RR, ↓gos, gop, qA, qB, qC, qD, qE, qF, qG, qH, qI]
    refine ⟨by omega, by omega, by omega, ?_⟩
    refine goN_lp (γ := Nat) (fun j => [(14, .int .i64 j), (13, .int .i64 (valF (s.take j)).length), (12, .osl 1 6 0 (valF s).length (some (valF s).length)), (0, .ptr 0 0), (1, .str s)]) (fun j => HR ++ [.arr 1 (BF s j)]) (fun j => j ≤ s.length) (fun j => s.length - j) 0
      (wks (by simp [HR, RR, BF, valF, byB]) (by simp) ⟨rfl, rfl, rfl, by simp [slots, h0], by simp [slots, h1], trivial⟩) (by omega) fun j hj => ?_
    simp only [f383l2, HR, RR, ↓gos, gop, qA, qB, qC, qD, qE, qF, qG, qH, qI]
    refine ⟨fun a2 => ?_, fun a2 => ?_⟩
    · have hj : j < s.length := by omega
      have hv := value_next s j hj
      have hp := value_part s (j + 1)
      have hb : bt s j = ((s.getD j 0).toNat : Int) := rfl
      have hbl : (s.getD j 0).toNat < 256 := (s.getD j 0).toNat_lt
      rcases esc_cases (s.getD j 0) with hc | ⟨n1, n2, k1, k2, k3, k4, k5⟩
      · rcases hc with hc | hc | hc | hc | hc
        all_goals
          rw [hc] at hb hv
          have hvn := congrArg List.length hv
          rw [List.length_append] at hvn
          simp only [l92, l44, l59, l10, l13] at hvn
          simp only [hb, a2, z02, u92, u44, u59, u10, u13, tb_get, tabG, byB_t2, byB_l2, BF_len, Int.reduceEq, Nat.reduceEqDiff, reduceIte, ↓gos, gop, qA, qB, qC, qD, qE, qF, qG, qH, qI]
          repeat (refine ⟨by omega, ?_⟩)
          intro v e1 v1 e2
          rw [wrap_i64 (by omega) (by omega)] at e1
          rw [wrap_i64 (by omega) (by omega)] at e2
          refine rnd_s (j + 1) ?_ (by simp) ⟨?_, ?_, rfl, rfl, rfl, trivial⟩ hj (by omega)
          · first
              | exact congrArg (fun x => HR ++ [AObj.arr 1 x]) (BF_put s j _ hv)
              | (refine congrArg (fun x => HR ++ [AObj.arr 1 x]) ?_
                 have := BF_put s j [] hv
                 simpa [byB] using this)
          · show DV.int .i64 v1 = _
            rw [e2]; rfl
          · show DV.int .i64 v = _
            rw [e1, hvn]
            congr 1
      · have hn := tabG_no (by omega) k1 k2 k3 k4 k5
        have hle : (s.getD j 0).toNat ≤ 256 := by omega
        have h256 : (((s.getD j 0).toNat : Nat) : Int) < 256 := by omega
        simp only [hb, a2, hn, hle, h256, tb_get, Nat.mul_one, Int.reduceEq, Nat.reduceEqDiff, reduceIte, ↓gos, gop, qA, qB, qC, qD, qE, qF, qG, qH, qI]
        rw [n2] at hv
        have hvn := congrArg List.length hv
        rw [List.length_append, List.length_singleton] at hvn
        have hlt : (valF (s.take j)).length < (valF s).length := by omega
        refine ⟨by omega, ?_⟩
        rw [BF_at s j hlt, optP_some]
        refine ⟨by simp, ?_⟩
        intro v e1 v1 e2
        rw [wrap_i64 (by omega) (by omega)] at e1
        rw [wrap_i64 (by omega) (by omega)] at e2
        refine rnd_s (j + 1) ?_ (by simp) ⟨?_, ?_, rfl, rfl, rfl, trivial⟩ hj (by omega)
        · exact congrArg (fun x => HR ++ [AObj.arr 1 x]) (BF_set s j _ hv hlt)
        · show DV.int .i64 v1 = _
          rw [e2]; rfl
        · show DV.int .i64 v = _
          rw [e1, hvn]
          congr 1
    · have hj : j = s.length := by omega
      subst hj
      rw [BF_end]
      refine .inr ⟨_, rfl, by rw [byB_len]; exact Nat.le_refl _, valF s, ?_, endHR (valF s) [.arr 1 (byB (valF s))]⟩
      rw [List.take_of_length_le (by rw [byB_len]; exact Nat.le_refl _)]
      rfl
def nw (s : List UInt8) (k : Nat) : Int := (((s.length + (if 2 ≤ k then s.count 10 else 0) + (if 3 ≤ k then s.count 59 else 0) + (if 4 ≤ k then s.count 44 else 0) + (if 5 ≤ k then s.count 92 else 0) : Nat)) : Int) - ((if 1 ≤ k then s.count 13 else 0 : Nat) : Int)
def aw (s : List UInt8) (k : Nat) : Bool := (decide (1 ≤ k) && !decide (s.count 13 = 0)) || (decide (2 ≤ k) && !decide (s.count 10 = 0)) || (decide (3 ≤ k) && !decide (s.count 59 = 0)) || (decide (4 ≤ k) && !decide (s.count 44 = 0)) || (decide (5 ≤ k) && !decide (s.count 92 = 0))
set_option maxHeartbeats 1000000 in
theorem repl189 (s : List UInt8) (hs : s.length < 1000000000) : ACalls ED 383 HR [.ptr 0 0, .str s] (fun h' d => h' = HR ∧ d = .str (valF s)) := by
  refine acalls_go c383 (by simp [f383]) ?_
  have hvl := valF_len s
  simp only [f383, HR, RR, tb_get, tabG, forall_eq, IntKind.wrap, IntKind.bits, IntKind.signed, rA, rB, rC, rD, rE, rF, rG, rH, rI, Int.reduceNeg, reduceIte, reduceCtorEq, ge_iff_le, Nat.reduceEqDiff, ↓gos, gop, qA, qB, qC, qD, qE, qF, qG, qH, qI]
  refine ⟨fun a1 => ?_, fun a1 => ?_⟩
  · have hcount : ∀ c : UInt8, s.count c ≤ s.length := fun c => List.count_le_length
    have c1 := hcount 13
    have c2 := hcount 10
    have c3 := hcount 59
    have c4 := hcount 44
    have c5 := hcount 92
    refine goN_lp (γ := Nat) (fun k => [(32, .int .i64 k), (31, .int .i64 5), (30, .osl 1 1 0 5 (some 5)), (6, .bool (aw s k)), (5, .int .i64 (nw s k)), (0, .ptr 0 0), (1, .str s)]) (fun _ => HR) (fun k => k ≤ 5) (fun k => 5 - k) 0
      (wks rfl (by decide) ⟨rfl, rfl, rfl, rfl, by simp [nw, slots], rfl, rfl, trivial⟩) (by omega) fun k hk => ?_
    simp only [f383l0, HR, RR, ↓gos, gop, qA, qB, qC, qD, qE, qF, qG, qH, qI]
    refine ⟨fun a2 => ?_, fun a2 => ?_⟩
    · have hk5 : k = 0 ∨ k = 1 ∨ k = 2 ∨ k = 3 ∨ k = 4 := by omega
      obtain ⟨k', hk'⟩ : ∃ k', k' = k + 1 := ⟨_, rfl⟩
      rcases hk5 with rfl | rfl | rfl | rfl | rfl
      all_goals
        simp only [forall_eq, IntKind.wrap, IntKind.bits, IntKind.signed, rA, rB, rC, rD, rE, rF, rG, rH, rI, Int.reduceNeg, reduceIte, reduceCtorEq, ge_iff_le, Nat.reduceEqDiff, ↓gos, gop, qA, qB, qC, qD, qE, qF, qG, qH, qI]
        refine call_ret (count191 s _) rfl rfl ?_
        simp only [b13, b10, b59, b44, b92, z02, tb_get, tabG, Int.reduceEq, Nat.reduceEqDiff, reduceIte, ↓gos, gop, qA, qB, qC, qD, qE, qF, qG, qH, qI]
        refine ⟨fun q => ?_, fun q => ?_⟩
        · intro v1 e1 v2 e2 v3 e3 v4 e4
          rw [wrap_i64 (by omega) (by omega)] at e1
          subst e1
          rw [wrap_i64 (by omega) (by omega)] at e2
          simp only [nw, Nat.reduceLeDiff, if_true, if_false] at e3
          rw [wrap_i64 (by omega) (by omega)] at e3
          rw [wrap_i64 (by omega) (by omega)] at e4
          refine rnd_s k' rfl (by decide) ⟨?_, rfl, rfl, ?_, ?_, rfl, rfl, trivial⟩ (by omega) (by omega)
          · show DV.int .i64 v4 = _
            congr 1; omega
          · show DV.bool true = _
            congr 1; symm
            simp only [hk', aw, Nat.reduceAdd, Nat.zero_add, Nat.reduceLeDiff, Nat.le_refl, decide_true, decide_false, Bool.true_and, Bool.false_and, Bool.or_false, Bool.or_eq_true, Bool.not_eq_true', decide_eq_false_iff_not]
            omega
          · show DV.int .i64 v3 = _
            congr 1
            simp only [hk', nw, Nat.reduceAdd, Nat.zero_add, Nat.reduceLeDiff, Nat.le_refl, if_true, if_false]
            omega
        · intro v4 e4
          rw [wrap_i64 (by omega) (by omega)] at e4
          refine rnd_s k' rfl (by decide) ⟨?_, rfl, rfl, ?_, ?_, rfl, rfl, trivial⟩ (by omega) (by omega)
          · show DV.int .i64 v4 = _
            congr 1; omega
          · show DV.bool _ = _
            congr 1
            rw [Bool.eq_iff_iff]
            simp only [hk', aw, Nat.reduceAdd, Nat.zero_add, Nat.reduceLeDiff, Nat.le_refl, decide_true, decide_false, Bool.true_and, Bool.false_and, Bool.or_false, Bool.or_eq_true, Bool.not_eq_true', decide_eq_false_iff_not]
            first | omega | (simp; omega)
          · show DV.int .i64 _ = _
            congr 1
            simp only [hk', nw, Nat.reduceAdd, Nat.zero_add, Nat.reduceLeDiff, Nat.le_refl, if_true, if_false]
            omega
    · have hk : k = 5 := by omega
      subst hk
      have hc := value_count s
      refine tail189 s hs _ ?_ ?_ rfl rfl
      · show DV.int .i64 (nw s 5) = _
        congr 1
        simp only [nw, Nat.reduceLeDiff, if_true]
        omega
      · show DV.bool (aw s 5) = _
        rw [any_count]
        simp [aw]
  · refine goN_lp (γ := Nat) (fun j => [(10, .int .i64 j), (6, .bool ((s.take j).any spB)), (5, .int .i64 ((valF (s.take j)).length + (s.length - j : Nat) : Nat)), (0, .ptr 0 0), (1, .str s)]) (fun _ => HR) (fun j => j ≤ s.length) (fun j => s.length - j) 0
      (wks rfl (by decide) ⟨rfl, rfl, by simp [valF, slots], rfl, rfl, trivial⟩) (by omega) fun j hj => ?_
    simp only [f383l1, HR, RR, ↓gos, gop, qA, qB, qC, qD, qE, qF, qG, qH, qI]
    refine ⟨fun a2 => ?_, fun a2 => ?_⟩
    · have hj : j < s.length := by omega
      have hv := value_next s j hj
      have ha := any_next s j hj
      have hp := value_part s (j + 1)
      have hb : bt s j = ((s.getD j 0).toNat : Int) := rfl
      have hbl : (s.getD j 0).toNat < 256 := (s.getD j 0).toNat_lt
      rcases esc_cases (s.getD j 0) with hc | ⟨n1, n2, k1, k2, k3, k4, k5⟩
      · rcases hc with hc | hc | hc | hc | hc
        all_goals
          rw [hc] at hb hv ha
          have hvn := congrArg List.length hv
          simp only [hb, a2, z02, u92, u44, u59, u10, u13, tb_get, tabG, Int.reduceEq, Nat.reduceEqDiff, reduceIte, ↓gos, gop, qA, qB, qC, qD, qE, qF, qG, qH, qI]
          intro v e1 v1 e2 v2 e3
          rw [wrap_i64 (by omega) (by omega)] at e1
          rw [List.length_append] at hvn
          simp only [l92, l44, l59, l10, l13] at hvn
          rw [wrap_i64 (by omega) (by omega)] at e2
          rw [wrap_i64 (by omega) (by omega)] at e3
          refine rnd_s (j + 1) rfl (by decide) ⟨?_, ?_, ?_, rfl, rfl, trivial⟩ hj (by omega)
          · show DV.int .i64 v2 = _
            rw [e3]; rfl
          · show DV.bool true = _
            rw [ha]; simp [spB]
          · show DV.int .i64 v1 = _
            rw [e2, hv, List.length_append]
            simp only [l92, l44, l59, l10, l13, e1]
            congr 1
            omega
      · rw [n1] at ha
        rw [n2] at hv
        have hn := tabG_no (by omega) k1 k2 k3 k4 k5
        have hle : (s.getD j 0).toNat ≤ 256 := by omega
        have h256 : (((s.getD j 0).toNat : Nat) : Int) < 256 := by omega
        simp only [hb, a2, hn, hle, h256, tb_get, Nat.mul_one, Int.reduceEq, Nat.reduceEqDiff, reduceIte, ↓gos, gop, qA, qB, qC, qD, qE, qF, qG, qH, qI]
        intro v e1
        rw [wrap_i64 (by omega) (by omega)] at e1
        refine rnd_s (j + 1) rfl (by decide) ⟨?_, ?_, ?_, rfl, rfl, trivial⟩ hj (by omega)
        · show DV.int .i64 v = _
          rw [e1]; rfl
        · show DV.bool _ = _
          rw [ha, Bool.or_false]
        · show DV.int .i64 _ = _
          rw [hv, List.length_append, List.length_singleton]
          congr 1
          omega
    · have hj : j = s.length := by omega
      subst hj
      refine tail189 s hs _ ?_ ?_ rfl rfl
      · show DV.int .i64 _ = _
        simp
      · show DV.bool _ = _
        rw [List.take_length]
end Go.Proofs.Ut

/- strings.NewReplacer(..).Replace as fold.Value calls it. -/
namespace Go.Proofs.Ut
open Go.Ai
set_option maxRecDepth 100000
set_option linter.all false
theorem call_hx {E : Env} {L L' : List (Nat × DV)} {h H' : List AObj} {f : Nat} {ds ds1 : List DV} {h1 h1' : List AObj} {D DR : DV} {K : DV → St → Prop} (ls ks : List Nat) (hnd : ls.Nodup) (hlt : ∀ l ∈ ls, l < h.length)
    (hks : ls.filter (fun l => !isBox h[l]?) = ks)
    (hlow : (ls.map fun l => lowO (fun l => ls.idxOf? l) h (h.getD l .dead)) = h1) (hds : ds.map (DV.dn ls h) = ds1)
    (hin : (ds.all (DV.inL ls.contains) && ls.all (fun l => inO ls.contains (h.getD l .dead))) = true)
    (hc : ACalls E f h1 ds1 (fun h' d => h' = h1' ∧ d = D)) (hD : D.ren (upL h.length ls) = DR)
    (hH : setAll (ks.foldl (fun h i => kilH i h) h) ls (h1'.map (renO (upL h.length ls))) ++ (h1'.drop ls.length).map (renO (upL h.length ls)) = H') (hL : ks.foldl (fun L i => kilS i L) L = L')
    (hk : K DR (sta L' H')) : acall E true f ds K (sta L h) := by
  subst hH; subst hL
  exact call_h ls ks hnd hlt hks hlow hds hin hc hD hk
theorem tabG_low (ρ : Nat → Option Nat) (h : List AObj) (tr p92 p44 p59 p10 tr' p92' p44' p59' p10' : Nat) (h1 : ρ tr = some tr') (h2 : ρ p92 = some p92') (h3 : ρ p44 = some p44') (h4 : ρ p59 = some p59') (h5 : ρ p10 = some p10') :
    (tb (tabG tr p92 p44 p59 p10)).map (DV.low ρ h) = tb (tabG tr' p92' p44' p59' p10') := by
  rw [tb_map]
  congr 1
  funext i
  unfold tabG
  repeat' split
  all_goals simp [DV.low, h1, h2, h3, h4, h5]
theorem once68 : ACalls ED 228 [.box [.int .u32 0, .int .i32 1, .int .u32 0, .nili, .osl 1 1 0 10 none], .arr 1 ON] [.ptr 0 0]
    (fun h' d => d = .tup [] ∧ ∃ rest' hs', h' = .box (.int .u32 0 :: .int .i32 1 :: rest') :: hs' ∧ (rest' = [.int .u32 0, .ifc 319 [.ptr 2 0], .osl 1 8 0 0 none] ∧ hs' = .arr 1 ON :: .box (tb (tabG 3 7 6 5 4)) :: RR ++ [.arr 1 []])) := by
  refine acalls_go c228 (by simp [f228]) ?_
  simp only [f228, ↓gos, gop, qA, qB, qC, qD, qE, qF, qG, qH, qI]
  refine call_hx [0, 1] [1] (H' := .box [.int .u32 0, .int .i32 1, .int .u32 0, .nili, .osl 1 1 0 10 none] :: .arr 1 ON :: .box (tb (tabG 3 7 6 5 4)) :: RR) (DR := .ifc 319 [.ptr 2 0]) (by decide) (by decide) rfl rfl rfl rfl build94 rfl ?_ rfl ?_
  · simp only [RR, List.map_cons, List.map_nil, renO, tabG_ren, setAll, List.foldl_cons, List.foldl_nil, List.drop_succ_cons, List.drop_zero, List.length_cons, List.length_nil]
    rfl
  simp only [RR, List.foldl_cons, List.foldl_nil, forall_eq, IntKind.wrap, IntKind.bits, IntKind.signed, rA, rB, rC, rD, rE, rF, rG, rH, rI, Int.reduceNeg, reduceIte, reduceCtorEq, ge_iff_le, Nat.reduceEqDiff, ↓gos, gop, qA, qB, qC, qD, qE, qF, qG, qH, qI]
  refine end_h [0, 1, 2, 3, 4, 5, 6, 7, 8] (by decide) (by decide) (fun i hi => by match i, hi with | 0, _ => rfl | 1, _ => rfl) (fun l hl => ?_) rfl ?_ ?_ rfl ⟨rfl, _, _, rfl, rfl, rfl⟩
  · simp only [List.mem_cons, List.not_mem_nil, or_false] at hl
    simp only [List.length_cons, List.length_nil]
    omega
  · intro l hl
    simp only [List.mem_cons, List.not_mem_nil, or_false] at hl
    rcases hl with rfl | rfl | rfl | rfl | rfl | rfl | rfl | rfl | rfl
    all_goals first | rfl | exact tabG_all _ _ _ _ _ _ rfl rfl rfl rfl rfl rfl rfl
  · simp only [RR, List.cons_append, List.nil_append, List.map_cons, List.map_nil, List.getD_cons_zero, List.getD_cons_succ, renO, tabG_ren]
    rfl
theorem ACalls.weak {E : Env} {f : Nat} {h : List AObj} {args : List DV} {post post' : List AObj → DV → Prop} (hc : ACalls E f h args post) (hi : ∀ h' d, post h' d → post' h' d) : ACalls E f h args post' :=
  ⟨hc.1, fun w ok β vs a b c d e => (hc.2 w ok β vs a b c d e).mono fun _ _ ⟨v, ok', β', h', d, q1, q2, q⟩ => ⟨v, ok', β', h', d, q1, hi _ _ q2, q⟩⟩
theorem once67d : ACalls ED 227 [.box [.int .u32 0, .int .i32 0, .int .u32 0, .nili, .osl 1 1 0 10 none], .arr 1 ON] [.ptr 0 0, .bnd 228 [.ptr 0 0]]
    (fun h' d => h' = .box [.int .u32 1, .int .i32 0, .int .u32 0, .ifc 319 [.ptr 2 0], .osl 1 8 0 0 none] :: .arr 1 ON :: .box (tb (tabG 3 7 6 5 4)) :: RR ++ [.arr 1 []] ∧ d = .tup []) := by
  refine ACalls.weak (once67 (post := fun rest' hs' => rest' = [.int .u32 0, .ifc 319 [.ptr 2 0], .osl 1 8 0 0 none] ∧ hs' = .arr 1 ON :: .box (tb (tabG 3 7 6 5 4)) :: RR ++ [.arr 1 []]) once68) ?_
  rintro h' d ⟨rfl, rest', hs', rfl, rfl, rfl⟩
  exact ⟨rfl, rfl⟩
theorem meth179 : methF Tryz.prog 319 "Replace" = some 383 := by kernel_rfl
theorem repl42 (s : List UInt8) (hs : s.length < 1000000000) : ACalls ED 189 [.box [.int .u32 0, .int .i32 0, .int .u32 0, .nili, .osl 1 1 0 10 none], .arr 1 ON] [.ptr 0 0, .str s] (fun h' d => h' = .box [.int .u32 1, .int .i32 0, .int .u32 0, .ifc 319 [.ptr 2 0], .osl 1 8 0 0 none] :: .arr 1 ON :: .box (tb (tabG 3 7 6 5 4)) :: RR ++ [.arr 1 []] ∧ d = .str (valF s)) := by
  refine acalls_go c189 (by simp [f189]) ?_
  simp only [f189, ↓gos, gop, qA, qB, qC, qD, qE, qF, qG, qH, qI]
  refine call_hx [0, 1] [1] (H' := .box [.int .u32 1, .int .i32 0, .int .u32 0, .ifc 319 [.ptr 2 0], .osl 1 8 0 0 none] :: .arr 1 ON :: .box (tb (tabG 3 7 6 5 4)) :: RR ++ [.arr 1 []]) (DR := .tup []) (by decide) (by decide) rfl rfl rfl rfl once67d rfl ?_ rfl ?_
  · simp only [RR, List.cons_append, List.nil_append, List.map_cons, List.map_nil, renO, tabG_ren, setAll, List.foldl_cons, List.foldl_nil, List.drop_succ_cons, List.drop_zero, List.length_cons, List.length_nil]
    rfl
  simp only [RR, List.foldl_cons, List.foldl_nil, forall_eq, IntKind.wrap, IntKind.bits, IntKind.signed, rA, rB, rC, rD, rE, rF, rG, rH, rI, Int.reduceNeg, reduceIte, reduceCtorEq, ge_iff_le, Nat.reduceEqDiff, ↓gos, gop, qA, qB, qC, qD, qE, qF, qG, qH, qI]
  refine optP_in 383 meth179 ?_
  refine call_hx [2, 3, 4, 5, 6, 7] [3, 4, 5, 6, 7] (H' := .box [.int .u32 1, .int .i32 0, .int .u32 0, .ifc 319 [.ptr 2 0], .osl 1 8 0 0 none] :: .arr 1 ON :: .box (tb (tabG 3 7 6 5 4)) :: RR ++ [.arr 1 []]) (DR := .str (valF s)) (by decide) (by decide) rfl ?_ rfl ?_ (repl189 s hs) rfl ?_ rfl ?_
  · simp only [HR, RR, List.map_cons, List.map_nil, List.getD_cons_zero, List.getD_cons_succ, lowO]
    rw [tabG_low (fun l => List.idxOf? l [2, 3, 4, 5, 6, 7]) _ 3 7 6 5 4 1 5 4 3 2 rfl rfl rfl rfl rfl]
  · rw [Bool.and_eq_true]
    refine ⟨rfl, ?_⟩
    rw [List.all_eq_true]
    intro l hl
    simp only [List.mem_cons, List.not_mem_nil, or_false] at hl
    rcases hl with rfl | rfl | rfl | rfl | rfl | rfl
    all_goals first | rfl | exact tabG_all _ _ _ _ _ _ rfl rfl rfl rfl rfl rfl rfl
  · simp only [HR, RR, List.cons_append, List.nil_append, List.map_cons, List.map_nil, renO, tabG_ren, setAll, List.foldl_cons, List.foldl_nil, List.drop_succ_cons, List.drop_zero, List.length_cons, List.length_nil, ↓gos, gop, qA, qB, qC, qD, qE, qF, qG, qH, qI]
    rfl
  simp only [RR, List.foldl_cons, List.foldl_nil, forall_eq, IntKind.wrap, IntKind.bits, IntKind.signed, rA, rB, rC, rD, rE, rF, rG, rH, rI, Int.reduceNeg, reduceIte, reduceCtorEq, ge_iff_le, Nat.reduceEqDiff, ↓gos, gop, qA, qB, qC, qD, qE, qF, qG, qH, qI]
  refine end_h [0, 1, 2, 3, 4, 5, 6, 7, 8] (by decide) (by decide) (fun i hi => by match i, hi with | 0, _ => rfl | 1, _ => rfl) (fun l hl => ?_) rfl ?_ ?_ rfl ⟨rfl, rfl⟩
  · simp only [List.mem_cons, List.not_mem_nil, or_false] at hl
    simp only [List.length_cons, List.length_nil]
    omega
  · intro l hl
    simp only [List.mem_cons, List.not_mem_nil, or_false] at hl
    rcases hl with rfl | rfl | rfl | rfl | rfl | rfl | rfl | rfl | rfl
    all_goals first | rfl | exact tabG_all _ _ _ _ _ _ rfl rfl rfl rfl rfl rfl rfl
  · simp only [RR, List.cons_append, List.nil_append, List.map_cons, List.map_nil, List.getD_cons_zero, List.getD_cons_succ, renO, tabG_ren]
    rfl
theorem new41 : ACalls ED 188 [] [.sl 1 ON] (fun h' d => h' = [.box [.int .u32 0, .int .i32 0, .int .u32 0, .nili, .osl 1 1 0 10 none], .arr 1 ON] ∧ d = .ptr 0 0) := by
  refine acalls_go c188 (by simp [f188]) ?_
  simp only [f188, forall_eq, IntKind.wrap, IntKind.bits, IntKind.signed, rA, rB, rC, rD, rE, rF, rG, rH, rI, Int.reduceNeg, reduceIte, reduceCtorEq, ge_iff_le, Nat.reduceEqDiff, ↓gos, gop, qA, qB, qC, qD, qE, qF, qG, qH, qI]
  refine ⟨by decide, fun _ => ⟨by decide, by decide, ?_⟩⟩
  exact end_h [1, 0] (by decide) (by decide) (fun i hi => by omega) (by decide) rfl (by decide) rfl rfl ⟨rfl, rfl⟩
theorem value14 (s : List UInt8) (hs : s.length < 1000000000) : DRet 148 [.str s] (.str (valF s)) := by
  refine acalls_go c148 (by simp [f148]) ?_
  simp only [f148, forall_eq, IntKind.wrap, IntKind.bits, IntKind.signed, rA, rB, rC, rD, rE, rF, rG, rH, rI, Int.reduceNeg, reduceIte, reduceCtorEq, ge_iff_le, Nat.reduceEqDiff, ↓gos, gop, qA, qB, qC, qD, qE, qF, qG, qH, qI]
  refine call_lend (ds' := [.sl 1 ON]) new41 rfl rfl ?_
  simp only [List.map_cons, List.map_nil, renO, forall_eq, IntKind.wrap, IntKind.bits, IntKind.signed, rA, rB, rC, rD, rE, rF, rG, rH, rI, Int.reduceNeg, reduceIte, reduceCtorEq, ge_iff_le, Nat.reduceEqDiff, ↓gos, gop, qA, qB, qC, qD, qE, qF, qG, qH, qI]
  refine call_hx [1, 2] [2] (H' := .arr 1 ON :: .box [.int .u32 1, .int .i32 0, .int .u32 0, .ifc 319 [.ptr 3 0], .osl 1 9 0 0 none] :: .arr 1 ON :: .box (tb (tabG 4 8 7 6 5)) :: RR ++ [.arr 1 []]) (DR := .str (valF s)) (by decide) (by simp) rfl rfl rfl rfl (repl42 s hs) rfl ?_ rfl ?_
  · simp only [HR, RR, List.cons_append, List.nil_append, List.map_cons, List.map_nil, renO, tabG_ren, setAll, List.foldl_cons, List.foldl_nil, List.drop_succ_cons, List.drop_zero, List.length_cons, List.length_nil, ↓gos, gop, qA, qB, qC, qD, qE, qF, qG, qH, qI]
    rfl
  simp only [RR, List.foldl_cons, List.foldl_nil, forall_eq, IntKind.wrap, IntKind.bits, IntKind.signed, rA, rB, rC, rD, rE, rF, rG, rH, rI, Int.reduceNeg, reduceIte, reduceCtorEq, ge_iff_le, Nat.reduceEqDiff, ↓gos, gop, qA, qB, qC, qD, qE, qF, qG, qH, qI]
  exact ends rfl
end Go.Proofs.Ut

/- What the columns of a sheet tell of a contact. -/
namespace Go.Proofs.Ut
open Go.Ai
set_option maxRecDepth 100000
set_option linter.all false
theorem ocP_ctv (c : CT) (h : List AObj) (K : List DV → List AObj → Prop) : ocP (ctv c) h K = K (ctv c) h := by simp only [ctv, ↓gos, gop, qA, qB, qC, qD, qE, qF, qG, qH, qI]
theorem ctv_one (c : CT) : (ctv c).all DV.one = true := rfl
theorem tell144 {g k : Nat} (hg : At g k) (c : CT) (s : List UInt8) (hs : (ctv c)[k]? = some (.str s)) : DRet 144 [.agg (ctv c), .eptr [.fn g []] 0] (.str s) := by
  have hcl := ctv_closed c
  refine acalls_go c144 (by simp [f144]) ?_
  simp only [f144, ocP_ctv, ctv_one, ↓gos, gop, qA, qB, qC, qD, qE, qF, qG, qH, qI]
  refine call_h (h1 := [.box (ctv c)]) [0] [] (by simp) (by simp) rfl (by
    simp only [List.map_cons, List.map_nil, List.getD_cons_zero, lowO]
    rw [map_same fun d hd => closed_low (List.all_eq_true.1 hcl d hd)]) rfl (by
    simp only [List.all_cons, List.all_nil, Bool.and_true, Bool.and_eq_true]
    refine ⟨rfl, ?_⟩
    exact List.all_eq_true.2 fun d hd => closed_inL (List.all_eq_true.1 hcl d hd)) (hg _ hcl) rfl ?_
  simp only [List.foldl, setAll, renO, DV.ren, upL, map_same fun d hd => closed_ren (List.all_eq_true.1 hcl d hd), ↓gos, gop, qA, qB, qC, qD, qE, qF, qG, qH, qI]
  refine ⟨_, by simpa using hs, ?_⟩
  simp only [↓gos, gop, qA, qB, qC, qD, qE, qF, qG, qH, qI]
  exact ends rfl
theorem tell95 (c : CT) : DRet 95 [.agg (ctv c)] (.str c.jid) := by
  refine acalls_go c95 (by simp [f95]) ?_
  simp only [f95, ctv, ↓gos, gop, qA, qB, qC, qD, qE, qF, qG, qH, qI]
  exact ends rfl
theorem tell101 (c : CT) (hl : c.groups.length < 1000000000) (hg : ∀ s ∈ c.groups, s.length < 100000000) (hj : (joinF 59 (c.groups.map valF)).length < 1000000000) : DRet 101 [.agg (ctv c)] (.str (joinF 59 (c.groups.map valF))) := by
  refine acalls_go c101 (by simp [f101]) ?_
  simp only [f101, ocP_ctv, ctv_one, ↓gos, gop, qA, qB, qC, qD, qE, qF, qG, qH, qI]
  refine optP_in (.sl 1 (c.groups.map sv)) rfl ?_
  simp only [List.length_map, ↓gos, gop, qA, qB, qC, qD, qE, qF, qG, qH, qI]
  refine goN_lp (γ := Nat) (fun i => [(9, .int .i64 i), (8, .int .i64 c.groups.length), (7, .sl 1 (c.groups.map sv)), (3, .osl 1 1 0 i none)]) (fun i => [.box (ctv c), .arr 1 (((c.groups.take i).map valF).map sv)]) (fun i => i ≤ c.groups.length) (fun i => c.groups.length - i) 0
    (wks rfl (by simp) ⟨rfl, rfl, rfl, rfl, trivial⟩) (by omega) fun i hi => ?_
  simp only [f101l0, ↓gos, gop, qA, qB, qC, qD, qE, qF, qG, qH, qI]
  refine ⟨fun h => ?_, fun h => ?_⟩
  · have h2 : i < c.groups.length := by omega
    refine optP_at [] (by simpa using h2) ?_
    have htk := take_getD' h2 []
    have hm : c.groups.getD i [] ∈ c.groups := by rw [List.getD_eq_getElem?_getD, List.getElem?_eq_getElem h2]; exact List.getElem_mem h2
    generalize c.groups.getD i [] = s at *
    have := hg s hm
    simp only [sv, ↓gos, gop, qA, qB, qC, qD, qE, qF, qG, qH, qI]
    refine call_ret (value14 s (by omega)) rfl rfl ?_
    simp only [↓gos, gop, qA, qB, qC, qD, qE, qF, qG, qH, qI]
    have hti : (c.groups.take i).length = i := by simp; omega
    refine chk_i (by omega) (chk_i (by omega) (chk_i (by omega) ?_))
    intro v hv
    rw [wrap_i64 (by omega) (by omega)] at hv
    subst hv
    refine rnd_d 2 (i + 1) ?_ (Nat.zero_le _) ⟨rfl, rfl, rfl, rfl, rfl, rfl, rfl, rfl, trivial⟩ rfl (by omega) (by omega)
    have e : List.take i (List.map sv (List.map valF (List.take i c.groups))) = List.map sv (List.map valF (List.take i c.groups)) := List.take_of_length_le (by rw [List.length_map, List.length_map, hti]; exact Nat.le_refl _)
    have e2 : kilL 1 (ctv c) = ctv c := rfl
    rw [e, htk, e2]
    simp [sv]
  · have h2 : i = c.groups.length := by omega
    subst h2
    rw [List.take_length]
    refine call_frz [1] rfl ?_
    have e : List.take c.groups.length (List.map sv (List.map valF c.groups)) = List.map sv (List.map valF c.groups) := List.take_of_length_le (by simp)
    simp only [e, ↓gos, gop, qA, qB, qC, qD, qE, qF, qG, qH, qI]
    refine call_ret (join149 _ (by simpa using hl) hj) rfl rfl ?_
    simp only [↓gos, gop, qA, qB, qC, qD, qE, qF, qG, qH, qI]
    exact ends rfl
end Go.Proofs.Ut

/- sheet.each over the columns; who is refused. -/
namespace Go.Proofs.Ut
open Go.Ai
set_option maxRecDepth 100000
set_option linter.all false
structure okTell (c : CT) : Prop where
  s : okS c
  j : (joinF 59 (c.groups.map valF)).length < 1000000000
def tellC (c : CT) : Nat → List UInt8
  | 0 => c.name | 1 => c.family | 2 => c.given | 3 => c.nick | 4 => c.jid | 5 => c.email | 6 => c.tel | 7 => c.note | 8 => c.uid | _ => joinF 59 (c.groups.map valF)
theorem tell_at (c : CT) (hc : okTell c) : ∀ k, k < 10 → DRet (uf k) (.agg (ctv c) :: tc k) (.str (tellC c k)) :=
  ten (tell144 at90 c _ rfl) (tell144 at91 c _ rfl) (tell144 at92 c _ rfl) (tell144 at93 c _ rfl) (tell95 c) (tell144 at96 c _ rfl) (tell144 at97 c _ rfl) (tell144 at98 c _ rfl) (tell144 at99 c _ rfl) (tell101 c hc.s.gl hc.s.gs hc.j)
theorem box_str {cs : List DV} {s : List UInt8} {tl : List AObj} (hcl : cs.all DV.closed = true) : finE 1 (fun h d => h = [AObj.box cs] ∧ d = DV.str s) (some [DV.str s]) (.box cs :: tl) :=
  end_h [0] (by simp) (Nat.le_refl _) id0 (by simp) (by simp [rvd, DV.inL]) (by
    intro l hl
    simp at hl; subst hl
    exact List.all_eq_true.2 fun d hd => closed_inL (List.all_eq_true.1 hcl d hd)) rfl rfl ⟨by
    simp only [List.map_cons, List.map_nil, List.getD_cons_zero, renO]
    rw [map_same fun d hd => closed_ren (List.all_eq_true.1 hcl d hd)], by simp [rvd, DV.ren]⟩
theorem tell50 (c : CT) (hc : okTell c) (k : Nat) (hk : k < 10) : ACalls ED 50 [.box (ctv c)] [.agg (colv k), .ptr 0 0] (fun h d => h = [.box (ctv c)] ∧ d = .str (tellC c k)) := by
  have ht := tell_at c hc k hk
  have h1 := tc_closed k hk
  refine acalls_go c50 (by simp [f50]) ?_
  simp only [f50, colv, ↓gos, gop, qA, qB, qC, qD, qE, qF, qG, qH, qI]
  have e : List.take 11 (ctv c) = ctv c := rfl
  rw [e]
  refine chk_i (Nat.le_refl 11) ?_
  refine call_clo ht (by rw [List.all_cons, h1]; rfl) rfl ?_
  simp only [↓gos, gop, qA, qB, qC, qD, qE, qF, qG, qH, qI]
  exact box_str rfl
theorem name49 (n : List UInt8) (f g : Nat) (cs es : List DV) (hc : cs.all DV.closed = true) (he : es.all DV.closed = true) : DRet 49 [.agg [.str n, .fn f cs, .fn g es]] (.str n) := by
  refine acalls_go c49 (by simp [f49]) ?_
  simp only [f49, ↓gos, gop, qA, qB, qC, qD, qE, qF, qG, qH, qI]
  exact ends rfl
theorem bad45 (c : CT) (hc : okS c) : DRet 45 [.agg (ctv c)] (.bool (!rightC c || decide (0 < c.other.length))) := by
  have ht := right35 c hc
  refine acalls_go c45 (by simp [f45]) ?_
  simp only [f45, ocP_ctv, ctv_one, ↓gos, gop, qA, qB, qC, qD, qE, qF, qG, qH, qI]
  have e : List.take 11 (ctv c) = ctv c := rfl
  rw [e]
  refine chk_i (Nat.le_refl 11) ?_
  refine call_ret ht rfl rfl ?_
  have e2 : (ctv c)[10]? = some (.sl 4 (c.other.map pv)) := rfl
  cases rightC c
  · simp only [↓gos, gop, qA, qB, qC, qD, qE, qF, qG, qH, qI]
    exact endb rfl
  · simp only [e2, List.length_map, ↓gos, gop, qA, qB, qC, qD, qE, qF, qG, qH, qI]
    refine ⟨fun h => ?_, fun h => ?_⟩
    · have h : 0 < c.other.length := by omega
      rw [decide_eq_true h]; exact endb rfl
    · have h : ¬ 0 < c.other.length := by omega
      rw [decide_eq_false h]; exact endb rfl
def refC (c : CT) : Bool := !rightC c || decide (0 < c.other.length)
theorem index88 (l : List CT) (hl : l.length < 1000000000) (hw : ∀ c ∈ l, okS c) : ACalls ED 88 [] [.sl 11 (l.map ctv), .fn 45 []] (fun h d => h = [] ∧ ∃ n : Int, d = .int .i64 n ∧ (decide (0 ≤ n)) = l.any refC) := by
  refine acalls_go c88 (by simp [f88]) ?_
  simp only [f88, ↓gos, gop, qA, qB, qC, qD, qE, qF, qG, qH, qI]
  refine goN_lp (γ := Nat) (fun i => [(8, .int .i64 i), (7, .int .i64 l.length), (1, .fn 45 []), (0, .sl 11 (l.map ctv))]) (fun _ => []) (fun i => i ≤ l.length ∧ (l.take i).any refC = false) (fun i => l.length - i) 0
    (wks rfl (by simp) ⟨rfl, rfl, rfl, rfl, trivial⟩) ⟨by omega, rfl⟩ fun i ⟨hi, ht⟩ => ?_
  simp only [f88l0, ↓gos, gop, qA, qB, qC, qD, qE, qF, qG, qH, qI]
  refine ⟨fun h => ?_, fun h => ?_⟩
  · have h2 : i < l.length := by omega
    have h3 : i < (l.map ctv).length := by simpa using h2
    have hm : l[i] ∈ l := List.getElem_mem h2
    have htk : l.take (i + 1) = l.take i ++ [l[i]] := by rw [List.take_add_one, List.getElem?_eq_getElem h2]; rfl
    refine optP_in l[i] (by simp [h2]) ?_
    generalize l[i] = c at *
    have e : List.take 11 (ctv c) = ctv c := rfl
    simp only [e, ↓gos, gop, qA, qB, qC, qD, qE, qF, qG, qH, qI]
    refine chk_i (Nat.le_refl 11) ?_
    have hin : l.any refC = true ∨ refC c = false := by
      cases hr : refC c with
      | false => exact .inr rfl
      | true => exact .inl (List.any_eq_true.2 ⟨c, hm, hr⟩)
    refine call_ret (show DRet 45 [.agg (ctv c)] (.bool (refC c)) from bad45 c (hw c hm)) rfl rfl ?_
    cases hk : refC c
    · simp only [↓gos, gop, qA, qB, qC, qD, qE, qF, qG, qH, qI]
      intro v hv
      rw [wrap_i64 (by omega) (by omega)] at hv
      have e3 : v = ((i + 1 : Nat) : Int) := by rw [hv]; rfl
      subst e3
      refine rnd_s (i + 1) rfl (by simp) ⟨rfl, rfl, rfl, rfl, trivial⟩ ⟨by omega, ?_⟩ (by omega)
      rw [htk, List.any_append, ht]; simp [hk]
    · simp only [↓gos, gop, qA, qB, qC, qD, qE, qF, qG, qH, qI]
      rw [hk] at hin
      refine finE_closed rfl ⟨rfl, _, rfl, ?_⟩
      rw [hin.resolve_right (by simp)]; simp
  · have h2 : i = l.length := by omega
    subst h2
    rw [List.take_length] at ht
    refine finE_closed rfl ⟨rfl, _, rfl, ?_⟩
    rw [ht]; rfl
theorem contains46 (l : List CT) (hl : l.length < 1000000000) (hw : ∀ c ∈ l, okS c) : DRet 46 [.sl 11 (l.map ctv), .fn 45 []] (.bool (l.any refC)) := by
  refine acalls_go c46 (by simp [f46]) ?_
  simp only [f46, ↓gos, gop, qA, qB, qC, qD, qE, qF, qG, qH, qI]
  refine call_any (index88 l hl hw) rfl ⟨_, if l.any refC = true then 0 else -1, rfl, by split <;> simp_all⟩ ?_
  rintro d ⟨n, rfl, hn⟩
  refine ⟨rfl, ?_⟩
  rw [← hn]
  simp only [↓gos, gop, qA, qB, qC, qD, qE, qF, qG, qH, qI]
  refine ⟨fun h => endb ?_, fun h => endb ?_⟩
  · rw [decide_eq_true h]
  · rw [decide_eq_false h]
end Go.Proofs.Ut

/- sheet.Write: rows of contacts. -/
namespace Go.Proofs.Ut
open Go.Ai
set_option maxRecDepth 100000
set_option linter.all false
def tells (c : CT) : List (List UInt8) := (List.range 10).map (tellC c)
theorem box_clo {cs : List DV} {D : DV} {tl : List AObj} (hcl : cs.all DV.closed = true) (hD : D.closed = true) : finE 1 (fun h d => h = [AObj.box cs] ∧ d = D) (some [D]) (.box cs :: tl) :=
  end_h [0] (by simp) (Nat.le_refl _) id0 (by simp) (closed_inL hD) (by
    intro l hl
    simp at hl; subst hl
    exact List.all_eq_true.2 fun d hd => closed_inL (List.all_eq_true.1 hcl d hd)) rfl rfl ⟨by
    simp only [List.map_cons, List.map_nil, List.getD_cons_zero, renO]
    rw [map_same fun d hd => closed_ren (List.all_eq_true.1 hcl d hd)], closed_ren hD⟩
theorem col_closed : ∀ i, i < 10 → (DV.agg (colv i)).closed = true := ten rfl rfl rfl rfl rfl rfl rfl rfl rfl rfl
theorem each47 (c : CT) (hc : okTell c) : ACalls ED 47 [.box (ctv c)] [.sl 3 cols, .fn 50 [.ptr 0 0]] (fun h d => h = [.box (ctv c)] ∧ d = .sl 1 ((tells c).map sv)) := by
  have hcl := ctv_closed c
  refine acalls_goF c47 (by simp [f47]) ?_
  simp only [f47, finF_e, finF_en, ↓gos, gop, qA, qB, qC, qD, qE, qF, qG, qH, qI]
  refine goN_lp (γ := Nat) (fun i => [(10, .int .i64 i), (9, .int .i64 10), (8, .sl 3 cols), (1, .fn 50 [.ptr 0 0]), (5, .osl 1 2 0 i none)]) (fun i => [.box (ctv c), .arr 1 [], .arr 1 (((List.range i).map (tellC c)).map sv)]) (fun i => i ≤ 10) (fun i => 10 - i) 0
    (wks rfl (by simp) ⟨rfl, rfl, rfl, rfl, rfl, trivial⟩) (by omega) fun i hi => ?_
  simp only [f47l0, finF_e, finF_en, ↓gos, gop, qA, qB, qC, qD, qE, qF, qG, qH, qI]
  refine ⟨fun h => ?_, fun h => ?_⟩
  · have h2 : i < 10 := by omega
    have h1 := tc_closed i h2
    refine optP_in (colv i) (cols_at i h2) ?_
    simp only [colv, finF_e, finF_en, ↓gos, gop, qA, qB, qC, qD, qE, qF, qG, qH, qI]
    refine call_h (h1 := [.box (ctv c)]) (ds1 := [.agg (colv i), .ptr 0 0]) [0] [] (by simp) (by simp) rfl (by
      simp only [List.map_cons, List.map_nil, List.getD_cons_zero, lowO]
      rw [map_same fun d hd => closed_low (List.all_eq_true.1 hcl d hd)]) (by
      rw [List.map_cons]
      rw [show DV.dn [0] _ (.agg [.str (COLS.getD i []), .fn (tf i) (tc i), .fn (uf i) (tc i)]) = .agg (colv i) from closed_low (col_closed i h2)]
      rfl) (by
      simp only [List.all_cons, List.all_nil, Bool.and_true, Bool.and_eq_true]
      refine ⟨⟨closed_inL (col_closed i h2), rfl⟩, ?_⟩
      exact List.all_eq_true.2 fun d hd => closed_inL (List.all_eq_true.1 hcl d hd)) (tell50 c hc i h2) rfl ?_
    simp only [List.foldl, setAll, renO, DV.ren, upL, map_same fun d hd => closed_ren (List.all_eq_true.1 hcl d hd), finF_e, finF_en, ↓gos, gop, qA, qB, qC, qD, qE, qF, qG, qH, qI]
    refine chk_i (by simp) (chk_i (by omega) (chk_i (by omega) ?_))
    intro v hv
    rw [wrap_i64 (by omega) (by omega)] at hv
    have e3 : v = ((i + 1 : Nat) : Int) := by rw [hv]; rfl
    subst e3
    refine rnd_d 3 (i + 1) ?_ (by simp) ⟨rfl, rfl, rfl, rfl, rfl, rfl, rfl, rfl, rfl, rfl, trivial⟩ ?_ (by omega) (by omega)
    · have e : List.take i (List.map sv (List.map (tellC c) (List.range i))) = List.map sv (List.map (tellC c) (List.range i)) := List.take_of_length_le (by simp)
      have e2 : kilL 2 (ctv c) = ctv c := rfl
      simp only [List.take_succ_cons, List.take_zero, e, e2, List.range_succ, List.map_append, List.map_cons, List.map_nil]
      rfl
    · rfl
  · have h2 : i = 10 := by omega
    subst h2
    refine ⟨_, rfl, [2], by simp, ?_⟩
    exact finE_D (box_clo (D := .sl 1 ((tells c).map sv)) hcl rfl)
end Go.Proofs.Ut
