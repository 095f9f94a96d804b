/- A field between quotes, and the same without. -/
import Derived.Test.YtbhlmbacgbfaoaaDoorCsM
import Derived.Test.YtbhlmbacgbfaoaaDoorCsF
set_option linter.all false
namespace Go.Proofs.Ut
open Go.Ai Classical Go.Shelf Go.RowKit
set_option linter.unusedSimpArgs false
set_option linter.unusedVariables false
set_option maxHeartbeats 1000000
set_option maxRecDepth 100000
def bv (b : Bool) : List DV := [.bool b]
/-- A field as the law lays it. -/
def pc (l : List (List UInt8)) (q : List Bool) (j : Nat) : List UInt8 × List UInt8 :=
  (l.getD j [], if (l.getD j []).all plainC && !q.getD j false then l.getD j [] else 34 :: dbl (l.getD j []) ++ [34])
def pcs (l : List (List UInt8)) (q : List Bool) (i : Nat) : List (List UInt8 × List UInt8) := (List.range i).map (pc l q)
theorem jp_end : ∀ (ps : List (List UInt8 × List UInt8)) (p : List UInt8 × List UInt8), jp (ps ++ [p]) = if ps = [] then p.2 else jp ps ++ 44 :: p.2
  | [], p => rfl
  | [a], p => by simp [jp]
  | a :: b :: ps, p => by
    have := jp_end (b :: ps) p
    rw [if_neg (by simp)] at this ⊢
    simp only [List.cons_append, jp] at this ⊢
    rw [this]; simp
theorem pcs_step (l : List (List UInt8)) (q : List Bool) (i : Nat) : jp (pcs l q (i + 1)) = if i = 0 then (pc l q i).2 else jp (pcs l q i) ++ 44 :: (pc l q i).2 := by
  unfold pcs
  rw [List.range_succ, List.map_append, List.map_singleton, jp_end]
  by_cases h : i = 0
  · subst h; rfl
  · rw [if_neg h, if_neg (by simpa using h)]
theorem pc_rn (l : List (List UInt8)) (q : List Bool) (j : Nat) : Rn (pc l q j).1 (pc l q j).2 := by
  unfold pc
  simp only
  split
  · rename_i h
    rw [Bool.and_eq_true] at h
    exact .inl ⟨rfl, h.1⟩
  · exact .inr rfl
theorem pcs_fst (l : List (List UInt8)) (q : List Bool) : ∀ i, i ≤ l.length → (pcs l q i).map (·.1) = l.take i
  | 0, _ => by simp [pcs]
  | i + 1, h => by
    have ih := pcs_fst l q i (by omega)
    unfold pcs at ih ⊢
    rw [List.range_succ, List.map_append, List.map_append, ih, List.take_succ_eq_append_getElem (by omega)]
    simp [pc, List.getD_eq_getElem?_getD, List.getElem?_eq_getElem (show i < l.length by omega)]
theorem read_one {ps : List (List UInt8 × List UInt8)} (h0 : ps ≠ []) (hr : ∀ p ∈ ps, Rn p.1 p.2) (hn : ps.length ≤ 30) (hs : jp ps ≠ []) : readF 200 [] (jp ps) = ([ps.map (·.1)], 0) := by
  have e := row_rn (t := []) (.inl rfl) ps h0 hr 30 [] hn
  rw [List.append_nil] at e
  unfold readF
  rw [if_neg hs]
  simp only [e, if_true]
  unfold readF
  rw [if_pos (by simp)]
  rfl
theorem read_two {ps : List (List UInt8 × List UInt8)} (h0 : ps ≠ []) (hr : ∀ p ∈ ps, Rn p.1 p.2) (hn : ps.length ≤ 30) (hs : jp ps ≠ []) : readF 200 [] (jp ps ++ [13, 10] ++ jp ps ++ [13, 10]) = ([ps.map (·.1), ps.map (·.1)], 0) := by
  have e1 := row_rn (t := 13 :: 10 :: (jp ps ++ [13, 10])) (.inr ⟨_, rfl⟩) ps h0 hr 30 [] hn
  have e2 := row_rn (t := [13, 10]) (.inr ⟨_, rfl⟩) ps h0 hr 30 [] hn
  have ea : jp ps ++ [13, 10] ++ jp ps ++ [13, 10] = jp ps ++ 13 :: 10 :: (jp ps ++ [13, 10]) := by simp
  rw [ea]
  unfold readF
  rw [if_neg (by simp)]
  simp only [e1, if_true, List.drop_succ_cons, List.drop_zero]
  unfold readF
  rw [if_neg (by simp)]
  simp only [e2, if_true, List.drop_succ_cons, List.drop_zero]
  unfold readF
  rw [if_pos rfl]
  simp
theorem inner (f : List UInt8) : ∀ k, k ≤ f.length → (k < f.length → (f.take (k + 1)).all plainC = ((f.take k).all plainC && plainC (f.getD k 0)) ∧ dbl (f.take (k + 1)) = dbl (f.take k) ++ (if f.getD k 0 = 34 then [34, 34] else [f.getD k 0])) := fun k _ hk => by
  have e : f.take (k + 1) = f.take k ++ [f.getD k 0] := by
    rw [List.take_succ_eq_append_getElem hk, List.getD_eq_getElem?_getD, List.getElem?_eq_getElem hk]; rfl
  rw [e]
  refine ⟨by simp, ?_⟩
  have aux : ∀ (a : List UInt8) (c : UInt8), dbl (a ++ [c]) = dbl a ++ (if c = 34 then [34, 34] else [c]) := fun a c => by
    induction a with
    | nil => by_cases hc : c = 34 <;> simp [dbl, hc]
    | cons x a ih =>
      rw [List.cons_append, dbl, dbl, ih]
      split <;> simp
  exact aux _ _
theorem byte_of {f : List UInt8} {k n : Nat} (h : bt f k = (n : Int)) : f.getD k 0 = UInt8.ofNat n := by
  unfold bt at h
  have : (f.getD k 0).toNat = n := by omega
  rw [← this]; exact (UInt8.ofNat_toNat).symm
theorem va_pc {l : List (List UInt8)} {q : List Bool} {j : Nat} (h : Va (l.getD j [])) : Va (pc l q j).2 := by
  unfold pc
  simp only
  split
  · exact h
  · exact va_app (a := 34 :: dbl (l.getD j [])) (va_app (a := [34]) va_34 (va_dbl _ _ (Nat.le_refl _) h)) va_34
theorem va_jp : ∀ ps : List (List UInt8 × List UInt8), (∀ p ∈ ps, Va p.2) → Va (jp ps)
  | [], _ => va_nil
  | [p], h => h p (by simp)
  | p :: r :: l, h => va_app (h p (by simp)) (va_app (a := [44]) va_44 (va_jp (r :: l) fun x hx => h x (by simp [hx])))
theorem fields14 (l : List (List UInt8)) (q : List Bool) (hl : l.length < 9223372036854775808) (hq : q.length < 9223372036854775808) : DRet 14 [.sl 1 (l.map sv), .sl 1 (q.map bv)] (.bool true) := by
  refine acalls_go c14 (by simp [f14]) ?_
  simp only [f14, ↓gos, gop, Nat.reduceBEq, Nat.reduceAdd, Nat.reduceSub, Nat.reduceLeDiff, Nat.reduceMul, Int.reduceLE, Int.reduceLT, Int.reduceNe, Int.reduceToNat]
  refine goN_lp (γ := Nat) (fun i => [(7, .int .i64 (i : Nat)), (5, .str (jp (pcs l q i))), (6, .osl 1 0 0 i none), (0, .sl 1 (l.map sv)), (1, .sl 1 (q.map bv))]) (fun i => [.arr 1 ((l.take i).map sv)])
    (fun i => i ≤ l.length ∧ i ≤ 10 ∧ (jp (pcs l q i)).length ≤ 203 * i ∧ ∀ j, j < i → (l.getD j []).length ≤ 100 ∧ Va (l.getD j [])) (fun i => 10 - i) 0
    (wks rfl (by simp) ⟨rfl, rfl, rfl, rfl, rfl, trivial⟩) ⟨by simp, by simp, by simp [pcs, jp], fun j hj => by omega⟩ fun i hi => ?_
  obtain ⟨p1, p2, p3, p4⟩ := hi
  simp only [f14l1, ↓gos, gop, Nat.reduceBEq, Nat.reduceAdd, Nat.reduceSub, Nat.reduceLeDiff, Nat.reduceMul, Int.reduceLE, Int.reduceLT, Int.reduceNe, Int.reduceToNat]
  refine ⟨fun h1 => ⟨fun h2 => ?_, fun h2 => ?_⟩, fun h1 => ?_⟩
  · refine optP_at [] (by omega) ?_
    simp only [sv, ↓gos, gop, Nat.reduceBEq, Nat.reduceAdd, Nat.reduceSub, Nat.reduceLeDiff, Nat.reduceMul, Int.reduceLE, Int.reduceLT, Int.reduceNe, Int.reduceToNat]
    refine ⟨fun h3 => ?_, fun h3 => ?_⟩
    · refine call_ret awake33 rfl rfl ?_
      simp only [↓gos, gop, Nat.reduceBEq, Nat.reduceAdd, Nat.reduceSub, Nat.reduceLeDiff, Nat.reduceMul, Int.reduceLE, Int.reduceLT, Int.reduceNe, Int.reduceToNat]
      exact endb rfl
    · refine optP_at [] (by omega) ?_
      generalize hf : l.getD i [] = f at h3
      refine call_ret (rvalid17 rfl f (by omega)) rfl rfl ?_
      cases hv : runAt mayB f 0
      · simp only [↓gos, gop, Nat.reduceBEq, Nat.reduceAdd, Nat.reduceSub, Nat.reduceLeDiff, Nat.reduceMul, Int.reduceLE, Int.reduceLT, Int.reduceNe, Int.reduceToNat]
        refine call_ret awake33 rfl rfl ?_
        simp only [↓gos, gop, Nat.reduceBEq, Nat.reduceAdd, Nat.reduceSub, Nat.reduceLeDiff, Nat.reduceMul, Int.reduceLE, Int.reduceLT, Int.reduceNe, Int.reduceToNat]
        exact endb rfl
      · simp only [↓gos, gop, Nat.reduceBEq, Nat.reduceAdd, Nat.reduceSub, Nat.reduceLeDiff, Nat.reduceMul, Int.reduceLE, Int.reduceLT, Int.reduceNe, Int.reduceToNat]
        refine goN_lp (γ := Nat) (fun k => [(10, .int .i64 (k : Nat)), (8, .bool ((f.take k).all plainC)), (9, .str (dbl (f.take k))), (7, .int .i64 (i : Nat)), (5, .str (jp (pcs l q i))), (6, .osl 1 0 0 i none), (0, .sl 1 (l.map sv)), (1, .sl 1 (q.map bv))]) (fun _ => [.arr 1 ((l.take i).map sv)])
          (fun k => k ≤ f.length) (fun k => f.length - k) 0 (wks rfl (by simp) ⟨rfl, rfl, rfl, rfl, rfl, rfl, rfl, rfl, trivial⟩) (by omega) fun k hk => ?_
        have hin := inner f k hk
        have hdl := dbl_len (f.take k)
        have hdc := List.count_le_length (a := 34) (l := f.take k)
        rw [List.length_take] at hdl hdc
        cases hb : (List.take k f).all plainC
        · simp only [f14l0, ↓gos, gop, Nat.reduceBEq, Nat.reduceAdd, Nat.reduceSub, Nat.reduceLeDiff, Nat.reduceMul, Int.reduceLE, Int.reduceLT, Int.reduceNe, Int.reduceToNat]
          refine optP_at [] (by omega) ?_
          simp only [sv, hf, ↓gos, gop, Nat.reduceBEq, Nat.reduceAdd, Nat.reduceSub, Nat.reduceLeDiff, Nat.reduceMul, Int.reduceLE, Int.reduceLT, Int.reduceNe, Int.reduceToNat]
          refine ⟨fun h4 => ?_, fun h4 => ?_⟩
          · refine optP_at [] (by omega) ?_
            simp only [hf, ↓gos, gop, Nat.reduceBEq, Nat.reduceAdd, Nat.reduceSub, Nat.reduceLeDiff, Nat.reduceMul, Int.reduceLE, Int.reduceLT, Int.reduceNe, Int.reduceToNat]
            have hin2 := hin (by omega)
            have hnb : (f.take (k + 1)).all plainC = false := by rw [hin2.1, hb]; rfl
            refine ⟨by omega, optP_at [] (by omega) ?_⟩
            rw [hf]
            intro v hv2
            have hv2 : v = ((k + 1 : Nat) : Int) := by rw [hv2, wrap_i64 (by omega) (by omega)]; omega
            subst hv2
            have e1 : List.take (((k + 1 : Nat) : Int).toNat - k) (List.drop k f) = [f.getD k 0] := by
              rw [show ((k + 1 : Nat) : Int).toNat - k = 1 by omega, List.drop_eq_getElem_cons (by omega), List.getD_eq_getElem?_getD, List.getElem?_eq_getElem (by omega)]
              rfl
            rw [e1]
            refine ⟨by omega, by omega, by simp; omega, fun h34 => ⟨by simp; omega, fun v hv3 => ?_⟩, fun h34 v hv3 => ?_⟩
            · have hv3 : v = ((k + 1 : Nat) : Int) := by rw [hv3, wrap_i64 (by omega) (by omega)]; omega
              subst hv3
              have hc : f.getD k 0 = 34 := byte_of h34
              refine rnd_s (k + 1) rfl (by simp) ⟨rfl, congrArg DV.bool hnb.symm, ?_, rfl, rfl, rfl, rfl, rfl, trivial⟩ (by omega) (by omega)
              show DV.str _ = _
              rw [hin2.2, if_pos hc, hc, List.append_assoc]; rfl
            · have hv3 : v = ((k + 1 : Nat) : Int) := by rw [hv3, wrap_i64 (by omega) (by omega)]; omega
              subst hv3
              have hc : f.getD k 0 ≠ 34 := fun e => h34 (by unfold bt; rw [e]; rfl)
              refine rnd_s (k + 1) rfl (by simp) ⟨rfl, congrArg DV.bool hnb.symm, ?_, rfl, rfl, rfl, rfl, rfl, trivial⟩ (by omega) (by omega)
              show DV.str _ = _
              rw [hin2.2, if_neg hc]
          · have hkf : f.take k = f := List.take_of_length_le (by omega)
            rw [hkf] at hb hdl hdc
            rw [hkf]
            have hpc : (pc l q i).2 = 34 :: dbl f ++ [34] := by
              unfold pc
              simp only [hf, hb, Bool.false_and, Bool.false_eq_true, if_false]
            have hkl : min k f.length = f.length := by omega
            rw [hkl] at hdl hdc
            refine ⟨fun hi0 => ?_, fun hi0 => ?_⟩
            · skip
              repeat (refine And.intro (by first | omega | (simp only [List.length_append, List.length_cons, List.length_nil]; omega)) ?_)
              refine optP_at [] (by omega) ?_
              rw [hf]
              repeat (refine And.intro (by first | omega | (simp only [List.length_append, List.length_cons, List.length_nil, List.length_take]; omega)) ?_)
              intro v hv4
              have hv4 : v = ((i + 1 : Nat) : Int) := by rw [hv4, wrap_i64 (by omega) (by omega)]; omega
              subst hv4
              have hst : jp (pcs l q (i + 1)) = jp (pcs l q i) ++ [44] ++ [34] ++ dbl f ++ [34] := by
                rw [pcs_step, if_neg (by omega), hpc]; simp
              have htk : (l.take (i + 1)).map sv = List.take i (List.map sv (List.take i l)) ++ [[.str f]] := by
                rw [List.take_succ_eq_append_getElem (by omega), List.map_append, List.take_of_length_le (l := List.map sv (l.take i)) (by rw [List.length_map, List.length_take]; omega)]
                have : l[i]'(by omega) = f := by rw [← hf, List.getD_eq_getElem?_getD, List.getElem?_eq_getElem (by omega)]; rfl
                rw [this]; rfl
              refine rnd_d 1 (i + 1) (by rw [htk]; rfl) (by omega) ⟨rfl, rfl, ?_, rfl, rfl, rfl, rfl, rfl, rfl, rfl, trivial⟩ rfl ⟨by omega, by omega, ?_, fun j hj => ?_⟩ (by omega)
              · show DV.str _ = _
                rw [hst]
              · rw [hst]
                simp only [List.length_append, List.length_cons, List.length_nil]
                omega
              · by_cases hji : j = i
                · subst hji; rw [hf]; exact ⟨by omega, hv⟩
                · exact p4 j (by omega)
            · skip
              repeat (refine And.intro (by first | omega | (simp only [List.length_append, List.length_cons, List.length_nil]; omega)) ?_)
              refine optP_at [] (by omega) ?_
              rw [hf]
              repeat (refine And.intro (by first | omega | (simp only [List.length_append, List.length_cons, List.length_nil, List.length_take]; omega)) ?_)
              intro v hv4
              have hv4 : v = ((i + 1 : Nat) : Int) := by rw [hv4, wrap_i64 (by omega) (by omega)]; omega
              subst hv4
              have hst : jp (pcs l q (i + 1)) = jp (pcs l q i) ++ [34] ++ dbl f ++ [34] := by
                rw [pcs_step, if_pos (by omega), hpc]
                have h0 : i = 0 := by omega
                subst h0
                simp [pcs, jp]
              have htk : (l.take (i + 1)).map sv = List.take i (List.map sv (List.take i l)) ++ [[.str f]] := by
                rw [List.take_succ_eq_append_getElem (by omega), List.map_append, List.take_of_length_le (l := List.map sv (l.take i)) (by rw [List.length_map, List.length_take]; omega)]
                have : l[i]'(by omega) = f := by rw [← hf, List.getD_eq_getElem?_getD, List.getElem?_eq_getElem (by omega)]; rfl
                rw [this]; rfl
              refine rnd_d 1 (i + 1) (by rw [htk]; rfl) (by omega) ⟨rfl, rfl, ?_, rfl, rfl, rfl, rfl, rfl, rfl, rfl, trivial⟩ rfl ⟨by omega, by omega, ?_, fun j hj => ?_⟩ (by omega)
              · show DV.str _ = _
                rw [hst]
              · rw [hst]
                simp only [List.length_append, List.length_cons, List.length_nil]
                omega
              · by_cases hji : j = i
                · subst hji; rw [hf]; exact ⟨by omega, hv⟩
                · exact p4 j (by omega)
        · simp only [f14l0, ↓gos, gop, Nat.reduceBEq, Nat.reduceAdd, Nat.reduceSub, Nat.reduceLeDiff, Nat.reduceMul, Int.reduceLE, Int.reduceLT, Int.reduceNe, Int.reduceToNat]
          refine optP_at [] (by omega) ?_
          simp only [sv, hf, ↓gos, gop, Nat.reduceBEq, Nat.reduceAdd, Nat.reduceSub, Nat.reduceLeDiff, Nat.reduceMul, Int.reduceLE, Int.reduceLT, Int.reduceNe, Int.reduceToNat]
          refine ⟨fun h4 => ?_, fun h4 => ?_⟩
          · refine optP_at [] (by omega) ?_
            simp only [hf, ↓gos, gop, Nat.reduceBEq, Nat.reduceAdd, Nat.reduceSub, Nat.reduceLeDiff, Nat.reduceMul, Int.reduceLE, Int.reduceLT, Int.reduceNe, Int.reduceToNat]
            have hnp : ∀ n : Nat, bt f k = (n : Int) → UInt8.ofNat n ∈ SG → plainC (f.getD k 0) = false := fun n h hm => by
              rw [byte_of h]; unfold plainC; rw [List.contains_iff_mem.2 hm]; rfl
            refine ⟨by omega, fun a1 => ?_, fun a1 => ?_⟩
            · refine ⟨fun a2 => ?_, fun a2 => ?_⟩
              · refine ⟨fun a3 => ?_, fun a3 => ?_⟩
                · refine ⟨fun a4 => ?_, fun a4 => ?_⟩
                  · have hpl : plainC (f.getD k 0) = true := by
                      unfold plainC SG
                      unfold bt at a1 a2 a3 a4
                      have q1 : f.getD k 0 ≠ 44 := fun e => a1 (by rw [e]; rfl)
                      have q2 : f.getD k 0 ≠ 34 := fun e => a2 (by rw [e]; rfl)
                      have q3 : f.getD k 0 ≠ 13 := fun e => a3 (by rw [e]; rfl)
                      have q4 : f.getD k 0 ≠ 10 := fun e => a4 (by rw [e]; rfl)
                      generalize f.getD k 0 = c at q1 q2 q3 q4
                      simp [q1, q2, q3, q4]
                    have hin2 := hin (by omega)
                    have hnb : (f.take (k + 1)).all plainC = true := by rw [hin2.1, hb]; rw [hpl]; rfl
                    refine optP_at [] (by omega) ?_
                    rw [hf]
                    intro v hv2
                    have hv2 : v = ((k + 1 : Nat) : Int) := by rw [hv2, wrap_i64 (by omega) (by omega)]; omega
                    subst hv2
                    have e1 : List.take (((k + 1 : Nat) : Int).toNat - k) (List.drop k f) = [f.getD k 0] := by
                      rw [show ((k + 1 : Nat) : Int).toNat - k = 1 by omega, List.drop_eq_getElem_cons (by omega), List.getD_eq_getElem?_getD, List.getElem?_eq_getElem (by omega)]
                      rfl
                    rw [e1]
                    refine ⟨by omega, by omega, by simp; omega, fun h34 => ⟨by simp; omega, fun v hv3 => ?_⟩, fun h34 v hv3 => ?_⟩
                    · have hv3 : v = ((k + 1 : Nat) : Int) := by rw [hv3, wrap_i64 (by omega) (by omega)]; omega
                      subst hv3
                      have hc : f.getD k 0 = 34 := byte_of h34
                      refine rnd_s (k + 1) rfl (by simp) ⟨rfl, congrArg DV.bool hnb.symm, ?_, rfl, rfl, rfl, rfl, rfl, trivial⟩ (by omega) (by omega)
                      show DV.str _ = _
                      rw [hin2.2, if_pos hc, hc, List.append_assoc]; rfl
                    · have hv3 : v = ((k + 1 : Nat) : Int) := by rw [hv3, wrap_i64 (by omega) (by omega)]; omega
                      subst hv3
                      have hc : f.getD k 0 ≠ 34 := fun e => h34 (by unfold bt; rw [e]; rfl)
                      refine rnd_s (k + 1) rfl (by simp) ⟨rfl, congrArg DV.bool hnb.symm, ?_, rfl, rfl, rfl, rfl, rfl, trivial⟩ (by omega) (by omega)
                      show DV.str _ = _
                      rw [hin2.2, if_neg hc]
                  · have hpl := hnp 10 a4 (by decide)
                    have hin2 := hin (by omega)
                    have hnb : (f.take (k + 1)).all plainC = false := by rw [hin2.1, hb]; rw [hpl]; rfl
                    refine optP_at [] (by omega) ?_
                    rw [hf]
                    intro v hv2
                    have hv2 : v = ((k + 1 : Nat) : Int) := by rw [hv2, wrap_i64 (by omega) (by omega)]; omega
                    subst hv2
                    have e1 : List.take (((k + 1 : Nat) : Int).toNat - k) (List.drop k f) = [f.getD k 0] := by
                      rw [show ((k + 1 : Nat) : Int).toNat - k = 1 by omega, List.drop_eq_getElem_cons (by omega), List.getD_eq_getElem?_getD, List.getElem?_eq_getElem (by omega)]
                      rfl
                    rw [e1]
                    refine ⟨by omega, by omega, by simp; omega, fun h34 => ⟨by simp; omega, fun v hv3 => ?_⟩, fun h34 v hv3 => ?_⟩
                    · have hv3 : v = ((k + 1 : Nat) : Int) := by rw [hv3, wrap_i64 (by omega) (by omega)]; omega
                      subst hv3
                      have hc : f.getD k 0 = 34 := byte_of h34
                      refine rnd_s (k + 1) rfl (by simp) ⟨rfl, congrArg DV.bool hnb.symm, ?_, rfl, rfl, rfl, rfl, rfl, trivial⟩ (by omega) (by omega)
                      show DV.str _ = _
                      rw [hin2.2, if_pos hc, hc, List.append_assoc]; rfl
                    · have hv3 : v = ((k + 1 : Nat) : Int) := by rw [hv3, wrap_i64 (by omega) (by omega)]; omega
                      subst hv3
                      have hc : f.getD k 0 ≠ 34 := fun e => h34 (by unfold bt; rw [e]; rfl)
                      refine rnd_s (k + 1) rfl (by simp) ⟨rfl, congrArg DV.bool hnb.symm, ?_, rfl, rfl, rfl, rfl, rfl, trivial⟩ (by omega) (by omega)
                      show DV.str _ = _
                      rw [hin2.2, if_neg hc]
                · have hpl := hnp 13 a3 (by decide)
                  have hin2 := hin (by omega)
                  have hnb : (f.take (k + 1)).all plainC = false := by rw [hin2.1, hb]; rw [hpl]; rfl
                  refine optP_at [] (by omega) ?_
                  rw [hf]
                  intro v hv2
                  have hv2 : v = ((k + 1 : Nat) : Int) := by rw [hv2, wrap_i64 (by omega) (by omega)]; omega
                  subst hv2
                  have e1 : List.take (((k + 1 : Nat) : Int).toNat - k) (List.drop k f) = [f.getD k 0] := by
                    rw [show ((k + 1 : Nat) : Int).toNat - k = 1 by omega, List.drop_eq_getElem_cons (by omega), List.getD_eq_getElem?_getD, List.getElem?_eq_getElem (by omega)]
                    rfl
                  rw [e1]
                  refine ⟨by omega, by omega, by simp; omega, fun h34 => ⟨by simp; omega, fun v hv3 => ?_⟩, fun h34 v hv3 => ?_⟩
                  · have hv3 : v = ((k + 1 : Nat) : Int) := by rw [hv3, wrap_i64 (by omega) (by omega)]; omega
                    subst hv3
                    have hc : f.getD k 0 = 34 := byte_of h34
                    refine rnd_s (k + 1) rfl (by simp) ⟨rfl, congrArg DV.bool hnb.symm, ?_, rfl, rfl, rfl, rfl, rfl, trivial⟩ (by omega) (by omega)
                    show DV.str _ = _
                    rw [hin2.2, if_pos hc, hc, List.append_assoc]; rfl
                  · have hv3 : v = ((k + 1 : Nat) : Int) := by rw [hv3, wrap_i64 (by omega) (by omega)]; omega
                    subst hv3
                    have hc : f.getD k 0 ≠ 34 := fun e => h34 (by unfold bt; rw [e]; rfl)
                    refine rnd_s (k + 1) rfl (by simp) ⟨rfl, congrArg DV.bool hnb.symm, ?_, rfl, rfl, rfl, rfl, rfl, trivial⟩ (by omega) (by omega)
                    show DV.str _ = _
                    rw [hin2.2, if_neg hc]
              · have hpl := hnp 34 a2 (by decide)
                have hin2 := hin (by omega)
                have hnb : (f.take (k + 1)).all plainC = false := by rw [hin2.1, hb]; rw [hpl]; rfl
                refine optP_at [] (by omega) ?_
                rw [hf]
                intro v hv2
                have hv2 : v = ((k + 1 : Nat) : Int) := by rw [hv2, wrap_i64 (by omega) (by omega)]; omega
                subst hv2
                have e1 : List.take (((k + 1 : Nat) : Int).toNat - k) (List.drop k f) = [f.getD k 0] := by
                  rw [show ((k + 1 : Nat) : Int).toNat - k = 1 by omega, List.drop_eq_getElem_cons (by omega), List.getD_eq_getElem?_getD, List.getElem?_eq_getElem (by omega)]
                  rfl
                rw [e1]
                refine ⟨by omega, by omega, by simp; omega, fun h34 => ⟨by simp; omega, fun v hv3 => ?_⟩, fun h34 v hv3 => ?_⟩
                · have hv3 : v = ((k + 1 : Nat) : Int) := by rw [hv3, wrap_i64 (by omega) (by omega)]; omega
                  subst hv3
                  have hc : f.getD k 0 = 34 := byte_of h34
                  refine rnd_s (k + 1) rfl (by simp) ⟨rfl, congrArg DV.bool hnb.symm, ?_, rfl, rfl, rfl, rfl, rfl, trivial⟩ (by omega) (by omega)
                  show DV.str _ = _
                  rw [hin2.2, if_pos hc, hc, List.append_assoc]; rfl
                · have hv3 : v = ((k + 1 : Nat) : Int) := by rw [hv3, wrap_i64 (by omega) (by omega)]; omega
                  subst hv3
                  have hc : f.getD k 0 ≠ 34 := fun e => h34 (by unfold bt; rw [e]; rfl)
                  refine rnd_s (k + 1) rfl (by simp) ⟨rfl, congrArg DV.bool hnb.symm, ?_, rfl, rfl, rfl, rfl, rfl, trivial⟩ (by omega) (by omega)
                  show DV.str _ = _
                  rw [hin2.2, if_neg hc]
            · have hpl := hnp 44 a1 (by decide)
              have hin2 := hin (by omega)
              have hnb : (f.take (k + 1)).all plainC = false := by rw [hin2.1, hb]; rw [hpl]; rfl
              refine optP_at [] (by omega) ?_
              rw [hf]
              intro v hv2
              have hv2 : v = ((k + 1 : Nat) : Int) := by rw [hv2, wrap_i64 (by omega) (by omega)]; omega
              subst hv2
              have e1 : List.take (((k + 1 : Nat) : Int).toNat - k) (List.drop k f) = [f.getD k 0] := by
                rw [show ((k + 1 : Nat) : Int).toNat - k = 1 by omega, List.drop_eq_getElem_cons (by omega), List.getD_eq_getElem?_getD, List.getElem?_eq_getElem (by omega)]
                rfl
              rw [e1]
              refine ⟨by omega, by omega, by simp; omega, fun h34 => ⟨by simp; omega, fun v hv3 => ?_⟩, fun h34 v hv3 => ?_⟩
              · have hv3 : v = ((k + 1 : Nat) : Int) := by rw [hv3, wrap_i64 (by omega) (by omega)]; omega
                subst hv3
                have hc : f.getD k 0 = 34 := byte_of h34
                refine rnd_s (k + 1) rfl (by simp) ⟨rfl, congrArg DV.bool hnb.symm, ?_, rfl, rfl, rfl, rfl, rfl, trivial⟩ (by omega) (by omega)
                show DV.str _ = _
                rw [hin2.2, if_pos hc, hc, List.append_assoc]; rfl
              · have hv3 : v = ((k + 1 : Nat) : Int) := by rw [hv3, wrap_i64 (by omega) (by omega)]; omega
                subst hv3
                have hc : f.getD k 0 ≠ 34 := fun e => h34 (by unfold bt; rw [e]; rfl)
                refine rnd_s (k + 1) rfl (by simp) ⟨rfl, congrArg DV.bool hnb.symm, ?_, rfl, rfl, rfl, rfl, rfl, trivial⟩ (by omega) (by omega)
                show DV.str _ = _
                rw [hin2.2, if_neg hc]
          · have hkf : f.take k = f := List.take_of_length_le (by omega)
            rw [hkf] at hb hdl hdc
            rw [hkf]
            have hkl : min k f.length = f.length := by omega
            rw [hkl] at hdl hdc
            refine ⟨fun hi0 => ?_, fun hi0 => ?_⟩
            · refine ⟨by omega, ?_⟩
              refine ⟨fun hqi => ?_, fun hqi => ?_⟩
              · refine optP_at false (by omega) ?_
                simp only [bv, sv, ↓gos, gop, Nat.reduceBEq, Nat.reduceAdd, Nat.reduceSub, Nat.reduceLeDiff, Nat.reduceMul, Int.reduceLE, Int.reduceLT, Int.reduceNe, Int.reduceToNat]
                cases hq2 : q.getD i false
                · simp only [sv, ↓gos, gop, Nat.reduceBEq, Nat.reduceAdd, Nat.reduceSub, Nat.reduceLeDiff, Nat.reduceMul, Int.reduceLE, Int.reduceLT, Int.reduceNe, Int.reduceToNat]
                  have hpc : (pc l q i).2 = f := by
                    unfold pc
                    simp only [hf, hb, hq2, Bool.not_false, Bool.and_self, if_true]
                  repeat (refine And.intro (by first | omega | (simp only [List.length_append, List.length_cons, List.length_nil]; omega)) ?_)
                  refine optP_at [] (by omega) ?_
                  rw [hf]
                  repeat (refine And.intro (by first | omega | (simp only [List.length_append, List.length_cons, List.length_nil]; omega)) ?_)
                  refine optP_at [] (by omega) ?_
                  rw [hf]
                  repeat (refine And.intro (by first | omega | (simp only [List.length_append, List.length_cons, List.length_nil, List.length_take]; omega)) ?_)
                  intro v hv4
                  have hv4 : v = ((i + 1 : Nat) : Int) := by rw [hv4, wrap_i64 (by omega) (by omega)]; omega
                  subst hv4
                  have hst : jp (pcs l q (i + 1)) = jp (pcs l q i) ++ [44] ++ f := by
                    rw [pcs_step, if_neg (by omega), hpc]; simp
                  have htk : (l.take (i + 1)).map sv = List.take i (List.map sv (List.take i l)) ++ [[.str f]] := by
                    rw [List.take_succ_eq_append_getElem (by omega), List.map_append, List.take_of_length_le (l := List.map sv (l.take i)) (by rw [List.length_map, List.length_take]; omega)]
                    have : l[i]'(by omega) = f := by rw [← hf, List.getD_eq_getElem?_getD, List.getElem?_eq_getElem (by omega)]; rfl
                    rw [this]; rfl
                  refine rnd_d 1 (i + 1) (by rw [htk]; rfl) (by omega) ⟨rfl, rfl, ?_, rfl, rfl, rfl, rfl, rfl, rfl, rfl, trivial⟩ rfl ⟨by omega, by omega, ?_, fun j hj => ?_⟩ (by omega)
                  · show DV.str _ = _
                    rw [hst]
                  · rw [hst]
                    simp only [List.length_append, List.length_cons, List.length_nil]
                    omega
                  · by_cases hji : j = i
                    · subst hji; rw [hf]; exact ⟨by omega, hv⟩
                    · exact p4 j (by omega)
                · simp only [sv, ↓gos, gop, Nat.reduceBEq, Nat.reduceAdd, Nat.reduceSub, Nat.reduceLeDiff, Nat.reduceMul, Int.reduceLE, Int.reduceLT, Int.reduceNe, Int.reduceToNat]
                  have hpc : (pc l q i).2 = 34 :: dbl f ++ [34] := by
                    unfold pc
                    simp only [hf, hb, hq2, Bool.not_true, Bool.and_false, Bool.false_eq_true, if_false]
                  repeat (refine And.intro (by first | omega | (simp only [List.length_append, List.length_cons, List.length_nil]; omega)) ?_)
                  refine optP_at [] (by omega) ?_
                  rw [hf]
                  repeat (refine And.intro (by first | omega | (simp only [List.length_append, List.length_cons, List.length_nil, List.length_take]; omega)) ?_)
                  intro v hv4
                  have hv4 : v = ((i + 1 : Nat) : Int) := by rw [hv4, wrap_i64 (by omega) (by omega)]; omega
                  subst hv4
                  have hst : jp (pcs l q (i + 1)) = jp (pcs l q i) ++ [44] ++ [34] ++ dbl f ++ [34] := by
                    rw [pcs_step, if_neg (by omega), hpc]; simp
                  have htk : (l.take (i + 1)).map sv = List.take i (List.map sv (List.take i l)) ++ [[.str f]] := by
                    rw [List.take_succ_eq_append_getElem (by omega), List.map_append, List.take_of_length_le (l := List.map sv (l.take i)) (by rw [List.length_map, List.length_take]; omega)]
                    have : l[i]'(by omega) = f := by rw [← hf, List.getD_eq_getElem?_getD, List.getElem?_eq_getElem (by omega)]; rfl
                    rw [this]; rfl
                  refine rnd_d 1 (i + 1) (by rw [htk]; rfl) (by omega) ⟨rfl, rfl, ?_, rfl, rfl, rfl, rfl, rfl, rfl, rfl, trivial⟩ rfl ⟨by omega, by omega, ?_, fun j hj => ?_⟩ (by omega)
                  · show DV.str _ = _
                    rw [hst]
                  · rw [hst]
                    simp only [List.length_append, List.length_cons, List.length_nil]
                    omega
                  · by_cases hji : j = i
                    · subst hji; rw [hf]; exact ⟨by omega, hv⟩
                    · exact p4 j (by omega)
              · have hq2 : q.getD i false = false := by
                  rw [List.getD_eq_getElem?_getD, List.getElem?_eq_none (by omega)]; rfl
                have hpc : (pc l q i).2 = f := by
                  unfold pc
                  simp only [hf, hb, hq2, Bool.not_false, Bool.and_self, if_true]
                repeat (refine And.intro (by first | omega | (simp only [List.length_append, List.length_cons, List.length_nil]; omega)) ?_)
                refine optP_at [] (by omega) ?_
                rw [hf]
                repeat (refine And.intro (by first | omega | (simp only [List.length_append, List.length_cons, List.length_nil]; omega)) ?_)
                refine optP_at [] (by omega) ?_
                rw [hf]
                repeat (refine And.intro (by first | omega | (simp only [List.length_append, List.length_cons, List.length_nil, List.length_take]; omega)) ?_)
                intro v hv4
                have hv4 : v = ((i + 1 : Nat) : Int) := by rw [hv4, wrap_i64 (by omega) (by omega)]; omega
                subst hv4
                have hst : jp (pcs l q (i + 1)) = jp (pcs l q i) ++ [44] ++ f := by
                  rw [pcs_step, if_neg (by omega), hpc]; simp
                have htk : (l.take (i + 1)).map sv = List.take i (List.map sv (List.take i l)) ++ [[.str f]] := by
                  rw [List.take_succ_eq_append_getElem (by omega), List.map_append, List.take_of_length_le (l := List.map sv (l.take i)) (by rw [List.length_map, List.length_take]; omega)]
                  have : l[i]'(by omega) = f := by rw [← hf, List.getD_eq_getElem?_getD, List.getElem?_eq_getElem (by omega)]; rfl
                  rw [this]; rfl
                refine rnd_d 1 (i + 1) (by rw [htk]; rfl) (by omega) ⟨rfl, rfl, ?_, rfl, rfl, rfl, rfl, rfl, rfl, rfl, trivial⟩ rfl ⟨by omega, by omega, ?_, fun j hj => ?_⟩ (by omega)
                · show DV.str _ = _
                  rw [hst]
                · rw [hst]
                  simp only [List.length_append, List.length_cons, List.length_nil]
                  omega
                · by_cases hji : j = i
                  · subst hji; rw [hf]; exact ⟨by omega, hv⟩
                  · exact p4 j (by omega)
            · skip
              refine ⟨fun hqi => ?_, fun hqi => ?_⟩
              · refine optP_at false (by omega) ?_
                simp only [bv, sv, ↓gos, gop, Nat.reduceBEq, Nat.reduceAdd, Nat.reduceSub, Nat.reduceLeDiff, Nat.reduceMul, Int.reduceLE, Int.reduceLT, Int.reduceNe, Int.reduceToNat]
                cases hq2 : q.getD i false
                · simp only [sv, ↓gos, gop, Nat.reduceBEq, Nat.reduceAdd, Nat.reduceSub, Nat.reduceLeDiff, Nat.reduceMul, Int.reduceLE, Int.reduceLT, Int.reduceNe, Int.reduceToNat]
                  have hpc : (pc l q i).2 = f := by
                    unfold pc
                    simp only [hf, hb, hq2, Bool.not_false, Bool.and_self, if_true]
                  repeat (refine And.intro (by first | omega | (simp only [List.length_append, List.length_cons, List.length_nil]; omega)) ?_)
                  refine optP_at [] (by omega) ?_
                  rw [hf]
                  repeat (refine And.intro (by first | omega | (simp only [List.length_append, List.length_cons, List.length_nil]; omega)) ?_)
                  refine optP_at [] (by omega) ?_
                  rw [hf]
                  repeat (refine And.intro (by first | omega | (simp only [List.length_append, List.length_cons, List.length_nil, List.length_take]; omega)) ?_)
                  intro v hv4
                  have hv4 : v = ((i + 1 : Nat) : Int) := by rw [hv4, wrap_i64 (by omega) (by omega)]; omega
                  subst hv4
                  have hst : jp (pcs l q (i + 1)) = jp (pcs l q i) ++ f := by
                    rw [pcs_step, if_pos (by omega), hpc]
                    have h0 : i = 0 := by omega
                    subst h0
                    simp [pcs, jp]
                  have htk : (l.take (i + 1)).map sv = List.take i (List.map sv (List.take i l)) ++ [[.str f]] := by
                    rw [List.take_succ_eq_append_getElem (by omega), List.map_append, List.take_of_length_le (l := List.map sv (l.take i)) (by rw [List.length_map, List.length_take]; omega)]
                    have : l[i]'(by omega) = f := by rw [← hf, List.getD_eq_getElem?_getD, List.getElem?_eq_getElem (by omega)]; rfl
                    rw [this]; rfl
                  refine rnd_d 1 (i + 1) (by rw [htk]; rfl) (by omega) ⟨rfl, rfl, ?_, rfl, rfl, rfl, rfl, rfl, rfl, rfl, trivial⟩ rfl ⟨by omega, by omega, ?_, fun j hj => ?_⟩ (by omega)
                  · show DV.str _ = _
                    rw [hst]
                  · rw [hst]
                    simp only [List.length_append, List.length_cons, List.length_nil]
                    omega
                  · by_cases hji : j = i
                    · subst hji; rw [hf]; exact ⟨by omega, hv⟩
                    · exact p4 j (by omega)
                · simp only [sv, ↓gos, gop, Nat.reduceBEq, Nat.reduceAdd, Nat.reduceSub, Nat.reduceLeDiff, Nat.reduceMul, Int.reduceLE, Int.reduceLT, Int.reduceNe, Int.reduceToNat]
                  have hpc : (pc l q i).2 = 34 :: dbl f ++ [34] := by
                    unfold pc
                    simp only [hf, hb, hq2, Bool.not_true, Bool.and_false, Bool.false_eq_true, if_false]
                  repeat (refine And.intro (by first | omega | (simp only [List.length_append, List.length_cons, List.length_nil]; omega)) ?_)
                  refine optP_at [] (by omega) ?_
                  rw [hf]
                  repeat (refine And.intro (by first | omega | (simp only [List.length_append, List.length_cons, List.length_nil, List.length_take]; omega)) ?_)
                  intro v hv4
                  have hv4 : v = ((i + 1 : Nat) : Int) := by rw [hv4, wrap_i64 (by omega) (by omega)]; omega
                  subst hv4
                  have hst : jp (pcs l q (i + 1)) = jp (pcs l q i) ++ [34] ++ dbl f ++ [34] := by
                    rw [pcs_step, if_pos (by omega), hpc]
                    have h0 : i = 0 := by omega
                    subst h0
                    simp [pcs, jp]
                  have htk : (l.take (i + 1)).map sv = List.take i (List.map sv (List.take i l)) ++ [[.str f]] := by
                    rw [List.take_succ_eq_append_getElem (by omega), List.map_append, List.take_of_length_le (l := List.map sv (l.take i)) (by rw [List.length_map, List.length_take]; omega)]
                    have : l[i]'(by omega) = f := by rw [← hf, List.getD_eq_getElem?_getD, List.getElem?_eq_getElem (by omega)]; rfl
                    rw [this]; rfl
                  refine rnd_d 1 (i + 1) (by rw [htk]; rfl) (by omega) ⟨rfl, rfl, ?_, rfl, rfl, rfl, rfl, rfl, rfl, rfl, trivial⟩ rfl ⟨by omega, by omega, ?_, fun j hj => ?_⟩ (by omega)
                  · show DV.str _ = _
                    rw [hst]
                  · rw [hst]
                    simp only [List.length_append, List.length_cons, List.length_nil]
                    omega
                  · by_cases hji : j = i
                    · subst hji; rw [hf]; exact ⟨by omega, hv⟩
                    · exact p4 j (by omega)
              · have hq2 : q.getD i false = false := by
                  rw [List.getD_eq_getElem?_getD, List.getElem?_eq_none (by omega)]; rfl
                have hpc : (pc l q i).2 = f := by
                  unfold pc
                  simp only [hf, hb, hq2, Bool.not_false, Bool.and_self, if_true]
                repeat (refine And.intro (by first | omega | (simp only [List.length_append, List.length_cons, List.length_nil]; omega)) ?_)
                refine optP_at [] (by omega) ?_
                rw [hf]
                repeat (refine And.intro (by first | omega | (simp only [List.length_append, List.length_cons, List.length_nil]; omega)) ?_)
                refine optP_at [] (by omega) ?_
                rw [hf]
                repeat (refine And.intro (by first | omega | (simp only [List.length_append, List.length_cons, List.length_nil, List.length_take]; omega)) ?_)
                intro v hv4
                have hv4 : v = ((i + 1 : Nat) : Int) := by rw [hv4, wrap_i64 (by omega) (by omega)]; omega
                subst hv4
                have hst : jp (pcs l q (i + 1)) = jp (pcs l q i) ++ f := by
                  rw [pcs_step, if_pos (by omega), hpc]
                  have h0 : i = 0 := by omega
                  subst h0
                  simp [pcs, jp]
                have htk : (l.take (i + 1)).map sv = List.take i (List.map sv (List.take i l)) ++ [[.str f]] := by
                  rw [List.take_succ_eq_append_getElem (by omega), List.map_append, List.take_of_length_le (l := List.map sv (l.take i)) (by rw [List.length_map, List.length_take]; omega)]
                  have : l[i]'(by omega) = f := by rw [← hf, List.getD_eq_getElem?_getD, List.getElem?_eq_getElem (by omega)]; rfl
                  rw [this]; rfl
                refine rnd_d 1 (i + 1) (by rw [htk]; rfl) (by omega) ⟨rfl, rfl, ?_, rfl, rfl, rfl, rfl, rfl, rfl, rfl, trivial⟩ rfl ⟨by omega, by omega, ?_, fun j hj => ?_⟩ (by omega)
                · show DV.str _ = _
                  rw [hst]
                · rw [hst]
                  simp only [List.length_append, List.length_cons, List.length_nil]
                  omega
                · by_cases hji : j = i
                  · subst hji; rw [hf]; exact ⟨by omega, hv⟩
                  · exact p4 j (by omega)
  · skip
    refine ⟨fun hs => ?_, fun hs => ?_⟩
    · refine call_ret awake33 rfl rfl ?_
      simp only [↓gos, gop, Nat.reduceBEq, Nat.reduceAdd, Nat.reduceSub, Nat.reduceLeDiff, Nat.reduceMul, Int.reduceLE, Int.reduceLT, Int.reduceNe, Int.reduceToNat]
      exact endb rfl
    · have h0 : pcs l q i ≠ [] := fun e => hs (by rw [e]; rfl)
      have hn : (pcs l q i).length = i := by simp [pcs]
      have hr : ∀ p ∈ pcs l q i, Rn p.1 p.2 := fun p hp => by
        obtain ⟨j, _, rfl⟩ := List.mem_map.1 hp
        exact pc_rn l q j
      have hv : Va (jp (pcs l q i)) := va_jp _ fun p hp => by
        obtain ⟨j, hj, rfl⟩ := List.mem_map.1 hp
        exact va_pc (p4 j (by simpa using hj)).2
      have e1 : readG (jp (pcs l q i)) = ([l.take i], 0) := by
        unfold readG
        rw [if_neg (by omega), if_pos (show runAt mayB _ 0 = true from hv), read_one h0 hr (by omega) hs, pcs_fst l q i (by omega)]
      have e2 : readG (jp (pcs l q i) ++ [13, 10] ++ jp (pcs l q i) ++ [13, 10]) = ([l.take i, l.take i], 0) := by
        unfold readG
        rw [if_neg (by simp only [List.length_append, List.length_cons, List.length_nil]; omega), if_pos (show runAt mayB _ 0 = true from va_app (va_app (va_app hv va_13) hv) va_13), read_two h0 hr (by omega) hs, pcs_fst l q i (by omega)]
      have r1 := read34 (jp (pcs l q i)) (by omega)
      have r2 := read34 (jp (pcs l q i) ++ [13, 10] ++ jp (pcs l q i) ++ [13, 10]) (by simp only [List.length_append, List.length_cons, List.length_nil]; omega)
      rw [e1] at r1
      rw [e2] at r2
      have hti : (l.take i).length < 100000000 := by rw [List.length_take]; omega
      refine call_new r1 (fun d hd => by simp at hd; subst hd; rfl) ?_
      simp only [DV.ren, DV.ren.renAll, renO, ↓gos, gop, Nat.reduceBEq, Nat.reduceAdd, Nat.reduceSub, Nat.reduceLeDiff, Nat.reduceMul, Int.reduceLE, Int.reduceLT, Int.reduceNe, Int.reduceToNat]
      repeat (refine And.intro (by first | omega | (simp only [List.length_append, List.length_cons, List.length_nil]; omega)) ?_)
      refine call_new r2 (fun d hd => by simp at hd; subst hd; rfl) ?_
      simp only [DV.ren, DV.ren.renAll, renO, ↓gos, gop, Nat.reduceBEq, Nat.reduceAdd, Nat.reduceSub, Nat.reduceLeDiff, Nat.reduceMul, Int.reduceLE, Int.reduceLT, Int.reduceNe, Int.reduceToNat]
      refine call_ret awake33 rfl rfl ?_
      have ew : (l.take i).length = i := by rw [List.length_take]; omega
      have ed : decide (i ≤ (l.take i).length) = true := decide_eq_true (by omega)
      have et : List.take i (List.map sv (l.take i)) = (l.take i).map sv := List.take_of_length_le (by rw [List.length_map]; omega)
      simp only [ed, et, ↓gos, gop, Nat.reduceBEq, Nat.reduceAdd, Nat.reduceSub, Nat.reduceLeDiff, Nat.reduceMul, Int.reduceLE, Int.reduceLT, Int.reduceNe, Int.reduceToNat]
      refine call_ret (rows36 [l.take i] [l.take i] (by simp) (by simp) (fun x hx => by simp at hx; subst hx; exact hti) (fun x hx => by simp at hx; subst hx; exact hti)) rfl rfl ?_
      rw [decide_eq_true rfl]
      simp only [↓gos, gop, Nat.reduceBEq, Nat.reduceAdd, Nat.reduceSub, Nat.reduceLeDiff, Nat.reduceMul, Int.reduceLE, Int.reduceLT, Int.reduceNe, Int.reduceToNat]
      refine call_ret (rows36 [l.take i, l.take i] [l.take i, l.take i] (by simp) (by simp) (fun x hx => by simp at hx; subst hx; exact hti) (fun x hx => by simp at hx; subst hx; exact hti)) rfl rfl ?_
      rw [decide_eq_true rfl]
      simp only [↓gos, gop, Nat.reduceBEq, Nat.reduceAdd, Nat.reduceSub, Nat.reduceLeDiff, Nat.reduceMul, Int.reduceLE, Int.reduceLT, Int.reduceNe, Int.reduceToNat]
      exact endb rfl
  · skip
    refine ⟨fun hs => ?_, fun hs => ?_⟩
    · refine call_ret awake33 rfl rfl ?_
      simp only [↓gos, gop, Nat.reduceBEq, Nat.reduceAdd, Nat.reduceSub, Nat.reduceLeDiff, Nat.reduceMul, Int.reduceLE, Int.reduceLT, Int.reduceNe, Int.reduceToNat]
      exact endb rfl
    · have h0 : pcs l q i ≠ [] := fun e => hs (by rw [e]; rfl)
      have hn : (pcs l q i).length = i := by simp [pcs]
      have hr : ∀ p ∈ pcs l q i, Rn p.1 p.2 := fun p hp => by
        obtain ⟨j, _, rfl⟩ := List.mem_map.1 hp
        exact pc_rn l q j
      have hv : Va (jp (pcs l q i)) := va_jp _ fun p hp => by
        obtain ⟨j, hj, rfl⟩ := List.mem_map.1 hp
        exact va_pc (p4 j (by simpa using hj)).2
      have e1 : readG (jp (pcs l q i)) = ([l.take i], 0) := by
        unfold readG
        rw [if_neg (by omega), if_pos (show runAt mayB _ 0 = true from hv), read_one h0 hr (by omega) hs, pcs_fst l q i (by omega)]
      have e2 : readG (jp (pcs l q i) ++ [13, 10] ++ jp (pcs l q i) ++ [13, 10]) = ([l.take i, l.take i], 0) := by
        unfold readG
        rw [if_neg (by simp only [List.length_append, List.length_cons, List.length_nil]; omega), if_pos (show runAt mayB _ 0 = true from va_app (va_app (va_app hv va_13) hv) va_13), read_two h0 hr (by omega) hs, pcs_fst l q i (by omega)]
      have r1 := read34 (jp (pcs l q i)) (by omega)
      have r2 := read34 (jp (pcs l q i) ++ [13, 10] ++ jp (pcs l q i) ++ [13, 10]) (by simp only [List.length_append, List.length_cons, List.length_nil]; omega)
      rw [e1] at r1
      rw [e2] at r2
      have hti : (l.take i).length < 100000000 := by rw [List.length_take]; omega
      refine call_new r1 (fun d hd => by simp at hd; subst hd; rfl) ?_
      simp only [DV.ren, DV.ren.renAll, renO, ↓gos, gop, Nat.reduceBEq, Nat.reduceAdd, Nat.reduceSub, Nat.reduceLeDiff, Nat.reduceMul, Int.reduceLE, Int.reduceLT, Int.reduceNe, Int.reduceToNat]
      repeat (refine And.intro (by first | omega | (simp only [List.length_append, List.length_cons, List.length_nil]; omega)) ?_)
      refine call_new r2 (fun d hd => by simp at hd; subst hd; rfl) ?_
      simp only [DV.ren, DV.ren.renAll, renO, ↓gos, gop, Nat.reduceBEq, Nat.reduceAdd, Nat.reduceSub, Nat.reduceLeDiff, Nat.reduceMul, Int.reduceLE, Int.reduceLT, Int.reduceNe, Int.reduceToNat]
      refine call_ret awake33 rfl rfl ?_
      have ew : (l.take i).length = i := by rw [List.length_take]; omega
      have ed : decide (i ≤ (l.take i).length) = true := decide_eq_true (by omega)
      have et : List.take i (List.map sv (l.take i)) = (l.take i).map sv := List.take_of_length_le (by rw [List.length_map]; omega)
      simp only [ed, et, ↓gos, gop, Nat.reduceBEq, Nat.reduceAdd, Nat.reduceSub, Nat.reduceLeDiff, Nat.reduceMul, Int.reduceLE, Int.reduceLT, Int.reduceNe, Int.reduceToNat]
      refine call_ret (rows36 [l.take i] [l.take i] (by simp) (by simp) (fun x hx => by simp at hx; subst hx; exact hti) (fun x hx => by simp at hx; subst hx; exact hti)) rfl rfl ?_
      rw [decide_eq_true rfl]
      simp only [↓gos, gop, Nat.reduceBEq, Nat.reduceAdd, Nat.reduceSub, Nat.reduceLeDiff, Nat.reduceMul, Int.reduceLE, Int.reduceLT, Int.reduceNe, Int.reduceToNat]
      refine call_ret (rows36 [l.take i, l.take i] [l.take i, l.take i] (by simp) (by simp) (fun x hx => by simp at hx; subst hx; exact hti) (fun x hx => by simp at hx; subst hx; exact hti)) rfl rfl ?_
      rw [decide_eq_true rfl]
      simp only [↓gos, gop, Nat.reduceBEq, Nat.reduceAdd, Nat.reduceSub, Nat.reduceLeDiff, Nat.reduceMul, Int.reduceLE, Int.reduceLT, Int.reduceNe, Int.reduceToNat]
      exact endb rfl
end Go.Proofs.Ut
