/- So many properties, and cards, and no more. -/
import Derived.Test.YtbnmhlienklfpaaDoorVcI
import Derived.Test.YtbnmhlienklfpaaDoorFoF
import Derived.Test.YtbnmhlienklfpaaDoorAiLess
set_option linter.all false
namespace Go.Proofs.Ut
open Go.Ai Go.Shelf Go.RowKit
set_option linter.unusedSimpArgs false
set_option linter.unusedVariables false
set_option maxHeartbeats 1000000
set_option maxRecDepth 100000
def xP : PR := ⟨[], [88], [], []⟩
def xN : List DV := [.str [], .str [88], .nils 2, .str []]
def propsT (p : Nat) : List (List UInt8) := [BEG, VER ++ 58 :: V40] ++ List.replicate p [88, 58] ++ [END]
def cardsT (q : Nat) : List (List UInt8) := (List.replicate q [BEG, VER ++ 58 :: V40, END]).flatten
def chkR (m : List (List UInt8)) : Bool := m.all (fun s => s.all (fun c => decide (c.toNat < 128) && decide (32 ≤ c.toNat) && mayB c.toNat) && !moreB s) && decide ((ended m).length ≤ 20000)
theorem props_good : ∀ i, i < 5 → chkR (propsT (38 + i)) = true := by decide +kernel
theorem cards_good : ∀ i, i < 5 → chkR (cardsT (58 + i)) = true := by decide +kernel
theorem props_read : ∀ i, i < 5 → (rdL [] none 0 (propsT (38 + i))).2 = if 38 + i ≤ 40 then (0, 0) else (43, 4) := by decide +kernel
theorem cards_read : ∀ i, i < 5 → (rdL [] none 0 (cardsT (58 + i))).2 = if 58 + i ≤ 60 then (0, 0) else (181, 4) := by decide +kernel
theorem read_chk {m : List (List UInt8)} (h : chkR m = true) : readL (ended m) = rdL [] none 0 m := by
  unfold chkR at h
  rw [Bool.and_eq_true, decide_eq_true_eq] at h
  exact read_ended (good_asc h.1) h.2
theorem kept_x : keptP xP = true := by decide +kernel
theorem props_write : ∀ i, i < 5 → (writeL [List.replicate (38 + i) xP]).2 = if 38 + i ≤ 40 then 0 else 12 := by
  intro i hi
  have ok : okW [List.replicate (38 + i) xP] = decide (38 + i ≤ 40) := by
    rw [okW_eq, List.all_cons, List.all_nil, okc, List.length_replicate, List.all_replicate, kept_x]
    simp
  have hle := foldF_le 11 (linesW [List.replicate (38 + i) xP]) fun x hx => by
    obtain ⟨c, hc, hx⟩ := List.mem_flatMap.1 hx
    rw [List.mem_singleton.1 hc] at hx
    simp only [List.mem_append, List.mem_cons, List.mem_nil_iff, or_false, List.mem_map] at hx
    rcases hx with ((rfl | rfl) | ⟨p, hp, rfl⟩) | rfl
    · decide
    · decide
    · rw [List.eq_of_mem_replicate hp]; decide
    · decide
  have hll : (linesW [List.replicate (38 + i) xP]).length = 41 + i := by simp [linesW]; omega
  rw [hll] at hle
  unfold writeL
  rw [ok]
  by_cases h : 38 + i ≤ 40
  · rw [decide_eq_true h, if_neg (by simp), if_neg (by omega), if_pos h]
  · rw [decide_eq_false h, if_pos rfl, if_neg h]
theorem cards_write : ∀ i, i < 5 → (writeL (List.replicate (58 + i) [])).2 = if 58 + i ≤ 60 then 0 else 12 := by
  intro i hi
  have ok : okW (List.replicate (58 + i) []) = decide (58 + i ≤ 60) := by
    rw [okW_eq, List.length_replicate, List.all_replicate]
    simp [okc]
  have hle := foldF_le 11 (linesW (List.replicate (58 + i) [])) fun x hx => by
    obtain ⟨c, hc, hx⟩ := List.mem_flatMap.1 hx
    rw [List.eq_of_mem_replicate hc] at hx
    simp only [List.mem_append, List.mem_cons, List.mem_nil_iff, or_false, List.mem_map] at hx
    rcases hx with ((rfl | rfl) | ⟨p, hp, rfl⟩) | rfl
    · decide
    · decide
    · simp at hp
    · decide
  have hll : (linesW (List.replicate (58 + i) [])).length = 3 * (58 + i) := by simp [linesW, List.flatMap_replicate]; omega
  rw [hll] at hle
  unfold writeL
  rw [ok]
  by_cases h : 58 + i ≤ 60
  · rw [decide_eq_true h, if_neg (by simp), if_neg (by omega), if_pos h]
  · rw [decide_eq_false h, if_pos rfl, if_neg h]
def sP (i : Nat) : List UInt8 := ended (BEG :: (VER ++ 58 :: V40) :: List.replicate i [88, 58])
theorem sP_succ (i : Nat) : sP i ++ [88, 58, 13, 10] = sP (i + 1) := by
  unfold sP
  rw [List.replicate_succ', ← List.cons_append, ← List.cons_append, ended_app]
  rfl
theorem sP_len (i : Nat) : (sP i).length = 26 + 4 * i := by
  induction i with
  | zero => rfl
  | succ i ih => rw [← sP_succ, List.length_append, ih]; simp; omega
theorem sP_end (i : Nat) : sP i ++ [69, 78, 68, 58, 86, 67, 65, 82, 68, 13, 10] = ended (propsT i) := by
  rw [propsT, ended_app]; rfl
def sC (j : Nat) : List UInt8 := ended (cardsT j)
theorem sC_succ (j : Nat) : sC j ++ [66, 69, 71, 73, 78, 58, 86, 67, 65, 82, 68, 13, 10, 86, 69, 82, 83, 73, 79, 78, 58, 52, 46, 48, 13, 10, 69, 78, 68, 58, 86, 67, 65, 82, 68, 13, 10] = sC (j + 1) := by
  have e : cardsT (j + 1) = cardsT j ++ [BEG, VER ++ 58 :: V40, END] := by simp [cardsT, List.replicate_succ']
  unfold sC
  rw [e, ended_app]
  rfl
theorem sC_len (j : Nat) : (sC j).length = 37 * j := by
  induction j with
  | zero => rfl
  | succ j ih => rw [← sC_succ, List.length_append, ih]; simp; omega
theorem many10 (a b : Int) : DRet 10 [.int .i64 a, .int .i64 b] (.bool true) := by
  refine acalls_go c10 (by simp [f10]) ?_
  simp only [f10, ↓gos, gop, Nat.reduceBEq, Nat.reduceAdd, Nat.reduceSub, Nat.reduceLeDiff, Nat.reduceMul, Int.reduceLE, Int.reduceLT, Int.reduceNe, Int.reduceToNat]
  intro u0 hu0 u1 hu1 u2 hu2 u3 hu3 w0 hw0 w1 hw1 w2 hw2 w3 hw3
  have a0 := wrap_u64_bd a
  rw [← hu0] at a0
  have b0 := Ut.tmod_range u0 5 a0.1 (by omega)
  rw [← hu1] at b0
  rw [wrap_i64 (by omega) (by omega)] at hu2
  rw [wrap_i64 (by omega) (by omega)] at hu3
  have a1 := wrap_u64_bd b
  rw [← hw0] at a1
  have b1 := Ut.tmod_range w0 5 a1.1 (by omega)
  rw [← hw1] at b1
  rw [wrap_i64 (by omega) (by omega)] at hw2
  rw [wrap_i64 (by omega) (by omega)] at hw3
  obtain ⟨p, hp, rfl⟩ : ∃ j : Nat, j < 5 ∧ u3 = ((38 + j : Nat) : Int) := ⟨(u3 - 38).toNat, by omega, by omega⟩
  obtain ⟨q, hq, rfl⟩ : ∃ j : Nat, j < 5 ∧ w3 = ((58 + j : Nat) : Int) := ⟨(w3 - 58).toNat, by omega, by omega⟩
  generalize hP : 38 + p = P at *
  generalize hQ : 58 + q = Q at *
  refine goN_lp (γ := Nat) (fun i => [(8, .int .i64 i), (5, .osl 4 0 0 i none), (6, .str (sP i)), (7, .str []), (0, .int .i64 P), (1, .int .i64 Q)]) (fun i => [.arr 4 (List.replicate i xN)]) (fun i => i ≤ P) (fun i => P - i) 0
    (wks rfl (by simp) ⟨rfl, rfl, rfl, rfl, rfl, rfl, trivial⟩) (by omega) fun i hi => ?_
  have hel := sP_len i
  simp only [f10l0, ↓gos, gop, Nat.reduceBEq, Nat.reduceAdd, Nat.reduceSub, Nat.reduceLeDiff, Nat.reduceMul, Int.reduceLE, Int.reduceLT, Int.reduceNe, Int.reduceToNat]
  refine ⟨fun h1 => ?_, fun h1 => ?_⟩
  · refine ⟨by simp, by omega, by omega, by omega, ?_⟩
    intro v hv
    rw [wrap_i64 (by omega) (by omega)] at hv
    subst hv
    rw [sP_succ]
    refine rnd_d 1 (i + 1) ?_ (by simp) ⟨rfl, rfl, rfl, rfl, rfl, rfl, rfl, rfl, rfl, rfl, rfl, rfl, trivial⟩ rfl (by omega) (by omega)
    · rw [List.take_of_length_le (l := List.replicate i xN) (by simp)]
      simp only [List.take_succ_cons, List.take_zero, List.replicate_succ']
      rfl
  · have : i = P := by omega
    subst this
    have hP5 : i ≤ 42 := by omega
    refine goN_lp (γ := Nat) (fun j => [(10, .int .i64 j), (9, .osl 1 1 0 j none), (7, .str (sC j)), (5, .osl 4 0 0 i none), (6, .str (sP i)), (0, .int .i64 i), (1, .int .i64 Q)]) (fun j => [.arr 4 (List.replicate i xN), .arr 1 (List.replicate j [.nils 1])]) (fun j => j ≤ Q) (fun j => Q - j) 0
      (wks rfl (by simp) ⟨rfl, rfl, rfl, rfl, rfl, rfl, rfl, trivial⟩) (by omega) fun j hj => ?_
    have hcl := sC_len j
    simp only [f10l1, ↓gos, gop, Nat.reduceBEq, Nat.reduceAdd, Nat.reduceSub, Nat.reduceLeDiff, Nat.reduceMul, Int.reduceLE, Int.reduceLT, Int.reduceNe, Int.reduceToNat]
    refine ⟨fun q1 => ?_, fun q1 => ?_⟩
    · refine ⟨by simp, by omega, by omega, by omega, ?_⟩
      intro v hv
      rw [wrap_i64 (by omega) (by omega)] at hv
      subst hv
      rw [sC_succ]
      refine rnd_d 2 (j + 1) ?_ (by simp) ⟨rfl, rfl, rfl, rfl, rfl, rfl, rfl, rfl, rfl, rfl, rfl, rfl, rfl, rfl, trivial⟩ rfl (by omega) (by omega)
      · rw [List.take_of_length_le (l := List.replicate j [DV.nils 1]) (by simp)]
        simp only [List.take_succ_cons, List.take_zero, List.replicate_succ' (n := j)]
    · have : j = Q := by omega
      subst this
      have hQ5 : j ≤ 62 := by omega
      refine ⟨by omega, ?_⟩
      rw [sP_end]
      have g1 := props_good p hp
      have g2 := props_read p hp
      have g3 := props_write p hp
      have k1 := cards_good q hq
      have k2 := cards_read q hq
      have k3 := cards_write q hq
      rw [hP] at g1 g2 g3
      rw [hQ] at k1 k2 k3
      have hr1 := read18 (ended (propsT i)) (by rw [← sP_end, List.length_append, hel]; simp; omega)
      rw [read_chk g1] at hr1
      have hr2 := read18 (sC j) (by omega)
      rw [sC, read_chk k1] at hr2
      generalize rdL [] none 0 (propsT i) = R1 at hr1 g2
      generalize rdL [] none 0 (cardsT j) = R2 at hr2 k2
      obtain ⟨y1, at1, e1⟩ := R1
      obtain ⟨y2, at2, e2⟩ := R2
      refine call_new hr1 (by simp [DV.closed]) ?_
      simp only [DV.ren, DV.ren.renAll, renO, ↓gos, gop, Nat.reduceBEq, Nat.reduceAdd, Nat.reduceSub, Nat.reduceLeDiff, Nat.reduceMul, Int.reduceLE, Int.reduceLT, Int.reduceNe, Int.reduceToNat]
      refine call_new hr2 (by simp [DV.closed]) ?_
      simp only [DV.ren, DV.ren.renAll, renO, List.length_replicate, List.take_replicate, Nat.min_self, ↓gos, gop, Nat.reduceBEq, Nat.reduceAdd, Nat.reduceSub, Nat.reduceLeDiff, Nat.reduceMul, Int.reduceLE, Int.reduceLT, Int.reduceNe, Int.reduceToNat]
      have w1 := write24 [List.replicate i xP] (by simp) fun c hc => by
        rw [List.mem_singleton.1 hc]
        refine ⟨by simp; omega, fun p hp => ?_⟩
        rw [List.eq_of_mem_replicate hp]; decide
      have w2 := write24 (List.replicate j []) (by simp; omega) fun c hc => by
        rw [List.eq_of_mem_replicate hc]
        exact ⟨by simp, fun p hp => by simp at hp⟩
      generalize writeL [List.replicate i xP] = W1 at w1 g3
      generalize writeL (List.replicate j []) = W2 at w2 k3
      obtain ⟨t1, f1⟩ := W1
      obtain ⟨t2, f2⟩ := W2
      simp only at g2 k2 g3 k3
      have lx : LessL xN (pv xP) := .cons Less.rfl' (.cons Less.rfl' (.cons (less_nil (by omega)) (.cons Less.rfl' .nil)))
      have l1 : LessL [DV.sl 1 [[.sl 4 (List.replicate i xN)]]] [.sl 1 ([List.replicate i xP].map cv)] := by
        refine .cons (less_sl rfl fun k e e' h1 h2 => ?_) .nil
        cases k with
        | zero =>
          simp only [List.map_cons, List.map_nil, cv, List.map_replicate, List.getElem?_cons_zero, Option.some.injEq] at h1 h2
          subst h1; subst h2
          exact .cons (less_rep lx) .nil
        | succ k => simp at h1
      have l2 : LessL [DV.sl 1 (List.replicate j [.nils 1])] [.sl 1 ((List.replicate j []).map cv)] := by
        rw [List.map_replicate]
        exact .cons (less_rep (.cons (less_nil (by omega)) .nil)) .nil
      refine call_ret (acalls_less l1 w1) rfl rfl ?_
      simp only [↓gos, gop, Nat.reduceBEq, Nat.reduceAdd, Nat.reduceSub, Nat.reduceLeDiff, Nat.reduceMul, Int.reduceLE, Int.reduceLT, Int.reduceNe, Int.reduceToNat]
      refine call_ret (acalls_less l2 w2) (by rw [List.map_cons, List.map_nil, dn_osl (i := 1) (es := List.replicate j [.nils 1]) rfl (by simp)]) rfl ?_
      simp only [↓gos, gop, Nat.reduceBEq, Nat.reduceAdd, Nat.reduceSub, Nat.reduceLeDiff, Nat.reduceMul, Int.reduceLE, Int.reduceLT, Int.reduceNe, Int.reduceToNat]
      by_cases c1 : i ≤ 40
      · rw [if_pos c1] at g2 g3
        obtain ⟨rfl, rfl⟩ := Prod.mk.inj g2
        by_cases c2 : j ≤ 60
        · rw [if_pos c2] at k2 k3
          obtain ⟨rfl, rfl⟩ := Prod.mk.inj k2
          subst g3; subst k3
          refine ⟨fun z1 => ⟨fun z2 => ?_, fun z2 => ?_⟩, fun z1 => ⟨fun z2 => ?_, fun z2 => ?_⟩⟩
          all_goals first
            | (exfalso; omega)
            | (refine call_ret awake19 rfl rfl ?_
               simp only [↓gos, gop, Nat.reduceBEq, Nat.reduceAdd, Nat.reduceSub, Nat.reduceLeDiff, Nat.reduceMul, Int.reduceLE, Int.reduceLT, Int.reduceNe, Int.reduceToNat]
               exact endb rfl)
        · rw [if_neg c2] at k2 k3
          obtain ⟨rfl, rfl⟩ := Prod.mk.inj k2
          subst g3; subst k3
          refine ⟨fun z1 => ⟨fun z2 => ?_, fun z2 => ?_⟩, fun z1 => ⟨fun z2 => ?_, fun z2 => ?_⟩⟩
          all_goals first
            | (exfalso; omega)
            | (refine call_ret awake19 rfl rfl ?_
               simp only [↓gos, gop, Nat.reduceBEq, Nat.reduceAdd, Nat.reduceSub, Nat.reduceLeDiff, Nat.reduceMul, Int.reduceLE, Int.reduceLT, Int.reduceNe, Int.reduceToNat]
               exact endb rfl)
      · rw [if_neg c1] at g2 g3
        obtain ⟨rfl, rfl⟩ := Prod.mk.inj g2
        by_cases c2 : j ≤ 60
        · rw [if_pos c2] at k2 k3
          obtain ⟨rfl, rfl⟩ := Prod.mk.inj k2
          subst g3; subst k3
          refine ⟨fun z1 => ⟨fun z2 => ?_, fun z2 => ?_⟩, fun z1 => ⟨fun z2 => ?_, fun z2 => ?_⟩⟩
          all_goals first
            | (exfalso; omega)
            | (refine call_ret awake19 rfl rfl ?_
               simp only [↓gos, gop, Nat.reduceBEq, Nat.reduceAdd, Nat.reduceSub, Nat.reduceLeDiff, Nat.reduceMul, Int.reduceLE, Int.reduceLT, Int.reduceNe, Int.reduceToNat]
               exact endb rfl)
        · rw [if_neg c2] at k2 k3
          obtain ⟨rfl, rfl⟩ := Prod.mk.inj k2
          subst g3; subst k3
          refine ⟨fun z1 => ⟨fun z2 => ?_, fun z2 => ?_⟩, fun z1 => ⟨fun z2 => ?_, fun z2 => ?_⟩⟩
          all_goals first
            | (exfalso; omega)
            | (refine call_ret awake19 rfl rfl ?_
               simp only [↓gos, gop, Nat.reduceBEq, Nat.reduceAdd, Nat.reduceSub, Nat.reduceLeDiff, Nat.reduceMul, Int.reduceLE, Int.reduceLT, Int.reduceNe, Int.reduceToNat]
               exact endb rfl)
end Go.Proofs.Ut
