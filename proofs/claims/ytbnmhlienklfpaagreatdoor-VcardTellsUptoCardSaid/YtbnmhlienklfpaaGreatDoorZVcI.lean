/- Cards held against each other; how much there is in a card; the statements' own helpers. -/
import Derived.Test.YtbnmhlienklfpaaGreatDoorZVcG
set_option linter.all false
namespace Go.Proofs.Ut
open Go.Ai Go.Shelf Go.RowKit
set_option linter.unusedSimpArgs false
set_option linter.unusedVariables false
set_option maxHeartbeats 1000000
set_option maxRecDepth 100000
theorem attr85 (a b : List UInt8 × List UInt8) : DRet 101 [.agg (av a), .agg (av b)] (.bool (decide (a = b))) := by
  refine acalls_go c101 (by simp [f101]) ?_
  obtain ⟨a1, a2⟩ := a
  obtain ⟨b1, b2⟩ := b
  simp only [f101, av, ↓gos, gop, Nat.reduceBEq, Nat.reduceAdd, Nat.reduceSub, Nat.reduceLeDiff, Nat.reduceMul, Int.reduceLE, Int.reduceLT, Int.reduceNe, Int.reduceToNat]
  refine ⟨fun h => endb ?_, fun h => endb ?_⟩
  · rw [decide_eq_true (by rw [h.1, h.2])]
  · rw [decide_eq_false]
    intro e
    obtain ⟨rfl, rfl⟩ := Prod.mk.inj e
    simp at h
theorem same84 (a b : List (List UInt8 × List UInt8)) (ha : a.length < 1000000000) (hb : b.length < 1000000000) : DRet 100 [.sl 2 (a.map av), .sl 2 (b.map av), .fn 101 []] (.bool (decide (a = b))) := by
  refine acalls_go c100 (by simp [f100]) ?_
  simp only [f100, ↓gos, gop, Nat.reduceBEq, Nat.reduceAdd, Nat.reduceSub, Nat.reduceLeDiff, Nat.reduceMul, Int.reduceLE, Int.reduceLT, Int.reduceNe, Int.reduceToNat]
  refine ⟨fun h => endb ?_, fun h => ?_⟩
  · rw [decide_eq_false]
    intro e; apply h; rw [e]
  · have hl : a.length = b.length := by omega
    refine goN_lp (γ := Nat) (fun i => [(7, .int .i64 i), (0, .sl 2 (a.map av)), (1, .sl 2 (b.map av)), (2, .fn 101 [])]) (fun _ => []) (fun i => i ≤ a.length ∧ a.take i = b.take i) (fun i => a.length - i) 0
      (wks rfl (by simp) ⟨rfl, rfl, rfl, rfl, trivial⟩) ⟨by omega, by simp⟩ fun i hi => ?_
    obtain ⟨hi, ht⟩ := hi
    simp only [f100l0, ↓gos, gop, Nat.reduceBEq, Nat.reduceAdd, Nat.reduceSub, Nat.reduceLeDiff, Nat.reduceMul, Int.reduceLE, Int.reduceLT, Int.reduceNe, Int.reduceToNat]
    refine ⟨fun h1 => ?_, fun h1 => ?_⟩
    · have h2 : i < a.length := by omega
      have hd := take_dec hl ht h2 default
      refine optP_at default (by simpa using h2) ?_
      simp only [av, ↓gos, gop, Nat.reduceBEq, Nat.reduceAdd, Nat.reduceSub, Nat.reduceLeDiff, Nat.reduceMul, Int.reduceLE, Int.reduceLT, Int.reduceNe, Int.reduceToNat]
      refine optP_at default (by omega) ?_
      generalize a.getD i default = x at hd ⊢
      generalize b.getD i default = y at hd ⊢
      refine call_ret (attr85 x y) rfl rfl ?_
      by_cases hxy : x = y
      · rw [decide_eq_true hxy]
        simp only [↓gos, gop, Nat.reduceBEq, Nat.reduceAdd, Nat.reduceSub, Nat.reduceLeDiff, Nat.reduceMul, Int.reduceLE, Int.reduceLT, Int.reduceNe, Int.reduceToNat]
        intro v hv
        rw [wrap_i64 (by omega) (by omega)] at hv
        subst hv
        exact rnd_s (i + 1) rfl (by simp) ⟨rfl, rfl, rfl, rfl, trivial⟩ ⟨by omega, hd.1 hxy⟩ (by omega)
      · rw [decide_eq_false hxy]
        simp only [↓gos, gop, Nat.reduceBEq, Nat.reduceAdd, Nat.reduceSub, Nat.reduceLeDiff, Nat.reduceMul, Int.reduceLE, Int.reduceLT, Int.reduceNe, Int.reduceToNat]
        exact endb (by rw [decide_eq_false (hd.2 hxy)])
    · refine endb ?_
      have : i = a.length := by omega
      subst this
      rw [List.take_length, hl, List.take_length] at ht
      rw [decide_eq_true ht]
theorem plain65 (a b : List (List UInt8 × List UInt8)) (ha : a.length < 1000000000) (hb : b.length < 1000000000) : DRet 78 [.sl 2 (a.map av), .sl 2 (b.map av)] (.bool (decide (a = b))) := by
  refine acalls_go c78 (by simp [f78]) ?_
  simp only [f78, ↓gos, gop, Nat.reduceBEq, Nat.reduceAdd, Nat.reduceSub, Nat.reduceLeDiff, Nat.reduceMul, Int.reduceLE, Int.reduceLT, Int.reduceNe, Int.reduceToNat]
  refine call_ret (same84 a b ha hb) rfl rfl ?_
  simp only [↓gos, gop, Nat.reduceBEq, Nat.reduceAdd, Nat.reduceSub, Nat.reduceLeDiff, Nat.reduceMul, Int.reduceLE, Int.reduceLT, Int.reduceNe, Int.reduceToNat]
  cases decide (a = b)
  · exact endb rfl
  · exact endb rfl
theorem prop44 (p q : PR) (hp : p.ps.length < 1000000000) (hq : q.ps.length < 1000000000) : DRet 55 [.agg (pv p), .agg (pv q)] (.bool (decide (p = q))) := by
  refine acalls_go c55 (by simp [f55]) ?_
  simp only [f55, pv, ↓gos, gop, Nat.reduceBEq, Nat.reduceAdd, Nat.reduceSub, Nat.reduceLeDiff, Nat.reduceMul, Int.reduceLE, Int.reduceLT, Int.reduceNe, Int.reduceToNat]
  refine ⟨fun g1 => ⟨fun g2 => ⟨fun g3 => ?_, fun g3 => endb ?_⟩, fun g2 => endb ?_⟩, fun g1 => endb ?_⟩
  · refine call_ret (plain65 p.ps q.ps hp hq) rfl rfl ?_
    by_cases g4 : p.ps = q.ps
    · rw [decide_eq_true g4]
      simp only [↓gos, gop, Nat.reduceBEq, Nat.reduceAdd, Nat.reduceSub, Nat.reduceLeDiff, Nat.reduceMul, Int.reduceLE, Int.reduceLT, Int.reduceNe, Int.reduceToNat]
      refine endb ?_
      rw [decide_eq_true]
      cases p; cases q; simp_all
    · rw [decide_eq_false g4]
      simp only [↓gos, gop, Nat.reduceBEq, Nat.reduceAdd, Nat.reduceSub, Nat.reduceLeDiff, Nat.reduceMul, Int.reduceLE, Int.reduceLT, Int.reduceNe, Int.reduceToNat]
      refine endb ?_
      rw [decide_eq_false fun e => g4 (by rw [e])]
  · rw [decide_eq_false fun e => g3 (by rw [e])]
  · rw [decide_eq_false fun e => g2 (by rw [e])]
  · rw [decide_eq_false fun e => g1 (by rw [e])]
def small (c : List PR) : Prop := c.length < 1000000000 ∧ ∀ p ∈ c, p.ps.length < 1000000000
theorem same43 (a b : List PR) (ha : small a) (hb : small b) : DRet 54 [.sl 4 (a.map pv), .sl 4 (b.map pv), .fn 55 []] (.bool (decide (a = b))) := by
  refine acalls_go c54 (by simp [f54]) ?_
  have ha1 := ha.1
  have hb1 := hb.1
  simp only [f54, ↓gos, gop, Nat.reduceBEq, Nat.reduceAdd, Nat.reduceSub, Nat.reduceLeDiff, Nat.reduceMul, Int.reduceLE, Int.reduceLT, Int.reduceNe, Int.reduceToNat]
  refine ⟨fun h => endb ?_, fun h => ?_⟩
  · rw [decide_eq_false]
    intro e; apply h; rw [e]
  · have hl : a.length = b.length := by omega
    refine goN_lp (γ := Nat) (fun i => [(7, .int .i64 i), (0, .sl 4 (a.map pv)), (1, .sl 4 (b.map pv)), (2, .fn 55 [])]) (fun _ => []) (fun i => i ≤ a.length ∧ a.take i = b.take i) (fun i => a.length - i) 0
      (wks rfl (by simp) ⟨rfl, rfl, rfl, rfl, trivial⟩) ⟨by omega, by simp⟩ fun i hi => ?_
    obtain ⟨hi, ht⟩ := hi
    simp only [f54l0, ↓gos, gop, Nat.reduceBEq, Nat.reduceAdd, Nat.reduceSub, Nat.reduceLeDiff, Nat.reduceMul, Int.reduceLE, Int.reduceLT, Int.reduceNe, Int.reduceToNat]
    refine ⟨fun h1 => ?_, fun h1 => ?_⟩
    · have h2 : i < a.length := by omega
      have hd := take_dec hl ht h2 default
      have hxa := ha.2 _ (get_mem h2 default)
      have hyb := hb.2 _ (get_mem (show i < b.length by omega) default)
      refine optP_at default (by simpa using h2) ?_
      simp only [pv, ↓gos, gop, Nat.reduceBEq, Nat.reduceAdd, Nat.reduceSub, Nat.reduceLeDiff, Nat.reduceMul, Int.reduceLE, Int.reduceLT, Int.reduceNe, Int.reduceToNat]
      refine optP_at default (by omega) ?_
      generalize a.getD i default = x at hd hxa ⊢
      generalize b.getD i default = y at hd hyb ⊢
      refine call_ret (prop44 x y hxa hyb) rfl rfl ?_
      by_cases hxy : x = y
      · rw [decide_eq_true hxy]
        simp only [↓gos, gop, Nat.reduceBEq, Nat.reduceAdd, Nat.reduceSub, Nat.reduceLeDiff, Nat.reduceMul, Int.reduceLE, Int.reduceLT, Int.reduceNe, Int.reduceToNat]
        intro v hv
        rw [wrap_i64 (by omega) (by omega)] at hv
        subst hv
        exact rnd_s (i + 1) rfl (by simp) ⟨rfl, rfl, rfl, rfl, trivial⟩ ⟨by omega, hd.1 hxy⟩ (by omega)
      · rw [decide_eq_false hxy]
        simp only [↓gos, gop, Nat.reduceBEq, Nat.reduceAdd, Nat.reduceSub, Nat.reduceLeDiff, Nat.reduceMul, Int.reduceLE, Int.reduceLT, Int.reduceNe, Int.reduceToNat]
        exact endb (by rw [decide_eq_false (hd.2 hxy)])
    · refine endb ?_
      have : i = a.length := by omega
      subst this
      rw [List.take_length, hl, List.take_length] at ht
      rw [decide_eq_true ht]
theorem props22 (a b : List PR) (ha : small a) (hb : small b) : DRet 25 [.sl 4 (a.map pv), .sl 4 (b.map pv)] (.bool (decide (a = b))) := by
  refine acalls_go c25 (by simp [f25]) ?_
  simp only [f25, ↓gos, gop, Nat.reduceBEq, Nat.reduceAdd, Nat.reduceSub, Nat.reduceLeDiff, Nat.reduceMul, Int.reduceLE, Int.reduceLT, Int.reduceNe, Int.reduceToNat]
  refine call_ret (same43 a b ha hb) rfl rfl ?_
  simp only [↓gos, gop, Nat.reduceBEq, Nat.reduceAdd, Nat.reduceSub, Nat.reduceLeDiff, Nat.reduceMul, Int.reduceLE, Int.reduceLT, Int.reduceNe, Int.reduceToNat]
  cases decide (a = b)
  · exact endb rfl
  · exact endb rfl
theorem same21 (a b : List (List PR)) (ha : a.length < 1000000000) (hb : b.length < 1000000000) (sa : ∀ c ∈ a, small c) (sb : ∀ c ∈ b, small c) : DRet 24 [.sl 1 (a.map cv), .sl 1 (b.map cv), .fn 25 []] (.bool (decide (a = b))) := by
  refine acalls_go c24 (by simp [f24]) ?_
  simp only [f24, ↓gos, gop, Nat.reduceBEq, Nat.reduceAdd, Nat.reduceSub, Nat.reduceLeDiff, Nat.reduceMul, Int.reduceLE, Int.reduceLT, Int.reduceNe, Int.reduceToNat]
  refine ⟨fun h => endb ?_, fun h => ?_⟩
  · rw [decide_eq_false]
    intro e; apply h; rw [e]
  · have hl : a.length = b.length := by omega
    refine goN_lp (γ := Nat) (fun i => [(7, .int .i64 i), (0, .sl 1 (a.map cv)), (1, .sl 1 (b.map cv)), (2, .fn 25 [])]) (fun _ => []) (fun i => i ≤ a.length ∧ a.take i = b.take i) (fun i => a.length - i) 0
      (wks rfl (by simp) ⟨rfl, rfl, rfl, rfl, trivial⟩) ⟨by omega, by simp⟩ fun i hi => ?_
    obtain ⟨hi, ht⟩ := hi
    simp only [f24l0, ↓gos, gop, Nat.reduceBEq, Nat.reduceAdd, Nat.reduceSub, Nat.reduceLeDiff, Nat.reduceMul, Int.reduceLE, Int.reduceLT, Int.reduceNe, Int.reduceToNat]
    refine ⟨fun h1 => ?_, fun h1 => ?_⟩
    · have h2 : i < a.length := by omega
      have hd := take_dec hl ht h2 default
      have hxa := sa _ (get_mem h2 default)
      have hyb := sb _ (get_mem (show i < b.length by omega) default)
      refine optP_at default (by simpa using h2) ?_
      simp only [cv, ↓gos, gop, Nat.reduceBEq, Nat.reduceAdd, Nat.reduceSub, Nat.reduceLeDiff, Nat.reduceMul, Int.reduceLE, Int.reduceLT, Int.reduceNe, Int.reduceToNat]
      refine optP_at default (by omega) ?_
      generalize a.getD i default = x at hd hxa ⊢
      generalize b.getD i default = y at hd hyb ⊢
      refine call_ret (props22 x y hxa hyb) rfl rfl ?_
      by_cases hxy : x = y
      · rw [decide_eq_true hxy]
        simp only [↓gos, gop, Nat.reduceBEq, Nat.reduceAdd, Nat.reduceSub, Nat.reduceLeDiff, Nat.reduceMul, Int.reduceLE, Int.reduceLT, Int.reduceNe, Int.reduceToNat]
        intro v hv
        rw [wrap_i64 (by omega) (by omega)] at hv
        subst hv
        exact rnd_s (i + 1) rfl (by simp) ⟨rfl, rfl, rfl, rfl, trivial⟩ ⟨by omega, hd.1 hxy⟩ (by omega)
      · rw [decide_eq_false hxy]
        simp only [↓gos, gop, Nat.reduceBEq, Nat.reduceAdd, Nat.reduceSub, Nat.reduceLeDiff, Nat.reduceMul, Int.reduceLE, Int.reduceLT, Int.reduceNe, Int.reduceToNat]
        exact endb (by rw [decide_eq_false (hd.2 hxy)])
    · refine endb ?_
      have : i = a.length := by omega
      subst this
      rw [List.take_length, hl, List.take_length] at ht
      rw [decide_eq_true ht]
/-- How much there is in a card. -/
def wtS' (c : List PR) : Nat := (c.map wtP).sum
theorem wt_take {α : Type} (f : α → Nat) (l : List α) (i : Nat) : ((l.take i).map f).sum ≤ (l.map f).sum := by
  have := congrArg (fun m => (m.map f).sum) (List.take_append_drop i l)
  simp only [List.map_append, List.sum_append] at this
  omega
theorem small23 (c : List PR) (hc : c.length < 1000000000) (hw : wtS' c < 1000000000) : DRet 19 [.sl 4 (c.map pv)] (.bool (decide (wtS' c ≤ 8000))) := by
  refine acalls_go c19 (by simp [f19]) ?_
  simp only [f19, ↓gos, gop, Nat.reduceBEq, Nat.reduceAdd, Nat.reduceSub, Nat.reduceLeDiff, Nat.reduceMul, Int.reduceLE, Int.reduceLT, Int.reduceNe, Int.reduceToNat]
  refine goN_lp (γ := Nat) (fun i => [(4, .int .i64 i), (3, .int .i64 ((wtS' (c.take i) : Nat) : Int)), (0, .sl 4 (c.map pv))]) (fun _ => []) (fun i => i ≤ c.length) (fun i => c.length - i) 0
    (wks rfl (by simp) ⟨rfl, rfl, rfl, trivial⟩) (by omega) fun i hi => ?_
  simp only [f19l1, ↓gos, gop, Nat.reduceBEq, Nat.reduceAdd, Nat.reduceSub, Nat.reduceLeDiff, Nat.reduceMul, Int.reduceLE, Int.reduceLT, Int.reduceNe, Int.reduceToNat]
  refine ⟨fun h1 => ?_, fun h1 => ?_⟩
  · have h2 : i < c.length := by omega
    have htk := take_getD h2 default
    have hle : wtS' (c.take (i + 1)) ≤ wtS' c := wt_take wtP c (i + 1)
    have hget : c[i]? = some (c.getD i default) := by rw [List.getD_eq_getElem?_getD, List.getElem?_eq_getElem h2]; rfl
    generalize c.getD i default = p at htk hget
    have hs : wtS' (c.take (i + 1)) = wtS' (c.take i) + wtP p := by rw [htk]; simp [wtS']
    have hp : wtP p = p.g.length + p.n.length + p.v.length + 5 + wtA p.ps := rfl
    simp only [hget, pv, ↓gos, gop, Nat.reduceBEq, Nat.reduceAdd, Nat.reduceSub, Nat.reduceLeDiff, Nat.reduceMul, Int.reduceLE, Int.reduceLT, Int.reduceNe, Int.reduceToNat]
    intro v1 hv1 v2 hv2 v3 hv3 v4 hv4
    rw [wrap_i64 (by omega) (by omega)] at hv1
    rw [wrap_i64 (by omega) (by omega)] at hv2
    rw [wrap_i64 (by omega) (by omega)] at hv3
    rw [wrap_i64 (by omega) (by omega)] at hv4
    have hv : v4 = ((wtS' (c.take i) + 5 + p.g.length + p.n.length + p.v.length : Nat) : Int) := by omega
    clear hv4
    subst hv
    have hps := atts_len p.ps
    refine goN_lp (γ := Nat) (fun j => [(5, .int .i64 j), (4, .int .i64 i), (3, .int .i64 ((wtS' (c.take i) + 5 + p.g.length + p.n.length + p.v.length + wtA (p.ps.take j) : Nat) : Int)), (0, .sl 4 (c.map pv))]) (fun _ => []) (fun j => j ≤ p.ps.length) (fun j => p.ps.length - j) 0
      (wks rfl (by simp) ⟨rfl, rfl, rfl, rfl, trivial⟩) (by omega) fun j hj => ?_
    have hle2 : wtA (p.ps.take (j + 1)) ≤ wtA p.ps := wt_take _ p.ps (j + 1)
    simp only [f19l0, hget, pv, ↓gos, gop, Nat.reduceBEq, Nat.reduceAdd, Nat.reduceSub, Nat.reduceLeDiff, Nat.reduceMul, Int.reduceLE, Int.reduceLT, Int.reduceNe, Int.reduceToNat]
    refine ⟨fun q1 => ?_, fun q1 => ?_⟩
    · have q2 : j < p.ps.length := by omega
      have jtk := take_getD q2 default
      have jget : p.ps[j]? = some (p.ps.getD j default) := by rw [List.getD_eq_getElem?_getD, List.getElem?_eq_getElem q2]; rfl
      generalize p.ps.getD j default = a at jtk jget
      have js : wtA (p.ps.take (j + 1)) = wtA (p.ps.take j) + (a.1.length + a.2.length + 5) := by rw [jtk, wtA_app]; simp [wtA]
      simp only [hget, pv, jget, av, ↓gos, gop, Nat.reduceBEq, Nat.reduceAdd, Nat.reduceSub, Nat.reduceLeDiff, Nat.reduceMul, Int.reduceLE, Int.reduceLT, Int.reduceNe, Int.reduceToNat]
      intro u1 hu1 u2 hu2 u3 hu3 u4 hu4
      rw [wrap_i64 (by omega) (by omega)] at hu1
      rw [wrap_i64 (by omega) (by omega)] at hu2
      rw [wrap_i64 (by omega) (by omega)] at hu3
      rw [wrap_i64 (by omega) (by omega)] at hu4
      subst hu4
      have hu : u3 = ((wtS' (c.take i) + 5 + p.g.length + p.n.length + p.v.length + wtA (p.ps.take (j + 1)) : Nat) : Int) := by omega
      clear hu3
      subst hu
      exact rnd_s (j + 1) rfl (by simp) ⟨rfl, rfl, rfl, rfl, trivial⟩ (by omega) (by omega)
    · have q2 : j = p.ps.length := by omega
      subst q2
      rw [List.take_length]
      intro w hw
      rw [wrap_i64 (by omega) (by omega)] at hw
      subst hw
      have e : ((wtS' (c.take i) + 5 + p.g.length + p.n.length + p.v.length + wtA p.ps : Nat) : Int) = ((wtS' (c.take (i + 1)) : Nat) : Int) := by omega
      rw [e]
      exact rnd_s (i + 1) rfl (by simp) ⟨rfl, rfl, rfl, trivial⟩ (by omega) (by omega)
  · have h2 : i = c.length := by omega
    subst h2
    rw [List.take_length]
    refine ⟨fun q => endb ?_, fun q => endb ?_⟩
    · rw [decide_eq_true (by omega)]
    · rw [decide_eq_false (by omega)]
end Go.Proofs.Ut

/- What is written is read as it was. -/
namespace Go.Proofs.Ut
open Go.Ai Go.Shelf Go.RowKit
set_option linter.unusedSimpArgs false
set_option linter.unusedVariables false
set_option maxHeartbeats 1000000
set_option maxRecDepth 100000
theorem unfR_plain : ∀ (m acc : List (List UInt8)), (∀ s ∈ m, moreB s = false) → unfR acc m = some (acc ++ m)
  | [], acc, _ => by simp [unfR]
  | r :: m, acc, h => by
    have hr := h r (by simp)
    rw [unfR, if_neg (by simp [hr]), if_neg (by simp [hr]), unfR_plain m _ fun s hs => h s (by simp [hs])]
    simp
theorem unfold_ended {m : List (List UInt8)} (hm : goodM m) (hl : (ended m).length ≤ 20000) : unfoldR (ended m) = (m, 0) := by
  have hrun : runAt mayB (ended m) 0 = true := run_ended _ fun r hr => (hm r hr).1
  have hu : unfA [] (ended m) = some m := by
    unfold unfA
    rw [unf_rows _ _ _ (Nat.le_refl _) fun r hr => (hm r hr).2.1, unfR_plain m [] fun s hs => (hm s hs).2.2, List.nil_append]
  unfold unfoldR
  rw [if_neg (by omega), hrun, hu]
  rfl
theorem read_ended {m : List (List UInt8)} (hm : goodM m) (hl : (ended m).length ≤ 20000) : readL (ended m) = rdL [] none 0 m := by
  unfold readL
  rw [unfold_ended hm hl]
  rfl
theorem good_asc {m : List (List UInt8)} (h : m.all (fun s => s.all (fun c => decide (c.toNat < 128) && decide (32 ≤ c.toNat) && mayB c.toNat) && !moreB s) = true) : goodM m := by
  intro s hs
  have := List.all_eq_true.1 h s hs
  rw [Bool.and_eq_true] at this
  have hc := cl_bytes this.1
  exact ⟨hc.1, hc.2, by simpa using this.2⟩
/-- A file of one card. -/
def cardRows : List (List UInt8) := [BEG, VER ++ 58 :: V40, [70, 78, 58, 110], [120, 46, 84, 69, 76, 59, 84, 89, 80, 69, 61, 34, 97, 59, 98, 34, 58, 53], END]
def cardV : List PR := [⟨[], [70, 78], [], [110]⟩, ⟨[120], [84, 69, 76], [([84, 89, 80, 69], [97, 59, 98])], [53]⟩]
theorem read_card : readL [66, 69, 71, 73, 78, 58, 86, 67, 65, 82, 68, 13, 10, 86, 69, 82, 83, 73, 79, 78, 58, 52, 46, 48, 13, 10, 70, 78, 58, 110, 13, 10, 120, 46, 84, 69, 76, 59, 84, 89, 80, 69, 61, 34, 97, 59, 98, 34, 58, 53, 13, 10, 69, 78, 68, 58, 86, 67, 65, 82, 68, 13, 10] = ([cardV], 0, 0) :=
  (read_ended (m := cardRows) (good_asc (by decide +kernel)) (by decide)).trans (by decide +kernel)
theorem awake19 : DRet 18 [] (.bool true) := by
  refine acalls_go c18 (by simp [f18]) ?_
  simp only [f18, ↓gos, gop, Nat.reduceBEq, Nat.reduceAdd, Nat.reduceSub, Nat.reduceLeDiff, Nat.reduceMul, Int.reduceLE, Int.reduceLT, Int.reduceNe, Int.reduceToNat]
  have hr := read18 [66, 69, 71, 73, 78, 58, 86, 67, 65, 82, 68, 13, 10, 86, 69, 82, 83, 73, 79, 78, 58, 52, 46, 48, 13, 10, 70, 78, 58, 110, 13, 10, 120, 46, 84, 69, 76, 59, 84, 89, 80, 69, 61, 34, 97, 59, 98, 34, 58, 53, 13, 10, 69, 78, 68, 58, 86, 67, 65, 82, 68, 13, 10] (by decide)
  rw [read_card] at hr
  refine call_new hr (by simp [DV.closed]) ?_
  simp only [cardV, cv, pv, av, DV.ren, DV.ren.renAll, renO, ↓gos, gop, Nat.reduceBEq, Nat.reduceAdd, Nat.reduceSub, Nat.reduceLeDiff, Nat.reduceMul, Int.reduceLE, Int.reduceLT, Int.reduceNe, Int.reduceToNat]
  exact endb rfl
theorem value_sum (s : List UInt8) : (valueL s).1.length + (valueL s).2.1.length ≤ s.length := by
  unfold valueL
  cases s with
  | nil => simp
  | cons x t =>
    simp only
    split
    · have := (cut_lenB 34 t).1; simp only [List.length_cons]; omega
    · have := congrArg List.length (List.takeWhile_append_dropWhile (p := fun c => !A4.contains c) (l := x :: t))
      rw [List.length_append] at this
      exact Nat.le_of_eq this
theorem param_sum {s : List UInt8} (h : (paramL s).2.2 = true) : (paramL s).1.1.length + 1 + (paramL s).1.2.length + (paramL s).2.1.length ≤ s.length := by
  obtain ⟨_, t, h1, h2, h3⟩ := param_ok h
  rw [h2]
  have hw := congrArg List.length (word_rest s)
  rw [h1, List.length_append, List.length_cons] at hw
  have hv := value_sum t
  have hu : (up (wordL s)).length = (wordL s).length := by simp [up]
  simp only
  omega
theorem pars_wt : ∀ n (s : List UInt8) acc, s.length ≤ n → wtA (parsA acc s).1 + 3 * (parsA acc s).2.1.length ≤ wtA acc + 3 * s.length
  | n, s, acc, hn => by
    by_cases h59 : s.head? = some 59
    · obtain ⟨t, rfl⟩ : ∃ t, s = 59 :: t := by
        cases s with
        | nil => simp at h59
        | cons x t => simp at h59; exact ⟨t, by rw [h59]⟩
      rw [parsA_step]
      have hl := param_len t
      cases n with
      | zero => simp at hn
      | succ n =>
        simp only [List.length_cons] at hn ⊢
        split
        · rename_i hp
          have hs := param_sum hp
          have := pars_wt n (paramL t).2.1 (acc ++ [(paramL t).1]) (by omega)
          rw [wtA_app, wtA_cons] at this
          simp only [wtA, List.map_nil, List.sum_nil] at this ⊢
          omega
        · simp only
          omega
    · rw [parsA_end _ _ h59]; exact Nat.le_refl _
theorem head_sum (s : List UInt8) : (headL s).1.length + (headL s).2.1.length + (headL s).2.2.length ≤ s.length := by
  have hw := congrArg List.length (word_rest s)
  rw [List.length_append] at hw
  unfold headL
  split
  · have h2 := congrArg List.length (word_rest (restL s).tail)
    rw [List.length_append] at h2
    have h3 : (restL s).tail.length ≤ (restL s).length := by simp
    simp only
    omega
  · simp only [List.length_nil]
    omega
theorem prop_wt {s : List UInt8} (h : (propL s).2 = true) : wtP (propL s).1 ≤ 3 * s.length + 5 := by
  obtain ⟨h0, h1, t, h2, h3⟩ := prop_yes h
  rw [h3]
  have hw := pars_wt _ (headL s).2.2 [] (Nat.le_refl _)
  rw [h2, List.length_cons] at hw
  have hs := head_sum s
  have hu : (up (headL s).2.1).length = (headL s).2.1.length := by simp [up]
  unfold wtP
  simp only [wtA, List.map_nil, List.sum_nil] at hw ⊢
  omega
theorem rd_wt (N : Nat) : ∀ (l : List (List UInt8)) (cards : List (List PR)) (card : Option (List PR × Bool)) (i : Nat), (∀ x ∈ l, x.length ≤ N) → (∀ c ∈ cards, ∀ p ∈ c, wtP p ≤ 3 * N + 5) → (∀ c v, card = some (c, v) → ∀ p ∈ c, wtP p ≤ 3 * N + 5) →
    ∀ c ∈ (rdL cards card i l).1, ∀ p ∈ c, wtP p ≤ 3 * N + 5
  | [], cards, none, i, hl, hc, ho => by rw [rdL]; exact hc
  | [], cards, some _, i, hl, hc, ho => by rw [rdL]; simp
  | x :: l, cards, none, i, hl, hc, ho => by
    rw [rdL]
    split
    · simp
    · split
      · simp
      · exact rd_wt N l cards _ _ (fun y hy => hl y (by simp [hy])) hc fun c v e => by
          injection e with e
          injection e with e1 e2
          subst e1; simp
  | x :: l, cards, some (c, v), i, hl, hc, ho => by
    have hxl : ∀ y ∈ l, y.length ≤ N := fun y hy => hl y (by simp [hy])
    have hcv := ho c v rfl
    rw [rdL]
    split
    · split
      · simp
      · exact rd_wt N l cards _ _ hxl hc fun c' v' e => by
          injection e with e
          injection e with e1 e2
          subst e1; exact hcv
    · split
      · exact rd_wt N l _ _ _ hxl (fun d hd => by
          rcases List.mem_append.1 hd with hd | hd
          · exact hc d hd
          · rw [List.mem_singleton.1 hd]; exact hcv) fun c' v' e => by cases e
      · split
        · simp
        · split
          · simp
          · split
            · simp
            · rename_i q _ _
              refine rd_wt N l cards _ _ hxl hc fun c' v' e => ?_
              injection e with e
              injection e with e1 e2
              subst e1
              intro p hp
              rcases List.mem_append.1 hp with hp | hp
              · exact hcv p hp
              · rw [List.mem_singleton.1 hp]
                have := prop_wt (s := x) (by simpa using q)
                have := hl x (by simp)
                omega
theorem rd_err : ∀ (l : List (List UInt8)) (cards : List (List PR)) (card : Option (List PR × Bool)) (i : Nat), (rdL cards card i l).2.2 ≠ 0 → (rdL cards card i l).1 = []
  | [], cards, none, i, h => by rw [rdL] at h; exact absurd rfl h
  | [], cards, some _, i, h => by rw [rdL]
  | x :: l, cards, none, i, h => by
    rw [rdL] at h ⊢
    split
    · rfl
    · rename_i q; rw [if_neg q] at h
      split
      · rfl
      · rename_i q; rw [if_neg q] at h
        exact rd_err l _ _ _ h
  | x :: l, cards, some (c, v), i, h => by
    rw [rdL] at h ⊢
    split
    · rename_i q; rw [if_pos q] at h
      split
      · rfl
      · rename_i q; rw [if_neg q] at h; exact rd_err l _ _ _ h
    · rename_i q; rw [if_neg q] at h
      split
      · rename_i q; rw [if_pos q] at h; exact rd_err l _ _ _ h
      · rename_i q; rw [if_neg q] at h
        split
        · rfl
        · rename_i q; rw [if_neg q] at h
          split
          · rfl
          · rename_i q; rw [if_neg q] at h
            split
            · rfl
            · rename_i q; rw [if_neg q] at h; exact rd_err l _ _ _ h
theorem read_err {s : List UInt8} (h : (readL s).2.2 ≠ 0) : (readL s).1 = [] := by
  unfold readL at *
  split
  · rename_i q; rw [if_pos q] at h; exact rd_err _ _ _ _ h
  · rfl
theorem read_wt (s : List UInt8) (c : List PR) (hc : c ∈ (readL s).1) : ∀ p ∈ c, wtP p ≤ 3 * s.length + 5 := by
  unfold readL at hc
  split at hc
  · exact rd_wt s.length _ [] none 0 (unfold_len s).1 (by simp) (fun c v e => by cases e) c hc
  · simp at hc
theorem small_ok {y : List (List PR)} (h : okW y = true) (hw : ∀ c ∈ y, ∀ p ∈ c, wtP p ≤ 50000) : y.length < 1000000000 ∧ (∀ c ∈ y, c.length < 1000000000 ∧ wtC c) ∧ ∀ c ∈ y, small c := by
  rw [okW_eq, Bool.and_eq_true, decide_eq_true_eq, List.all_eq_true] at h
  have hc : ∀ c ∈ y, c.length ≤ 40 := fun c hc => by
    have := h.2 c hc
    rw [okc, Bool.and_eq_true, decide_eq_true_eq] at this
    exact this.1
  refine ⟨by omega, fun c hm => ⟨by have := hc c hm; omega, hw c hm⟩, fun c hm => ⟨by have := hc c hm; omega, fun p hp => ?_⟩⟩
  have := hw c hm p hp
  have h2 := (atts_len p.ps).2
  unfold wtP at this
  omega
theorem mem_wt {c : List PR} {p : PR} (h : p ∈ c) : wtP p ≤ wtS' c := by
  induction c with
  | nil => simp at h
  | cons q c ih =>
    have : wtS' (q :: c) = wtP q + wtS' c := by simp [wtS']
    rcases List.mem_cons.1 h with rfl | h
    · omega
    · have := ih h; omega
theorem get_new {h : List AObj} {o : AObj} {t : List AObj} : (h ++ o :: t)[h.length]? = some o := by simp
end Go.Proofs.Ut
