/- UtfLines. -/
import Derived.Test.YtbhlmbacgbfaoaaDoorUtJ
set_option linter.all false
namespace Go.Proofs.Ut
open Go.Ai Go.RowKit Classical
set_option linter.unusedSimpArgs false
set_option maxHeartbeats 1000000
set_option maxRecDepth 100000
def five : List Nat := [97, 233, 8364, 128512, 32]
/-- The characters that the law draws out of its numbers. -/
def drawn (x : Int) : Nat := five.getD (IntKind.u64.wrap x % 5).toNat 0
theorem five_ok (n : Nat) (h : n < 5) : okC (five.getD n 0) ∧ 32 ≤ five.getD n 0 ∧ mayB (five.getD n 0) = true := by
  have : n = 0 ∨ n = 1 ∨ n = 2 ∨ n = 3 ∨ n = 4 := by omega
  unfold okC
  rcases this with rfl | rfl | rfl | rfl | rfl <;> decide
theorem drawn_ok (x : Int) : okC (drawn x) ∧ 32 ≤ drawn x ∧ mayB (drawn x) = true := by
  have := wrap_u64_bd x
  exact five_ok _ (by omega)
def written (cs : List Nat) : List UInt8 := cs.flatMap fun c : Nat => en c
theorem written_len : ∀ cs : List Nat, (∀ c ∈ cs, okC c) → (written cs).length ≤ 4 * cs.length
  | [], _ => by simp [written]
  | c :: cs, h => by
    have := written_len cs fun x hx => h x (by simp [hx])
    have := (en_len (h c (by simp))).2.1
    simp only [written, List.flatMap_cons, List.length_append, List.length_cons] at *
    omega
theorem five_at (n : Nat) (h : n < 5) : [[DV.str [97]], [DV.str [195, 169]], [DV.str [226, 130, 172]], [DV.str [240, 159, 152, 128]], [DV.str [32]]][n]? = some [.str (en (five.getD n 0 : Nat))] := by
  have : n = 0 ∨ n = 1 ∨ n = 2 ∨ n = 3 ∨ n = 4 := by omega
  rcases this with rfl | rfl | rfl | rfl | rfl <;> rfl
theorem wstep (l : List Int) (i : Nat) (h : i < l.length) : written ((l.take (i + 1)).map drawn) = written ((l.take i).map drawn) ++ en (drawn (l.getD i 0)) := by
  rw [List.take_succ_eq_append_getElem h, List.map_append]
  unfold written
  rw [List.flatMap_append]
  simp [h]
theorem lines6 (l : List Int) (most at_ c : Int) (hc : 0 ≤ c ∧ c < 256) : DRet 6 [.sl 1 (l.map num), .int .i64 most, .int .i64 at_, .int .u8 c] (.bool true) := by
  refine acalls_go c6 (by simp [f6]) ?_
  simp only [f6, ↓gos, gop, Nat.reduceBEq, Nat.reduceAdd, Nat.reduceSub, Nat.reduceLeDiff, Nat.reduceMul, Int.reduceLE, Int.reduceLT, Int.reduceNe, Int.reduceToNat]
  refine goN_lp (γ := Nat) (fun i => [(0, .sl 1 (l.map num)), (1, .int .i64 most), (2, .int .i64 at_), (3, .int .u8 c), (8, .bool false), (9, .str (written ((l.take i).map drawn))), (10, .int .i64 i), (11, .int .i64 i)]) (fun _ => [])
    (fun i => i ≤ l.length ∧ i ≤ 50) (fun i => 50 - i) 0 (wks rfl (Nat.zero_le _) ⟨rfl, rfl, rfl, rfl, rfl, rfl, rfl, rfl, trivial⟩) ⟨by omega, by omega⟩ fun i hi => ?_
  simp only [f6l0, num, ↓gos, gop, Nat.reduceBEq, Nat.reduceAdd, Nat.reduceSub, Nat.reduceLeDiff, Nat.reduceMul, Int.reduceLE, Int.reduceLT, Int.reduceNe, Int.reduceToNat]
  obtain ⟨hi, hi5⟩ := hi
  have hlen : (written ((l.take i).map drawn)).length ≤ 200 := by
    have := written_len ((l.take i).map drawn) fun x hx => by obtain ⟨y, _, rfl⟩ := List.mem_map.1 hx; exact (drawn_ok y).1
    simp only [List.length_map, List.length_take] at this
    omega
  refine ⟨fun h1 => ⟨fun h2 => ?_, fun h2 => ?_⟩, fun h1 => ?_⟩
  · refine optP_at 0 (by omega) ?_
    intro v hv v1 hv1 v2 hv2
    have hb := wrap_u64_bd (l.getD i 0)
    rw [← hv] at hb
    have q1 : v1 = v % 5 := by rw [hv1, Int.tmod_eq_emod_of_nonneg hb.1]
    rw [wrap_i64 (by omega) (by omega)] at hv2
    have q2 : v2.toNat < 5 := by omega
    have q3 : five.getD v2.toNat 0 = drawn (l.getD i 0) := by
      unfold drawn; rw [← hv, ← q1, ← hv2]
    have ho := drawn_ok (l.getD i 0)
    have hl1 := en_len ho.1
    refine ⟨by omega, by omega, ⟨_, five_at _ q2, ⟨_, rfl, ?_⟩⟩⟩
    rw [q3]
    simp only [↓gos, gop, Nat.reduceBEq, Nat.reduceAdd, Nat.reduceSub, Nat.reduceLeDiff, Nat.reduceMul, Int.reduceLE, Int.reduceLT, Int.reduceNe, Int.reduceToNat]
    refine ⟨by omega, ?_⟩
    intro w hw w2 hw2
    rw [wrap_i64 (by omega) (by omega)] at hw hw2
    refine rnd_d 0 (i + 1) rfl (Nat.zero_le _) ⟨rfl, rfl, rfl, rfl, rfl, rfl, rfl, rfl, rfl, rfl, ?_, rfl, ?_, rfl, ?_, rfl, trivial⟩ rfl ⟨by omega, by omega⟩ (by omega)
    · show DV.str _ = DV.str _
      rw [wstep l i (by omega)]
    · show DV.int .i64 w = _
      rw [hw]; rfl
    · show DV.int .i64 w2 = _
      rw [hw2]; rfl
  all_goals
    generalize hcs : (l.take i).map drawn = cs at hlen ⊢
    have hcl : cs.length = i := by rw [← hcs, List.length_map, List.length_take]; omega
    have hco : ∀ x ∈ cs, okC x ∧ 32 ≤ x ∧ mayB x = true := fun x hx => by
      rw [← hcs] at hx
      obtain ⟨y, _, rfl⟩ := List.mem_map.1 hx
      exact drawn_ok y
    intro v hv v1 hv1 v2 hv2
    have hm : 0 ≤ v2 ∧ v2 < 60 := by
      have hb := wrap_u64_bd most
      rw [← hv] at hb
      have q1 : v1 = v % 60 := by rw [hv1, Int.tmod_eq_emod_of_nonneg hb.1]
      rw [wrap_i64 (by omega) (by omega)] at hv2
      omega
    clear hv hv1 hv2
    refine ⟨fun h0 => call_ret awake15 rfl rfl ?_, fun h0 => ?_⟩
    · simp only [↓gos, gop, Nat.reduceBEq, Nat.reduceAdd, Nat.reduceSub, Nat.reduceLeDiff, Nat.reduceMul, Int.reduceLE, Int.reduceLT, Int.reduceNe, Int.reduceToNat]
      have := line22 rfl vED [] v2 (by decide)
      rw [run_nil, show rs [] = [] from rfl, List.length_nil, Bool.true_and, decide_eq_true (by omega)] at this
      refine call_ret this rfl rfl ?_
      simp only [↓gos, gop, Nat.reduceBEq, Nat.reduceAdd, Nat.reduceSub, Nat.reduceLeDiff, Nat.reduceMul, Int.reduceLE, Int.reduceLT, Int.reduceNe, Int.reduceToNat]
      exact endb rfl
    intro u1 hu1 u2 hu2
    have hi0 : i ≠ 0 := fun q => h0 (by omega)
    rw [show IntKind.u64.wrap (i : Int) = i from wrap_u64 (by omega) (by omega)] at hu2
    subst hu2
    refine ⟨by omega, ?_⟩
    intro u3 hu3 u4 hu4
    obtain ⟨k, hk, rfl⟩ : ∃ k : Nat, k < i ∧ u4 = (k : Int) := by
      have hb := wrap_u64_bd at_
      rw [← hu1] at hb
      have q : u3 = u1 % (i : Int) := by rw [hu3, Int.tmod_eq_emod_of_nonneg hb.1]
      have q2 : 0 ≤ u3 ∧ u3 < (i : Int) := by rw [q]; exact ⟨Int.emod_nonneg _ (by omega), Int.emod_lt_of_pos _ (by omega)⟩
      rw [wrap_i64 (by omega) (by omega)] at hu4
      exact ⟨u4.toNat, by omega, by omega⟩
    clear hu1 hu3 hu4
    have hrl : runesL (written cs) (written cs).length 0 = cs.map (fun c : Nat => (c : Int)) := by
      have := rl_ens [] cs fun x hx => (hco x hx).1
      rw [List.append_nil, rl_nil, List.append_nil] at this
      exact this
    rw [hrl]
    simp only [List.length_map, hcl]
    refine ⟨by omega, by omega, .inr ⟨_, rfl, by simp; omega, (cs.take k).map (fun c : Nat => (c : Int)), by simp, ?_⟩⟩
    have hfm : ∀ l : List Nat, List.flatMap (fun r => (Utf8.encode r).data.toList) (List.map (fun c : Nat => (c : Int)) l) = written l := fun l => by
      unfold written en; rw [List.flatMap_map]
    obtain ⟨y, hy, hyc⟩ : ∃ y : UInt8, y.toNat < 32 ∧ c.tmod 32 = (y.toNat : Int) := by
      have q : c.tmod 32 = c % 32 := Int.tmod_eq_emod_of_nonneg hc.1
      refine ⟨UInt8.ofNat (c % 32).toNat, ?_, ?_⟩ <;> rw [toNat_of _ (by omega)] <;> omega
    rw [hyc]
    have l1 := written_len (cs.take k) fun x hx => (hco x (List.mem_of_mem_take hx)).1
    have l2 := written_len (cs.drop k) fun x hx => (hco x (List.mem_of_mem_drop hx)).1
    rw [List.length_take] at l1
    rw [List.length_drop] at l2
    intro w1 hw1
    subst hw1
    refine .inr ⟨_, rfl, by simp, [y], rfl, ?_⟩
    rw [hfm]
    refine ⟨by simp only [List.length_cons, List.length_nil]; omega, by omega, by omega, .inr ⟨_, rfl, by simp; omega, (cs.drop k).map (fun c : Nat => (c : Int)), by rw [List.take_of_length_le (by simp [hcl])]; simp, ?_⟩⟩
    rw [hfm]
    refine ⟨by simp; omega, ?_⟩
    have hw : written cs = cs.flatMap (fun c : Nat => en c) ++ [] := by rw [List.append_nil]; rfl
    have hs5 : (written cs).length < 100000000000 := by omega
    have hyo : okC y.toNat := by unfold okC; omega
    have hye : en (y.toNat : Nat) = [y] := by rw [en_eq hyo, if_pos (by omega)]; simp
    have ok1 : ∀ x ∈ cs.take k, okC x := fun x hx => (hco x (List.mem_of_mem_take hx)).1
    have ok2 : ∀ x ∈ cs.drop k, okC x := fun x hx => (hco x (List.mem_of_mem_drop hx)).1
    have hall : ∀ p : Nat → Bool, (∀ x ∈ cs, p x = true) → cs.all p = true := fun p h => List.all_eq_true.2 h
    have shw : ∀ x ∈ cs, shownB (x : Int) = true := fun x hx => by
      have := hco x hx
      rw [shown_may, this.2.2, Bool.true_and, decide_eq_true_eq]; omega
    have rS : rs (written cs) = cs.map (fun c : Nat => (c : Int)) := by
      unfold rs
      rw [hw, run_ens _ _ _ (fun x hx => (hco x hx).1), hall _ (fun x hx => (hco x hx).2.2), run_nil, rl_ens _ _ (fun x hx => (hco x hx).1), rl_nil, List.append_nil]; rfl
    have lS : DRet 22 [.str (written cs), .int .i64 v2] (.bool (decide ((i : Int) ≤ v2))) := by
      have := line22 rfl vED (written cs) v2 hs5
      rwa [rS, List.length_map, hcl, hw, run_ens _ _ _ (fun x hx => (hco x hx).1), hall _ shw, run_nil, ← hw, Bool.true_and, Bool.true_and] at this
    have cS : DRet 21 [.str (written cs)] (.int .i64 (i : Int)) := by
      have := count21 rfl vED (written cs) hs5
      rwa [rS, List.length_map, hcl] at this
    have low : ∀ p : Int → Bool, (∀ x ∈ cs, p (x : Int) = true) → runAt p (written (cs.take k) ++ [y] ++ written (cs.drop k)) 0 = p y.toNat := fun p h => by
      have e2 : runAt p (written (cs.drop k)) 0 = true := by
        have := run_ens p [] (cs.drop k) ok2
        rw [List.append_nil, run_nil, Bool.and_true] at this
        exact this.trans (List.all_eq_true.2 fun x hx => h x (List.mem_of_mem_drop hx))
      rw [List.append_assoc, ← hye]
      show runAt p ((cs.take k).flatMap (fun c : Nat => en c) ++ _) 0 = _
      rw [run_ens p _ _ ok1, run_en p hyo, e2, Bool.and_true, List.all_eq_true.2 (fun x hx => h x (List.mem_of_mem_take hx)), Bool.true_and]
    have hlow : (written (cs.take k) ++ [y] ++ written (cs.drop k)).length < 100000000000 := by simp only [List.length_append, List.length_cons, List.length_nil]; omega
    have lL : DRet 22 [.str (written (cs.take k) ++ [y] ++ written (cs.drop k)), .int .i64 100] (.bool false) := by
      have := line22 rfl vED _ 100 hlow
      rw [low _ shw, shown_may, decide_eq_false (by omega : ¬ 32 ≤ (y.toNat : Int)), Bool.and_false, Bool.false_and] at this
      exact this
    have vL : DRet 16 [.str (written (cs.take k) ++ [y] ++ written (cs.drop k))] (.bool (mayB y.toNat)) := by
      have := valid_c _ hlow
      rwa [low _ (fun x hx => (hco x hx).2.2)] at this
    have hmy : mayB y.toNat = (decide ((y.toNat : Int) = 9) || decide ((y.toNat : Int) = 10) || decide ((y.toNat : Int) = 13)) := by
      unfold mayB shownB
      rw [decide_eq_false (by omega : ¬ 32 ≤ (y.toNat : Int)), decide_eq_false (by omega : ¬ 65536 ≤ (y.toNat : Int))]
      simp
    rw [hmy] at vL
    intro w2 hw2
    subst hw2
    by_cases hq : (i : Int) ≤ v2
    · rw [decide_eq_true hq] at lS
      refine ⟨fun e9 => ?_, fun n9 w3 hw3 => ?_⟩
      · rw [decide_eq_true e9, Bool.true_or, Bool.true_or] at vL
        refine call_ret awake15 rfl rfl ?_
        simp only [↓gos, gop, Nat.reduceBEq, Nat.reduceAdd, Nat.reduceSub, Nat.reduceLeDiff, Nat.reduceMul, Int.reduceLE, Int.reduceLT, Int.reduceNe, Int.reduceToNat]
        refine call_ret lS rfl rfl ?_
        simp only [↓gos, gop, Nat.reduceBEq, Nat.reduceAdd, Nat.reduceSub, Nat.reduceLeDiff, Nat.reduceMul, Int.reduceLE, Int.reduceLT, Int.reduceNe, Int.reduceToNat]
        refine ⟨fun _ => ⟨fun _ => call_ret cS rfl rfl ?_, fun hn => by simp at hn⟩, fun q => absurd hq q⟩
        simp only [↓gos, gop, Nat.reduceBEq, Nat.reduceAdd, Nat.reduceSub, Nat.reduceLeDiff, Nat.reduceMul, Int.reduceLE, Int.reduceLT, Int.reduceNe, Int.reduceToNat]
        refine call_ret lL rfl rfl ?_
        simp only [↓gos, gop, Nat.reduceBEq, Nat.reduceAdd, Nat.reduceSub, Nat.reduceLeDiff, Nat.reduceMul, Int.reduceLE, Int.reduceLT, Int.reduceNe, Int.reduceToNat]
        refine call_ret vL rfl rfl ?_
        simp only [↓gos, gop, Nat.reduceBEq, Nat.reduceAdd, Nat.reduceSub, Nat.reduceLeDiff, Nat.reduceMul, Int.reduceLE, Int.reduceLT, Int.reduceNe, Int.reduceToNat]
        exact ⟨fun _ => endb rfl, fun hn => by simp at hn⟩
      subst hw3
      rw [decide_eq_false n9, Bool.false_or] at vL
      refine ⟨fun e10 => ?_, fun n10 w4 hw4 => ?_⟩
      · rw [decide_eq_true e10, Bool.true_or] at vL
        refine call_ret awake15 rfl rfl ?_
        simp only [↓gos, gop, Nat.reduceBEq, Nat.reduceAdd, Nat.reduceSub, Nat.reduceLeDiff, Nat.reduceMul, Int.reduceLE, Int.reduceLT, Int.reduceNe, Int.reduceToNat]
        refine call_ret lS rfl rfl ?_
        simp only [↓gos, gop, Nat.reduceBEq, Nat.reduceAdd, Nat.reduceSub, Nat.reduceLeDiff, Nat.reduceMul, Int.reduceLE, Int.reduceLT, Int.reduceNe, Int.reduceToNat]
        refine ⟨fun _ => ⟨fun _ => call_ret cS rfl rfl ?_, fun hn => by simp at hn⟩, fun q => absurd hq q⟩
        simp only [↓gos, gop, Nat.reduceBEq, Nat.reduceAdd, Nat.reduceSub, Nat.reduceLeDiff, Nat.reduceMul, Int.reduceLE, Int.reduceLT, Int.reduceNe, Int.reduceToNat]
        refine call_ret lL rfl rfl ?_
        simp only [↓gos, gop, Nat.reduceBEq, Nat.reduceAdd, Nat.reduceSub, Nat.reduceLeDiff, Nat.reduceMul, Int.reduceLE, Int.reduceLT, Int.reduceNe, Int.reduceToNat]
        refine call_ret vL rfl rfl ?_
        simp only [↓gos, gop, Nat.reduceBEq, Nat.reduceAdd, Nat.reduceSub, Nat.reduceLeDiff, Nat.reduceMul, Int.reduceLE, Int.reduceLT, Int.reduceNe, Int.reduceToNat]
        exact ⟨fun _ => endb rfl, fun hn => by simp at hn⟩
      subst hw4
      rw [decide_eq_false n10, Bool.false_or] at vL
      refine ⟨fun e13 => ?_, fun n13 => ?_⟩
      · rw [decide_eq_true e13] at vL
        refine call_ret awake15 rfl rfl ?_
        simp only [↓gos, gop, Nat.reduceBEq, Nat.reduceAdd, Nat.reduceSub, Nat.reduceLeDiff, Nat.reduceMul, Int.reduceLE, Int.reduceLT, Int.reduceNe, Int.reduceToNat]
        refine call_ret lS rfl rfl ?_
        simp only [↓gos, gop, Nat.reduceBEq, Nat.reduceAdd, Nat.reduceSub, Nat.reduceLeDiff, Nat.reduceMul, Int.reduceLE, Int.reduceLT, Int.reduceNe, Int.reduceToNat]
        refine ⟨fun _ => ⟨fun _ => call_ret cS rfl rfl ?_, fun hn => by simp at hn⟩, fun q => absurd hq q⟩
        simp only [↓gos, gop, Nat.reduceBEq, Nat.reduceAdd, Nat.reduceSub, Nat.reduceLeDiff, Nat.reduceMul, Int.reduceLE, Int.reduceLT, Int.reduceNe, Int.reduceToNat]
        refine call_ret lL rfl rfl ?_
        simp only [↓gos, gop, Nat.reduceBEq, Nat.reduceAdd, Nat.reduceSub, Nat.reduceLeDiff, Nat.reduceMul, Int.reduceLE, Int.reduceLT, Int.reduceNe, Int.reduceToNat]
        refine call_ret vL rfl rfl ?_
        simp only [↓gos, gop, Nat.reduceBEq, Nat.reduceAdd, Nat.reduceSub, Nat.reduceLeDiff, Nat.reduceMul, Int.reduceLE, Int.reduceLT, Int.reduceNe, Int.reduceToNat]
        exact ⟨fun _ => endb rfl, fun hn => by simp at hn⟩
      · rw [decide_eq_false n13] at vL
        refine call_ret awake15 rfl rfl ?_
        simp only [↓gos, gop, Nat.reduceBEq, Nat.reduceAdd, Nat.reduceSub, Nat.reduceLeDiff, Nat.reduceMul, Int.reduceLE, Int.reduceLT, Int.reduceNe, Int.reduceToNat]
        refine call_ret lS rfl rfl ?_
        simp only [↓gos, gop, Nat.reduceBEq, Nat.reduceAdd, Nat.reduceSub, Nat.reduceLeDiff, Nat.reduceMul, Int.reduceLE, Int.reduceLT, Int.reduceNe, Int.reduceToNat]
        refine ⟨fun _ => ⟨fun _ => call_ret cS rfl rfl ?_, fun hn => by simp at hn⟩, fun q => absurd hq q⟩
        simp only [↓gos, gop, Nat.reduceBEq, Nat.reduceAdd, Nat.reduceSub, Nat.reduceLeDiff, Nat.reduceMul, Int.reduceLE, Int.reduceLT, Int.reduceNe, Int.reduceToNat]
        refine call_ret lL rfl rfl ?_
        simp only [↓gos, gop, Nat.reduceBEq, Nat.reduceAdd, Nat.reduceSub, Nat.reduceLeDiff, Nat.reduceMul, Int.reduceLE, Int.reduceLT, Int.reduceNe, Int.reduceToNat]
        refine call_ret vL rfl rfl ?_
        simp only [↓gos, gop, Nat.reduceBEq, Nat.reduceAdd, Nat.reduceSub, Nat.reduceLeDiff, Nat.reduceMul, Int.reduceLE, Int.reduceLT, Int.reduceNe, Int.reduceToNat]
        exact ⟨fun _ => endb rfl, fun hn => by simp at hn⟩
    · rw [decide_eq_false hq] at lS
      refine ⟨fun e9 => ?_, fun n9 w3 hw3 => ?_⟩
      · rw [decide_eq_true e9, Bool.true_or, Bool.true_or] at vL
        refine call_ret awake15 rfl rfl ?_
        simp only [↓gos, gop, Nat.reduceBEq, Nat.reduceAdd, Nat.reduceSub, Nat.reduceLeDiff, Nat.reduceMul, Int.reduceLE, Int.reduceLT, Int.reduceNe, Int.reduceToNat]
        refine call_ret lS rfl rfl ?_
        simp only [↓gos, gop, Nat.reduceBEq, Nat.reduceAdd, Nat.reduceSub, Nat.reduceLeDiff, Nat.reduceMul, Int.reduceLE, Int.reduceLT, Int.reduceNe, Int.reduceToNat]
        refine ⟨fun q => absurd q hq, fun _ => ⟨fun _ => call_ret cS rfl rfl ?_, fun hn => by simp at hn⟩⟩
        simp only [↓gos, gop, Nat.reduceBEq, Nat.reduceAdd, Nat.reduceSub, Nat.reduceLeDiff, Nat.reduceMul, Int.reduceLE, Int.reduceLT, Int.reduceNe, Int.reduceToNat]
        refine call_ret lL rfl rfl ?_
        simp only [↓gos, gop, Nat.reduceBEq, Nat.reduceAdd, Nat.reduceSub, Nat.reduceLeDiff, Nat.reduceMul, Int.reduceLE, Int.reduceLT, Int.reduceNe, Int.reduceToNat]
        refine call_ret vL rfl rfl ?_
        simp only [↓gos, gop, Nat.reduceBEq, Nat.reduceAdd, Nat.reduceSub, Nat.reduceLeDiff, Nat.reduceMul, Int.reduceLE, Int.reduceLT, Int.reduceNe, Int.reduceToNat]
        exact ⟨fun _ => endb rfl, fun hn => by simp at hn⟩
      subst hw3
      rw [decide_eq_false n9, Bool.false_or] at vL
      refine ⟨fun e10 => ?_, fun n10 w4 hw4 => ?_⟩
      · rw [decide_eq_true e10, Bool.true_or] at vL
        refine call_ret awake15 rfl rfl ?_
        simp only [↓gos, gop, Nat.reduceBEq, Nat.reduceAdd, Nat.reduceSub, Nat.reduceLeDiff, Nat.reduceMul, Int.reduceLE, Int.reduceLT, Int.reduceNe, Int.reduceToNat]
        refine call_ret lS rfl rfl ?_
        simp only [↓gos, gop, Nat.reduceBEq, Nat.reduceAdd, Nat.reduceSub, Nat.reduceLeDiff, Nat.reduceMul, Int.reduceLE, Int.reduceLT, Int.reduceNe, Int.reduceToNat]
        refine ⟨fun q => absurd q hq, fun _ => ⟨fun _ => call_ret cS rfl rfl ?_, fun hn => by simp at hn⟩⟩
        simp only [↓gos, gop, Nat.reduceBEq, Nat.reduceAdd, Nat.reduceSub, Nat.reduceLeDiff, Nat.reduceMul, Int.reduceLE, Int.reduceLT, Int.reduceNe, Int.reduceToNat]
        refine call_ret lL rfl rfl ?_
        simp only [↓gos, gop, Nat.reduceBEq, Nat.reduceAdd, Nat.reduceSub, Nat.reduceLeDiff, Nat.reduceMul, Int.reduceLE, Int.reduceLT, Int.reduceNe, Int.reduceToNat]
        refine call_ret vL rfl rfl ?_
        simp only [↓gos, gop, Nat.reduceBEq, Nat.reduceAdd, Nat.reduceSub, Nat.reduceLeDiff, Nat.reduceMul, Int.reduceLE, Int.reduceLT, Int.reduceNe, Int.reduceToNat]
        exact ⟨fun _ => endb rfl, fun hn => by simp at hn⟩
      subst hw4
      rw [decide_eq_false n10, Bool.false_or] at vL
      refine ⟨fun e13 => ?_, fun n13 => ?_⟩
      · rw [decide_eq_true e13] at vL
        refine call_ret awake15 rfl rfl ?_
        simp only [↓gos, gop, Nat.reduceBEq, Nat.reduceAdd, Nat.reduceSub, Nat.reduceLeDiff, Nat.reduceMul, Int.reduceLE, Int.reduceLT, Int.reduceNe, Int.reduceToNat]
        refine call_ret lS rfl rfl ?_
        simp only [↓gos, gop, Nat.reduceBEq, Nat.reduceAdd, Nat.reduceSub, Nat.reduceLeDiff, Nat.reduceMul, Int.reduceLE, Int.reduceLT, Int.reduceNe, Int.reduceToNat]
        refine ⟨fun q => absurd q hq, fun _ => ⟨fun _ => call_ret cS rfl rfl ?_, fun hn => by simp at hn⟩⟩
        simp only [↓gos, gop, Nat.reduceBEq, Nat.reduceAdd, Nat.reduceSub, Nat.reduceLeDiff, Nat.reduceMul, Int.reduceLE, Int.reduceLT, Int.reduceNe, Int.reduceToNat]
        refine call_ret lL rfl rfl ?_
        simp only [↓gos, gop, Nat.reduceBEq, Nat.reduceAdd, Nat.reduceSub, Nat.reduceLeDiff, Nat.reduceMul, Int.reduceLE, Int.reduceLT, Int.reduceNe, Int.reduceToNat]
        refine call_ret vL rfl rfl ?_
        simp only [↓gos, gop, Nat.reduceBEq, Nat.reduceAdd, Nat.reduceSub, Nat.reduceLeDiff, Nat.reduceMul, Int.reduceLE, Int.reduceLT, Int.reduceNe, Int.reduceToNat]
        exact ⟨fun _ => endb rfl, fun hn => by simp at hn⟩
      · rw [decide_eq_false n13] at vL
        refine call_ret awake15 rfl rfl ?_
        simp only [↓gos, gop, Nat.reduceBEq, Nat.reduceAdd, Nat.reduceSub, Nat.reduceLeDiff, Nat.reduceMul, Int.reduceLE, Int.reduceLT, Int.reduceNe, Int.reduceToNat]
        refine call_ret lS rfl rfl ?_
        simp only [↓gos, gop, Nat.reduceBEq, Nat.reduceAdd, Nat.reduceSub, Nat.reduceLeDiff, Nat.reduceMul, Int.reduceLE, Int.reduceLT, Int.reduceNe, Int.reduceToNat]
        refine ⟨fun q => absurd q hq, fun _ => ⟨fun _ => call_ret cS rfl rfl ?_, fun hn => by simp at hn⟩⟩
        simp only [↓gos, gop, Nat.reduceBEq, Nat.reduceAdd, Nat.reduceSub, Nat.reduceLeDiff, Nat.reduceMul, Int.reduceLE, Int.reduceLT, Int.reduceNe, Int.reduceToNat]
        refine call_ret lL rfl rfl ?_
        simp only [↓gos, gop, Nat.reduceBEq, Nat.reduceAdd, Nat.reduceSub, Nat.reduceLeDiff, Nat.reduceMul, Int.reduceLE, Int.reduceLT, Int.reduceNe, Int.reduceToNat]
        refine call_ret vL rfl rfl ?_
        simp only [↓gos, gop, Nat.reduceBEq, Nat.reduceAdd, Nat.reduceSub, Nat.reduceLeDiff, Nat.reduceMul, Int.reduceLE, Int.reduceLT, Int.reduceNe, Int.reduceToNat]
        exact ⟨fun _ => endb rfl, fun hn => by simp at hn⟩
end Go.Proofs.Ut
