import Derived.Test.YtbhlmbacgbfaoaaDoorUtD
set_option linter.all false
namespace Go.Proofs.Ut
open Go.Ai Classical
set_option linter.unusedSimpArgs false
set_option maxHeartbeats 1000000
set_option maxRecDepth 100000
def num (n : Int) : List DV := [.int .i64 n]
/-- The document's next character: what may be, or (0, 0). -/
noncomputable def nextR (s : List UInt8) (i : Nat) : Nat × Nat := if D s i = (65533, 1) then (0, 0) else if mayB (D s i).1 then D s i else (0, 0)
theorem free_num (L : List Int) : ((DV.osl 1 0 0 L.length none).free && [AObj.arr 1 (L.map num)].all freeO) = true := by simp [DV.free, freeO, num]
section
variable {E : Env} (hP : E.P = Tryd.prog)
include hP
theorem dec65 (s : List UInt8) (i : Nat) (hi : i < s.length) (hs : s.length < 100000000000) : ACalls E 65 [] [.str s, .int .i64 i] (post2 (decR s i)) := by
  refine acalls_go (hP ▸ c65) (by simp [f65]) ?_
  exact f65_go s i hi hs
theorem next39 (s : List UInt8) (i : Nat) (hi : i < s.length) (hs : s.length < 100000000000) : ACalls E 39 [] [.str s, .int .i64 i] (post2 (nextR s i)) := by
  refine acalls_go (hP ▸ c39) (by simp [f39]) ?_
  simp only [f39, ↓gos, gop, Nat.reduceBEq, Nat.reduceAdd, Nat.reduceSub, Nat.reduceLeDiff, Nat.reduceMul, Int.reduceLE, Int.reduceLT, Int.reduceNe, Int.reduceToNat]
  refine call_ret (dec65 hP s i hi hs) rfl rfl ?_
  have hD := D_len s i hi
  rw [decR_D s i hi]
  unfold nextR
  by_cases hb : D s i = (65533, 1)
  · rw [if_pos hb, if_pos hb]
    simp only [↓gos, gop, Nat.reduceBEq, Nat.reduceAdd, Nat.reduceSub, Nat.reduceLeDiff, Nat.reduceMul, Int.reduceLE, Int.reduceLT, Int.reduceNe, Int.reduceToNat]
    exact endT rfl rfl
  · rw [if_neg hb, if_neg hb]
    have hz : (((D s i).2 : Nat) : Int) = 0 ↔ False := by simp; omega
    simp only [hz, ↓gos, gop, Nat.reduceBEq, Nat.reduceAdd, Nat.reduceSub, Nat.reduceLeDiff, Nat.reduceMul, Int.reduceLE, Int.reduceLT, Int.reduceNe, Int.reduceToNat]
    refine call_ret (char24 hP (D s i).1) rfl rfl ?_
    rw [char_may hD.2.2]
    cases hm : mayB (D s i).1
    · rw [if_neg (by simp)]
      simp only [↓gos, gop, Nat.reduceBEq, Nat.reduceAdd, Nat.reduceSub, Nat.reduceLeDiff, Nat.reduceMul, Int.reduceLE, Int.reduceLT, Int.reduceNe, Int.reduceToNat]
      exact endT rfl rfl
    · rw [if_pos rfl]
      simp only [↓gos, gop, Nat.reduceBEq, Nat.reduceAdd, Nat.reduceSub, Nat.reduceLeDiff, Nat.reduceMul, Int.reduceLE, Int.reduceLT, Int.reduceNe, Int.reduceToNat]
      exact endT rfl rfl
theorem rvalid17 (s : List UInt8) (hs : s.length < 100000000000) : ACalls E 17 [] [.str s] fun h d => h = [] ∧ d = .bool (runAt mayB s 0) := by
  refine acalls_go (hP ▸ c17) (by simp [f17]) ?_
  simp only [f17, ↓gos, gop, Nat.reduceBEq, Nat.reduceAdd, Nat.reduceSub, Nat.reduceLeDiff, Nat.reduceMul, Int.reduceLE, Int.reduceLT, Int.reduceNe, Int.reduceToNat]
  refine goN_lp (γ := Nat) (fun i => [(0, .str s), (3, .int .i64 i)]) (fun _ => []) (fun i => i ≤ s.length ∧ runAt mayB s i = runAt mayB s 0) (fun i => s.length - i) 0 (wks rfl (Nat.zero_le _) ⟨rfl, rfl, trivial⟩) ⟨by omega, rfl⟩ fun i hi => ?_
  obtain ⟨hi, hr⟩ := hi
  simp only [f17l0, ↓gos, gop, Nat.reduceBEq, Nat.reduceAdd, Nat.reduceSub, Nat.reduceLeDiff, Nat.reduceMul, Int.reduceLE, Int.reduceLT, Int.reduceNe, Int.reduceToNat]
  refine ⟨fun h1 => call_ret (next39 hP s i (by omega) hs) rfl rfl ?_, fun h1 => endb ?_⟩
  · have hlt : i < s.length := by omega
    have hD := D_len s i hlt
    rw [runAt_step _ _ _ hlt] at hr
    unfold nextR
    by_cases hb : D s i = (65533, 1)
    · rw [if_pos hb] at hr ⊢
      simp only [↓gos, gop, Nat.reduceBEq, Nat.reduceAdd, Nat.reduceSub, Nat.reduceLeDiff, Nat.reduceMul, Int.reduceLE, Int.reduceLT, Int.reduceNe, Int.reduceToNat]
      exact endb hr
    · rw [if_neg hb] at hr ⊢
      cases hm : mayB (D s i).1
      · rw [hm] at hr
        rw [if_neg (by simp)]
        simp only [↓gos, gop, Nat.reduceBEq, Nat.reduceAdd, Nat.reduceSub, Nat.reduceLeDiff, Nat.reduceMul, Int.reduceLE, Int.reduceLT, Int.reduceNe, Int.reduceToNat]
        exact endb hr
      · rw [hm, Bool.true_and] at hr
        rw [if_pos rfl]
        have hz : (((D s i).2 : Nat) : Int) = 0 ↔ False := by simp; omega
        simp only [hz, ↓gos, gop, Nat.reduceBEq, Nat.reduceAdd, Nat.reduceSub, Nat.reduceLeDiff, Nat.reduceMul, Int.reduceLE, Int.reduceLT, Int.reduceNe, Int.reduceToNat]
        intro v hv
        rw [wrap_i64 (by omega) (by omega)] at hv
        exact rnd_s (i + (D s i).2) rfl (Nat.zero_le _) ⟨rfl, by show DV.int .i64 v = _; rw [hv]; rfl, trivial⟩ ⟨hD.2.1, hr⟩ (by omega)
  · rw [← hr, runAt_end _ _ _ (by omega)]
abbrev NRow (E : Env) (f : Nat) (args : List DV) (L : List Int) : Prop := ACalls E f [] args fun h d => h = [.arr 1 (L.map num)] ∧ d = .osl 1 0 0 L.length none
def rs (s : List UInt8) : List Int := if runAt mayB s 0 then rlAt s 0 else []
theorem rrunes20 (s : List UInt8) (hs : s.length < 100000000000) : NRow E 20 [.str s] (rs s) := by
  refine acalls_go (hP ▸ c20) (by simp [f20]) ?_
  simp only [f20, ↓gos, gop, Nat.reduceBEq, Nat.reduceAdd, Nat.reduceSub, Nat.reduceLeDiff, Nat.reduceMul, Int.reduceLE, Int.reduceLT, Int.reduceNe, Int.reduceToNat]
  refine call_ret (rvalid17 hP s hs) rfl rfl ?_
  unfold rs
  cases hv : runAt mayB s 0
  · simp only [↓gos, gop, Nat.reduceBEq, Nat.reduceAdd, Nat.reduceSub, Nat.reduceLeDiff, Nat.reduceMul, Int.reduceLE, Int.reduceLT, Int.reduceNe, Int.reduceToNat]
    exact end_row rfl rfl rfl
  · simp only [↓gos, gop, Nat.reduceBEq, Nat.reduceAdd, Nat.reduceSub, Nat.reduceLeDiff, Nat.reduceMul, Int.reduceLE, Int.reduceLT, Int.reduceNe, Int.reduceToNat]
    refine goN_lp (γ := Nat × List Int) (fun g => [(0, .str s), (3, .osl 1 1 0 g.2.length none), (4, .int .i64 (g.1 : Nat))]) (fun g => [.arr 1 [], .arr 1 (g.2.map num)]) (fun g => g.1 ≤ s.length ∧ runAt mayB s g.1 = true ∧ g.2 ++ rlAt s g.1 = rlAt s 0 ∧ g.2.length ≤ g.1) (fun g => s.length - g.1) (0, []) (wks rfl (Nat.zero_le _) ⟨rfl, rfl, rfl, trivial⟩) ⟨by simp, hv, rfl, by simp⟩ fun g hg => ?_
    obtain ⟨i, acc⟩ := g
    obtain ⟨hi, hr, hacc, hlen⟩ := hg
    simp only at hi hr hacc hlen
    simp only [f20l0, num, ↓gos, gop, Nat.reduceBEq, Nat.reduceAdd, Nat.reduceSub, Nat.reduceLeDiff, Nat.reduceMul, Int.reduceLE, Int.reduceLT, Int.reduceNe, Int.reduceToNat]
    refine ⟨fun h1 => call_ret (next39 hP s i (by omega) hs) rfl rfl ?_, fun h1 => end_row rfl ?_ ?_⟩
    · have hlt : i < s.length := by omega
      have hD := D_len s i hlt
      rw [runAt_step _ _ _ hlt] at hr
      rw [rlAt_step _ _ hlt] at hacc
      unfold nextR
      by_cases hb : D s i = (65533, 1)
      · rw [if_pos hb] at hr; cases hr
      · rw [if_neg hb] at hr ⊢
        rw [Bool.and_eq_true] at hr
        rw [if_pos hr.1]
        simp only [↓gos, gop, Nat.reduceBEq, Nat.reduceAdd, Nat.reduceSub, Nat.reduceLeDiff, Nat.reduceMul, Int.reduceLE, Int.reduceLT, Int.reduceNe, Int.reduceToNat]
        refine ⟨by omega, by omega, fun v hv => ?_⟩
        rw [wrap_i64 (by omega) (by omega)] at hv
        refine rnd_d 2 (i + (D s i).2, acc ++ [((D s i).1 : Int)]) ?_ (Nat.zero_le _) ⟨rfl, rfl, ?_, rfl, ?_, rfl, trivial⟩ rfl ⟨hD.2.1, hr.2, by simpa using hacc, by simp; omega⟩ (by simp only; omega)
        · simp [num]
        · simp [slots]
        · show DV.int .i64 v = _
          rw [hv]; rfl
    · rw [rlAt_end _ _ (by omega), List.append_nil] at hacc
      rw [← hacc]; simp
    · rw [rlAt_end _ _ (by omega), List.append_nil] at hacc
      rw [← hacc]; simp
theorem runes19 (hv : VTest E) (s : List UInt8) (hs : s.length < 100000000000) : NRow E 19 [.str s] (rs s) := by
  refine acalls_go (hP ▸ c19) (by simp [f19]) ?_
  simp only [f19, ↓gos, gop, Nat.reduceBEq, Nat.reduceAdd, Nat.reduceSub, Nat.reduceLeDiff, Nat.reduceMul, Int.reduceLE, Int.reduceLT, Int.reduceNe, Int.reduceToNat]
  refine call_ret (valid16 hP hv s (by omega)) rfl rfl ?_
  rw [valid_runAt]
  unfold rs
  cases hvv : runAt mayB s 0
  · simp only [↓gos, gop, Nat.reduceBEq, Nat.reduceAdd, Nat.reduceSub, Nat.reduceLeDiff, Nat.reduceMul, Int.reduceLE, Int.reduceLT, Int.reduceNe, Int.reduceToNat]
    exact end_row rfl rfl rfl
  · simp only [↓gos, gop, Nat.reduceBEq, Nat.reduceAdd, Nat.reduceSub, Nat.reduceLeDiff, Nat.reduceMul, Int.reduceLE, Int.reduceLT, Int.reduceNe, Int.reduceToNat]
    refine goN_lp (γ := Nat × List Int) (fun g => [(3, .osl 1 1 0 g.2.length none), (10, .ptr 2 0)]) (fun g => [.arr 1 [], .arr 1 (g.2.map num), .iter s g.1]) (fun g => g.1 ≤ s.length ∧ g.2 ++ rlAt s g.1 = rlAt s 0 ∧ g.2.length ≤ g.1) (fun g => s.length - g.1) (0, []) (wks rfl (Nat.zero_le _) ⟨rfl, rfl, trivial⟩) ⟨by simp, rfl, by simp⟩ fun g hg => ?_
    obtain ⟨i, acc⟩ := g
    obtain ⟨hi, hacc, hlen⟩ := hg
    simp only at hi hacc hlen
    simp only [f19l0, num, ↓gos, gop, Nat.reduceBEq, Nat.reduceAdd, Nat.reduceSub, Nat.reduceLeDiff, Nat.reduceMul, Int.reduceLE, Int.reduceLT, Int.reduceNe, Int.reduceToNat]
    refine ⟨fun h1 v hv => ?_, fun h1 => end_row rfl ?_ ?_⟩
    · have hD := D_len s i h1
      rw [rlAt_step _ _ h1] at hacc
      have hok := hD.2.2
      unfold okC at hok
      have hv' : v = ((D s i).1 : Int) := by
        rw [hv]
        exact wrap_i64 (x := ((D s i).1 : Int)) (by omega) (by omega)
      refine ⟨by omega, by omega, ?_⟩
      refine rnd_d 3 (i + (D s i).2, acc ++ [((D s i).1 : Int)]) ?_ (Nat.zero_le _) ⟨?_, rfl, rfl, rfl, trivial⟩ rfl ⟨hD.2.1, by simpa using hacc, by simp; omega⟩ (by simp only; omega)
      · simp [num, hv']; rfl
      · simp [slots]
    · rw [rlAt_end _ _ h1, List.append_nil] at hacc
      rw [← hacc]; simp
    · rw [rlAt_end _ _ h1, List.append_nil] at hacc
      rw [← hacc]; simp
theorem count21 (hv : VTest E) (s : List UInt8) (hs : s.length < 100000000000) : ACalls E 21 [] [.str s] fun h d => h = [] ∧ d = .int .i64 ((rs s).length : Int) := by
  refine acalls_go (hP ▸ c21) (by simp [f21]) ?_
  simp only [f21, ↓gos, gop, Nat.reduceBEq, Nat.reduceAdd, Nat.reduceSub, Nat.reduceLeDiff, Nat.reduceMul, Int.reduceLE, Int.reduceLT, Int.reduceNe, Int.reduceToNat]
  refine call_lend (runes19 hP hv s hs) rfl (free_num _) ?_
  simp only [DV.ren, renO, ↓gos, gop, Nat.reduceBEq, Nat.reduceAdd, Nat.reduceSub, Nat.reduceLeDiff, Nat.reduceMul, Int.reduceLE, Int.reduceLT, Int.reduceNe, Int.reduceToNat]
  exact endi rfl
theorem line22 (hv : VTest E) (s : List UInt8) (most : Int) (hs : s.length < 100000000000) : ACalls E 22 [] [.str s, .int .i64 most] fun h d => h = [] ∧ d = .bool (runAt shownB s 0 && decide (((rs s).length : Int) ≤ most)) := by
  refine acalls_go (hP ▸ c22) (by simp [f22]) ?_
  simp only [f22, ↓gos, gop, Nat.reduceBEq, Nat.reduceAdd, Nat.reduceSub, Nat.reduceLeDiff, Nat.reduceMul, Int.reduceLE, Int.reduceLT, Int.reduceNe, Int.reduceToNat]
  refine call_ret (text37 hP hv (fun c => shown42 hP c) s (by omega)) rfl rfl ?_
  rw [valid_runAt]
  cases hvv : runAt shownB s 0
  · simp only [↓gos, gop, Nat.reduceBEq, Nat.reduceAdd, Nat.reduceSub, Nat.reduceLeDiff, Nat.reduceMul, Int.reduceLE, Int.reduceLT, Int.reduceNe, Int.reduceToNat]
    exact endb rfl
  · simp only [↓gos, gop, Nat.reduceBEq, Nat.reduceAdd, Nat.reduceSub, Nat.reduceLeDiff, Nat.reduceMul, Int.reduceLE, Int.reduceLT, Int.reduceNe, Int.reduceToNat]
    refine call_ret (count21 hP hv s hs) rfl rfl ?_
    simp only [↓gos, gop, Nat.reduceBEq, Nat.reduceAdd, Nat.reduceSub, Nat.reduceLeDiff, Nat.reduceMul, Int.reduceLE, Int.reduceLT, Int.reduceNe, Int.reduceToNat]
    exact ⟨fun h => endb (by simp [h]), fun h => endb (by simp [h])⟩
theorem rline23 (s : List UInt8) (most : Int) (hs : s.length < 100000000000) : ACalls E 23 [] [.str s, .int .i64 most] fun h d => h = [] ∧ d = .bool ((rs s).all (fun c => decide (32 ≤ c)) && (runAt mayB s 0 && decide (((rs s).length : Int) ≤ most))) := by
  refine acalls_go (hP ▸ c23) (by simp [f23]) ?_
  simp only [f23, ↓gos, gop, Nat.reduceBEq, Nat.reduceAdd, Nat.reduceSub, Nat.reduceLeDiff, Nat.reduceMul, Int.reduceLE, Int.reduceLT, Int.reduceNe, Int.reduceToNat]
  refine call_lend (rrunes20 hP s hs) rfl (free_num _) ?_
  simp only [DV.ren, renO, ↓gos, gop, Nat.reduceBEq, Nat.reduceAdd, Nat.reduceSub, Nat.reduceLeDiff, Nat.reduceMul, Int.reduceLE, Int.reduceLT, Int.reduceNe, Int.reduceToNat]
  have hlen : (rs s).length ≤ s.length := by
    unfold rs; split
    · exact runes_len s _ 0
    · simp
  refine goN_lp (γ := Nat) (fun i => [(0, .str s), (1, .int .i64 most), (5, .osl 1 0 0 (rs s).length none), (6, .int .i64 i)]) (fun _ => [.arr 1 ((rs s).map num)]) (fun i => i ≤ (rs s).length ∧ ∀ j, j < i → 32 ≤ (rs s).getD j 0) (fun i => (rs s).length - i) 0 (wks rfl (Nat.zero_le _) ⟨rfl, rfl, rfl, rfl, trivial⟩) (by simp) fun i hi => ?_
  obtain ⟨hi, hp⟩ := hi
  simp only [f23l0, num, ↓gos, gop, Nat.reduceBEq, Nat.reduceAdd, Nat.reduceSub, Nat.reduceLeDiff, Nat.reduceMul, Int.reduceLE, Int.reduceLT, Int.reduceNe, Int.reduceToNat]
  refine ⟨fun h1 => ⟨by omega, optP_at 0 (by omega) ⟨fun h2 => endb ?_, fun h2 v hv => ?_⟩⟩, fun h1 => ?_⟩
  · symm
    rw [Bool.and_eq_false_iff]
    left
    rw [List.all_eq_false]
    exact ⟨(rs s).getD i 0, by simp [show i < (rs s).length by omega], by simp only [decide_eq_true_eq]; omega⟩
  · rw [wrap_i64 (by omega) (by omega)] at hv
    refine rnd_s (i + 1) rfl (Nat.zero_le _) ⟨rfl, rfl, rfl, by show DV.int .i64 v = _; rw [hv]; rfl, trivial⟩ ⟨by omega, fun j hj => ?_⟩ (by omega)
    by_cases hji : j = i
    · subst hji; omega
    · exact hp j (by omega)
  · have hall : (rs s).all (fun c => decide (32 ≤ c)) = true := by
      rw [List.all_eq_true]
      intro x hx
      obtain ⟨j, hj, rfl⟩ := List.getElem_of_mem hx
      have := hp j (by omega)
      simpa [hj] using this
    rw [hall, Bool.true_and]
    refine call_ret (rvalid17 hP s hs) rfl rfl ?_
    cases hvv : runAt mayB s 0
    · simp only [↓gos, gop, Nat.reduceBEq, Nat.reduceAdd, Nat.reduceSub, Nat.reduceLeDiff, Nat.reduceMul, Int.reduceLE, Int.reduceLT, Int.reduceNe, Int.reduceToNat]
      exact endb rfl
    · simp only [↓gos, gop, Nat.reduceBEq, Nat.reduceAdd, Nat.reduceSub, Nat.reduceLeDiff, Nat.reduceMul, Int.reduceLE, Int.reduceLT, Int.reduceNe, Int.reduceToNat]
      exact ⟨fun h => endb (by simp [h]), fun h => endb (by simp [h])⟩
theorem eq41 (a b : Int) : ACalls E 41 [] [.int .i64 a, .int .i64 b] fun h d => h = [] ∧ d = .bool (decide (a = b)) := by
  refine acalls_go (hP ▸ c41) (by simp [f41]) ?_
  simp only [f41, ↓gos, gop, Nat.reduceBEq, Nat.reduceAdd, Nat.reduceSub, Nat.reduceLeDiff, Nat.reduceMul, Int.reduceLE, Int.reduceLT, Int.reduceNe, Int.reduceToNat]
  exact ⟨fun h => endb (by simp [h]), fun h => endb (by simp [h])⟩
theorem same40 (l m : List Int) (hl : l.length < 1000000000000) (hm : m.length < 1000000000000) : ACalls E 40 [] [.sl 1 (l.map num), .sl 1 (m.map num), .fn 41 []] fun h d => h = [] ∧ d = .bool (decide (l = m)) := by
  refine acalls_go (hP ▸ c40) (by simp [f40]) ?_
  simp only [f40, num, ↓gos, gop, Nat.reduceBEq, Nat.reduceAdd, Nat.reduceSub, Nat.reduceLeDiff, Nat.reduceMul, Int.reduceLE, Int.reduceLT, Int.reduceNe, Int.reduceToNat]
  refine ⟨fun h1 => endb ?_, fun h1 => ?_⟩
  · symm
    rw [decide_eq_false_iff_not]
    rintro rfl
    exact h1 rfl
  refine goN_lp (γ := Nat) (fun i => [(0, .sl 1 (l.map num)), (1, .sl 1 (m.map num)), (2, .fn 41 []), (7, .int .i64 i)]) (fun _ => []) (fun i => i ≤ l.length ∧ ∀ j, j < i → l.getD j 0 = m.getD j 0) (fun i => l.length - i) 0 (wks rfl (Nat.le_refl _) ⟨rfl, rfl, rfl, rfl, trivial⟩) (by simp) fun i hi => ?_
  simp only [f40l0, num, ↓gos, gop, Nat.reduceBEq, Nat.reduceAdd, Nat.reduceSub, Nat.reduceLeDiff, Nat.reduceMul, Int.reduceLE, Int.reduceLT, Int.reduceNe, Int.reduceToNat]
  obtain ⟨hi, hP'⟩ := hi
  refine ⟨fun h2 => optP_at 0 (by omega) (optP_at 0 (by omega) (call_ret (eq41 hP _ _) rfl rfl ?_)), fun h2 => endb ?_⟩
  · by_cases hb : l.getD i 0 = m.getD i 0
    · simp only [hb, decide_true, ↓gos, gop, Nat.reduceBEq, Nat.reduceAdd, Nat.reduceSub, Nat.reduceLeDiff, Nat.reduceMul, Int.reduceLE, Int.reduceLT, Int.reduceNe, Int.reduceToNat]
      intro v hv
      rw [wrap_i64 (by omega) (by omega)] at hv
      refine rnd_s (i + 1) rfl (Nat.le_refl _) ⟨rfl, rfl, rfl, by show DV.int .i64 v = _; rw [hv]; rfl, trivial⟩ ⟨by omega, fun j hj => ?_⟩ (by omega)
      by_cases hji : j = i
      · subst hji; exact hb
      · exact hP' j (by omega)
    · simp only [hb, decide_false, ↓gos, gop, Nat.reduceBEq, Nat.reduceAdd, Nat.reduceSub, Nat.reduceLeDiff, Nat.reduceMul, Int.reduceLE, Int.reduceLT, Int.reduceNe, Int.reduceToNat]
      refine endb ?_
      symm
      rw [decide_eq_false_iff_not]
      rintro rfl
      exact hb rfl
  · symm
    rw [decide_eq_true_iff]
    refine List.ext_getElem (by omega) fun j h3 h4 => ?_
    have := hP' j (by omega)
    simpa [h3, h4] using this
theorem plain18 (l m : List Int) (hl : l.length < 1000000000000) (hm : m.length < 1000000000000) : ACalls E 18 [] [.sl 1 (l.map num), .sl 1 (m.map num)] fun h d => h = [] ∧ d = .bool (decide (l = m)) := by
  refine acalls_go (hP ▸ c18) (by simp [f18]) ?_
  simp only [f18, ↓gos, gop, Nat.reduceBEq, Nat.reduceAdd, Nat.reduceSub, Nat.reduceLeDiff, Nat.reduceMul, Int.reduceLE, Int.reduceLT, Int.reduceNe, Int.reduceToNat]
  refine call_ret (same40 hP l m hl hm) rfl rfl ?_
  simp only [↓gos, gop, Nat.reduceBEq, Nat.reduceAdd, Nat.reduceSub, Nat.reduceLeDiff, Nat.reduceMul, Int.reduceLE, Int.reduceLT, Int.reduceNe, Int.reduceToNat]
  exact endb rfl
end
end Go.Proofs.Ut
