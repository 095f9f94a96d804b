/- Rows held against each other; whether they are not too much. -/
import Derived.Test.YtbnmhlienklfpaaGreatDoorZFoAny
set_option linter.all false
namespace Go.Proofs.Ut
open Go.Ai Classical Go.Shelf Go.RowKit
set_option linter.unusedSimpArgs false
set_option linter.unusedVariables false
set_option maxHeartbeats 1000000
set_option maxRecDepth 100000
def sv (s : List UInt8) : List DV := [.str s]
theorem eq89 (x y : List UInt8) : DRet 40 [.str x, .str y] (.bool (decide (x = y))) := by
  refine acalls_go c40 (by simp [f40]) ?_
  simp only [f40, ↓gos, gop, Nat.reduceBEq, Nat.reduceAdd, Nat.reduceSub, Nat.reduceLeDiff, Nat.reduceMul, Int.reduceLE, Int.reduceLT, Int.reduceNe, Int.reduceToNat]
  exact ⟨fun h => endb (by simp [h]), fun h => endb (by simp [h])⟩
theorem same_at {α : Type} [DecidableEq α] (a b : List α) (d : α) (hl : a.length = b.length) (h : ∀ j, j < a.length → a.getD j d = b.getD j d) : a = b := by
  apply List.ext_getElem hl
  intro i h1 h2
  have := h i h1
  simpa [List.getD_eq_getElem?_getD, h1, h2] using this
theorem same88 (a b : List (List UInt8)) (ha : a.length < 100000000) (hb : b.length < 100000000) : DRet 39 [.sl 1 (a.map sv), .sl 1 (b.map sv), .fn 40 []] (.bool (decide (a = b))) := by
  refine acalls_go c39 (by simp [f39]) ?_
  simp only [f39, ↓gos, gop, Nat.reduceBEq, Nat.reduceAdd, Nat.reduceSub, Nat.reduceLeDiff, Nat.reduceMul, Int.reduceLE, Int.reduceLT, Int.reduceNe, Int.reduceToNat]
  refine ⟨fun h => ?_, fun h => ?_⟩
  · refine endb ?_
    rw [decide_eq_false (fun e => h (by rw [e]))]
  · refine goN_lp (γ := Nat) (fun i => [(7, .int .i64 (i : Nat)), (0, .sl 1 (a.map sv)), (1, .sl 1 (b.map sv)), (2, .fn 40 [])]) (fun _ => []) (fun i => i ≤ a.length ∧ ∀ j, j < i → a.getD j [] = b.getD j []) (fun i => a.length - i) 0
      (wks rfl (by simp) ⟨rfl, rfl, rfl, rfl, trivial⟩) ⟨by simp, fun j hj => by omega⟩ fun i hi => ?_
    obtain ⟨p1, p2⟩ := hi
    simp only [f39l0, ↓gos, gop, Nat.reduceBEq, Nat.reduceAdd, Nat.reduceSub, Nat.reduceLeDiff, Nat.reduceMul, Int.reduceLE, Int.reduceLT, Int.reduceNe, Int.reduceToNat]
    refine ⟨fun h1 => optP_at [] (by omega) ?_, fun h1 => ?_⟩
    · simp only [sv, ↓gos, gop, Nat.reduceBEq, Nat.reduceAdd, Nat.reduceSub, Nat.reduceLeDiff, Nat.reduceMul, Int.reduceLE, Int.reduceLT, Int.reduceNe, Int.reduceToNat]
      refine optP_at [] (by omega) ?_
      refine call_ret (eq89 _ _) rfl rfl ?_
      simp only [↓gos, gop, Nat.reduceBEq, Nat.reduceAdd, Nat.reduceSub, Nat.reduceLeDiff, Nat.reduceMul, Int.reduceLE, Int.reduceLT, Int.reduceNe, Int.reduceToNat]
      refine ⟨fun h2 => endb ?_, fun h2 v hv => ?_⟩
      · rw [decide_eq_false (fun e => h2 (by rw [e]))]
      · rw [wrap_i64 (by omega) (by omega)] at hv
        have hv : v = ((i + 1 : Nat) : Int) := by omega
        subst hv
        refine rnd_s (i + 1) rfl (by simp) ⟨rfl, rfl, rfl, rfl, trivial⟩ ⟨by omega, fun j hj => ?_⟩ (by omega)
        by_cases e : j = i
        · subst e; exact h2
        · exact p2 j (by omega)
    · refine endb ?_
      rw [decide_eq_true (same_at a b [] (by omega) fun j hj => p2 j (by omega))]
theorem plain62 (a b : List (List UInt8)) (ha : a.length < 100000000) (hb : b.length < 100000000) : DRet 13 [.sl 1 (a.map sv), .sl 1 (b.map sv)] (.bool (decide (a = b))) := by
  refine acalls_go c13 (by simp [f13]) ?_
  simp only [f13, ↓gos, gop, Nat.reduceBEq, Nat.reduceAdd, Nat.reduceSub, Nat.reduceLeDiff, Nat.reduceMul, Int.reduceLE, Int.reduceLT, Int.reduceNe, Int.reduceToNat]
  refine call_ret (same88 a b ha hb) rfl rfl ?_
  simp only [↓gos, gop, Nat.reduceBEq, Nat.reduceAdd, Nat.reduceSub, Nat.reduceLeDiff, Nat.reduceMul, Int.reduceLE, Int.reduceLT, Int.reduceNe, Int.reduceToNat]
  exact endb rfl
end Go.Proofs.Ut
