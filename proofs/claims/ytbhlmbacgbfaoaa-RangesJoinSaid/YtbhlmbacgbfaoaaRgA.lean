import Derived.Test.YtbhlmbacgbfaoaaAiEnd
import Derived.Test.YtbhlmbacgbfaoaaRgFuns
set_option linter.all false
namespace Go.Proofs.Rg
open Go.Ai Classical
set_option linter.unusedSimpArgs false
set_option maxHeartbeats 1000000
noncomputable def E0 : Env := ⟨Try.prog, 0, fun _ => True, fun _ _ _ _ => trivial⟩
def rg (r : Int × Int) : List DV := [.int .i64 r.1, .int .i64 r.2]
/-- A function hands back one value. -/
abbrev Ret (f : Nat) (args : List DV) (D : DV) : Prop := ACalls E0 f [] args fun h d => h = [] ∧ d = D
def hasB (r : Int × Int) (c : Int) : Bool := decide (r.1 ≤ c) && decide (c ≤ r.2)
theorem has_calls (r : Int × Int) (c : Int) : Ret 27 [.agg (rg r), .int .i64 c] (.bool (hasB r c)) := by
  refine acalls_go c27 (by simp [f27]) ?_
  simp only [f27, rg, ↓gos, gop, Nat.reduceBEq, Nat.reduceAdd, Nat.reduceSub, Nat.reduceLeDiff, Nat.reduceMul, Int.reduceLE, Int.reduceLT, Int.reduceNe, Int.reduceToNat]
  exact ⟨fun h1 => ⟨fun h2 => endb (by simp [h1, h2, hasB]), fun h2 => endb (by simp [h1, h2, hasB])⟩, fun h1 => endb (by simp [h1, hasB])⟩
def okAt (l : List (Int × Int)) (j : Nat) : Prop := (l.getD j (0, 0)).1 ≤ (l.getD j (0, 0)).2 ∧ (0 < j → (l.getD (j - 1) (0, 0)).2 < (l.getD j (0, 0)).1)
def Rt (l : List (Int × Int)) : Prop := ∀ j, j < l.length → okAt l j
theorem right_calls (l : List (Int × Int)) (hl : l.length < 1000000000000) : Ret 9 [.sl 2 (l.map rg)] (.bool (decide (Rt l))) := by
  refine acalls_go c9 (by simp [f9]) ?_
  simp only [f9, rg, ↓gos, gop, Nat.reduceBEq, Nat.reduceAdd, Nat.reduceSub, Nat.reduceLeDiff, Nat.reduceMul, Int.reduceLE, Int.reduceLT, Int.reduceNe, Int.reduceToNat]
  refine goN_lp (γ := Nat) (fun i => [(0, .sl 2 (l.map rg)), (5, .sl 2 (l.map rg)), (6, .int .i64 l.length), (7, .int .i64 i)]) (fun _ => []) (fun i => i ≤ l.length ∧ ∀ j, j < i → okAt l j) (fun i => l.length - i) 0 (wks rfl (Nat.le_refl _) ⟨rfl, rfl, rfl, rfl, trivial⟩) (by simp) fun i hi => ?_
  simp only [f9l0, rg, ↓gos, gop, Nat.reduceBEq, Nat.reduceAdd, Nat.reduceSub, Nat.reduceLeDiff, Nat.reduceMul, Int.reduceLE, Int.reduceLT, Int.reduceNe, Int.reduceToNat]
  obtain ⟨hi, hP⟩ := hi
  refine ⟨fun h1 => ?_, fun h1 => endb ?_⟩
  · have hlt : i < l.length := by omega
    refine optP_at (0, 0) hlt ⟨fun h2 => endb ?_, fun h2 => ⟨fun h3 v hv => ⟨?_, optP_at (0, 0) ?_ ⟨fun h4 => endb ?_, fun h4 v2 hv2 => ?_⟩⟩, fun h3 v2 hv2 => ?_⟩⟩
    · have : ¬ Rt l := fun q => by have := (q i (by omega)).1; omega
      simp [this]
    · rw [wrap_i64 (by omega) (by omega)] at hv; omega
    · rw [wrap_i64 (by omega) (by omega)] at hv; omega
    · rw [wrap_i64 (by omega) (by omega)] at hv
      have e : v.toNat = i - 1 := by omega
      rw [e] at h4
      have : ¬ Rt l := fun q => by have := (q i (by omega)).2 (by omega); omega
      simp [this]
    all_goals rw [wrap_i64 (by omega) (by omega)] at hv2
    · rw [wrap_i64 (by omega) (by omega)] at hv
      have e : v.toNat = i - 1 := by omega
      rw [e] at h4
      refine rnd_d 0 (i + 1) rfl (Nat.le_refl _) ⟨rfl, rfl, rfl, rfl, rfl, rfl, by simp [hv2, slots], rfl, trivial⟩ rfl ⟨by omega, fun j hj => ?_⟩ (by omega)
      by_cases hji : j = i
      · subst hji; exact ⟨by omega, fun _ => by omega⟩
      · exact hP j (by omega)
    · refine rnd_d 0 (i + 1) rfl (Nat.le_refl _) ⟨rfl, rfl, rfl, rfl, rfl, rfl, by simp [hv2, slots], rfl, trivial⟩ rfl ⟨by omega, fun j hj => ?_⟩ (by omega)
      by_cases hji : j = i
      · subst hji; exact ⟨by omega, fun _ => by omega⟩
      · exact hP j (by omega)
  · have : Rt l := fun j hj => hP j (by omega)
    simp [this]

/-- A row that has nothing may come as nil. -/
theorem weaken {E : Env} {kp : Bool} {f : Nat} {h : List AObj} {args args' : List DV} {post : List AObj → DV → Prop} (hc : ACallsK E kp f h args post) (hl : args'.length = args.length)
    (hr : ∀ (i : Nat) d' d, args'[i]? = some d' → args[i]? = some d → ∀ (w : World) (ok : Nat → Prop) (β : Ai.Loc) v, Rep w ok β v d' → Rep w ok β v d) : ACallsK E kp f h args' post := by
  refine ⟨hc.1, fun w ok β vs hg hn hh hlen hv => hc.2 w ok β vs hg hn hh (hlen.trans hl) fun i v d hi hd => ?_⟩
  have hlt : i < args'.length := by rw [hl]; exact (List.getElem?_eq_some_iff.1 hd).1
  exact hr i args'[i] d (List.getElem?_eq_getElem hlt) hd w ok β v (hv i v _ hi (List.getElem?_eq_getElem hlt))
theorem nils_sl {w : World} {ok : Nat → Prop} {β : Ai.Loc} {v : Value} {k sz : Nat} (hz : 0 < sz) (h : Rep w ok β v (.nils k)) : Rep w ok β v (.sl sz []) := by
  cases h
  exact .sl none 0 0 sz [] 0 0 (fun _ => undef) rfl (Nat.le_refl _) hz (by simp) (fun h => by omega) (fun k h => by simp at h) (fun k h => by simp at h) (fun k d h => by simp at h)

/-- What a list has, of one. -/
theorem right2_calls (l : List (Int × Int)) (hl : l.length < 1000000000000) : Ret 10 [.sl 2 (l.map rg)] (.bool (decide (Rt l))) := by
  refine acalls_go c10 (by simp [f10]) ?_
  simp only [f10, rg, ↓gos, gop, Nat.reduceBEq, Nat.reduceAdd, Nat.reduceSub, Nat.reduceLeDiff, Nat.reduceMul, Int.reduceLE, Int.reduceLT, Int.reduceNe, Int.reduceToNat]
  refine goN_lp (γ := Nat) (fun i => [(0, .sl 2 (l.map rg)), (3, .int .i64 i)]) (fun _ => []) (fun i => i ≤ l.length ∧ ∀ j, j < i → okAt l j) (fun i => l.length - i) 0 (wks rfl (Nat.le_refl _) ⟨rfl, rfl, trivial⟩) (by simp) fun i hi => ?_
  simp only [f10l0, rg, ↓gos, gop, Nat.reduceBEq, Nat.reduceAdd, Nat.reduceSub, Nat.reduceLeDiff, Nat.reduceMul, Int.reduceLE, Int.reduceLT, Int.reduceNe, Int.reduceToNat]
  obtain ⟨hi, hP⟩ := hi
  refine ⟨fun h1 => ?_, fun h1 => endb ?_⟩
  · have hlt : i < l.length := by omega
    refine optP_at (0, 0) hlt (optP_at (0, 0) hlt ⟨fun h2 => endb ?_, fun h2 => ⟨fun h3 => optP_at (0, 0) hlt fun v hv => ⟨?_, optP_at (0, 0) ?_ ⟨fun h4 => endb ?_, fun h4 v2 hv2 => ?_⟩⟩, fun h3 v2 hv2 => ?_⟩⟩)
    · have : ¬ Rt l := fun q => by have := (q i (by omega)).1; omega
      simp [this]
    · rw [wrap_i64 (by omega) (by omega)] at hv; omega
    · rw [wrap_i64 (by omega) (by omega)] at hv; omega
    · rw [wrap_i64 (by omega) (by omega)] at hv
      have e : v.toNat = i - 1 := by omega
      rw [e] at h4
      have : ¬ Rt l := fun q => by have := (q i (by omega)).2 (by omega); omega
      simp [this]
    all_goals rw [wrap_i64 (by omega) (by omega)] at hv2
    · rw [wrap_i64 (by omega) (by omega)] at hv
      have e : v.toNat = i - 1 := by omega
      rw [e] at h4
      refine rnd_s (i + 1) rfl (Nat.le_refl _) ⟨rfl, by simp [hv2, slots], trivial⟩ ⟨by omega, fun j hj => ?_⟩ (by omega)
      by_cases hji : j = i
      · subst hji; exact ⟨by omega, fun _ => by omega⟩
      · exact hP j (by omega)
    · refine rnd_s (i + 1) rfl (Nat.le_refl _) ⟨rfl, by simp [hv2, slots], trivial⟩ ⟨by omega, fun j hj => ?_⟩ (by omega)
      by_cases hji : j = i
      · subst hji; exact ⟨by omega, fun _ => by omega⟩
      · exact hP j (by omega)
  · have : Rt l := fun j hj => hP j (by omega)
    simp [this]
theorem found_calls (l : List (Int × Int)) (c : Int) (hl : l.length < 1000000000000) : Ret 26 [.sl 2 (l.map rg), .int .i64 c, .fn 27 []] (.bool (l.any (hasB · c))) := by
  refine acalls_go c26 (by simp [f26]) ?_
  simp only [f26, rg, ↓gos, gop, Nat.reduceBEq, Nat.reduceAdd, Nat.reduceSub, Nat.reduceLeDiff, Nat.reduceMul, Int.reduceLE, Int.reduceLT, Int.reduceNe, Int.reduceToNat]
  refine goN_lp (γ := Nat) (fun i => [(1, .int .i64 c), (2, .fn 27 []), (9, .sl 2 (l.map rg)), (10, .int .i64 l.length), (11, .int .i64 i)]) (fun _ => []) (fun i => i ≤ l.length ∧ ∀ j, j < i → hasB (l.getD j (0, 0)) c = false) (fun i => l.length - i) 0 (wks rfl (Nat.le_refl _) ⟨rfl, rfl, rfl, rfl, rfl, trivial⟩) (by simp) fun i hi => ?_
  simp only [f26l0, rg, ↓gos, gop, Nat.reduceBEq, Nat.reduceAdd, Nat.reduceSub, Nat.reduceLeDiff, Nat.reduceMul, Int.reduceLE, Int.reduceLT, Int.reduceNe, Int.reduceToNat]
  obtain ⟨hi, hP⟩ := hi
  refine ⟨fun h1 => optP_at (0, 0) (by omega) (call_ret (has_calls _ c) rfl rfl ?_), fun h1 => endb ?_⟩
  · cases hb : hasB (l.getD i (0, 0)) c
    · simp only [↓gos, gop, Nat.reduceBEq, Nat.reduceAdd, Nat.reduceSub, Nat.reduceLeDiff, Nat.reduceMul, Int.reduceLE, Int.reduceLT, Int.reduceNe, Int.reduceToNat]
      intro v hv
      rw [wrap_i64 (by omega) (by omega)] at hv
      refine rnd_d 0 (i + 1) rfl (Nat.le_refl _) ⟨rfl, rfl, rfl, rfl, rfl, rfl, rfl, rfl, by simp [hv, slots], rfl, trivial⟩ rfl ⟨by omega, fun j hj => ?_⟩ (by omega)
      by_cases hji : j = i
      · subst hji; exact hb
      · exact hP j (by omega)
    · simp only [↓gos, gop, Nat.reduceBEq, Nat.reduceAdd, Nat.reduceSub, Nat.reduceLeDiff, Nat.reduceMul, Int.reduceLE, Int.reduceLT, Int.reduceNe, Int.reduceToNat]
      refine endb ?_
      symm
      rw [List.any_eq_true]
      exact ⟨l.getD i (0, 0), by simp [show i < l.length by omega], hb⟩
  · symm
    rw [List.any_eq_false]
    intro x hx
    obtain ⟨j, hj, rfl⟩ := List.getElem_of_mem hx
    have := hP j (by omega)
    simpa [hj] using this
theorem in_calls (l : List (Int × Int)) (c : Int) (hl : l.length < 1000000000000) : Ret 11 [.sl 2 (l.map rg), .int .i64 c] (.bool (l.any (hasB · c))) := by
  refine acalls_go c11 (by simp [f11]) ?_
  simp only [f11, ↓gos, gop, Nat.reduceBEq, Nat.reduceAdd, Nat.reduceSub, Nat.reduceLeDiff, Nat.reduceMul, Int.reduceLE, Int.reduceLT, Int.reduceNe, Int.reduceToNat]
  refine call_ret (found_calls l c hl) rfl rfl ?_
  simp only [↓gos, gop, Nat.reduceBEq, Nat.reduceAdd, Nat.reduceSub, Nat.reduceLeDiff, Nat.reduceMul, Int.reduceLE, Int.reduceLT, Int.reduceNe, Int.reduceToNat]
  exact endb rfl
theorem in2_calls (l : List (Int × Int)) (c : Int) (hl : l.length < 1000000000000) : Ret 12 [.sl 2 (l.map rg), .int .i64 c] (.bool (l.any (hasB · c))) := by
  refine acalls_go c12 (by simp [f12]) ?_
  simp only [f12, ↓gos, gop, Nat.reduceBEq, Nat.reduceAdd, Nat.reduceSub, Nat.reduceLeDiff, Nat.reduceMul, Int.reduceLE, Int.reduceLT, Int.reduceNe, Int.reduceToNat]
  refine goN_lp (γ := Nat) (fun i => [(0, .sl 2 (l.map rg)), (1, .int .i64 c), (5, .int .i64 i)]) (fun _ => []) (fun i => i ≤ l.length ∧ ∀ j, j < i → hasB (l.getD j (0, 0)) c = false) (fun i => l.length - i) 0 (wks rfl (Nat.le_refl _) ⟨rfl, rfl, rfl, trivial⟩) (by simp) fun i hi => ?_
  simp only [f12l0, rg, ↓gos, gop, Nat.reduceBEq, Nat.reduceAdd, Nat.reduceSub, Nat.reduceLeDiff, Nat.reduceMul, Int.reduceLE, Int.reduceLT, Int.reduceNe, Int.reduceToNat]
  obtain ⟨hi, hP⟩ := hi
  refine ⟨fun h1 => optP_at (0, 0) (by omega) ⟨fun h2 => optP_at (0, 0) (by omega) ⟨fun h3 => endb ?_, fun h3 v hv => ?_⟩, fun h2 v hv => ?_⟩, fun h1 => endb ?_⟩
  · symm
    rw [List.any_eq_true]
    exact ⟨l.getD i (0, 0), by simp [show i < l.length by omega], by unfold hasB; rw [decide_eq_true h2, decide_eq_true h3]; rfl⟩
  · rw [wrap_i64 (by omega) (by omega)] at hv
    refine rnd_s (i + 1) rfl (Nat.le_refl _) ⟨rfl, rfl, by simp [hv, slots], trivial⟩ ⟨by omega, fun j hj => ?_⟩ (by omega)
    by_cases hji : j = i
    · subst hji; simp only [hasB, h3, decide_false, Bool.and_false]
    · exact hP j (by omega)
  · rw [wrap_i64 (by omega) (by omega)] at hv
    refine rnd_s (i + 1) rfl (Nat.le_refl _) ⟨rfl, rfl, by simp [hv, slots], trivial⟩ ⟨by omega, fun j hj => ?_⟩ (by omega)
    by_cases hji : j = i
    · subst hji; simp only [hasB, h2, decide_false, Bool.false_and]
    · exact hP j (by omega)
  · symm
    rw [List.any_eq_false]
    intro x hx
    obtain ⟨j, hj, rfl⟩ := List.getElem_of_mem hx
    have := hP j (by omega)
    simpa [hj] using this
theorem peq_calls (r s : Int × Int) : Ret 29 [.agg (rg r), .agg (rg s)] (.bool (decide (r = s))) := by
  refine acalls_go c29 (by simp [f29]) ?_
  simp only [f29, rg, ↓gos, gop, Nat.reduceBEq, Nat.reduceAdd, Nat.reduceSub, Nat.reduceLeDiff, Nat.reduceMul, Int.reduceLE, Int.reduceLT, Int.reduceNe, Int.reduceToNat]
  refine ⟨fun h => endb ?_, fun h => endb ?_⟩
  · simp [Prod.ext_iff, h]
  · symm
    rw [decide_eq_false_iff_not, Prod.ext_iff]
    rintro ⟨h1, h2⟩
    simp [h1, h2] at h
theorem same_calls (l m : List (Int × Int)) (hl : l.length < 1000000000000) (hm : m.length < 1000000000000) : Ret 28 [.sl 2 (l.map rg), .sl 2 (m.map rg), .fn 29 []] (.bool (decide (l = m))) := by
  refine acalls_go c28 (by simp [f28]) ?_
  simp only [f28, rg, ↓gos, gop, Nat.reduceBEq, Nat.reduceAdd, Nat.reduceSub, Nat.reduceLeDiff, Nat.reduceMul, Int.reduceLE, Int.reduceLT, Int.reduceNe, Int.reduceToNat]
  refine ⟨fun h1 => endb ?_, fun h1 => ?_⟩
  · symm
    rw [decide_eq_false_iff_not]
    rintro rfl
    exact h1 rfl
  refine goN_lp (γ := Nat) (fun i => [(0, .sl 2 (l.map rg)), (1, .sl 2 (m.map rg)), (2, .fn 29 []), (7, .int .i64 i)]) (fun _ => []) (fun i => i ≤ l.length ∧ ∀ j, j < i → l.getD j (0, 0) = m.getD j (0, 0)) (fun i => l.length - i) 0 (wks rfl (Nat.le_refl _) ⟨rfl, rfl, rfl, rfl, trivial⟩) (by simp) fun i hi => ?_
  simp only [f28l0, rg, ↓gos, gop, Nat.reduceBEq, Nat.reduceAdd, Nat.reduceSub, Nat.reduceLeDiff, Nat.reduceMul, Int.reduceLE, Int.reduceLT, Int.reduceNe, Int.reduceToNat]
  obtain ⟨hi, hP⟩ := hi
  refine ⟨fun h2 => optP_at (0, 0) (by omega) (optP_at (0, 0) (by omega) (call_ret (peq_calls _ _) rfl rfl ?_)), fun h2 => endb ?_⟩
  · by_cases hb : l.getD i (0, 0) = m.getD i (0, 0)
    · simp only [hb, decide_true, ↓gos, gop, Nat.reduceBEq, Nat.reduceAdd, Nat.reduceSub, Nat.reduceLeDiff, Nat.reduceMul, Int.reduceLE, Int.reduceLT, Int.reduceNe, Int.reduceToNat]
      intro v hv
      rw [wrap_i64 (by omega) (by omega)] at hv
      refine rnd_s (i + 1) rfl (Nat.le_refl _) ⟨rfl, rfl, rfl, by simp [hv, slots], trivial⟩ ⟨by omega, fun j hj => ?_⟩ (by omega)
      by_cases hji : j = i
      · subst hji; exact hb
      · exact hP j (by omega)
    · simp only [hb, decide_false, ↓gos, gop, Nat.reduceBEq, Nat.reduceAdd, Nat.reduceSub, Nat.reduceLeDiff, Nat.reduceMul, Int.reduceLE, Int.reduceLT, Int.reduceNe, Int.reduceToNat]
      refine endb ?_
      symm
      rw [decide_eq_false_iff_not]
      rintro rfl
      exact hb rfl
  · symm
    rw [decide_eq_true_iff]
    refine List.ext_getElem (by omega) fun j h3 h4 => ?_
    have := hP j (by omega)
    simpa [h3, h4] using this
theorem plain_calls (l m : List (Int × Int)) (hl : l.length < 1000000000000) (hm : m.length < 1000000000000) : Ret 13 [.sl 2 (l.map rg), .sl 2 (m.map rg)] (.bool (decide (l = m))) := by
  refine acalls_go c13 (by simp [f13]) ?_
  simp only [f13, ↓gos, gop, Nat.reduceBEq, Nat.reduceAdd, Nat.reduceSub, Nat.reduceLeDiff, Nat.reduceMul, Int.reduceLE, Int.reduceLT, Int.reduceNe, Int.reduceToNat]
  refine call_ret (same_calls l m hl hm) rfl rfl ?_
  simp only [↓gos, gop, Nat.reduceBEq, Nat.reduceAdd, Nat.reduceSub, Nat.reduceLeDiff, Nat.reduceMul, Int.reduceLE, Int.reduceLT, Int.reduceNe, Int.reduceToNat]
  exact endb rfl
end Go.Proofs.Rg
