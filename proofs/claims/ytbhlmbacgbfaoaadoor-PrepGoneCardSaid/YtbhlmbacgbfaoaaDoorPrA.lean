/- Ranges, at the Door program (written by wip/tools/prnum.py out of RgA, RgB). -/
import Derived.Test.YtbhlmbacgbfaoaaDoorPrFuns
import Derived.Test.YtbhlmbacgbfaoaaDoorUtF
set_option linter.all false
namespace Go.Proofs.Ut
open Go.Ai Classical
set_option linter.unusedSimpArgs false
set_option maxHeartbeats 1000000
set_option maxRecDepth 100000
def rg (r : Int × Int) : List DV := [.int .i64 r.1, .int .i64 r.2]
abbrev Ret (f : Nat) (args : List DV) (D : DV) : Prop := ACalls ED f [] args fun h d => h = [] ∧ d = D
abbrev Row (f : Nat) (args : List DV) (L : List (Int × Int)) : Prop := ACalls ED f [] args fun h d => h = [.arr 2 (L.map rg)] ∧ d = .osl 2 0 0 L.length none
def hasB (r : Int × Int) (c : Int) : Bool := decide (r.1 ≤ c) && decide (c ≤ r.2)
theorem has_calls (r : Int × Int) (c : Int) : Ret 78 [.agg (rg r), .int .i64 c] (.bool (hasB r c)) := by
  refine acalls_go c78 (by simp [f78]) ?_
  simp only [f78, rg, ↓gos, gop, Nat.reduceBEq, Nat.reduceAdd, Nat.reduceSub, Nat.reduceLeDiff, Nat.reduceMul, Int.reduceLE, Int.reduceLT, Int.reduceNe, Int.reduceToNat]
  exact ⟨fun h1 => ⟨fun h2 => endb (by simp [h1, h2, hasB]), fun h2 => endb (by simp [h1, h2, hasB])⟩, fun h1 => endb (by simp [h1, hasB])⟩
theorem weaken {E : Env} {kp : Bool} {f : Nat} {h : List AObj} {args args' : List DV} {post : List AObj → DV → Prop} (hc : ACallsK E kp f h args post) (hl : args'.length = args.length)
    (hr : ∀ (i : Nat) d' d, args'[i]? = some d' → args[i]? = some d → ∀ (w : World) (ok : Nat → Prop) (β : Ai.Loc) v, Rep w ok β v d' → Rep w ok β v d) : ACallsK E kp f h args' post := by
  refine ⟨hc.1, fun w ok β vs hg hn hh hlen hv => hc.2 w ok β vs hg hn hh (hlen.trans hl) fun i v d hi hd => ?_⟩
  have hlt : i < args'.length := by rw [hl]; exact (List.getElem?_eq_some_iff.1 hd).1
  exact hr i args'[i] d (List.getElem?_eq_getElem hlt) hd w ok β v (hv i v _ hi (List.getElem?_eq_getElem hlt))
theorem nils_sl {w : World} {ok : Nat → Prop} {β : Ai.Loc} {v : Value} {k sz : Nat} (hz : 0 < sz) (h : Rep w ok β v (.nils k)) : Rep w ok β v (.sl sz []) := by
  cases h
  exact .sl none 0 0 sz [] 0 0 (fun _ => undef) rfl (Nat.le_refl _) hz (by simp) (fun h => by omega) (fun k h => by simp at h) (fun k h => by simp at h) (fun k d h => by simp at h)

theorem found_calls (l : List (Int × Int)) (c : Int) (hl : l.length < 1000000000000) : Ret 77 [.sl 2 (l.map rg), .int .i64 c, .fn 78 []] (.bool (l.any (hasB · c))) := by
  refine acalls_go c77 (by simp [f77]) ?_
  simp only [f77, rg, ↓gos, gop, Nat.reduceBEq, Nat.reduceAdd, Nat.reduceSub, Nat.reduceLeDiff, Nat.reduceMul, Int.reduceLE, Int.reduceLT, Int.reduceNe, Int.reduceToNat]
  refine goN_lp (γ := Nat) (fun i => [(1, .int .i64 c), (2, .fn 78 []), (9, .sl 2 (l.map rg)), (10, .int .i64 l.length), (11, .int .i64 i)]) (fun _ => []) (fun i => i ≤ l.length ∧ ∀ j, j < i → hasB (l.getD j (0, 0)) c = false) (fun i => l.length - i) 0 (wks rfl (Nat.le_refl _) ⟨rfl, rfl, rfl, rfl, rfl, trivial⟩) (by simp) fun i hi => ?_
  simp only [f77l0, rg, ↓gos, gop, Nat.reduceBEq, Nat.reduceAdd, Nat.reduceSub, Nat.reduceLeDiff, Nat.reduceMul, Int.reduceLE, Int.reduceLT, Int.reduceNe, Int.reduceToNat]
  obtain ⟨hi, hP⟩ := hi
  refine ⟨fun h1 => optP_at (0, 0) (by omega) (call_ret (has_calls _ c) rfl rfl ?_), fun h1 => endb ?_⟩
  · cases hb : hasB (l.getD i (0, 0)) c
    · simp only [↓gos, gop, Nat.reduceBEq, Nat.reduceAdd, Nat.reduceSub, Nat.reduceLeDiff, Nat.reduceMul, Int.reduceLE, Int.reduceLT, Int.reduceNe, Int.reduceToNat]
      intro v hv
      rw [wrap_i64 (by omega) (by omega)] at hv
      refine rnd_d 0 (i + 1) rfl (Nat.le_refl _) ⟨rfl, rfl, rfl, rfl, rfl, rfl, rfl, rfl, by simp [hv, slots], rfl, trivial⟩ rfl ⟨by omega, fun j hj => ?_⟩ (by omega)
      by_cases hji : j = i
      · subst hji; exact hb
      · exact hP j (by omega)
    · simp only [↓gos, gop, Nat.reduceBEq, Nat.reduceAdd, Nat.reduceSub, Nat.reduceLeDiff, Nat.reduceMul, Int.reduceLE, Int.reduceLT, Int.reduceNe, Int.reduceToNat]
      refine endb ?_
      symm
      rw [List.any_eq_true]
      exact ⟨l.getD i (0, 0), by simp [show i < l.length by omega], hb⟩
  · symm
    rw [List.any_eq_false]
    intro x hx
    obtain ⟨j, hj, rfl⟩ := List.getElem_of_mem hx
    have := hP j (by omega)
    simpa [hj] using this
theorem in_calls (l : List (Int × Int)) (c : Int) (hl : l.length < 1000000000000) : Ret 50 [.sl 2 (l.map rg), .int .i64 c] (.bool (l.any (hasB · c))) := by
  refine acalls_go c50 (by simp [f50]) ?_
  simp only [f50, ↓gos, gop, Nat.reduceBEq, Nat.reduceAdd, Nat.reduceSub, Nat.reduceLeDiff, Nat.reduceMul, Int.reduceLE, Int.reduceLT, Int.reduceNe, Int.reduceToNat]
  refine call_ret (found_calls l c hl) rfl rfl ?_
  simp only [↓gos, gop, Nat.reduceBEq, Nat.reduceAdd, Nat.reduceSub, Nat.reduceLeDiff, Nat.reduceMul, Int.reduceLE, Int.reduceLT, Int.reduceNe, Int.reduceToNat]
  exact endb rfl
theorem in2_calls (l : List (Int × Int)) (c : Int) (hl : l.length < 1000000000000) : Ret 96 [.sl 2 (l.map rg), .int .i64 c] (.bool (l.any (hasB · c))) := by
  refine acalls_go c96 (by simp [f96]) ?_
  simp only [f96, ↓gos, gop, Nat.reduceBEq, Nat.reduceAdd, Nat.reduceSub, Nat.reduceLeDiff, Nat.reduceMul, Int.reduceLE, Int.reduceLT, Int.reduceNe, Int.reduceToNat]
  refine goN_lp (γ := Nat) (fun i => [(0, .sl 2 (l.map rg)), (1, .int .i64 c), (5, .int .i64 i)]) (fun _ => []) (fun i => i ≤ l.length ∧ ∀ j, j < i → hasB (l.getD j (0, 0)) c = false) (fun i => l.length - i) 0 (wks rfl (Nat.le_refl _) ⟨rfl, rfl, rfl, trivial⟩) (by simp) fun i hi => ?_
  simp only [f96l0, rg, ↓gos, gop, Nat.reduceBEq, Nat.reduceAdd, Nat.reduceSub, Nat.reduceLeDiff, Nat.reduceMul, Int.reduceLE, Int.reduceLT, Int.reduceNe, Int.reduceToNat]
  obtain ⟨hi, hP⟩ := hi
  refine ⟨fun h1 => optP_at (0, 0) (by omega) ⟨fun h2 => optP_at (0, 0) (by omega) ⟨fun h3 => endb ?_, fun h3 v hv => ?_⟩, fun h2 v hv => ?_⟩, fun h1 => endb ?_⟩
  · symm
    rw [List.any_eq_true]
    exact ⟨l.getD i (0, 0), by simp [show i < l.length by omega], by unfold hasB; rw [decide_eq_true h2, decide_eq_true h3]; rfl⟩
  · rw [wrap_i64 (by omega) (by omega)] at hv
    refine rnd_s (i + 1) rfl (Nat.le_refl _) ⟨rfl, rfl, by simp [hv, slots], trivial⟩ ⟨by omega, fun j hj => ?_⟩ (by omega)
    by_cases hji : j = i
    · subst hji; simp only [hasB, h3, decide_false, Bool.and_false]
    · exact hP j (by omega)
  · rw [wrap_i64 (by omega) (by omega)] at hv
    refine rnd_s (i + 1) rfl (Nat.le_refl _) ⟨rfl, rfl, by simp [hv, slots], trivial⟩ ⟨by omega, fun j hj => ?_⟩ (by omega)
    by_cases hji : j = i
    · subst hji; simp only [hasB, h2, decide_false, Bool.false_and]
    · exact hP j (by omega)
  · symm
    rw [List.any_eq_false]
    intro x hx
    obtain ⟨j, hj, rfl⟩ := List.getElem_of_mem hx
    have := hP j (by omega)
    simpa [hj] using this
theorem pair_calls (a b : Int) : Ret 104 [.int .i64 a, .int .i64 b] (.agg (rg (a, b))) := by
  refine acalls_go c104 (by simp [f104]) ?_
  simp only [f104, rg, ↓gos, gop, Nat.reduceBEq, Nat.reduceAdd, Nat.reduceSub, Nat.reduceLeDiff, Nat.reduceMul, Int.reduceLE, Int.reduceLT, Int.reduceNe, Int.reduceToNat]
  exact end1 rfl rfl
def prs : List Int → List (Int × Int)
  | a :: b :: l => (a, b) :: prs l
  | _ => []
theorem pairs_calls (l : List Int) (hl : l.length < 10000) : Row 103 [.agg [.sl 1 (l.map num)], .fn 104 []] (prs l) := by
  refine acalls_go c103 (by simp [f103]) ?_
  simp only [f103, ↓gos, gop, Nat.reduceBEq, Nat.reduceAdd, Nat.reduceSub, Nat.reduceLeDiff, Nat.reduceMul, Int.reduceLE, Int.reduceLT, Int.reduceNe, Int.reduceToNat]
  refine goN_lp (γ := List (Int × Int) × List Int) (fun g => [(1, .fn 104 []), (5, .osl 2 2 0 g.1.length none), (6, .sl 1 (g.2.map num))]) (fun g => [.box [.sl 1 (l.map num)], .arr 2 [], .arr 2 (g.1.map rg)]) (fun g => g.1 ++ prs g.2 = prs l ∧ g.1.length + g.2.length ≤ l.length) (fun g => g.2.length) ([], l) (wks rfl (Nat.zero_le _) ⟨rfl, rfl, rfl, trivial⟩) (by simp) fun g hg => ?_
  obtain ⟨acc, rest⟩ := g
  obtain ⟨hg, hlen⟩ := hg
  rcases rest with _ | ⟨a, _ | ⟨b, r⟩⟩
  · simp only [f103l0, num, ↓gos, gop, Nat.reduceBEq, Nat.reduceAdd, Nat.reduceSub, Nat.reduceLeDiff, Nat.reduceMul, Int.reduceLE, Int.reduceLT, Int.reduceNe, Int.reduceToNat]
    exact end_row rfl (by simpa [prs] using congrArg (List.map rg) hg) (by simpa [prs] using congrArg List.length hg)
  · simp only [f103l0, num, ↓gos, gop, Nat.reduceBEq, Nat.reduceAdd, Nat.reduceSub, Nat.reduceLeDiff, Nat.reduceMul, Int.reduceLE, Int.reduceLT, Int.reduceNe, Int.reduceToNat]
    exact end_row rfl (by simpa [prs] using congrArg (List.map rg) hg) (by simpa [prs] using congrArg List.length hg)
  · simp only [f103l0, num, ↓gos, gop, Nat.reduceBEq, Nat.reduceAdd, Nat.reduceSub, Nat.reduceLeDiff, Nat.reduceMul, Int.reduceLE, Int.reduceLT, Int.reduceNe, Int.reduceToNat]
    refine ⟨fun _ => call_ret (pair_calls a b) rfl rfl ?_, fun h => by omega⟩
    simp only [rg, ↓gos, gop, Nat.reduceBEq, Nat.reduceAdd, Nat.reduceSub, Nat.reduceLeDiff, Nat.reduceMul, Int.reduceLE, Int.reduceLT, Int.reduceNe, Int.reduceToNat]
    have hd : acc.length + (r.length + 2) ≤ l.length := by simpa using hlen
    refine ⟨by omega, by omega, by omega, ?_⟩
    refine rnd_d 3 (acc ++ [(a, b)], r) ?_ (Nat.zero_le _) ⟨rfl, rfl, ?_, rfl, ?_, rfl, trivial⟩ rfl ⟨?_, ?_⟩ (by simp; omega)
    · simp [rg, num]
    · simp [slots]
    · have e : List.take (r.length + 1 + 1 - 2) (r.map num) = r.map num := List.take_of_length_le (by simp)
      rw [e]; rfl
    · simpa [prs] using hg
    · simp; omega
theorem made_calls (l : List Int) (hl : l.length < 10000) : Row 79 [.sl 1 (l.map num)] (prs l) := by
  refine acalls_go c79 (by simp [f79]) ?_
  simp only [f79, ↓gos, gop, Nat.reduceBEq, Nat.reduceAdd, Nat.reduceSub, Nat.reduceLeDiff, Nat.reduceMul, Int.reduceLE, Int.reduceLT, Int.reduceNe, Int.reduceToNat]
  refine call_new (pairs_calls l hl) (by simp [DV.closed, DV.closed.closedAll]) ?_
  simp only [DV.ren, renO, ↓gos, gop, Nat.reduceBEq, Nat.reduceAdd, Nat.reduceSub, Nat.reduceLeDiff, Nat.reduceMul, Int.reduceLE, Int.reduceLT, Int.reduceNe, Int.reduceToNat]
  exact end_row rfl rfl rfl
theorem table_calls (l : List Int) (hl : l.length < 10000) (he : l.length % 2 = 0) : Row 111 [.sl 1 (l.map num)] (prs l) := by
  refine acalls_go c111 (by simp [f111]) ?_
  simp only [f111, ↓gos, gop, Nat.reduceBEq, Nat.reduceAdd, Nat.reduceSub, Nat.reduceLeDiff, Nat.reduceMul, Int.reduceLE, Int.reduceLT, Int.reduceNe, Int.reduceToNat]
  refine goN_lp (γ := List (Int × Int) × Nat) (fun g => [(0, .sl 1 (l.map num)), (3, .osl 2 1 0 g.1.length none), (4, .int .i64 (g.2 : Nat))]) (fun g => [.arr 2 [], .arr 2 (g.1.map rg)]) (fun g => g.1 ++ prs (l.drop g.2) = prs l ∧ g.2 ≤ l.length ∧ g.2 % 2 = 0 ∧ g.1.length ≤ g.2) (fun g => l.length - g.2) ([], 0) (wks rfl (Nat.zero_le _) ⟨rfl, rfl, rfl, trivial⟩) (by simp) fun g hg => ?_
  simp only [f111l0, num, rg, ↓gos, gop, Nat.reduceBEq, Nat.reduceAdd, Nat.reduceSub, Nat.reduceLeDiff, Nat.reduceMul, Int.reduceLE, Int.reduceLT, Int.reduceNe, Int.reduceToNat]
  obtain ⟨acc, k⟩ := g
  obtain ⟨hg, hk, hm, hlen⟩ := hg
  simp only at hg hk hm hlen ⊢
  refine ⟨fun h1 => optP_at 0 (by omega) fun v hv => ⟨?_, optP_at 0 ?_ ⟨by omega, by omega, fun v2 hv2 => ?_⟩⟩, fun h1 => ?_⟩
  · rw [wrap_i64 (by omega) (by omega)] at hv; omega
  · rw [wrap_i64 (by omega) (by omega)] at hv; omega
  · rw [wrap_i64 (by omega) (by omega)] at hv hv2
    have e1 : v.toNat = k + 1 := by omega
    rw [e1]
    have hdr : l.drop k = l.getD k 0 :: l.getD (k + 1) 0 :: l.drop (k + 2) := by
      have h2 : k < l.length := by omega
      have h3 : k + 1 < l.length := by omega
      rw [List.drop_eq_getElem_cons h2, List.drop_eq_getElem_cons h3]
      simp [h2, h3]
    refine rnd_d 2 (acc ++ [(l.getD k 0, l.getD (k + 1) 0)], k + 2) ?_ (Nat.zero_le _) ⟨rfl, rfl, ?_, rfl, ?_, rfl, trivial⟩ rfl ⟨?_, ?_⟩ (by simp; omega)
    · simp [rg]
    · simp [slots]
    · simp [slots, hv2]
    · rw [hdr] at hg
      simpa [prs] using hg
    · simp; omega
  · have : l.drop k = [] := by simp; omega
    rw [this] at hg
    exact end_row rfl (by simpa [prs] using congrArg (List.map rg) hg) (by simpa [prs] using congrArg List.length hg)
def lettersL : List Int := [65, 90, 97, 122, 192, 214, 216, 246, 248, 591, 880, 1327, 19968, 40959]
theorem letters51_calls : Row 51 [] (prs lettersL) := by
  refine acalls_go c51 (by simp [f51]) ?_
  simp only [f51, ↓gos, gop, Nat.reduceBEq, Nat.reduceAdd, Nat.reduceSub, Nat.reduceLeDiff, Nat.reduceMul, Int.reduceLE, Int.reduceLT, Int.reduceNe, Int.reduceToNat]
  refine call_lend (made_calls lettersL (by decide)) rfl rfl ?_
  simp only [DV.ren, renO, ↓gos, gop, Nat.reduceBEq, Nat.reduceAdd, Nat.reduceSub, Nat.reduceLeDiff, Nat.reduceMul, Int.reduceLE, Int.reduceLT, Int.reduceNe, Int.reduceToNat]
  exact end_row rfl rfl rfl
theorem letters100_calls : Row 100 [] (prs lettersL) := by
  refine acalls_go c100 (by simp [f100]) ?_
  simp only [f100, ↓gos, gop, Nat.reduceBEq, Nat.reduceAdd, Nat.reduceSub, Nat.reduceLeDiff, Nat.reduceMul, Int.reduceLE, Int.reduceLT, Int.reduceNe, Int.reduceToNat]
  refine call_lend (table_calls lettersL (by decide) (by decide)) rfl rfl ?_
  simp only [DV.ren, renO, ↓gos, gop, Nat.reduceBEq, Nat.reduceAdd, Nat.reduceSub, Nat.reduceLeDiff, Nat.reduceMul, Int.reduceLE, Int.reduceLT, Int.reduceNe, Int.reduceToNat]
  exact end_row rfl rfl rfl
def bannedL : List Int := [0, 31, 127, 160, 5760, 5760, 8192, 8202, 8232, 8239, 8287, 8287, 12288, 12288, 57344, 63743, 65533, 65535, 917504, 917631, 983040, 1114111]
theorem banned71_calls : Row 71 [] (prs bannedL) := by
  refine acalls_go c71 (by simp [f71]) ?_
  simp only [f71, ↓gos, gop, Nat.reduceBEq, Nat.reduceAdd, Nat.reduceSub, Nat.reduceLeDiff, Nat.reduceMul, Int.reduceLE, Int.reduceLT, Int.reduceNe, Int.reduceToNat]
  refine call_lend (made_calls bannedL (by decide)) rfl rfl ?_
  simp only [DV.ren, renO, ↓gos, gop, Nat.reduceBEq, Nat.reduceAdd, Nat.reduceSub, Nat.reduceLeDiff, Nat.reduceMul, Int.reduceLE, Int.reduceLT, Int.reduceNe, Int.reduceToNat]
  exact end_row rfl rfl rfl
theorem banned98_calls : Row 98 [] (prs bannedL) := by
  refine acalls_go c98 (by simp [f98]) ?_
  simp only [f98, ↓gos, gop, Nat.reduceBEq, Nat.reduceAdd, Nat.reduceSub, Nat.reduceLeDiff, Nat.reduceMul, Int.reduceLE, Int.reduceLT, Int.reduceNe, Int.reduceToNat]
  refine call_lend (table_calls bannedL (by decide) (by decide)) rfl rfl ?_
  simp only [DV.ren, renO, ↓gos, gop, Nat.reduceBEq, Nat.reduceAdd, Nat.reduceSub, Nat.reduceLeDiff, Nat.reduceMul, Int.reduceLE, Int.reduceLT, Int.reduceNe, Int.reduceToNat]
  exact end_row rfl rfl rfl
def rightLeftL : List Int := [1424, 1535, 1536, 1791, 64285, 64335]
theorem rightLeft52_calls : Row 52 [] (prs rightLeftL) := by
  refine acalls_go c52 (by simp [f52]) ?_
  simp only [f52, ↓gos, gop, Nat.reduceBEq, Nat.reduceAdd, Nat.reduceSub, Nat.reduceLeDiff, Nat.reduceMul, Int.reduceLE, Int.reduceLT, Int.reduceNe, Int.reduceToNat]
  refine call_lend (made_calls rightLeftL (by decide)) rfl rfl ?_
  simp only [DV.ren, renO, ↓gos, gop, Nat.reduceBEq, Nat.reduceAdd, Nat.reduceSub, Nat.reduceLeDiff, Nat.reduceMul, Int.reduceLE, Int.reduceLT, Int.reduceNe, Int.reduceToNat]
  exact end_row rfl rfl rfl
theorem rightLeft101_calls : Row 101 [] (prs rightLeftL) := by
  refine acalls_go c101 (by simp [f101]) ?_
  simp only [f101, ↓gos, gop, Nat.reduceBEq, Nat.reduceAdd, Nat.reduceSub, Nat.reduceLeDiff, Nat.reduceMul, Int.reduceLE, Int.reduceLT, Int.reduceNe, Int.reduceToNat]
  refine call_lend (table_calls rightLeftL (by decide) (by decide)) rfl rfl ?_
  simp only [DV.ren, renO, ↓gos, gop, Nat.reduceBEq, Nat.reduceAdd, Nat.reduceSub, Nat.reduceLeDiff, Nat.reduceMul, Int.reduceLE, Int.reduceLT, Int.reduceNe, Int.reduceToNat]
  exact end_row rfl rfl rfl
def goneL : List Int := [173, 173, 847, 847, 6150, 6150, 8203, 8205, 8288, 8288, 65024, 65039, 65279, 65279]
theorem gone80_calls : Row 80 [] (prs goneL) := by
  refine acalls_go c80 (by simp [f80]) ?_
  simp only [f80, ↓gos, gop, Nat.reduceBEq, Nat.reduceAdd, Nat.reduceSub, Nat.reduceLeDiff, Nat.reduceMul, Int.reduceLE, Int.reduceLT, Int.reduceNe, Int.reduceToNat]
  refine call_lend (made_calls goneL (by decide)) rfl rfl ?_
  simp only [DV.ren, renO, ↓gos, gop, Nat.reduceBEq, Nat.reduceAdd, Nat.reduceSub, Nat.reduceLeDiff, Nat.reduceMul, Int.reduceLE, Int.reduceLT, Int.reduceNe, Int.reduceToNat]
  exact end_row rfl rfl rfl
theorem gone97_calls : Row 97 [] (prs goneL) := by
  refine acalls_go c97 (by simp [f97]) ?_
  simp only [f97, ↓gos, gop, Nat.reduceBEq, Nat.reduceAdd, Nat.reduceSub, Nat.reduceLeDiff, Nat.reduceMul, Int.reduceLE, Int.reduceLT, Int.reduceNe, Int.reduceToNat]
  refine call_lend (table_calls goneL (by decide) (by decide)) rfl rfl ?_
  simp only [DV.ren, renO, ↓gos, gop, Nat.reduceBEq, Nat.reduceAdd, Nat.reduceSub, Nat.reduceLeDiff, Nat.reduceMul, Int.reduceLE, Int.reduceLT, Int.reduceNe, Int.reduceToNat]
  exact end_row rfl rfl rfl
end Go.Proofs.Ut
