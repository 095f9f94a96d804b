/- The small functions of prep: what becomes of a character, and whether it may stand there. -/
import Derived.Test.YtbhlmbacgbfaoaaDoorPrA
import Derived.Test.YtbhlmbacgbfaoaaDoorUtH
set_option linter.all false
namespace Go.Proofs.Ut
open Go.Ai Classical
set_option linter.unusedSimpArgs false
set_option maxHeartbeats 1000000
set_option maxRecDepth 100000
def inR (L : List Int) (c : Int) : Bool := (prs L).any (hasB · c)
theorem dn_rg {h : List AObj} {i n : Nat} {l : List (Int × Int)} {c : Option Nat} (hi : h[i]? = some (.arr 2 (l.map rg))) (hn : n = l.length) : DV.dn [] h (.osl 2 i 0 n c) = .sl 2 (l.map rg) := dn_osl hi (by simpa using hn)
theorem free_rg (l : List (Int × Int)) : ((DV.osl 2 0 0 l.length none).free && [AObj.arr 2 (l.map rg)].all freeO) = true := by simp [DV.free, freeO, rg]
abbrev NR (f : Nat) (args : List DV) (L : List Int) : Prop := NRow ED f args L
def keptL (c : Int) : List Int := if inR goneL c then [] else [c]
theorem kept53 (c : Int) : NR 53 [.int .i64 c] (keptL c) := by
  refine acalls_go c53 (by simp [f53]) ?_
  simp only [f53, ↓gos, gop, Nat.reduceBEq, Nat.reduceAdd, Nat.reduceSub, Nat.reduceLeDiff, Nat.reduceMul, Int.reduceLE, Int.reduceLT, Int.reduceNe, Int.reduceToNat]
  refine call_lend gone80_calls rfl (free_rg _) ?_
  simp only [DV.ren, renO, ↓gos, gop, Nat.reduceBEq, Nat.reduceAdd, Nat.reduceSub, Nat.reduceLeDiff, Nat.reduceMul, Int.reduceLE, Int.reduceLT, Int.reduceNe, Int.reduceToNat]
  refine call_ret (in_calls (prs goneL) c (by decide)) (by rw [List.map_cons, dn_rg (i := 1) rfl rfl]; rfl) rfl ?_
  unfold keptL
  cases hg : inR goneL c
  · unfold inR at hg
    rw [hg]
    simp only [↓gos, gop, Nat.reduceBEq, Nat.reduceAdd, Nat.reduceSub, Nat.reduceLeDiff, Nat.reduceMul, Int.reduceLE, Int.reduceLT, Int.reduceNe, Int.reduceToNat]
    exact end_row rfl rfl rfl
  · unfold inR at hg
    rw [hg]
    simp only [↓gos, gop, Nat.reduceBEq, Nat.reduceAdd, Nat.reduceSub, Nat.reduceLeDiff, Nat.reduceMul, Int.reduceLE, Int.reduceLT, Int.reduceNe, Int.reduceToNat]
    exact end_row rfl rfl rfl
def capB (c : Int) : Bool := (decide (65 ≤ c) && decide (c ≤ 90)) || (decide (192 ≤ c) && decide (c ≤ 222) && !decide (c = 215))
def smallL (c : Int) : List Int := if capB c then [c + 32] else if c = 223 then [115, 115] else keptL c
theorem capB_iff (c : Int) : capB c = true ↔ (65 ≤ c ∧ c ≤ 90) ∨ (192 ≤ c ∧ c ≤ 222 ∧ c ≠ 215) := by
  unfold capB
  simp only [Bool.or_eq_true, Bool.and_eq_true, decide_eq_true_eq, Bool.not_eq_true', decide_eq_false_iff_not]
  omega
theorem smallA {c v : Int} (hv : v = IntKind.i64.wrap (c + 32)) (hc : (65 ≤ c ∧ c ≤ 90) ∨ (192 ≤ c ∧ c ≤ 222 ∧ c ≠ 215)) : finE 0 (fun h d => h = [.arr 1 ((smallL c).map num)] ∧ d = .osl 1 0 0 (smallL c).length none) (some [.osl 1 1 0 1 none]) [.arr 1 [], .arr 1 [[.int .i64 v]]] := by
  unfold smallL
  rw [if_pos ((capB_iff c).2 hc)]
  rw [wrap_i64 (by omega) (by omega)] at hv
  subst hv
  exact end_row rfl rfl rfl
theorem smallS {c : Int} (hc : ¬ ((65 ≤ c ∧ c ≤ 90) ∨ (192 ≤ c ∧ c ≤ 222 ∧ c ≠ 215))) (h2 : c = 223) : finE 0 (fun h d => h = [.arr 1 ((smallL c).map num)] ∧ d = .osl 1 0 0 (smallL c).length none) (some [.osl 1 1 0 2 none]) [.arr 1 [], .arr 1 [[.int .i64 115], [.int .i64 115]]] := by
  unfold smallL
  rw [if_neg (fun q => hc ((capB_iff c).1 q)), if_pos h2]
  exact end_row rfl rfl rfl
theorem smallK {c : Int} (hc : ¬ ((65 ≤ c ∧ c ≤ 90) ∨ (192 ≤ c ∧ c ≤ 222 ∧ c ≠ 215))) (h2 : ¬ c = 223) : smallL c = keptL c := by
  unfold smallL
  rw [if_neg (fun q => hc ((capB_iff c).1 q)), if_neg h2]
theorem small44 (c : Int) : NR 44 [.int .i64 c] (smallL c) := by
  refine acalls_go c44 (by simp [f44]) ?_
  simp only [f44, ↓gos, gop, Nat.reduceBEq, Nat.reduceAdd, Nat.reduceSub, Nat.reduceLeDiff, Nat.reduceMul, Int.reduceLE, Int.reduceLT, Int.reduceNe, Int.reduceToNat]
  repeat' (first | refine And.intro ?_ ?_ | intro _)
  all_goals first
    | exact smallA ‹_› (by omega)
    | exact smallS (by omega) (by omega)
    | (refine call_lend (kept53 c) rfl (free_num _) ?_
       simp only [DV.ren, renO, ↓gos, gop, Nat.reduceBEq, Nat.reduceAdd, Nat.reduceSub, Nat.reduceLeDiff, Nat.reduceMul, Int.reduceLE, Int.reduceLT, Int.reduceNe, Int.reduceToNat]
       rw [smallK (by omega) (by omega)]
       exact end_row rfl rfl rfl)
def banB (c : Int) : Bool := inR bannedL c
theorem banned46 (c : Int) : Ret 46 [.int .i64 c] (.bool (banB c)) := by
  refine acalls_go c46 (by simp [f46]) ?_
  simp only [f46, ↓gos, gop, Nat.reduceBEq, Nat.reduceAdd, Nat.reduceSub, Nat.reduceLeDiff, Nat.reduceMul, Int.reduceLE, Int.reduceLT, Int.reduceNe, Int.reduceToNat]
  refine call_lend banned71_calls rfl (free_rg _) ?_
  simp only [DV.ren, renO, ↓gos, gop, Nat.reduceBEq, Nat.reduceAdd, Nat.reduceSub, Nat.reduceLeDiff, Nat.reduceMul, Int.reduceLE, Int.reduceLT, Int.reduceNe, Int.reduceToNat]
  refine call_ret (in_calls (prs bannedL) c (by decide)) (by rw [List.map_cons, dn_rg (i := 0) rfl rfl]; rfl) rfl ?_
  simp only [↓gos, gop, Nat.reduceBEq, Nat.reduceAdd, Nat.reduceSub, Nat.reduceLeDiff, Nat.reduceMul, Int.reduceLE, Int.reduceLT, Int.reduceNe, Int.reduceToNat]
  exact endb rfl
def leftB (c : Int) : Bool := inR rightLeftL c
def letB (c : Int) : Bool := inR lettersL c
theorem left94 (c : Int) : Ret 94 [.int .i64 c] (.bool (leftB c)) := by
  refine acalls_go c94 (by simp [f94]) ?_
  simp only [f94, ↓gos, gop, Nat.reduceBEq, Nat.reduceAdd, Nat.reduceSub, Nat.reduceLeDiff, Nat.reduceMul, Int.reduceLE, Int.reduceLT, Int.reduceNe, Int.reduceToNat]
  refine call_lend rightLeft52_calls rfl (free_rg _) ?_
  simp only [DV.ren, renO, ↓gos, gop, Nat.reduceBEq, Nat.reduceAdd, Nat.reduceSub, Nat.reduceLeDiff, Nat.reduceMul, Int.reduceLE, Int.reduceLT, Int.reduceNe, Int.reduceToNat]
  refine call_ret (in_calls (prs rightLeftL) c (by decide)) (by rw [List.map_cons, dn_rg (i := 0) rfl rfl]; rfl) rfl ?_
  simp only [↓gos, gop, Nat.reduceBEq, Nat.reduceAdd, Nat.reduceSub, Nat.reduceLeDiff, Nat.reduceMul, Int.reduceLE, Int.reduceLT, Int.reduceNe, Int.reduceToNat]
  exact endb rfl
theorem letter95 (c : Int) : Ret 95 [.int .i64 c] (.bool (letB c)) := by
  refine acalls_go c95 (by simp [f95]) ?_
  simp only [f95, ↓gos, gop, Nat.reduceBEq, Nat.reduceAdd, Nat.reduceSub, Nat.reduceLeDiff, Nat.reduceMul, Int.reduceLE, Int.reduceLT, Int.reduceNe, Int.reduceToNat]
  refine call_lend letters51_calls rfl (free_rg _) ?_
  simp only [DV.ren, renO, ↓gos, gop, Nat.reduceBEq, Nat.reduceAdd, Nat.reduceSub, Nat.reduceLeDiff, Nat.reduceMul, Int.reduceLE, Int.reduceLT, Int.reduceNe, Int.reduceToNat]
  refine call_ret (in_calls (prs lettersL) c (by decide)) (by rw [List.map_cons, dn_rg (i := 0) rfl rfl]; rfl) rfl ?_
  simp only [↓gos, gop, Nat.reduceBEq, Nat.reduceAdd, Nat.reduceSub, Nat.reduceLeDiff, Nat.reduceMul, Int.reduceLE, Int.reduceLT, Int.reduceNe, Int.reduceToNat]
  exact endb rfl
theorem res54 (c : Int) : Ret 54 [.int .i64 c] (.bool (!banB c)) := by
  refine acalls_go c54 (by simp [f54]) ?_
  simp only [f54, ↓gos, gop, Nat.reduceBEq, Nat.reduceAdd, Nat.reduceSub, Nat.reduceLeDiff, Nat.reduceMul, Int.reduceLE, Int.reduceLT, Int.reduceNe, Int.reduceToNat]
  refine call_ret (banned46 c) rfl rfl ?_
  cases h : banB c
  · simp only [↓gos, gop, Nat.reduceBEq, Nat.reduceAdd, Nat.reduceSub, Nat.reduceLeDiff, Nat.reduceMul, Int.reduceLE, Int.reduceLT, Int.reduceNe, Int.reduceToNat]
    exact endb rfl
  · simp only [↓gos, gop, Nat.reduceBEq, Nat.reduceAdd, Nat.reduceSub, Nat.reduceLeDiff, Nat.reduceMul, Int.reduceLE, Int.reduceLT, Int.reduceNe, Int.reduceToNat]
    exact endb rfl
theorem index72 (l : List Int) (c : Int) (hl : l.length < 1000000000000) : ACalls ED 72 [] [.sl 1 (l.map num), .int .i64 c] fun h d => h = [] ∧ ∃ n : Int, d = .int .i64 n ∧ (0 ≤ n ↔ l.contains c = true) := by
  refine acalls_go c72 (by simp [f72]) ?_
  simp only [f72, ↓gos, gop, Nat.reduceBEq, Nat.reduceAdd, Nat.reduceSub, Nat.reduceLeDiff, Nat.reduceMul, Int.reduceLE, Int.reduceLT, Int.reduceNe, Int.reduceToNat]
  refine goN_lp (γ := Nat) (fun i => [(0, .sl 1 (l.map num)), (1, .int .i64 c), (7, .int .i64 l.length), (8, .int .i64 i)]) (fun _ => []) (fun i => i ≤ l.length ∧ ∀ j, j < i → l.getD j 0 ≠ c) (fun i => l.length - i) 0
    (wks rfl (Nat.zero_le _) ⟨rfl, rfl, rfl, rfl, trivial⟩) (by simp) fun i hi => ?_
  obtain ⟨hi, hp⟩ := hi
  simp only [f72l0, num, ↓gos, gop, Nat.reduceBEq, Nat.reduceAdd, Nat.reduceSub, Nat.reduceLeDiff, Nat.reduceMul, Int.reduceLE, Int.reduceLT, Int.reduceNe, Int.reduceToNat]
  refine ⟨fun h1 => optP_at 0 (by omega) ⟨fun h2 => finE_closed rfl ⟨rfl, _, rfl, ?_⟩, fun h2 v hv => ?_⟩, fun h1 => finE_closed rfl ⟨rfl, _, rfl, ?_⟩⟩
  · refine ⟨fun _ => ?_, fun _ => by omega⟩
    rw [List.contains_iff_mem, h2]
    simp [show i < l.length by omega]
  · rw [wrap_i64 (by omega) (by omega)] at hv
    refine rnd_s (i + 1) rfl (Nat.zero_le _) ⟨rfl, rfl, rfl, by show DV.int .i64 v = _; rw [hv]; rfl, trivial⟩ ⟨by omega, fun j hj => ?_⟩ (by omega)
    by_cases hji : j = i
    · subst hji; exact fun q => h2 q.symm
    · exact hp j (by omega)
  · refine ⟨fun h => by omega, fun h => ?_⟩
    rw [List.contains_iff_mem] at h
    obtain ⟨j, hj, rfl⟩ := List.getElem_of_mem h
    have := hp j (by omega)
    simp [hj] at this
theorem contains47 (l : List Int) (c : Int) (hl : l.length < 1000000000000) : Ret 47 [.sl 1 (l.map num), .int .i64 c] (.bool (l.contains c)) := by
  refine acalls_go c47 (by simp [f47]) ?_
  simp only [f47, ↓gos, gop, Nat.reduceBEq, Nat.reduceAdd, Nat.reduceSub, Nat.reduceLeDiff, Nat.reduceMul, Int.reduceLE, Int.reduceLT, Int.reduceNe, Int.reduceToNat]
  refine call_any (index72 l c hl) rfl ?_ fun d hd => ?_
  · cases hc : l.contains c
    · exact ⟨_, -1, rfl, by omega, fun h => by cases h⟩
    · exact ⟨_, 0, rfl, fun _ => rfl, by omega⟩
  · obtain ⟨n, rfl, hn⟩ := hd
    refine ⟨rfl, ?_⟩
    simp only [↓gos, gop, Nat.reduceBEq, Nat.reduceAdd, Nat.reduceSub, Nat.reduceLeDiff, Nat.reduceMul, Int.reduceLE, Int.reduceLT, Int.reduceNe, Int.reduceToNat]
    refine ⟨fun h => endb ?_, fun h => endb ?_⟩
    · rw [hn.1 h]
    · cases hc : l.contains c
      · rfl
      · exact absurd (hn.2 hc) h
def signs : List Int := [32, 34, 38, 39, 47, 58, 60, 62, 64]
def nodeB (c : Int) : Bool := !banB c && !signs.contains c
theorem node45 (c : Int) : Ret 45 [.int .i64 c] (.bool (nodeB c)) := by
  refine acalls_go c45 (by simp [f45]) ?_
  simp only [f45, ↓gos, gop, Nat.reduceBEq, Nat.reduceAdd, Nat.reduceSub, Nat.reduceLeDiff, Nat.reduceMul, Int.reduceLE, Int.reduceLT, Int.reduceNe, Int.reduceToNat]
  refine call_ret (banned46 c) rfl rfl ?_
  unfold nodeB
  cases h : banB c
  · simp only [↓gos, gop, Nat.reduceBEq, Nat.reduceAdd, Nat.reduceSub, Nat.reduceLeDiff, Nat.reduceMul, Int.reduceLE, Int.reduceLT, Int.reduceNe, Int.reduceToNat]
    refine call_ret (contains47 signs c (by decide)) rfl rfl ?_
    cases h2 : signs.contains c
    · simp only [↓gos, gop, Nat.reduceBEq, Nat.reduceAdd, Nat.reduceSub, Nat.reduceLeDiff, Nat.reduceMul, Int.reduceLE, Int.reduceLT, Int.reduceNe, Int.reduceToNat]
      exact endb rfl
    · simp only [↓gos, gop, Nat.reduceBEq, Nat.reduceAdd, Nat.reduceSub, Nat.reduceLeDiff, Nat.reduceMul, Int.reduceLE, Int.reduceLT, Int.reduceNe, Int.reduceToNat]
      exact endb rfl
  · simp only [↓gos, gop, Nat.reduceBEq, Nat.reduceAdd, Nat.reduceSub, Nat.reduceLeDiff, Nat.reduceMul, Int.reduceLE, Int.reduceLT, Int.reduceNe, Int.reduceToNat]
    exact endb rfl
def hostB (c : Int) : Bool := (decide (48 ≤ c) && decide (c ≤ 57)) || decide (c = 45) || decide (c = 46) || letB c || leftB c
theorem host49 (c : Int) : Ret 49 [.int .i64 c] (.bool (hostB c)) := by
  refine acalls_go c49 (by simp [f49]) ?_
  simp only [f49, ↓gos, gop, Nat.reduceBEq, Nat.reduceAdd, Nat.reduceSub, Nat.reduceLeDiff, Nat.reduceMul, Int.reduceLE, Int.reduceLT, Int.reduceNe, Int.reduceToNat]
  unfold hostB
  repeat' (first | refine And.intro ?_ ?_ | intro _)
  all_goals first
    | (refine endb ?_; simp [*]; done)
    | (refine call_lend letters51_calls rfl (free_rg _) ?_
       simp only [DV.ren, renO, ↓gos, gop, Nat.reduceBEq, Nat.reduceAdd, Nat.reduceSub, Nat.reduceLeDiff, Nat.reduceMul, Int.reduceLE, Int.reduceLT, Int.reduceNe, Int.reduceToNat]
       refine call_ret (in_calls (prs lettersL) c (by decide)) (by rw [List.map_cons, dn_rg (i := 0) rfl rfl]; rfl) rfl ?_
       rw [show ((prs lettersL).any fun x => hasB x c) = letB c from rfl]
       cases h1 : letB c
       · simp only [↓gos, gop, Nat.reduceBEq, Nat.reduceAdd, Nat.reduceSub, Nat.reduceLeDiff, Nat.reduceMul, Int.reduceLE, Int.reduceLT, Int.reduceNe, Int.reduceToNat]
         refine call_lend rightLeft52_calls rfl (free_rg _) ?_
         simp only [DV.ren, renO, ↓gos, gop, Nat.reduceBEq, Nat.reduceAdd, Nat.reduceSub, Nat.reduceLeDiff, Nat.reduceMul, Int.reduceLE, Int.reduceLT, Int.reduceNe, Int.reduceToNat]
         refine call_ret (in_calls (prs rightLeftL) c (by decide)) (by rw [List.map_cons, dn_rg (i := 1) rfl rfl]; rfl) rfl ?_
         rw [show ((prs rightLeftL).any fun x => hasB x c) = leftB c from rfl]
         cases h2 : leftB c
         · simp only [↓gos, gop, Nat.reduceBEq, Nat.reduceAdd, Nat.reduceSub, Nat.reduceLeDiff, Nat.reduceMul, Int.reduceLE, Int.reduceLT, Int.reduceNe, Int.reduceToNat]
           refine endb ?_
           simp [*]
         · simp only [↓gos, gop, Nat.reduceBEq, Nat.reduceAdd, Nat.reduceSub, Nat.reduceLeDiff, Nat.reduceMul, Int.reduceLE, Int.reduceLT, Int.reduceNe, Int.reduceToNat]
           refine endb ?_
           simp [*]
       · simp only [↓gos, gop, Nat.reduceBEq, Nat.reduceAdd, Nat.reduceSub, Nat.reduceLeDiff, Nat.reduceMul, Int.reduceLE, Int.reduceLT, Int.reduceNe, Int.reduceToNat]
         refine endb ?_
         simp [*])
end Go.Proofs.Ut
