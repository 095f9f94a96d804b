/- The small functions of prep: what becomes of a character, and whether it may stand there. -/
import Derived.Test.YtgamnnfndidclaaGreatDoorYPrA
import Derived.Test.YtgamnnfndidclaaGreatDoorAiUn
set_option linter.all false
namespace Go.Proofs.Ut
open Go.Ai Classical
set_option linter.unusedSimpArgs false
set_option maxHeartbeats 1000000
set_option maxRecDepth 100000
def inR (L : List Int) (c : Int) : Bool := (prs L).any (hasB · c)
theorem dn_rg {h : List AObj} {i n : Nat} {l : List (Int × Int)} {c : Option Nat} (hi : h[i]? = some (.arr 2 (l.map rg))) (hn : n = l.length) : DV.dn [] h (.osl 2 i 0 n c) = .sl 2 (l.map rg) := dn_osl hi (by simpa using hn)
theorem free_rg (l : List (Int × Int)) : ((DV.osl 2 0 0 l.length none).free && [AObj.arr 2 (l.map rg)].all freeO) = true := by simp [DV.free, freeO, rg]
abbrev NR (f : Nat) (args : List DV) (L : List Int) : Prop := NRow ED f args L
def keptL (c : Int) : List Int := if inR goneL c then [] else [c]
theorem kept53 (c : Int) : NR 206 [.int .i64 c] (keptL c) := by
  refine acalls_go c206 (by simp [f206]) ?_
  simp only [f206, ↓gos, gop, Nat.reduceBEq, Nat.reduceAdd, Nat.reduceSub, Nat.reduceLeDiff, Nat.reduceMul, Int.reduceLE, Int.reduceLT, Int.reduceNe, Int.reduceToNat]
  refine call_lend gone80_calls rfl (free_rg _) ?_
  simp only [DV.ren, renO, ↓gos, gop, Nat.reduceBEq, Nat.reduceAdd, Nat.reduceSub, Nat.reduceLeDiff, Nat.reduceMul, Int.reduceLE, Int.reduceLT, Int.reduceNe, Int.reduceToNat]
  refine call_ret (in_calls (prs goneL) c (by decide)) (by rw [List.map_cons, dn_rg (i := 1) rfl rfl]; rfl) rfl ?_
  unfold keptL
  cases hg : inR goneL c
  · unfold inR at hg
    rw [hg]
    simp only [↓gos, gop, Nat.reduceBEq, Nat.reduceAdd, Nat.reduceSub, Nat.reduceLeDiff, Nat.reduceMul, Int.reduceLE, Int.reduceLT, Int.reduceNe, Int.reduceToNat]
    exact end_row rfl rfl rfl
  · unfold inR at hg
    rw [hg]
    simp only [↓gos, gop, Nat.reduceBEq, Nat.reduceAdd, Nat.reduceSub, Nat.reduceLeDiff, Nat.reduceMul, Int.reduceLE, Int.reduceLT, Int.reduceNe, Int.reduceToNat]
    exact end_row rfl rfl rfl
def capB (c : Int) : Bool := (decide (65 ≤ c) && decide (c ≤ 90)) || (decide (192 ≤ c) && decide (c ≤ 222) && !decide (c = 215))
def smallL (c : Int) : List Int := if capB c then [c + 32] else if c = 223 then [115, 115] else keptL c
theorem capB_iff (c : Int) : capB c = true ↔ (65 ≤ c ∧ c ≤ 90) ∨ (192 ≤ c ∧ c ≤ 222 ∧ c ≠ 215) := by
  unfold capB
  simp only [Bool.or_eq_true, Bool.and_eq_true, decide_eq_true_eq, Bool.not_eq_true', decide_eq_false_iff_not]
  omega
theorem smallA {c v : Int} (hv : v = IntKind.i64.wrap (c + 32)) (hc : (65 ≤ c ∧ c ≤ 90) ∨ (192 ≤ c ∧ c ≤ 222 ∧ c ≠ 215)) : finE 0 (fun h d => h = [.arr 1 ((smallL c).map num)] ∧ d = .osl 1 0 0 (smallL c).length none) (some [.osl 1 1 0 1 none]) [.arr 1 [], .arr 1 [[.int .i64 v]]] := by
  unfold smallL
  rw [if_pos ((capB_iff c).2 hc)]
  rw [wrap_i64 (by omega) (by omega)] at hv
  subst hv
  exact end_row rfl rfl rfl
theorem smallS {c : Int} (hc : ¬ ((65 ≤ c ∧ c ≤ 90) ∨ (192 ≤ c ∧ c ≤ 222 ∧ c ≠ 215))) (h2 : c = 223) : finE 0 (fun h d => h = [.arr 1 ((smallL c).map num)] ∧ d = .osl 1 0 0 (smallL c).length none) (some [.osl 1 1 0 2 none]) [.arr 1 [], .arr 1 [[.int .i64 115], [.int .i64 115]]] := by
  unfold smallL
  rw [if_neg (fun q => hc ((capB_iff c).1 q)), if_pos h2]
  exact end_row rfl rfl rfl
theorem smallK {c : Int} (hc : ¬ ((65 ≤ c ∧ c ≤ 90) ∨ (192 ≤ c ∧ c ≤ 222 ∧ c ≠ 215))) (h2 : ¬ c = 223) : smallL c = keptL c := by
  unfold smallL
  rw [if_neg (fun q => hc ((capB_iff c).1 q)), if_neg h2]
theorem small44 (c : Int) : NR 202 [.int .i64 c] (smallL c) := by
  refine acalls_go c202 (by simp [f202]) ?_
  simp only [f202, ↓gos, gop, Nat.reduceBEq, Nat.reduceAdd, Nat.reduceSub, Nat.reduceLeDiff, Nat.reduceMul, Int.reduceLE, Int.reduceLT, Int.reduceNe, Int.reduceToNat]
  repeat' (first | refine And.intro ?_ ?_ | intro _)
  all_goals first
    | exact smallA ‹_› (by omega)
    | exact smallS (by omega) (by omega)
    | (refine call_lend (kept53 c) rfl (free_num _) ?_
       simp only [DV.ren, renO, ↓gos, gop, Nat.reduceBEq, Nat.reduceAdd, Nat.reduceSub, Nat.reduceLeDiff, Nat.reduceMul, Int.reduceLE, Int.reduceLT, Int.reduceNe, Int.reduceToNat]
       rw [smallK (by omega) (by omega)]
       exact end_row rfl rfl rfl)
def banB (c : Int) : Bool := inR bannedL c
theorem banned46 (c : Int) : Ret 204 [.int .i64 c] (.bool (banB c)) := by
  refine acalls_go c204 (by simp [f204]) ?_
  simp only [f204, ↓gos, gop, Nat.reduceBEq, Nat.reduceAdd, Nat.reduceSub, Nat.reduceLeDiff, Nat.reduceMul, Int.reduceLE, Int.reduceLT, Int.reduceNe, Int.reduceToNat]
  refine call_lend banned71_calls rfl (free_rg _) ?_
  simp only [DV.ren, renO, ↓gos, gop, Nat.reduceBEq, Nat.reduceAdd, Nat.reduceSub, Nat.reduceLeDiff, Nat.reduceMul, Int.reduceLE, Int.reduceLT, Int.reduceNe, Int.reduceToNat]
  refine call_ret (in_calls (prs bannedL) c (by decide)) (by rw [List.map_cons, dn_rg (i := 0) rfl rfl]; rfl) rfl ?_
  simp only [↓gos, gop, Nat.reduceBEq, Nat.reduceAdd, Nat.reduceSub, Nat.reduceLeDiff, Nat.reduceMul, Int.reduceLE, Int.reduceLT, Int.reduceNe, Int.reduceToNat]
  exact endb rfl
def leftB (c : Int) : Bool := inR rightLeftL c
def letB (c : Int) : Bool := inR lettersL c
theorem left94 (c : Int) : Ret 296 [.int .i64 c] (.bool (leftB c)) := by
  refine acalls_go c296 (by simp [f296]) ?_
  simp only [f296, ↓gos, gop, Nat.reduceBEq, Nat.reduceAdd, Nat.reduceSub, Nat.reduceLeDiff, Nat.reduceMul, Int.reduceLE, Int.reduceLT, Int.reduceNe, Int.reduceToNat]
  refine call_lend rightLeft52_calls rfl (free_rg _) ?_
  simp only [DV.ren, renO, ↓gos, gop, Nat.reduceBEq, Nat.reduceAdd, Nat.reduceSub, Nat.reduceLeDiff, Nat.reduceMul, Int.reduceLE, Int.reduceLT, Int.reduceNe, Int.reduceToNat]
  refine call_ret (in_calls (prs rightLeftL) c (by decide)) (by rw [List.map_cons, dn_rg (i := 0) rfl rfl]; rfl) rfl ?_
  simp only [↓gos, gop, Nat.reduceBEq, Nat.reduceAdd, Nat.reduceSub, Nat.reduceLeDiff, Nat.reduceMul, Int.reduceLE, Int.reduceLT, Int.reduceNe, Int.reduceToNat]
  exact endb rfl
theorem letter95 (c : Int) : Ret 297 [.int .i64 c] (.bool (letB c)) := by
  refine acalls_go c297 (by simp [f297]) ?_
  simp only [f297, ↓gos, gop, Nat.reduceBEq, Nat.reduceAdd, Nat.reduceSub, Nat.reduceLeDiff, Nat.reduceMul, Int.reduceLE, Int.reduceLT, Int.reduceNe, Int.reduceToNat]
  refine call_lend letters51_calls rfl (free_rg _) ?_
  simp only [DV.ren, renO, ↓gos, gop, Nat.reduceBEq, Nat.reduceAdd, Nat.reduceSub, Nat.reduceLeDiff, Nat.reduceMul, Int.reduceLE, Int.reduceLT, Int.reduceNe, Int.reduceToNat]
  refine call_ret (in_calls (prs lettersL) c (by decide)) (by rw [List.map_cons, dn_rg (i := 0) rfl rfl]; rfl) rfl ?_
  simp only [↓gos, gop, Nat.reduceBEq, Nat.reduceAdd, Nat.reduceSub, Nat.reduceLeDiff, Nat.reduceMul, Int.reduceLE, Int.reduceLT, Int.reduceNe, Int.reduceToNat]
  exact endb rfl
theorem res54 (c : Int) : Ret 207 [.int .i64 c] (.bool (!banB c)) := by
  refine acalls_go c207 (by simp [f207]) ?_
  simp only [f207, ↓gos, gop, Nat.reduceBEq, Nat.reduceAdd, Nat.reduceSub, Nat.reduceLeDiff, Nat.reduceMul, Int.reduceLE, Int.reduceLT, Int.reduceNe, Int.reduceToNat]
  refine call_ret (banned46 c) rfl rfl ?_
  cases h : banB c
  · simp only [↓gos, gop, Nat.reduceBEq, Nat.reduceAdd, Nat.reduceSub, Nat.reduceLeDiff, Nat.reduceMul, Int.reduceLE, Int.reduceLT, Int.reduceNe, Int.reduceToNat]
    exact endb rfl
  · simp only [↓gos, gop, Nat.reduceBEq, Nat.reduceAdd, Nat.reduceSub, Nat.reduceLeDiff, Nat.reduceMul, Int.reduceLE, Int.reduceLT, Int.reduceNe, Int.reduceToNat]
    exact endb rfl
theorem index72 (l : List Int) (c : Int) (hl : l.length < 1000000000000) : ACalls ED 257 [] [.sl 1 (l.map num), .int .i64 c] fun h d => h = [] ∧ ∃ n : Int, d = .int .i64 n ∧ (0 ≤ n ↔ l.contains c = true) := by
  refine acalls_go c257 (by simp [f257]) ?_
  simp only [f257, ↓gos, gop, Nat.reduceBEq, Nat.reduceAdd, Nat.reduceSub, Nat.reduceLeDiff, Nat.reduceMul, Int.reduceLE, Int.reduceLT, Int.reduceNe, Int.reduceToNat]
  refine goN_lp (γ := Nat) (fun i => [(0, .sl 1 (l.map num)), (1, .int .i64 c), (7, .int .i64 l.length), (8, .int .i64 i)]) (fun _ => []) (fun i => i ≤ l.length ∧ ∀ j, j < i → l.getD j 0 ≠ c) (fun i => l.length - i) 0
    (wks rfl (Nat.zero_le _) ⟨rfl, rfl, rfl, rfl, trivial⟩) (by simp) fun i hi => ?_
  obtain ⟨hi, hp⟩ := hi
  simp only [f257l0, num, ↓gos, gop, Nat.reduceBEq, Nat.reduceAdd, Nat.reduceSub, Nat.reduceLeDiff, Nat.reduceMul, Int.reduceLE, Int.reduceLT, Int.reduceNe, Int.reduceToNat]
  refine ⟨fun h1 => optP_at 0 (by omega) ⟨fun h2 => finE_closed rfl ⟨rfl, _, rfl, ?_⟩, fun h2 v hv => ?_⟩, fun h1 => finE_closed rfl ⟨rfl, _, rfl, ?_⟩⟩
  · refine ⟨fun _ => ?_, fun _ => by omega⟩
    rw [List.contains_iff_mem, h2]
    simp [show i < l.length by omega]
  · rw [wrap_i64 (by omega) (by omega)] at hv
    refine rnd_s (i + 1) rfl (Nat.zero_le _) ⟨rfl, rfl, rfl, by show DV.int .i64 v = _; rw [hv]; rfl, trivial⟩ ⟨by omega, fun j hj => ?_⟩ (by omega)
    by_cases hji : j = i
    · subst hji; exact fun q => h2 q.symm
    · exact hp j (by omega)
  · refine ⟨fun h => by omega, fun h => ?_⟩
    rw [List.contains_iff_mem] at h
    obtain ⟨j, hj, rfl⟩ := List.getElem_of_mem h
    have := hp j (by omega)
    simp [hj] at this
theorem contains47 (l : List Int) (c : Int) (hl : l.length < 1000000000000) : Ret 205 [.sl 1 (l.map num), .int .i64 c] (.bool (l.contains c)) := by
  refine acalls_go c205 (by simp [f205]) ?_
  simp only [f205, ↓gos, gop, Nat.reduceBEq, Nat.reduceAdd, Nat.reduceSub, Nat.reduceLeDiff, Nat.reduceMul, Int.reduceLE, Int.reduceLT, Int.reduceNe, Int.reduceToNat]
  refine call_any (index72 l c hl) rfl ?_ fun d hd => ?_
  · cases hc : l.contains c
    · exact ⟨_, -1, rfl, by omega, fun h => by cases h⟩
    · exact ⟨_, 0, rfl, fun _ => rfl, by omega⟩
  · obtain ⟨n, rfl, hn⟩ := hd
    refine ⟨rfl, ?_⟩
    simp only [↓gos, gop, Nat.reduceBEq, Nat.reduceAdd, Nat.reduceSub, Nat.reduceLeDiff, Nat.reduceMul, Int.reduceLE, Int.reduceLT, Int.reduceNe, Int.reduceToNat]
    refine ⟨fun h => endb ?_, fun h => endb ?_⟩
    · rw [hn.1 h]
    · cases hc : l.contains c
      · rfl
      · exact absurd (hn.2 hc) h
def signs : List Int := [32, 34, 38, 39, 47, 58, 60, 62, 64]
def nodeB (c : Int) : Bool := !banB c && !signs.contains c
theorem node45 (c : Int) : Ret 203 [.int .i64 c] (.bool (nodeB c)) := by
  refine acalls_go c203 (by simp [f203]) ?_
  simp only [f203, ↓gos, gop, Nat.reduceBEq, Nat.reduceAdd, Nat.reduceSub, Nat.reduceLeDiff, Nat.reduceMul, Int.reduceLE, Int.reduceLT, Int.reduceNe, Int.reduceToNat]
  refine call_ret (banned46 c) rfl rfl ?_
  unfold nodeB
  cases h : banB c
  · simp only [↓gos, gop, Nat.reduceBEq, Nat.reduceAdd, Nat.reduceSub, Nat.reduceLeDiff, Nat.reduceMul, Int.reduceLE, Int.reduceLT, Int.reduceNe, Int.reduceToNat]
    refine call_ret (contains47 signs c (by decide)) rfl rfl ?_
    cases h2 : signs.contains c
    · simp only [↓gos, gop, Nat.reduceBEq, Nat.reduceAdd, Nat.reduceSub, Nat.reduceLeDiff, Nat.reduceMul, Int.reduceLE, Int.reduceLT, Int.reduceNe, Int.reduceToNat]
      exact endb rfl
    · simp only [↓gos, gop, Nat.reduceBEq, Nat.reduceAdd, Nat.reduceSub, Nat.reduceLeDiff, Nat.reduceMul, Int.reduceLE, Int.reduceLT, Int.reduceNe, Int.reduceToNat]
      exact endb rfl
  · simp only [↓gos, gop, Nat.reduceBEq, Nat.reduceAdd, Nat.reduceSub, Nat.reduceLeDiff, Nat.reduceMul, Int.reduceLE, Int.reduceLT, Int.reduceNe, Int.reduceToNat]
    exact endb rfl
def hostB (c : Int) : Bool := (decide (48 ≤ c) && decide (c ≤ 57)) || decide (c = 45) || decide (c = 46) || letB c || leftB c
theorem host49 (c : Int) : Ret 244 [.int .i64 c] (.bool (hostB c)) := by
  refine acalls_go c244 (by simp [f244]) ?_
  simp only [f244, ↓gos, gop, Nat.reduceBEq, Nat.reduceAdd, Nat.reduceSub, Nat.reduceLeDiff, Nat.reduceMul, Int.reduceLE, Int.reduceLT, Int.reduceNe, Int.reduceToNat]
  unfold hostB
  repeat' (first | refine And.intro ?_ ?_ | intro _)
  all_goals first
    | (refine endb ?_; simp [*]; done)
    | (refine call_lend letters51_calls rfl (free_rg _) ?_
       simp only [DV.ren, renO, ↓gos, gop, Nat.reduceBEq, Nat.reduceAdd, Nat.reduceSub, Nat.reduceLeDiff, Nat.reduceMul, Int.reduceLE, Int.reduceLT, Int.reduceNe, Int.reduceToNat]
       refine call_ret (in_calls (prs lettersL) c (by decide)) (by rw [List.map_cons, dn_rg (i := 0) rfl rfl]; rfl) rfl ?_
       rw [show ((prs lettersL).any fun x => hasB x c) = letB c from rfl]
       cases h1 : letB c
       · simp only [↓gos, gop, Nat.reduceBEq, Nat.reduceAdd, Nat.reduceSub, Nat.reduceLeDiff, Nat.reduceMul, Int.reduceLE, Int.reduceLT, Int.reduceNe, Int.reduceToNat]
         refine call_lend rightLeft52_calls rfl (free_rg _) ?_
         simp only [DV.ren, renO, ↓gos, gop, Nat.reduceBEq, Nat.reduceAdd, Nat.reduceSub, Nat.reduceLeDiff, Nat.reduceMul, Int.reduceLE, Int.reduceLT, Int.reduceNe, Int.reduceToNat]
         refine call_ret (in_calls (prs rightLeftL) c (by decide)) (by rw [List.map_cons, dn_rg (i := 1) rfl rfl]; rfl) rfl ?_
         rw [show ((prs rightLeftL).any fun x => hasB x c) = leftB c from rfl]
         cases h2 : leftB c
         · simp only [↓gos, gop, Nat.reduceBEq, Nat.reduceAdd, Nat.reduceSub, Nat.reduceLeDiff, Nat.reduceMul, Int.reduceLE, Int.reduceLT, Int.reduceNe, Int.reduceToNat]
           refine endb ?_
           simp [*]
         · simp only [↓gos, gop, Nat.reduceBEq, Nat.reduceAdd, Nat.reduceSub, Nat.reduceLeDiff, Nat.reduceMul, Int.reduceLE, Int.reduceLT, Int.reduceNe, Int.reduceToNat]
           refine endb ?_
           simp [*]
       · simp only [↓gos, gop, Nat.reduceBEq, Nat.reduceAdd, Nat.reduceSub, Nat.reduceLeDiff, Nat.reduceMul, Int.reduceLE, Int.reduceLT, Int.reduceNe, Int.reduceToNat]
         refine endb ?_
         simp [*])
end Go.Proofs.Ut

/- prep.of and what it calls. -/
namespace Go.Proofs.Ut
open Go.Ai Classical
set_option linter.unusedSimpArgs false
set_option maxHeartbeats 1000000
set_option maxRecDepth 100000
abbrev Ts (g : Nat) (p : Int → Bool) : Prop := ∀ c, Ret g [.int .i64 c] (.bool (p c))
theorem not69 {a g : Nat} {p : Int → Bool} (hg : Ts g p) (c : Int) : ACalls ED 254 [.box [.fn a [], .fn g []]] [.int .i64 c, .ptr 0 0] fun h d => h = [.box [.fn a [], .fn g []]] ∧ d = .bool (!p c) := by
  refine acalls_go c254 (by simp [f254]) ?_
  simp only [f254, ↓gos, gop, Nat.reduceBEq, Nat.reduceAdd, Nat.reduceSub, Nat.reduceLeDiff, Nat.reduceMul, Int.reduceLE, Int.reduceLT, Int.reduceNe, Int.reduceToNat]
  refine call_ret (hg c) rfl rfl ?_
  cases h1 : p c
  · simp only [↓gos, gop, Nat.reduceBEq, Nat.reduceAdd, Nat.reduceSub, Nat.reduceLeDiff, Nat.reduceMul, Int.reduceLE, Int.reduceLT, Int.reduceNe, Int.reduceToNat]
    exact end_box1 rfl rfl rfl ⟨rfl, rfl⟩
  · simp only [↓gos, gop, Nat.reduceBEq, Nat.reduceAdd, Nat.reduceSub, Nat.reduceLeDiff, Nat.reduceMul, Int.reduceLE, Int.reduceLT, Int.reduceNe, Int.reduceToNat]
    exact end_box1 rfl rfl rfl ⟨rfl, rfl⟩
theorem any_ge {l : List Int} {p : Int → Bool} {i : Nat} (h1 : i < l.length) (h2 : p (l.getD i 0) = true) : l.any p = true := by
  rw [List.any_eq_true]
  exact ⟨l.getD i 0, by simp [h1], h2⟩
theorem any_lt {l : List Int} {p : Int → Bool} {i : Nat} (h1 : ¬ i < l.length) (hp : ∀ j, j < i → p (l.getD j 0) = false) : l.any p = false := by
  rw [List.any_eq_false]
  intro x hx
  obtain ⟨j, hj, rfl⟩ := List.getElem_of_mem hx
  have := hp j (by omega)
  simp [hj] at this
  simp [this]
theorem index93b {a g : Nat} {p : Int → Bool} (hg : Ts g p) (l : List Int) (hl : l.length < 1000000000000) : ACalls ED 295 [.box [.fn a [], .fn g []]] [.sl 1 (l.map num), .fn 254 [.ptr 0 0]] fun h d => h = [.box [.fn a [], .fn g []]] ∧ ∃ n : Int, d = .int .i64 n ∧ (0 ≤ n ↔ l.any (fun c => !p c) = true) := by
  refine acalls_go c295 (by simp [f295]) ?_
  simp only [f295, ↓gos, gop, Nat.reduceBEq, Nat.reduceAdd, Nat.reduceSub, Nat.reduceLeDiff, Nat.reduceMul, Int.reduceLE, Int.reduceLT, Int.reduceNe, Int.reduceToNat]
  refine goN_lp (γ := Nat) (fun i => [(0, .sl 1 (l.map num)), (1, .fn 254 [.ptr 0 0]), (7, .int .i64 l.length), (8, .int .i64 i)]) (fun _ => [.box [.fn a [], .fn g []]]) (fun i => i ≤ l.length ∧ ∀ j, j < i → (!p (l.getD j 0)) = false) (fun i => l.length - i) 0
    (wks rfl (by simp) ⟨rfl, rfl, rfl, rfl, trivial⟩) (by simp) fun i hi => ?_
  obtain ⟨hi, hp⟩ := hi
  simp only [f295l0, num, ↓gos, gop, Nat.reduceBEq, Nat.reduceAdd, Nat.reduceSub, Nat.reduceLeDiff, Nat.reduceMul, Int.reduceLE, Int.reduceLT, Int.reduceNe, Int.reduceToNat]
  refine ⟨fun h1 => optP_at 0 (by omega) (call_box1 (i := 0) rfl rfl (not69 hg (l.getD i 0)) rfl rfl fun h' d hq => ?_), fun h1 => end_box1 rfl rfl rfl ⟨rfl, _, rfl, ?_⟩⟩
  · obtain ⟨rfl, rfl⟩ := hq
    refine ⟨_, rfl, rfl, rfl, ?_⟩
    cases h2 : p (l.getD i 0)
    · simp only [↓gos, gop, Nat.reduceBEq, Nat.reduceAdd, Nat.reduceSub, Nat.reduceLeDiff, Nat.reduceMul, Int.reduceLE, Int.reduceLT, Int.reduceNe, Int.reduceToNat]
      refine end_box1 rfl rfl rfl ⟨rfl, _, rfl, ?_⟩
      exact ⟨fun _ => any_ge (i := i) (by omega) (by rw [h2]; rfl), fun _ => by omega⟩
    · simp only [↓gos, gop, Nat.reduceBEq, Nat.reduceAdd, Nat.reduceSub, Nat.reduceLeDiff, Nat.reduceMul, Int.reduceLE, Int.reduceLT, Int.reduceNe, Int.reduceToNat]
      intro v hv
      rw [wrap_i64 (by omega) (by omega)] at hv
      refine rnd_s (i + 1) rfl (by simp) ⟨rfl, rfl, rfl, by show DV.int .i64 v = _; rw [hv]; rfl, trivial⟩ ⟨by omega, fun j hj => ?_⟩ (by omega)
      by_cases hji : j = i
      · subst hji; exact h2
      · simpa using hp j (by omega)
  · refine ⟨fun h => by omega, fun h => ?_⟩
    rw [any_lt (i := i) (by omega) hp] at h
    cases h
theorem index93 {g : Nat} {p : Int → Bool} (hg : Ts g p) (l : List Int) (hl : l.length < 1000000000000) : ACalls ED 295 [] [.sl 1 (l.map num), .fn g []] fun h d => h = [] ∧ ∃ n : Int, d = .int .i64 n ∧ (0 ≤ n ↔ l.any p = true) := by
  refine acalls_go c295 (by simp [f295]) ?_
  simp only [f295, ↓gos, gop, Nat.reduceBEq, Nat.reduceAdd, Nat.reduceSub, Nat.reduceLeDiff, Nat.reduceMul, Int.reduceLE, Int.reduceLT, Int.reduceNe, Int.reduceToNat]
  refine goN_lp (γ := Nat) (fun i => [(0, .sl 1 (l.map num)), (1, .fn g []), (7, .int .i64 l.length), (8, .int .i64 i)]) (fun _ => []) (fun i => i ≤ l.length ∧ ∀ j, j < i → p (l.getD j 0) = false) (fun i => l.length - i) 0
    (wks rfl (by simp) ⟨rfl, rfl, rfl, rfl, trivial⟩) (by simp) fun i hi => ?_
  obtain ⟨hi, hp⟩ := hi
  simp only [f295l0, num, ↓gos, gop, Nat.reduceBEq, Nat.reduceAdd, Nat.reduceSub, Nat.reduceLeDiff, Nat.reduceMul, Int.reduceLE, Int.reduceLT, Int.reduceNe, Int.reduceToNat]
  refine ⟨fun h1 => optP_at 0 (by omega) (call_ret (hg (l.getD i 0)) rfl rfl ?_), fun h1 => finE_closed rfl ⟨rfl, _, rfl, ?_⟩⟩
  · cases h2 : p (l.getD i 0)
    · simp only [↓gos, gop, Nat.reduceBEq, Nat.reduceAdd, Nat.reduceSub, Nat.reduceLeDiff, Nat.reduceMul, Int.reduceLE, Int.reduceLT, Int.reduceNe, Int.reduceToNat]
      intro v hv
      rw [wrap_i64 (by omega) (by omega)] at hv
      refine rnd_s (i + 1) rfl (by simp) ⟨rfl, rfl, rfl, by show DV.int .i64 v = _; rw [hv]; rfl, trivial⟩ ⟨by omega, fun j hj => ?_⟩ (by omega)
      by_cases hji : j = i
      · subst hji; exact h2
      · exact hp j (by omega)
    · simp only [↓gos, gop, Nat.reduceBEq, Nat.reduceAdd, Nat.reduceSub, Nat.reduceLeDiff, Nat.reduceMul, Int.reduceLE, Int.reduceLT, Int.reduceNe, Int.reduceToNat]
      exact finE_closed rfl ⟨rfl, _, rfl, fun _ => any_ge (i := i) (by omega) h2, fun _ => by omega⟩
  · refine ⟨fun h => by omega, fun h => ?_⟩
    rw [any_lt (i := i) (by omega) hp] at h
    cases h
theorem has68b {a g : Nat} {p : Int → Bool} (hg : Ts g p) (l : List Int) (hl : l.length < 1000000000000) : ACalls ED 253 [.box [.fn a [], .fn g []]] [.sl 1 (l.map num), .fn 254 [.ptr 0 0]] fun h d => h = [.box [.fn a [], .fn g []]] ∧ d = .bool (l.any fun c => !p c) := by
  refine acalls_go c253 (by simp [f253]) ?_
  simp only [f253, ↓gos, gop, Nat.reduceBEq, Nat.reduceAdd, Nat.reduceSub, Nat.reduceLeDiff, Nat.reduceMul, Int.reduceLE, Int.reduceLT, Int.reduceNe, Int.reduceToNat]
  refine call_box1 (i := 0) rfl rfl (index93b hg l hl) rfl rfl fun h' d hq => ?_
  obtain ⟨rfl, n, rfl, hn⟩ := hq
  refine ⟨_, rfl, rfl, rfl, ?_⟩
  simp only [↓gos, gop, Nat.reduceBEq, Nat.reduceAdd, Nat.reduceSub, Nat.reduceLeDiff, Nat.reduceMul, Int.reduceLE, Int.reduceLT, Int.reduceNe, Int.reduceToNat]
  refine ⟨fun h => end_box1 rfl rfl rfl ⟨rfl, ?_⟩, fun h => end_box1 rfl rfl rfl ⟨rfl, ?_⟩⟩
  · rw [hn.1 h]; rfl
  · cases h2 : l.any fun c => !p c
    · rfl
    · exact absurd (hn.2 h2) h
theorem has68 {g : Nat} {p : Int → Bool} (hg : Ts g p) (l : List Int) (hl : l.length < 1000000000000) : Ret 253 [.sl 1 (l.map num), .fn g []] (.bool (l.any p)) := by
  refine acalls_go c253 (by simp [f253]) ?_
  simp only [f253, ↓gos, gop, Nat.reduceBEq, Nat.reduceAdd, Nat.reduceSub, Nat.reduceLeDiff, Nat.reduceMul, Int.reduceLE, Int.reduceLT, Int.reduceNe, Int.reduceToNat]
  refine call_any (index93 hg l hl) rfl ?_ fun d hd => ?_
  · cases hc : l.any p
    · exact ⟨_, -1, rfl, by omega, fun h => by cases h⟩
    · exact ⟨_, 0, rfl, fun _ => rfl, by omega⟩
  · obtain ⟨n, rfl, hn⟩ := hd
    refine ⟨rfl, ?_⟩
    simp only [↓gos, gop, Nat.reduceBEq, Nat.reduceAdd, Nat.reduceSub, Nat.reduceLeDiff, Nat.reduceMul, Int.reduceLE, Int.reduceLT, Int.reduceNe, Int.reduceToNat]
    refine ⟨fun h => endb ?_, fun h => endb ?_⟩
    · rw [hn.1 h]
    · cases hc : l.any p
      · rfl
      · exact absurd (hn.2 hc) h
theorem mapped67 {g : Nat} {m : Int → List Int} (hg : ∀ c, NR g [.int .i64 c] (m c)) (hm : ∀ c, (m c).length ≤ 2) (l : List Int) (hl : l.length < 10000000000) : NR 252 [.sl 1 (l.map num), .fn g []] (l.flatMap m) := by
  refine acalls_go c252 (by simp [f252]) ?_
  simp only [f252, ↓gos, gop, Nat.reduceBEq, Nat.reduceAdd, Nat.reduceSub, Nat.reduceLeDiff, Nat.reduceMul, Int.reduceLE, Int.reduceLT, Int.reduceNe, Int.reduceToNat]
  refine goN_lp (γ := Nat × List Int) (fun g' => [(0, .sl 1 (l.map num)), (1, .fn g []), (5, .osl 1 1 0 g'.2.length none), (8, .sl 1 (l.map num)), (9, .int .i64 l.length), (10, .int .i64 (g'.1 : Nat))]) (fun g' => [.arr 1 [], .arr 1 (g'.2.map num)])
    (fun g' => g'.1 ≤ l.length ∧ g'.2 = (l.take g'.1).flatMap m ∧ g'.2.length ≤ 2 * g'.1) (fun g' => l.length - g'.1) (0, []) (wks rfl (Nat.zero_le _) ⟨rfl, rfl, rfl, rfl, rfl, rfl, trivial⟩) ⟨by simp, by simp, by simp⟩ fun g' hg' => ?_
  obtain ⟨i, acc⟩ := g'
  obtain ⟨hi, hacc, hlen⟩ := hg'
  simp only at hi hacc hlen
  simp only [f252l0, num, ↓gos, gop, Nat.reduceBEq, Nat.reduceAdd, Nat.reduceSub, Nat.reduceLeDiff, Nat.reduceMul, Int.reduceLE, Int.reduceLT, Int.reduceNe, Int.reduceToNat]
  refine ⟨fun h1 => optP_at 0 (by omega) (call_lend (hg (l.getD i 0)) rfl (free_num _) ?_), fun h1 => ?_⟩
  · have hm2 := hm (l.getD i 0)
    simp only [DV.ren, renO, num, ↓gos, gop, Nat.reduceBEq, Nat.reduceAdd, Nat.reduceSub, Nat.reduceLeDiff, Nat.reduceMul, Int.reduceLE, Int.reduceLT, Int.reduceNe, Int.reduceToNat]
    refine ⟨by omega, by omega, fun v hv => ?_⟩
    rw [wrap_i64 (by omega) (by omega)] at hv
    refine rnd_d 2 (i + 1, acc ++ m (l.getD i 0)) ?_ (Nat.zero_le _) ⟨rfl, rfl, rfl, rfl, ?_, rfl, rfl, rfl, rfl, rfl, ?_, rfl, trivial⟩ rfl ⟨by omega, ?_, by simp only [List.length_append]; omega⟩ (by simp only; omega)
    · simp [num]
    · simp [slots]
    · show DV.int .i64 v = _
      rw [hv]; rfl
    · simp only
      rw [List.take_succ_eq_append_getElem (by omega), List.flatMap_append, hacc]
      simp [show i < l.length by omega]
  · obtain rfl : i = l.length := by omega
    rw [List.take_length] at hacc
    rw [← hacc]
    exact end_row rfl rfl rfl
def straightB (l : List Int) : Bool := if l.any leftB then leftB (l.getD 0 0) && leftB (l.getD (l.length - 1) 0) && !l.any letB else true
theorem straight70 (l : List Int) (hl : l.length < 1000000000000) : Ret 255 [.sl 1 (l.map num)] (.bool (straightB l)) := by
  refine acalls_go c255 (by simp [f255]) ?_
  simp only [f255, num, ↓gos, gop, Nat.reduceBEq, Nat.reduceAdd, Nat.reduceSub, Nat.reduceLeDiff, Nat.reduceMul, Int.reduceLE, Int.reduceLT, Int.reduceNe, Int.reduceToNat]
  refine call_ret (has68 left94 l hl) rfl rfl ?_
  unfold straightB
  cases h1 : l.any leftB
  · simp only [↓gos, gop, Nat.reduceBEq, Nat.reduceAdd, Nat.reduceSub, Nat.reduceLeDiff, Nat.reduceMul, Int.reduceLE, Int.reduceLT, Int.reduceNe, Int.reduceToNat]
    exact endb (by simp)
  · have hne : 0 < l.length := by
      rcases l with _ | ⟨x, l⟩
      · simp at h1
      · simp
    simp only [num, ↓gos, gop, Nat.reduceBEq, Nat.reduceAdd, Nat.reduceSub, Nat.reduceLeDiff, Nat.reduceMul, Int.reduceLE, Int.reduceLT, Int.reduceNe, Int.reduceToNat]
    refine optP_at 0 (by omega) (call_ret (left94 (l.getD 0 0)) rfl rfl ?_)
    cases h2 : leftB (l.getD 0 0)
    · simp only [↓gos, gop, Nat.reduceBEq, Nat.reduceAdd, Nat.reduceSub, Nat.reduceLeDiff, Nat.reduceMul, Int.reduceLE, Int.reduceLT, Int.reduceNe, Int.reduceToNat]
      exact endb (by simp)
    · simp only [num, ↓gos, gop, Nat.reduceBEq, Nat.reduceAdd, Nat.reduceSub, Nat.reduceLeDiff, Nat.reduceMul, Int.reduceLE, Int.reduceLT, Int.reduceNe, Int.reduceToNat]
      intro v hv
      rw [wrap_i64 (by omega) (by omega)] at hv
      refine ⟨by omega, ?_⟩
      rw [show v.toNat = l.length - 1 by omega]
      refine optP_at (l := l) (i := l.length - 1) 0 (by omega) ?_
      refine call_ret (left94 (l.getD (l.length - 1) 0)) rfl rfl ?_
      cases h3 : leftB (l.getD (l.length - 1) 0)
      · simp only [↓gos, gop, Nat.reduceBEq, Nat.reduceAdd, Nat.reduceSub, Nat.reduceLeDiff, Nat.reduceMul, Int.reduceLE, Int.reduceLT, Int.reduceNe, Int.reduceToNat]
        exact endb (by simp)
      · simp only [↓gos, gop, Nat.reduceBEq, Nat.reduceAdd, Nat.reduceSub, Nat.reduceLeDiff, Nat.reduceMul, Int.reduceLE, Int.reduceLT, Int.reduceNe, Int.reduceToNat]
        refine call_ret (has68 letter95 l hl) rfl rfl ?_
        cases h4 : l.any letB
        · simp only [↓gos, gop, Nat.reduceBEq, Nat.reduceAdd, Nat.reduceSub, Nat.reduceLeDiff, Nat.reduceMul, Int.reduceLE, Int.reduceLT, Int.reduceNe, Int.reduceToNat]
          exact endb (by simp)
        · simp only [↓gos, gop, Nat.reduceBEq, Nat.reduceAdd, Nat.reduceSub, Nat.reduceLeDiff, Nat.reduceMul, Int.reduceLE, Int.reduceLT, Int.reduceNe, Int.reduceToNat]
          exact endb (by simp)
def prepR (m : Int → List Int) (p : Int → Bool) (s : List UInt8) : List UInt8 × Int :=
  if runAt mayB s 0 then
    (if ((rs s).flatMap m).any (fun c => !p c) then ([], 15) else if straightB ((rs s).flatMap m) then (((rs s).flatMap m).flatMap en, 0) else ([], 16))
  else ([], 3)
abbrev SE (f : Nat) (args : List DV) (r : List UInt8 × Int) : Prop := Ret f args (.tup [.str r.1, .int .i64 r.2])
theorem dn_oslL {sz i n : Nat} {es : List (List DV)} {h : List AObj} {c : Option Nat} {ls : List Nat} (hi : h[i]? = some (.arr sz es)) (hn : n = es.length) (hl : ls.idxOf? i = none) : DV.dn ls h (.osl sz i 0 n c) = .sl sz es := by
  subst hn
  simp [DV.dn, DV.low, hi, hl]
theorem rl_ok (s : List UInt8) : ∀ n i, s.length - i ≤ n → ∀ x ∈ rlAt s i, ∃ c : Nat, x = c ∧ okC c := fun n => by
  induction n with
  | zero => intro i h x hx; rw [rlAt_end _ _ (by omega)] at hx; cases hx
  | succ n ih =>
    intro i h x hx
    by_cases hi : i < s.length
    · have := D_len s i hi
      rw [rlAt_step s i hi] at hx
      rcases List.mem_cons.1 hx with rfl | hx
      · exact ⟨_, rfl, this.2.2⟩
      · exact ih _ (by omega) x hx
    · rw [rlAt_end _ _ hi] at hx; cases hx
theorem rs_ok (s : List UInt8) : ∀ x ∈ rs s, ∃ c : Nat, x = c ∧ okC c := fun x hx => by
  unfold rs at hx
  split at hx
  · exact rl_ok s _ 0 (Nat.le_refl _) x hx
  · cases hx
theorem en_len4 (c : Int) : (en c).length ≤ 4 := by
  unfold en Utf8.encode
  simp only
  repeat' split
  all_goals simp
/-- What becomes of characters are characters. -/
def Chr (m : Int → List Int) : Prop := ∀ c : Nat, okC c → ∀ x ∈ m c, ∃ n : Nat, x = n ∧ okC n
theorem endSI {k : IntKind} {a a' : List UInt8} {b b' : Int} {h : List AObj} (e1 : a = a') (e2 : b = b') : finE 0 (fun h d => h = [] ∧ d = .tup [.str a', .int k b']) (some [.str a, .int k b]) h := finE_closed rfl ⟨rfl, by rw [e1, e2]; rfl⟩
theorem of43 {g g2 : Nat} {m : Int → List Int} {p : Int → Bool} (hg : ∀ c, NR g [.int .i64 c] (m c)) (hm : ∀ c, (m c).length ≤ 2) (hp : Ts g2 p) (hch : Chr m) (s : List UInt8) (hs : s.length < 100000000) : SE 201 [.str s, .agg [.fn g [], .fn g2 []]] (prepR m p s) := by
  refine acalls_go c201 (by simp [f201]) ?_
  obtain ⟨r, hr⟩ : ∃ r, r = prepR m p s := ⟨_, rfl⟩
  rw [← hr]
  unfold prepR at hr
  simp only [f201, ↓gos, gop, Nat.reduceBEq, Nat.reduceAdd, Nat.reduceSub, Nat.reduceLeDiff, Nat.reduceMul, Int.reduceLE, Int.reduceLT, Int.reduceNe, Int.reduceToNat]
  refine call_ret (valid_c s (by omega)) rfl rfl ?_
  cases h1 : runAt mayB s 0
  · rw [h1, if_neg (by simp)] at hr
    subst hr
    simp only [↓gos, gop, Nat.reduceBEq, Nat.reduceAdd, Nat.reduceSub, Nat.reduceLeDiff, Nat.reduceMul, Int.reduceLE, Int.reduceLT, Int.reduceNe, Int.reduceToNat]
    exact endSI rfl rfl
  · rw [h1, if_pos rfl] at hr
    simp only [num, ↓gos, gop, Nat.reduceBEq, Nat.reduceAdd, Nat.reduceSub, Nat.reduceLeDiff, Nat.reduceMul, Int.reduceLE, Int.reduceLT, Int.reduceNe, Int.reduceToNat]
    refine call_mix (runes19 rfl vED s (by omega)) rfl (free_num _) ?_
    simp only [DV.ren, renO, num, ↓gos, gop, Nat.reduceBEq, Nat.reduceAdd, Nat.reduceSub, Nat.reduceLeDiff, Nat.reduceMul, Int.reduceLE, Int.reduceLT, Int.reduceNe, Int.reduceToNat]
    have hrl := rs_len s
    have hl2 : ((rs s).flatMap m).length ≤ 2 * (rs s).length := by
      generalize rs s = l
      induction l with
      | nil => simp
      | cons x l ih =>
        have := hm x
        rw [List.flatMap_cons, List.length_append, List.length_cons]; omega
    refine call_mix (mapped67 hg hm (rs s) (by omega)) (by rw [List.map_cons, dn_row (i := 1) rfl rfl]; rfl) (free_num _) ?_
    generalize hL : (rs s).flatMap m = L at hr hl2
    simp only [DV.ren, renO, num, ↓gos, gop, Nat.reduceBEq, Nat.reduceAdd, Nat.reduceSub, Nat.reduceLeDiff, Nat.reduceMul, Int.reduceLE, Int.reduceLT, Int.reduceNe, Int.reduceToNat]
    refine call_box1f (i := 0) rfl rfl (has68b hp L (by omega)) (by rw [List.map_cons]; erw [dn_oslL (es := L.map num) (i := 2) rfl (by simp) rfl]; rfl) (fun h' d hq => ?_) fun h' d hq => ?_
    · obtain ⟨rfl, rfl⟩ := hq
      rfl
    obtain ⟨rfl, rfl⟩ := hq
    refine ⟨_, rfl, rfl, rfl, ?_⟩
    cases h2 : L.any fun c => !p c
    · rw [h2, if_neg (by simp)] at hr
      simp only [↓gos, gop, Nat.reduceBEq, Nat.reduceAdd, Nat.reduceSub, Nat.reduceLeDiff, Nat.reduceMul, Int.reduceLE, Int.reduceLT, Int.reduceNe, Int.reduceToNat]
      refine call_ret (straight70 L (by omega)) (by rw [List.map_cons]; erw [dn_osl (es := L.map num) (i := 2) rfl (by simp)]; rfl) rfl ?_
      cases h3 : straightB L
      · rw [h3, if_neg (by simp)] at hr
        subst hr
        simp only [↓gos, gop, Nat.reduceBEq, Nat.reduceAdd, Nat.reduceSub, Nat.reduceLeDiff, Nat.reduceMul, Int.reduceLE, Int.reduceLT, Int.reduceNe, Int.reduceToNat]
        exact endSI rfl rfl
      · rw [h3, if_pos rfl] at hr
        subst hr
        simp only [↓gos, gop, Nat.reduceBEq, Nat.reduceAdd, Nat.reduceSub, Nat.reduceLeDiff, Nat.reduceMul, Int.reduceLE, Int.reduceLT, Int.reduceNe, Int.reduceToNat]
        have hLo : ∀ x ∈ L, ∃ c : Nat, x = c ∧ okC c := fun x hx => by
          rw [← hL] at hx
          obtain ⟨y, hy, hx⟩ := List.mem_flatMap.1 hx
          obtain ⟨c, rfl, hc⟩ := rs_ok s y hy
          exact hch c hc x hx
        refine goN_lp (γ := Nat) (fun i => [(7, .str ((L.take i).flatMap en)), (26, .osl 1 2 0 L.length none), (27, .int .i64 L.length), (28, .int .i64 i)]) (fun _ => [.box [.fn g [], .fn g2 []], .arr 1 ((rs s).map num), .arr 1 (L.map num)])
          (fun i => i ≤ L.length ∧ ((L.take i).flatMap en).length ≤ 4 * i) (fun i => L.length - i) 0 (wks rfl (by simp) ⟨rfl, rfl, rfl, rfl, trivial⟩) ⟨by simp, by simp⟩ fun i hi => ?_
        obtain ⟨hi, hil⟩ := hi
        simp only [f201l0, num, ↓gos, gop, Nat.reduceBEq, Nat.reduceAdd, Nat.reduceSub, Nat.reduceLeDiff, Nat.reduceMul, Int.reduceLE, Int.reduceLT, Int.reduceNe, Int.reduceToNat]
        refine ⟨fun k1 => ⟨by omega, optP_at 0 (by omega) fun v hv => ?_⟩, fun k1 => endSI ?_ rfl⟩
        · obtain ⟨c, hc, hco⟩ := hLo (L.getD i 0) (by rw [List.getD_eq_getElem?_getD, List.getElem?_eq_getElem (by omega)]; exact List.getElem_mem _)
          have he4 := en_len4 v
          have hee : (Utf8.encode v).data.toList = en v := rfl
          unfold okC at hco
          rw [wrap_i32 (by omega) (by omega)] at hv
          rw [hee]
          refine ⟨by omega, fun u hu => ?_⟩
          rw [wrap_i64 (by omega) (by omega)] at hu
          have ht : (L.take (i + 1)).flatMap en = (L.take i).flatMap en ++ en v := by
            rw [List.take_succ_eq_append_getElem (by omega), List.flatMap_append, hv]
            simp [show i < L.length by omega]
          refine rnd_s (i + 1) rfl (by simp) ⟨?_, rfl, rfl, by show DV.int .i64 u = _; rw [hu]; rfl, trivial⟩ ⟨by omega, by rw [ht, List.length_append]; omega⟩ (by omega)
          show DV.str _ = DV.str _
          rw [ht]
        · rw [List.take_of_length_le (by omega)]
    · rw [h2, if_pos rfl] at hr
      subst hr
      simp only [↓gos, gop, Nat.reduceBEq, Nat.reduceAdd, Nat.reduceSub, Nat.reduceLeDiff, Nat.reduceMul, Int.reduceLE, Int.reduceLT, Int.reduceNe, Int.reduceToNat]
      exact endSI rfl rfl
end Go.Proofs.Ut
