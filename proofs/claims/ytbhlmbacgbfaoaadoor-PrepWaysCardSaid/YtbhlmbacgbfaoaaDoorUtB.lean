import Derived.Test.YtbhlmbacgbfaoaaDoorUtA
import Derived.Lib.ValidU
import Derived.Shelf.Unicode.DecodeSlow
set_option linter.all false
namespace Go.Proofs.Ut
open Go.Ai Classical
set_option linter.unusedSimpArgs false
set_option maxHeartbeats 1000000
set_option maxRecDepth 100000
def r32 (n : Int) : List DV := [.int .i32 n]
def runes (s : List UInt8) : List Int := runesL s s.length 0
theorem runes_len (s : List UInt8) : ∀ n i, (runesL s n i).length ≤ n
  | 0, _ => by simp [runesL]
  | n + 1, i => by
    simp only [runesL]
    split
    · have := runes_len s n (i + (Utf8.decode ⟨s.toArray⟩ i).2)
      simp; omega
    · simp
section
variable {E : Env} (hP : E.P = Tryd.prog)
include hP
theorem has66 (lo hi c : Int) : ACalls E 66 [] [.agg [.int .i32 lo, .int .i32 hi], .int .i32 c] fun h d => h = [] ∧ d = .bool (decide (lo ≤ c) && decide (c ≤ hi)) := by
  refine acalls_go (hP ▸ c66) (by simp [f66]) ?_
  simp only [f66, ↓gos, gop, Nat.reduceBEq, Nat.reduceAdd, Nat.reduceSub, Nat.reduceLeDiff, Nat.reduceMul, Int.reduceLE, Int.reduceLT, Int.reduceNe, Int.reduceToNat]
  exact ⟨fun h1 => ⟨fun h2 => endb (by simp [h1, h2]), fun h2 => endb (by simp [h1, h2])⟩, fun h1 => endb (by simp [h1])⟩
def shownB (c : Int) : Bool := (decide (32 ≤ c) && decide (c ≤ 65533)) || (decide (65536 ≤ c) && decide (c ≤ 1114111))
def mayB (c : Int) : Bool := decide (c = 9) || decide (c = 10) || decide (c = 13) || shownB c
theorem shown42 (c : Int) : ACalls E 42 [] [.int .i32 c] fun h d => h = [] ∧ d = .bool (shownB c) := by
  refine acalls_go (hP ▸ c42) (by simp [f42]) ?_
  simp only [f42, ↓gos, gop, Nat.reduceBEq, Nat.reduceAdd, Nat.reduceSub, Nat.reduceLeDiff, Nat.reduceMul, Int.reduceLE, Int.reduceLT, Int.reduceNe, Int.reduceToNat]
  refine call_ret (has66 hP 32 65533 c) rfl rfl ?_
  cases h1 : (decide (32 ≤ c) && decide (c ≤ 65533))
  · simp only [↓gos, gop, Nat.reduceBEq, Nat.reduceAdd, Nat.reduceSub, Nat.reduceLeDiff, Nat.reduceMul, Int.reduceLE, Int.reduceLT, Int.reduceNe, Int.reduceToNat]
    refine call_ret (has66 hP 65536 1114111 c) rfl rfl ?_
    simp only [↓gos, gop, Nat.reduceBEq, Nat.reduceAdd, Nat.reduceSub, Nat.reduceLeDiff, Nat.reduceMul, Int.reduceLE, Int.reduceLT, Int.reduceNe, Int.reduceToNat]
    exact endb (by simp only [shownB, h1, Bool.false_or])
  · simp only [↓gos, gop, Nat.reduceBEq, Nat.reduceAdd, Nat.reduceSub, Nat.reduceLeDiff, Nat.reduceMul, Int.reduceLE, Int.reduceLT, Int.reduceNe, Int.reduceToNat]
    exact endb (by simp only [shownB, h1, Bool.true_or])
theorem may38 (c : Int) : ACalls E 38 [] [.int .i32 c] fun h d => h = [] ∧ d = .bool (mayB c) := by
  refine acalls_go (hP ▸ c38) (by simp [f38]) ?_
  simp only [f38, ↓gos, gop, Nat.reduceBEq, Nat.reduceAdd, Nat.reduceSub, Nat.reduceLeDiff, Nat.reduceMul, Int.reduceLE, Int.reduceLT, Int.reduceNe, Int.reduceToNat]
  refine ⟨fun h1 => endb (by simp [mayB, h1]), fun h1 => ⟨fun h2 => endb (by simp [mayB, h2]), fun h2 => ⟨fun h3 => endb (by simp [mayB, h3]), fun h3 => call_ret (shown42 hP c) rfl rfl ?_⟩⟩⟩
  simp only [↓gos, gop, Nat.reduceBEq, Nat.reduceAdd, Nat.reduceSub, Nat.reduceLeDiff, Nat.reduceMul, Int.reduceLE, Int.reduceLT, Int.reduceNe, Int.reduceToNat]
  exact endb (by simp [mayB, h1, h2, h3])
def charB (c : Int) : Bool := decide (c = 9) || decide (c = 10) || decide (c = 13) || (decide (32 ≤ c) && decide (c < 55296)) || (decide (57343 < c) && decide (c < 65534)) || (decide (65535 < c) && decide (c ≤ 1114111))
theorem char24 (c : Int) : ACalls E 24 [] [.int .i64 c] fun h d => h = [] ∧ d = .bool (charB c) := by
  refine acalls_go (hP ▸ c24) (by simp [f24]) ?_
  simp only [f24, ↓gos, gop, Nat.reduceBEq, Nat.reduceAdd, Nat.reduceSub, Nat.reduceLeDiff, Nat.reduceMul, Int.reduceLE, Int.reduceLT, Int.reduceNe, Int.reduceToNat]
  repeat' (first | refine And.intro (fun h => ?_) (fun h => ?_) | refine endb ?_)
  all_goals simp only [charB, *, decide_true, decide_false, Bool.true_or, Bool.or_true, Bool.false_or, Bool.or_false, Bool.and_true, Bool.true_and, Bool.false_and, Bool.and_false]
/-- A test that a function value makes. -/
def Tst (E : Env) (g : Nat) (p : Int → Bool) : Prop := ∀ c, ACalls E g [] [.int .i32 c] fun h d => h = [] ∧ d = .bool (p c)
theorem not92 {g : Nat} {p : Int → Bool} (hg : Tst E g p) (c : Int) : ACalls E 92 [.box [.fn g []]] [.int .i32 c, .ptr 0 0] fun h d => h = [.box [.fn g []]] ∧ d = .bool (!p c) := by
  refine acalls_go (hP ▸ c92) (by simp [f92]) ?_
  simp only [f92, ↓gos, gop, Nat.reduceBEq, Nat.reduceAdd, Nat.reduceSub, Nat.reduceLeDiff, Nat.reduceMul, Int.reduceLE, Int.reduceLT, Int.reduceNe, Int.reduceToNat]
  refine call_ret (hg c) rfl rfl ?_
  cases h1 : p c
  · simp only [↓gos, gop, Nat.reduceBEq, Nat.reduceAdd, Nat.reduceSub, Nat.reduceLeDiff, Nat.reduceMul, Int.reduceLE, Int.reduceLT, Int.reduceNe, Int.reduceToNat]
    exact end_box1 rfl rfl rfl ⟨rfl, rfl⟩
  · simp only [↓gos, gop, Nat.reduceBEq, Nat.reduceAdd, Nat.reduceSub, Nat.reduceLeDiff, Nat.reduceMul, Int.reduceLE, Int.reduceLT, Int.reduceNe, Int.reduceToNat]
    exact end_box1 rfl rfl rfl ⟨rfl, rfl⟩
theorem index110 {g : Nat} {p : Int → Bool} (hg : Tst E g p) (l : List Int) (hl : l.length < 1000000000000) : ACalls E 110 [.box [.fn g []]] [.sl 1 (l.map r32), .fn 92 [.ptr 0 0]] fun h d => h = [.box [.fn g []]] ∧ ∃ n : Int, d = .int .i64 n ∧ (0 ≤ n ↔ l.all p = false) := by
  refine acalls_go (hP ▸ c110) (by simp [f110]) ?_
  simp only [f110, ↓gos, gop, Nat.reduceBEq, Nat.reduceAdd, Nat.reduceSub, Nat.reduceLeDiff, Nat.reduceMul, Int.reduceLE, Int.reduceLT, Int.reduceNe, Int.reduceToNat]
  refine goN_lp (γ := Nat) (fun i => [(0, .sl 1 (l.map r32)), (1, .fn 92 [.ptr 0 0]), (7, .int .i64 l.length), (8, .int .i64 i)]) (fun _ => [.box [.fn g []]]) (fun i => i ≤ l.length ∧ ∀ j, j < i → p (l.getD j 0) = true) (fun i => l.length - i) 0
    (wks rfl (by simp) ⟨rfl, rfl, rfl, rfl, trivial⟩) (by simp) fun i hi => ?_
  obtain ⟨hi, hp⟩ := hi
  simp only [f110l0, r32, ↓gos, gop, Nat.reduceBEq, Nat.reduceAdd, Nat.reduceSub, Nat.reduceLeDiff, Nat.reduceMul, Int.reduceLE, Int.reduceLT, Int.reduceNe, Int.reduceToNat]
  refine ⟨fun h1 => optP_at 0 (by omega) (call_box1 (i := 0) rfl rfl (not92 hP hg (l.getD i 0)) rfl rfl fun h' d hq => ?_), fun h1 => end_box1 rfl rfl rfl ⟨rfl, _, rfl, ?_⟩⟩
  · obtain ⟨rfl, rfl⟩ := hq
    refine ⟨_, rfl, rfl, rfl, ?_⟩
    cases h2 : p (l.getD i 0)
    · simp only [↓gos, gop, Nat.reduceBEq, Nat.reduceAdd, Nat.reduceSub, Nat.reduceLeDiff, Nat.reduceMul, Int.reduceLE, Int.reduceLT, Int.reduceNe, Int.reduceToNat]
      refine end_box1 rfl rfl rfl ⟨rfl, _, rfl, ?_⟩
      refine ⟨fun _ => ?_, fun _ => by omega⟩
      rw [List.all_eq_false]
      exact ⟨l.getD i 0, by simp [show i < l.length by omega], by rw [h2]; simp⟩
    · simp only [↓gos, gop, Nat.reduceBEq, Nat.reduceAdd, Nat.reduceSub, Nat.reduceLeDiff, Nat.reduceMul, Int.reduceLE, Int.reduceLT, Int.reduceNe, Int.reduceToNat]
      intro v hv
      rw [wrap_i64 (by omega) (by omega)] at hv
      refine rnd_s (i + 1) rfl (by simp) ⟨rfl, rfl, rfl, by show DV.int .i64 v = _; rw [hv]; rfl, trivial⟩ ⟨by omega, fun j hj => ?_⟩ (by omega)
      by_cases hji : j = i
      · subst hji; exact h2
      · exact hp j (by omega)
  · refine ⟨fun h => by omega, fun h => ?_⟩
    rw [List.all_eq_false] at h
    obtain ⟨x, hx, hn⟩ := h
    obtain ⟨j, hj, rfl⟩ := List.getElem_of_mem hx
    have := hp j (by omega)
    simp [hj] at this
    exact absurd this hn
theorem contains91 {g : Nat} {p : Int → Bool} (hg : Tst E g p) (l : List Int) (hl : l.length < 1000000000000) : ACalls E 91 [.box [.fn g []]] [.sl 1 (l.map r32), .fn 92 [.ptr 0 0]] fun h d => h = [.box [.fn g []]] ∧ d = .bool (!l.all p) := by
  refine acalls_go (hP ▸ c91) (by simp [f91]) ?_
  simp only [f91, ↓gos, gop, Nat.reduceBEq, Nat.reduceAdd, Nat.reduceSub, Nat.reduceLeDiff, Nat.reduceMul, Int.reduceLE, Int.reduceLT, Int.reduceNe, Int.reduceToNat]
  refine call_box1 (i := 0) rfl rfl (index110 hP hg l hl) rfl rfl fun h' d hq => ?_
  obtain ⟨rfl, n, rfl, hn⟩ := hq
  refine ⟨_, rfl, rfl, rfl, ?_⟩
  simp only [↓gos, gop, Nat.reduceBEq, Nat.reduceAdd, Nat.reduceSub, Nat.reduceLeDiff, Nat.reduceMul, Int.reduceLE, Int.reduceLT, Int.reduceNe, Int.reduceToNat]
  refine ⟨fun h => end_box1 rfl rfl rfl ⟨rfl, ?_⟩, fun h => end_box1 rfl rfl rfl ⟨rfl, ?_⟩⟩
  · rw [hn.1 h]; rfl
  · cases h2 : l.all p
    · exact absurd (hn.2 h2) h
    · rfl
theorem each64 {g : Nat} {p : Int → Bool} (hg : Tst E g p) (l : List Int) (hl : l.length < 1000000000000) : ACalls E 64 [] [.sl 1 (l.map r32), .fn g []] fun h d => h = [] ∧ d = .bool (l.all p) := by
  refine acalls_go (hP ▸ c64) (by simp [f64]) ?_
  simp only [f64, ↓gos, gop, Nat.reduceBEq, Nat.reduceAdd, Nat.reduceSub, Nat.reduceLeDiff, Nat.reduceMul, Int.reduceLE, Int.reduceLT, Int.reduceNe, Int.reduceToNat]
  refine call_box1 (i := 0) rfl rfl (contains91 hP hg l hl) rfl rfl fun h' d hq => ?_
  obtain ⟨rfl, rfl⟩ := hq
  refine ⟨_, rfl, rfl, rfl, ?_⟩
  cases h1 : l.all p
  · simp only [↓gos, gop, Nat.reduceBEq, Nat.reduceAdd, Nat.reduceSub, Nat.reduceLeDiff, Nat.reduceMul, Int.reduceLE, Int.reduceLT, Int.reduceNe, Int.reduceToNat]
    exact endb rfl
  · simp only [↓gos, gop, Nat.reduceBEq, Nat.reduceAdd, Nat.reduceSub, Nat.reduceLeDiff, Nat.reduceMul, Int.reduceLE, Int.reduceLT, Int.reduceNe, Int.reduceToNat]
    exact endb rfl
/-- The library's own test, as its contract tells it. -/
def VTest (E : Env) : Prop := ∀ s : List UInt8, s.length ≤ 9223372036854775807 → ACalls E 63 [] [.str s] fun h d => h = [] ∧ d = .bool (Lib.validD s)
theorem text37 (hv : VTest E) {g : Nat} {p : Int → Bool} (hg : Tst E g p) (s : List UInt8) (hs : s.length < 1000000000000) : ACalls E 37 [] [.str s, .fn g []] fun h d => h = [] ∧ d = .bool (Lib.validD s && (runes s).all p) := by
  refine acalls_go (hP ▸ c37) (by simp [f37]) ?_
  simp only [f37, ↓gos, gop, Nat.reduceBEq, Nat.reduceAdd, Nat.reduceSub, Nat.reduceLeDiff, Nat.reduceMul, Int.reduceLE, Int.reduceLT, Int.reduceNe, Int.reduceToNat]
  refine call_ret (hv s (by omega)) rfl rfl ?_
  have hlen := runes_len s s.length 0
  cases h1 : Lib.validD s
  · simp only [↓gos, gop, Nat.reduceBEq, Nat.reduceAdd, Nat.reduceSub, Nat.reduceLeDiff, Nat.reduceMul, Int.reduceLE, Int.reduceLT, Int.reduceNe, Int.reduceToNat]
    exact endb rfl
  · simp only [↓gos, gop, Nat.reduceBEq, Nat.reduceAdd, Nat.reduceSub, Nat.reduceLeDiff, Nat.reduceMul, Int.reduceLE, Int.reduceLT, Int.reduceNe, Int.reduceToNat]
    refine call_ret (each64 hP hg (runes s) (by unfold runes; omega)) (by rw [List.map_cons]; erw [dn_osl (es := (runes s).map r32) (i := 0) rfl (by simp [runes])]; rfl) rfl ?_
    simp only [↓gos, gop, Nat.reduceBEq, Nat.reduceAdd, Nat.reduceSub, Nat.reduceLeDiff, Nat.reduceMul, Int.reduceLE, Int.reduceLT, Int.reduceNe, Int.reduceToNat]
    exact endb (by simp)
theorem valid16 (hv : VTest E) (s : List UInt8) (hs : s.length < 1000000000000) : ACalls E 16 [] [.str s] fun h d => h = [] ∧ d = .bool (Lib.validD s && (runes s).all mayB) := by
  refine acalls_go (hP ▸ c16) (by simp [f16]) ?_
  simp only [f16, ↓gos, gop, Nat.reduceBEq, Nat.reduceAdd, Nat.reduceSub, Nat.reduceLeDiff, Nat.reduceMul, Int.reduceLE, Int.reduceLT, Int.reduceNe, Int.reduceToNat]
  refine call_ret (text37 hP hv (fun c => may38 hP c) s hs) rfl rfl ?_
  simp only [↓gos, gop, Nat.reduceBEq, Nat.reduceAdd, Nat.reduceSub, Nat.reduceLeDiff, Nat.reduceMul, Int.reduceLE, Int.reduceLT, Int.reduceNe, Int.reduceToNat]
  exact endb rfl
end
end Go.Proofs.Ut
