/- The functions that the laws of sheet and contact reach. -/
import Derived.Test.YtgamnnfndidclaaGreatDoorYFuns1
import Derived.Test.YtgamnnfndidclaaGreatDoorYFuns2
import Derived.Test.YtgamnnfndidclaaGreatDoorYFuns3
import Derived.Test.YtgamnnfndidclaaGreatDoorYFuns4
import Derived.Test.YtgamnnfndidclaaGreatDoorAiEnd
import Derived.Lib.ValidU
import Derived.Shelf.Unicode.DecodeSlow
import Derived.Lib.TrimUEq
open Nat renaming reduceBEq → qA, reduceAdd → qB, reduceSub → qC, reduceLeDiff → qD, reduceMul → qE
open Int renaming reduceLE → qF, reduceLT → qG, reduceNe → qH, reduceToNat → qI
set_option linter.all false

namespace Go.Proofs.Ut
open Go.Ai Classical
set_option linter.unusedSimpArgs false
set_option maxHeartbeats 1000000
set_option maxRecDepth 100000
/-! numbers -/
def by_ (s : List UInt8) (i : Nat) : Nat := (s.getD i 0).toNat
theorem bt_by (s : List UInt8) (i : Nat) : bt s i = (by_ s i : Int) := rfl
theorem by_lt (s : List UInt8) (i : Nat) : by_ s i < 256 := UInt8.toNat_lt _
end Go.Proofs.Ut

namespace Go.Proofs.Ut
open Go.Ai Classical
set_option linter.unusedSimpArgs false
set_option maxHeartbeats 1000000
set_option maxRecDepth 100000
def r32 (n : Int) : List DV := [.int .i32 n]
def runes (s : List UInt8) : List Int := runesL s s.length 0
theorem runes_len (s : List UInt8) : ∀ n i, (runesL s n i).length ≤ n
  | 0, _ => by simp [runesL]
  | n + 1, i => by
    simp only [runesL]
    split
    · have := runes_len s n (i + (Utf8.decode ⟨s.toArray⟩ i).2)
      simp; omega
    · simp
section
variable {E : Env} (hP : E.P = Tryz.prog)
include hP
theorem has66 (lo hi c : Int) : ACalls E 211 [] [.agg [.int .i32 lo, .int .i32 hi], .int .i32 c] fun h d => h = [] ∧ d = .bool (decide (lo ≤ c) && decide (c ≤ hi)) := by
  refine acalls_go (hP ▸ c211) (by simp [f211]) ?_
  simp only [f211, ↓gos, gop, qA, qB, qC, qD, qE, qF, qG, qH, qI]
  exact ⟨fun h1 => ⟨fun h2 => endb (by simp [h1, h2]), fun h2 => endb (by simp [h1, h2])⟩, fun h1 => endb (by simp [h1])⟩
def shownB (c : Int) : Bool := (decide (32 ≤ c) && decide (c ≤ 65533)) || (decide (65536 ≤ c) && decide (c ≤ 1114111))
def mayB (c : Int) : Bool := decide (c = 9) || decide (c = 10) || decide (c = 13) || shownB c
theorem shown42 (c : Int) : ACalls E 165 [] [.int .i32 c] fun h d => h = [] ∧ d = .bool (shownB c) := by
  refine acalls_go (hP ▸ c165) (by simp [f165]) ?_
  simp only [f165, ↓gos, gop, qA, qB, qC, qD, qE, qF, qG, qH, qI]
  refine call_ret (has66 hP 32 65533 c) rfl rfl ?_
  cases h1 : (decide (32 ≤ c) && decide (c ≤ 65533))
  · simp only [↓gos, gop, qA, qB, qC, qD, qE, qF, qG, qH, qI]
    refine call_ret (has66 hP 65536 1114111 c) rfl rfl ?_
    simp only [↓gos, gop, qA, qB, qC, qD, qE, qF, qG, qH, qI]
    exact endb (by simp only [shownB, h1, Bool.false_or])
  · simp only [↓gos, gop, qA, qB, qC, qD, qE, qF, qG, qH, qI]
    exact endb (by simp only [shownB, h1, Bool.true_or])
theorem may38 (c : Int) : ACalls E 125 [] [.int .i32 c] fun h d => h = [] ∧ d = .bool (mayB c) := by
  refine acalls_go (hP ▸ c125) (by simp [f125]) ?_
  simp only [f125, ↓gos, gop, qA, qB, qC, qD, qE, qF, qG, qH, qI]
  refine ⟨fun h1 => endb (by simp [mayB, h1]), fun h1 => ⟨fun h2 => endb (by simp [mayB, h2]), fun h2 => ⟨fun h3 => endb (by simp [mayB, h3]), fun h3 => call_ret (shown42 hP c) rfl rfl ?_⟩⟩⟩
  simp only [↓gos, gop, qA, qB, qC, qD, qE, qF, qG, qH, qI]
  exact endb (by simp [mayB, h1, h2, h3])
def Tst (E : Env) (g : Nat) (p : Int → Bool) : Prop := ∀ c, ACalls E g [] [.int .i32 c] fun h d => h = [] ∧ d = .bool (p c)
theorem not92 {g : Nat} {p : Int → Bool} (hg : Tst E g p) (c : Int) : ACalls E 210 [.box [.fn g []]] [.int .i32 c, .ptr 0 0] fun h d => h = [.box [.fn g []]] ∧ d = .bool (!p c) := by
  refine acalls_go (hP ▸ c210) (by simp [f210]) ?_
  simp only [f210, ↓gos, gop, qA, qB, qC, qD, qE, qF, qG, qH, qI]
  refine call_ret (hg c) rfl rfl ?_
  cases h1 : p c
  · simp only [↓gos, gop, qA, qB, qC, qD, qE, qF, qG, qH, qI]
    exact end_box1 rfl rfl rfl ⟨rfl, rfl⟩
  · simp only [↓gos, gop, qA, qB, qC, qD, qE, qF, qG, qH, qI]
    exact end_box1 rfl rfl rfl ⟨rfl, rfl⟩
theorem index110 {g : Nat} {p : Int → Bool} (hg : Tst E g p) (l : List Int) (hl : l.length < 1000000000000) : ACalls E 259 [.box [.fn g []]] [.sl 1 (l.map r32), .fn 210 [.ptr 0 0]] fun h d => h = [.box [.fn g []]] ∧ ∃ n : Int, d = .int .i64 n ∧ (0 ≤ n ↔ l.all p = false) := by
  refine acalls_go (hP ▸ c259) (by simp [f259]) ?_
  simp only [f259, ↓gos, gop, qA, qB, qC, qD, qE, qF, qG, qH, qI]
  refine goN_lp (γ := Nat) (fun i => [(0, .sl 1 (l.map r32)), (1, .fn 210 [.ptr 0 0]), (7, .int .i64 l.length), (8, .int .i64 i)]) (fun _ => [.box [.fn g []]]) (fun i => i ≤ l.length ∧ ∀ j, j < i → p (l.getD j 0) = true) (fun i => l.length - i) 0
    (wks rfl (by simp) ⟨rfl, rfl, rfl, rfl, trivial⟩) (by simp) fun i hi => ?_
  obtain ⟨hi, hp⟩ := hi
  simp only [f259l0, r32, ↓gos, gop, qA, qB, qC, qD, qE, qF, qG, qH, qI]
  refine ⟨fun h1 => optP_at 0 (by omega) (call_box1 (i := 0) rfl rfl (not92 hP hg (l.getD i 0)) rfl rfl fun h' d hq => ?_), fun h1 => end_box1 rfl rfl rfl ⟨rfl, _, rfl, ?_⟩⟩
  · obtain ⟨rfl, rfl⟩ := hq
    refine ⟨_, rfl, rfl, rfl, ?_⟩
    cases h2 : p (l.getD i 0)
    · simp only [↓gos, gop, qA, qB, qC, qD, qE, qF, qG, qH, qI]
      refine end_box1 rfl rfl rfl ⟨rfl, _, rfl, ?_⟩
      refine ⟨fun _ => ?_, fun _ => by omega⟩
      rw [List.all_eq_false]
      exact ⟨l.getD i 0, by simp [show i < l.length by omega], by rw [h2]; simp⟩
    · simp only [↓gos, gop, qA, qB, qC, qD, qE, qF, qG, qH, qI]
      intro v hv
      rw [wrap_i64 (by omega) (by omega)] at hv
      refine rnd_s (i + 1) rfl (by simp) ⟨rfl, rfl, rfl, by show DV.int .i64 v = _; rw [hv]; rfl, trivial⟩ ⟨by omega, fun j hj => ?_⟩ (by omega)
      by_cases hji : j = i
      · subst hji; exact h2
      · exact hp j (by omega)
  · refine ⟨fun h => by omega, fun h => ?_⟩
    rw [List.all_eq_false] at h
    obtain ⟨x, hx, hn⟩ := h
    obtain ⟨j, hj, rfl⟩ := List.getElem_of_mem hx
    have := hp j (by omega)
    simp [hj] at this
    exact absurd this hn
theorem contains91 {g : Nat} {p : Int → Bool} (hg : Tst E g p) (l : List Int) (hl : l.length < 1000000000000) : ACalls E 209 [.box [.fn g []]] [.sl 1 (l.map r32), .fn 210 [.ptr 0 0]] fun h d => h = [.box [.fn g []]] ∧ d = .bool (!l.all p) := by
  refine acalls_go (hP ▸ c209) (by simp [f209]) ?_
  simp only [f209, ↓gos, gop, qA, qB, qC, qD, qE, qF, qG, qH, qI]
  refine call_box1 (i := 0) rfl rfl (index110 hP hg l hl) rfl rfl fun h' d hq => ?_
  obtain ⟨rfl, n, rfl, hn⟩ := hq
  refine ⟨_, rfl, rfl, rfl, ?_⟩
  simp only [↓gos, gop, qA, qB, qC, qD, qE, qF, qG, qH, qI]
  refine ⟨fun h => end_box1 rfl rfl rfl ⟨rfl, ?_⟩, fun h => end_box1 rfl rfl rfl ⟨rfl, ?_⟩⟩
  · rw [hn.1 h]; rfl
  · cases h2 : l.all p
    · exact absurd (hn.2 h2) h
    · rfl
theorem each64 {g : Nat} {p : Int → Bool} (hg : Tst E g p) (l : List Int) (hl : l.length < 1000000000000) : ACalls E 164 [] [.sl 1 (l.map r32), .fn g []] fun h d => h = [] ∧ d = .bool (l.all p) := by
  refine acalls_go (hP ▸ c164) (by simp [f164]) ?_
  simp only [f164, ↓gos, gop, qA, qB, qC, qD, qE, qF, qG, qH, qI]
  refine call_box1 (i := 0) rfl rfl (contains91 hP hg l hl) rfl rfl fun h' d hq => ?_
  obtain ⟨rfl, rfl⟩ := hq
  refine ⟨_, rfl, rfl, rfl, ?_⟩
  cases h1 : l.all p
  · simp only [↓gos, gop, qA, qB, qC, qD, qE, qF, qG, qH, qI]
    exact endb rfl
  · simp only [↓gos, gop, qA, qB, qC, qD, qE, qF, qG, qH, qI]
    exact endb rfl
def VTest (E : Env) : Prop := ∀ s : List UInt8, s.length ≤ 9223372036854775807 → ACalls E 163 [] [.str s] fun h d => h = [] ∧ d = .bool (Lib.validD s)
theorem text37 (hv : VTest E) {g : Nat} {p : Int → Bool} (hg : Tst E g p) (s : List UInt8) (hs : s.length < 1000000000000) : ACalls E 124 [] [.str s, .fn g []] fun h d => h = [] ∧ d = .bool (Lib.validD s && (runes s).all p) := by
  refine acalls_go (hP ▸ c124) (by simp [f124]) ?_
  simp only [f124, ↓gos, gop, qA, qB, qC, qD, qE, qF, qG, qH, qI]
  refine call_ret (hv s (by omega)) rfl rfl ?_
  have hlen := runes_len s s.length 0
  cases h1 : Lib.validD s
  · simp only [↓gos, gop, qA, qB, qC, qD, qE, qF, qG, qH, qI]
    exact endb rfl
  · simp only [↓gos, gop, qA, qB, qC, qD, qE, qF, qG, qH, qI]
    refine call_ret (each64 hP hg (runes s) (by unfold runes; omega)) (by rw [List.map_cons]; erw [dn_osl (es := (runes s).map r32) (i := 0) rfl (by simp [runes])]; rfl) rfl ?_
    simp only [↓gos, gop, qA, qB, qC, qD, qE, qF, qG, qH, qI]
    exact endb (by simp)
theorem valid16 (hv : VTest E) (s : List UInt8) (hs : s.length < 1000000000000) : ACalls E 64 [] [.str s] fun h d => h = [] ∧ d = .bool (Lib.validD s && (runes s).all mayB) := by
  refine acalls_go (hP ▸ c64) (by simp [f64]) ?_
  simp only [f64, ↓gos, gop, qA, qB, qC, qD, qE, qF, qG, qH, qI]
  refine call_ret (text37 hP hv (fun c => may38 hP c) s hs) rfl rfl ?_
  simp only [↓gos, gop, qA, qB, qC, qD, qE, qF, qG, qH, qI]
  exact endb rfl
end
end Go.Proofs.Ut

namespace Go.Proofs.Ut
open Go.Ai Classical
set_option linter.unusedSimpArgs false
set_option maxHeartbeats 1000000
set_option maxRecDepth 100000
def D (s : List UInt8) (i : Nat) : Nat × Nat := Utf8.decode ⟨s.toArray⟩ i
theorem get_by (s : List UInt8) (i : Nat) : ((⟨s.toArray⟩ : ByteArray).get! i).toNat = by_ s i := by
  simp [ByteArray.get!, by_]
  rfl
def okC (c : Nat) : Prop := c < 55296 ∨ (57344 ≤ c ∧ c ≤ 1114111)
theorem valid_iff (c : Nat) : Utf8.valid (c : Int) = true ↔ okC c := by
  simp [Utf8.valid, okC]; omega
theorem D_eq (s : List UInt8) (i : Nat) : D s i =
    (if by_ s i < 128 then (by_ s i, 1)
     else if by_ s i / 32 = 6 ∧ i + 1 < s.length ∧ by_ s (i + 1) / 64 = 2 then
       (if by_ s i % 32 * 64 + by_ s (i + 1) % 64 ≥ 128 then (by_ s i % 32 * 64 + by_ s (i + 1) % 64, 2) else (65533, 1))
     else if by_ s i / 16 = 14 ∧ (i + 1 < s.length ∧ by_ s (i + 1) / 64 = 2) ∧ i + 2 < s.length ∧ by_ s (i + 2) / 64 = 2 then
       (if by_ s i % 16 * 4096 + by_ s (i + 1) % 64 * 64 + by_ s (i + 2) % 64 ≥ 2048 ∧ okC (by_ s i % 16 * 4096 + by_ s (i + 1) % 64 * 64 + by_ s (i + 2) % 64) then (by_ s i % 16 * 4096 + by_ s (i + 1) % 64 * 64 + by_ s (i + 2) % 64, 3) else (65533, 1))
     else if by_ s i / 8 = 30 ∧ (i + 1 < s.length ∧ by_ s (i + 1) / 64 = 2) ∧ (i + 2 < s.length ∧ by_ s (i + 2) / 64 = 2) ∧ i + 3 < s.length ∧ by_ s (i + 3) / 64 = 2 then
       (if by_ s i % 8 * 262144 + by_ s (i + 1) % 64 * 4096 + by_ s (i + 2) % 64 * 64 + by_ s (i + 3) % 64 ≥ 65536 ∧ okC (by_ s i % 8 * 262144 + by_ s (i + 1) % 64 * 4096 + by_ s (i + 2) % 64 * 64 + by_ s (i + 3) % 64) then (by_ s i % 8 * 262144 + by_ s (i + 1) % 64 * 4096 + by_ s (i + 2) % 64 * 64 + by_ s (i + 3) % 64, 4) else (65533, 1))
     else (65533, 1)) := by
  unfold D Utf8.decode
  simp only [get_by, Nat.add_zero, Bool.and_eq_true, decide_eq_true_eq, beq_iff_eq, and_assoc, Utf8.runeError, valid_iff, ge_iff_le]
  rfl
theorem D1 {s : List UInt8} {i : Nat} (h : by_ s i < 128) : D s i = (by_ s i, 1) := by rw [D_eq, if_pos h]
end Go.Proofs.Ut

namespace Go.Proofs.Ut
open Go.Ai Classical
set_option linter.unusedSimpArgs false
set_option maxHeartbeats 1000000
set_option maxRecDepth 100000
theorem D_len (s : List UInt8) (i : Nat) (hi : i < s.length) : 1 ≤ (D s i).2 ∧ i + (D s i).2 ≤ s.length ∧ okC (D s i).1 := by
  have hb := by_lt s i
  have m1 : by_ s (i + 1) % 64 < 64 := Nat.mod_lt _ (by omega)
  rw [D_eq]
  by_cases b1 : by_ s i < 128
  · rw [if_pos b1]; exact ⟨by simp, by simp; omega, by unfold okC; simp only; omega⟩
  rw [if_neg b1]
  have z : 1 ≤ ((65533, 1) : Nat × Nat).2 ∧ i + ((65533, 1) : Nat × Nat).2 ≤ s.length ∧ okC ((65533, 1) : Nat × Nat).1 := ⟨by simp, by simp; omega, by unfold okC; simp⟩
  by_cases c2 : by_ s i / 32 = 6 ∧ i + 1 < s.length ∧ by_ s (i + 1) / 64 = 2
  · rw [if_pos c2]
    split
    · exact ⟨by simp, by simp; omega, by
        have : by_ s i % 32 < 32 := Nat.mod_lt _ (by omega)
        unfold okC; simp only; omega⟩
    · exact z
  rw [if_neg c2]
  by_cases c3 : by_ s i / 16 = 14 ∧ (i + 1 < s.length ∧ by_ s (i + 1) / 64 = 2) ∧ i + 2 < s.length ∧ by_ s (i + 2) / 64 = 2
  · rw [if_pos c3]
    split
    · rename_i h; exact ⟨by simp, by simp; omega, h.2⟩
    · exact z
  rw [if_neg c3]
  by_cases c4 : by_ s i / 8 = 30 ∧ (i + 1 < s.length ∧ by_ s (i + 1) / 64 = 2) ∧ (i + 2 < s.length ∧ by_ s (i + 2) / 64 = 2) ∧ i + 3 < s.length ∧ by_ s (i + 3) / 64 = 2
  · rw [if_pos c4]
    split
    · rename_i h; exact ⟨by simp, by simp; omega, h.2⟩
    · exact z
  rw [if_neg c4]; exact z
def run (p : Int → Bool) (s : List UInt8) : Nat → Nat → Bool
  | 0, _ => true
  | n + 1, i => if i < s.length then (if D s i = (65533, 1) then false else p (D s i).1 && run p s n (i + (D s i).2)) else true
def runAt (p : Int → Bool) (s : List UInt8) (i : Nat) : Bool := run p s (s.length - i) i
theorem rl_fuel (s : List UInt8) : ∀ n m i, s.length - i ≤ n → s.length - i ≤ m → runesL s n i = runesL s m i
  | 0, 0, _, _, _ => rfl
  | 0, m + 1, i, h, _ => by simp only [runesL]; rw [if_neg (by omega)]
  | n + 1, 0, i, _, h => by simp only [runesL]; rw [if_neg (by omega)]
  | n + 1, m + 1, i, h1, h2 => by
    simp only [runesL]
    by_cases hi : i < s.length
    · have : 1 ≤ (D s i).2 := (D_len s i hi).1
      rw [if_pos hi, if_pos hi]
      show _ :: runesL s n (i + (D s i).2) = _ :: runesL s m (i + (D s i).2)
      rw [rl_fuel s n m (i + (D s i).2) (by omega) (by omega)]
    · rw [if_neg hi, if_neg hi]
def rlAt (s : List UInt8) (i : Nat) : List Int := runesL s (s.length - i) i
theorem rlAt_step (s : List UInt8) (i : Nat) (hi : i < s.length) : rlAt s i = ((D s i).1 : Int) :: rlAt s (i + (D s i).2) := by
  have := (D_len s i hi).1
  unfold rlAt
  obtain ⟨n, hn⟩ : ∃ n, s.length - i = n + 1 := ⟨s.length - i - 1, by omega⟩
  rw [hn]
  simp only [runesL]
  rw [if_pos hi]
  show _ :: runesL s n (i + (D s i).2) = _
  rw [rl_fuel s n (s.length - (i + (D s i).2)) _ (by omega) (Nat.le_refl _)]
  rfl
theorem rlAt_end (s : List UInt8) (i : Nat) (hi : ¬ i < s.length) : rlAt s i = [] := by
  unfold rlAt
  rw [show s.length - i = 0 by omega]; rfl
theorem decodeL_at (s : List UInt8) (i : Nat) : Lib.decodeL (s.drop i) = D s i := by
  have := Lib.decodeL_drop ⟨s.toArray⟩ i
  simpa [D] using this
theorem validGo_run (s : List UInt8) : ∀ n i, s.length - i ≤ n → Lib.validGoD n (s.drop i) = run (fun _ => true) s n i
  | 0, _, _ => rfl
  | n + 1, i, h => by
    simp only [Lib.validGoD, run]
    by_cases hi : i < s.length
    · have hne : ¬ s.drop i = [] := by simp; omega
      have := D_len s i hi
      rw [if_neg hne, if_pos hi, decodeL_at, List.drop_drop, validGo_run s n (i + (D s i).2) (by omega), Bool.true_and]
      have e : ((D s i).1 = 65533 ∧ (D s i).2 = 1) ↔ D s i = (65533, 1) := by rw [Prod.ext_iff]
      by_cases hb : D s i = (65533, 1)
      · rw [if_pos hb, if_pos (e.2 hb)]
      · rw [if_neg hb, if_neg (fun q => hb (e.1 q))]
    · have hne : s.drop i = [] := by simp; omega
      rw [if_pos hne, if_neg hi]
theorem run_all (p : Int → Bool) (s : List UInt8) : ∀ n i, (run (fun _ => true) s n i && (runesL s n i).all p) = run p s n i
  | 0, _ => rfl
  | n + 1, i => by
    simp only [run, runesL]
    by_cases hi : i < s.length
    · rw [if_pos hi, if_pos hi, if_pos hi]
      by_cases hb : D s i = (65533, 1)
      · rw [if_pos hb, if_pos hb]; rfl
      · rw [if_neg hb, if_neg hb, ← run_all p s n (i + (D s i).2), List.all_cons, Bool.true_and]
        show (_ && (p (D s i).1 && (runesL s n (i + (D s i).2)).all p)) = _
        cases p (D s i).1 <;> cases run (fun _ => true) s n (i + (D s i).2) <;> rfl
    · rw [if_neg hi, if_neg hi, if_neg hi]; rfl
theorem valid_runAt (p : Int → Bool) (s : List UInt8) : (Lib.validD s && (runes s).all p) = runAt p s 0 := by
  have h := validGo_run s s.length 0 (by omega)
  rw [List.drop_zero] at h
  unfold Lib.validD runes runAt
  rw [h, run_all, Nat.sub_zero]
end Go.Proofs.Ut
