/- A row, and all rows, of a text. -/
import Derived.Test.YtbhlmbacgbfaoaaDoorCsB
import Derived.Test.YtbhlmbacgbfaoaaDoorAiHand
set_option linter.all false
namespace Go.Proofs.Ut
open Go.Ai Classical Go.Shelf Go.RowKit
set_option linter.unusedSimpArgs false
set_option linter.unusedVariables false
set_option maxHeartbeats 1000000
set_option maxRecDepth 100000
def sv (s : List UInt8) : List DV := [.str s]
theorem put83 (l : List (List UInt8)) (y : List UInt8) (k : Int) (hl : l.length < 1000000000) : ACalls ED 83 [.arr 1 (l.map sv), .box [.osl 1 0 0 l.length none, .int .i64 k]] [.ptr 1 0, .str y]
    (fun h' d => h' = [.arr 1 ((l ++ [y]).map sv), .box [.osl 1 0 0 (l ++ [y]).length none, .int .i64 k]] ∧ d = .tup []) := by
  refine acalls_go c83 (by simp [f83]) ?_
  simp only [f83, ↓gos, gop, Nat.reduceBEq, Nat.reduceAdd, Nat.reduceSub, Nat.reduceLeDiff, Nat.reduceMul, Int.reduceLE, Int.reduceLT, Int.reduceNe, Int.reduceToNat]
  refine ⟨by omega, by omega, end_list rfl rfl ⟨?_, rfl⟩⟩
  rw [List.map_append, List.length_append]; rfl
theorem full81 (l : List (List UInt8)) (k : Int) (hl : l.length < 1000000000) : ACalls ED 81 [.arr 1 (l.map sv), .box [.osl 1 0 0 l.length none, .int .i64 k]] [.ptr 1 0]
    (fun h' d => h' = [.arr 1 (l.map sv), .box [.osl 1 0 0 l.length none, .int .i64 k]] ∧ d = .bool (decide (k ≤ l.length))) := by
  refine acalls_go c81 (by simp [f81]) ?_
  simp only [f81, ↓gos, gop, Nat.reduceBEq, Nat.reduceAdd, Nat.reduceSub, Nat.reduceLeDiff, Nat.reduceMul, Int.reduceLE, Int.reduceLT, Int.reduceNe, Int.reduceToNat]
  exact ⟨fun h => end_list rfl rfl ⟨rfl, by simp [rvd, h]⟩, fun h => end_list rfl rfl ⟨rfl, by simp [rvd, h]⟩⟩
def rwv (l : List (List UInt8)) : List DV := [.sl 1 (l.map sv)]
theorem put57 (l : List (List (List UInt8))) (y : List (List UInt8)) (k : Int) (hl : l.length < 1000000000) : ACalls ED 57 [.arr 1 (l.map rwv), .box [.osl 1 0 0 l.length none, .int .i64 k], .arr 1 (y.map sv)] [.ptr 1 0, .osl 1 2 0 y.length none]
    (fun h' d => h' = [.arr 1 ((l ++ [y]).map rwv), .box [.osl 1 0 0 (l ++ [y]).length none, .int .i64 k], .dead] ∧ d = .tup []) := by
  refine acalls_go c57 (by simp [f57]) ?_
  simp only [f57, ↓gos, gop, Nat.reduceBEq, Nat.reduceAdd, Nat.reduceSub, Nat.reduceLeDiff, Nat.reduceMul, Int.reduceLE, Int.reduceLT, Int.reduceNe, Int.reduceToNat]
  refine ⟨by omega, by omega, end_list3 rfl rfl ⟨?_, rfl⟩⟩
  rw [List.map_append, List.length_append]; rfl
theorem full55 (l : List (List (List UInt8))) (k : Int) (hl : l.length < 1000000000) : ACalls ED 55 [.arr 1 (l.map rwv), .box [.osl 1 0 0 l.length none, .int .i64 k]] [.ptr 1 0]
    (fun h' d => h' = [.arr 1 (l.map rwv), .box [.osl 1 0 0 l.length none, .int .i64 k]] ∧ d = .bool (decide (k ≤ l.length))) := by
  refine acalls_go c55 (by simp [f55]) ?_
  simp only [f55, ↓gos, gop, Nat.reduceBEq, Nat.reduceAdd, Nat.reduceSub, Nat.reduceLeDiff, Nat.reduceMul, Int.reduceLE, Int.reduceLT, Int.reduceNe, Int.reduceToNat]
  exact ⟨fun h => end_list rfl rfl ⟨rfl, by simp [rvd, h]⟩, fun h => end_list rfl rfl ⟨rfl, by simp [rvd, h]⟩⟩
theorem qd_len : ∀ s : List UInt8, (qd s).1.length + (qd s).2.1.length ≤ s.length
  | [] => by simp [qd]
  | [c] => by unfold qd; split <;> simp
  | c :: d :: s => by
    unfold qd
    split
    · split
      · have := qd_len s; simp; omega
      · simp
    · have := qd_len (d :: s); simp at this ⊢; omega
theorem field_len (s : List UInt8) : (fieldF s).1.length + (fieldF s).2.1.length ≤ s.length := by
  unfold fieldF
  split
  · have := qd_len (s.drop 1)
    have h2 : (s.drop 1).length ≤ s.length := by rw [List.length_drop]; omega
    omega
  · have := congrArg List.length (List.takeWhile_append_dropWhile (p := plainC) (l := s))
    rw [List.length_append] at this
    simp only; omega
/-- The row ahead of a text: k fields more may come. -/
def rowF : Nat → List (List UInt8) → List UInt8 → List (List UInt8) × List UInt8 × Int
  | 0, _, _ => ([], [], 4)
  | k + 1, fs, s =>
    if (fieldF s).2.2 = true then
      if (fieldF s).2.1 = [] then (fs ++ [(fieldF s).1], [], 0)
      else if [13, 10].isPrefixOf (fieldF s).2.1 = true then (fs ++ [(fieldF s).1], (fieldF s).2.1.drop 2, 0)
      else if [44].isPrefixOf (fieldF s).2.1 = true then rowF k (fs ++ [(fieldF s).1]) ((fieldF s).2.1.drop 1)
      else ([], [], 19)
    else ([], [], 19)
theorem behind_t {p s : List UInt8} (h : p.isPrefixOf s = true) : behind p s = (s.drop p.length, true) := by unfold behind; rw [if_pos h]
theorem behind_f {p s : List UInt8} (h : p.isPrefixOf s = false) : behind p s = (s, false) := by unfold behind; rw [if_neg (by rw [h]; simp)]
theorem row56 (s : List UInt8) (hs : s.length < 100000000) : ACalls ED 56 [] [.str s] (fun h d => h = [.arr 1 ((rowF 30 [] s).1.map sv)] ∧ d = .tup [.osl 1 0 0 (rowF 30 [] s).1.length none, .str (rowF 30 [] s).2.1, .int .i64 (rowF 30 [] s).2.2]) := by
  generalize hR : rowF 30 [] s = R
  refine acalls_go c56 (by simp [f56]) ?_
  simp only [f56, ↓gos, gop, Nat.reduceBEq, Nat.reduceAdd, Nat.reduceSub, Nat.reduceLeDiff, Nat.reduceMul, Int.reduceLE, Int.reduceLT, Int.reduceNe, Int.reduceToNat]
  refine goN_lp (γ := List (List UInt8) × List UInt8) (fun g => [(5, .ptr 2 0), (0, .str g.2)]) (fun g => [.arr 1 [], .arr 1 (g.1.map sv), .box [.osl 1 1 0 g.1.length none, .int .i64 30]])
    (fun g => g.1.length ≤ 30 ∧ g.2.length ≤ s.length ∧ R = rowF (30 - g.1.length) g.1 g.2) (fun g => 31 - g.1.length) ([], s)
    (wks rfl (by simp) ⟨rfl, rfl, trivial⟩) ⟨by simp, by simp, hR.symm⟩ fun g hg => ?_
  obtain ⟨fs, t⟩ := g
  obtain ⟨h1, h2, h3⟩ := hg
  simp only at h1 h2 h3
  simp only [f56l0, ↓gos, gop, Nat.reduceBEq, Nat.reduceAdd, Nat.reduceSub, Nat.reduceLeDiff, Nat.reduceMul, Int.reduceLE, Int.reduceLT, Int.reduceNe, Int.reduceToNat]
  refine call_list (m := 1) (l := 2) rfl rfl rfl rfl (full81 fs 30 (by omega)) (fun _ => rfl) ?_
  simp only [↓gos, gop, Nat.reduceBEq, Nat.reduceAdd, Nat.reduceSub, Nat.reduceLeDiff, Nat.reduceMul, Int.reduceLE, Int.reduceLT, Int.reduceNe, Int.reduceToNat]
  by_cases hk : (30 : Int) ≤ fs.length
  · rw [decide_eq_true hk]
    simp only [↓gos, gop, Nat.reduceBEq, Nat.reduceAdd, Nat.reduceSub, Nat.reduceLeDiff, Nat.reduceMul, Int.reduceLE, Int.reduceLT, Int.reduceNe, Int.reduceToNat]
    have e : R = ([], [], 4) := by
      rw [h3, show 30 - fs.length = 0 by omega]; rfl
    rw [e]
    exact end_rowt (i := 3) rfl rfl ⟨rfl, rfl⟩
  · rw [decide_eq_false hk]
    simp only [↓gos, gop, Nat.reduceBEq, Nat.reduceAdd, Nat.reduceSub, Nat.reduceLeDiff, Nat.reduceMul, Int.reduceLE, Int.reduceLT, Int.reduceNe, Int.reduceToNat]
    refine call_ret (field82 t (by omega)) rfl rfl ?_
    simp only [↓gos, gop, Nat.reduceBEq, Nat.reduceAdd, Nat.reduceSub, Nat.reduceLeDiff, Nat.reduceMul, Int.reduceLE, Int.reduceLT, Int.reduceNe, Int.reduceToNat]
    have hf := field_len t
    obtain ⟨k, hk2⟩ : ∃ k, 30 - fs.length = k + 1 := ⟨29 - fs.length, by omega⟩
    rw [hk2, rowF] at h3
    refine ⟨fun hb => ?_, fun hb => ?_⟩
    · rw [if_neg (by rw [hb]; simp)] at h3
      rw [h3]
      exact end_rowt (i := 3) rfl rfl ⟨rfl, rfl⟩
    · rw [if_pos hb] at h3
      refine call_list (m := 1) (l := 2) rfl rfl rfl rfl (put83 fs (fieldF t).1 30 (by omega)) (fun _ => rfl) ?_
      simp only [↓gos, gop, Nat.reduceBEq, Nat.reduceAdd, Nat.reduceSub, Nat.reduceLeDiff, Nat.reduceMul, Int.reduceLE, Int.reduceLT, Int.reduceNe, Int.reduceToNat]
      refine ⟨fun he => ?_, fun he => ?_⟩
      · rw [if_pos he] at h3
        rw [h3]
        exact end_rowt (i := 1) rfl rfl ⟨rfl, rfl⟩
      · rw [if_neg he] at h3
        refine call_ret (cutp84 (fieldF t).2.1 [13, 10] (by omega) (by simp)) rfl rfl ?_
        cases hp : [13, 10].isPrefixOf (fieldF t).2.1
        · rw [behind_f hp]
          rw [hp, if_neg (by simp)] at h3
          simp only [↓gos, gop, Nat.reduceBEq, Nat.reduceAdd, Nat.reduceSub, Nat.reduceLeDiff, Nat.reduceMul, Int.reduceLE, Int.reduceLT, Int.reduceNe, Int.reduceToNat]
          refine call_ret (cutp84 (fieldF t).2.1 [44] (by omega) (by simp)) rfl rfl ?_
          cases hp2 : [44].isPrefixOf (fieldF t).2.1
          · rw [behind_f hp2]
            rw [hp2, if_neg (by simp)] at h3
            simp only [↓gos, gop, Nat.reduceBEq, Nat.reduceAdd, Nat.reduceSub, Nat.reduceLeDiff, Nat.reduceMul, Int.reduceLE, Int.reduceLT, Int.reduceNe, Int.reduceToNat]
            rw [h3]
            exact end_rowt (i := 3) rfl rfl ⟨rfl, rfl⟩
          · rw [behind_t hp2]
            rw [hp2, if_pos rfl] at h3
            simp only [↓gos, gop, Nat.reduceBEq, Nat.reduceAdd, Nat.reduceSub, Nat.reduceLeDiff, Nat.reduceMul, Int.reduceLE, Int.reduceLT, Int.reduceNe, Int.reduceToNat]
            refine rnd_s (fs ++ [(fieldF t).1], List.drop 1 (fieldF t).2.1) rfl (by simp) ⟨rfl, rfl, trivial⟩ ⟨by simp; omega, by simp; omega, ?_⟩ (by simp; omega)
            rw [h3]
            simp only [List.length_append, List.length_cons, List.length_nil]
            rw [show 30 - (fs.length + (0 + 1)) = k by omega]
        · rw [behind_t hp]
          rw [hp, if_pos rfl] at h3
          simp only [↓gos, gop, Nat.reduceBEq, Nat.reduceAdd, Nat.reduceSub, Nat.reduceLeDiff, Nat.reduceMul, Int.reduceLE, Int.reduceLT, Int.reduceNe, Int.reduceToNat]
          rw [h3]
          exact end_rowt (i := 1) rfl rfl ⟨rfl, rfl⟩
/-- All rows of a text: k more may come. -/
def readF : Nat → List (List (List UInt8)) → List UInt8 → List (List (List UInt8)) × Int
  | k, l, s =>
    if s = [] then (l, 0) else
    match k with
    | 0 => ([], 4)
    | k + 1 => if (rowF 30 [] s).2.2 = 0 then readF k (l ++ [(rowF 30 [] s).1]) (rowF 30 [] s).2.1 else ([], (rowF 30 [] s).2.2)
def readG (s : List UInt8) : List (List (List UInt8)) × Int := if 20000 < s.length then ([], 4) else if runAt mayB s 0 = true then readF 200 [] s else ([], 3)
theorem rowF_len : ∀ (k : Nat) (fs : List (List UInt8)) (s : List UInt8), (rowF k fs s).2.1.length ≤ s.length
  | 0, _, _ => by simp [rowF]
  | k + 1, fs, s => by
    have hf := field_len s
    have := rowF_len k (fs ++ [(fieldF s).1]) ((fieldF s).2.1.drop 1)
    rw [List.length_drop] at this
    unfold rowF
    split
    · split
      · simp
      · split
        · simp only [List.length_drop]; omega
        · split
          · omega
          · simp
    · simp
theorem rowF_le : ∀ (k : Nat) (fs : List (List UInt8)) (s : List UInt8), (rowF k fs s).1.length ≤ fs.length + k
  | 0, _, _ => by simp [rowF]
  | k + 1, fs, s => by
    have := rowF_le k (fs ++ [(fieldF s).1]) ((fieldF s).2.1.drop 1)
    rw [List.length_append, List.length_singleton] at this
    unfold rowF
    split
    · split
      · simp
      · split
        · simp
        · split
          · omega
          · simp
    · simp
theorem read34 (s : List UInt8) (hs : s.length < 100000000) : ACalls ED 34 [] [.str s] (fun h d => h = [.arr 1 ((readG s).1.map rwv)] ∧ d = .tup [.osl 1 0 0 (readG s).1.length none, .int .i64 (readG s).2]) := by
  refine acalls_go c34 (by simp [f34]) ?_
  simp only [f34, ↓gos, gop, Nat.reduceBEq, Nat.reduceAdd, Nat.reduceSub, Nat.reduceLeDiff, Nat.reduceMul, Int.reduceLE, Int.reduceLT, Int.reduceNe, Int.reduceToNat]
  unfold readG
  refine ⟨fun h1 => ?_, fun h1 => ?_⟩
  · rw [if_pos (by omega)]
    exact end_rowt (i := 1) rfl rfl ⟨rfl, rfl⟩
  · rw [if_neg (by omega)]
    refine call_ret (valid_c s (by omega)) rfl rfl ?_
    cases hv : runAt mayB s 0
    · simp only [↓gos, gop, Nat.reduceBEq, Nat.reduceAdd, Nat.reduceSub, Nat.reduceLeDiff, Nat.reduceMul, Int.reduceLE, Int.reduceLT, Int.reduceNe, Int.reduceToNat]
      rw [if_neg (by simp)]
      exact end_rowt (i := 1) rfl rfl ⟨rfl, rfl⟩
    · simp only [↓gos, gop, Nat.reduceBEq, Nat.reduceAdd, Nat.reduceSub, Nat.reduceLeDiff, Nat.reduceMul, Int.reduceLE, Int.reduceLT, Int.reduceNe, Int.reduceToNat]
      simp only [if_true]
      generalize hR : readF 200 [] s = R
      refine goN_lp (γ := List (List (List UInt8)) × List UInt8) (fun g => [(4, .ptr 2 0), (0, .str g.2)]) (fun g => [.arr 1 [], .arr 1 (g.1.map rwv), .box [.osl 1 1 0 g.1.length none, .int .i64 200]])
        (fun g => g.1.length ≤ 200 ∧ g.2.length ≤ s.length ∧ R = readF (200 - g.1.length) g.1 g.2) (fun g => 201 - g.1.length) ([], s)
        (wks rfl (by simp) ⟨rfl, rfl, trivial⟩) ⟨by simp, by simp, hR.symm⟩ fun g hg => ?_
      obtain ⟨l, t⟩ := g
      obtain ⟨h2, h3, h4⟩ := hg
      simp only at h2 h3 h4
      simp only [f34l0, ↓gos, gop, Nat.reduceBEq, Nat.reduceAdd, Nat.reduceSub, Nat.reduceLeDiff, Nat.reduceMul, Int.reduceLE, Int.reduceLT, Int.reduceNe, Int.reduceToNat]
      unfold readF at h4
      refine ⟨fun ht => ?_, fun ht => ?_⟩
      · rw [if_neg ht] at h4
        refine call_list (m := 1) (l := 2) rfl rfl rfl rfl (full55 l 200 (by omega)) (fun _ => rfl) ?_
        by_cases hk : (200 : Int) ≤ l.length
        · rw [decide_eq_true hk]
          simp only [↓gos, gop, Nat.reduceBEq, Nat.reduceAdd, Nat.reduceSub, Nat.reduceLeDiff, Nat.reduceMul, Int.reduceLE, Int.reduceLT, Int.reduceNe, Int.reduceToNat]
          rw [show 200 - l.length = 0 by omega] at h4
          rw [h4]
          exact end_rowt (i := 3) rfl rfl ⟨rfl, rfl⟩
        · rw [decide_eq_false hk]
          simp only [↓gos, gop, Nat.reduceBEq, Nat.reduceAdd, Nat.reduceSub, Nat.reduceLeDiff, Nat.reduceMul, Int.reduceLE, Int.reduceLT, Int.reduceNe, Int.reduceToNat]
          obtain ⟨k, hk2⟩ : ∃ k, 200 - l.length = k + 1 := ⟨199 - l.length, by omega⟩
          rw [hk2] at h4
          simp only at h4
          refine call_new (row56 t (by omega)) (fun d hd => by simp at hd; subst hd; rfl) ?_
          simp only [DV.ren, DV.ren.renAll, renO, ↓gos, gop, Nat.reduceBEq, Nat.reduceAdd, Nat.reduceSub, Nat.reduceLeDiff, Nat.reduceMul, Int.reduceLE, Int.reduceLT, Int.reduceNe, Int.reduceToNat]
          refine ⟨fun he => ?_, fun he => ?_⟩
          · rw [if_neg he] at h4
            rw [h4]
            exact end_rowt (i := 4) rfl rfl ⟨rfl, rfl⟩
          · rw [if_pos he] at h4
            have hl := rowF_len 30 [] t
            refine call_list3 (m := 1) (l := 2) (k := 3) rfl rfl rfl (by omega) rfl (put57 l (rowF 30 [] t).1 200 (by omega)) (fun _ => rfl) ?_
            simp only [↓gos, gop, Nat.reduceBEq, Nat.reduceAdd, Nat.reduceSub, Nat.reduceLeDiff, Nat.reduceMul, Int.reduceLE, Int.reduceLT, Int.reduceNe, Int.reduceToNat]
            refine rnd_d 3 (l ++ [(rowF 30 [] t).1], (rowF 30 [] t).2.1) rfl (by omega) ⟨rfl, rfl, rfl, rfl, trivial⟩ rfl ⟨by simp; omega, by simp only; omega, ?_⟩ (by simp; omega)
            rw [h4, show 200 - (l ++ [(rowF 30 [] t).1]).length = k by simp; omega]
      · rw [if_pos (by simpa using ht)] at h4
        rw [h4]
        exact end_rowt (i := 1) rfl rfl ⟨rfl, rfl⟩
end Go.Proofs.Ut
