/- Rows as lines. -/
import Derived.Test.YtbnmhlienklfpaaDoorFoB
import Derived.Test.YtbnmhlienklfpaaDoorAiHand2
set_option linter.all false
namespace Go.Proofs.Ut
open Go.Ai Classical Go.Shelf Go.RowKit
set_option linter.unusedSimpArgs false
set_option linter.unusedVariables false
set_option maxHeartbeats 1000000
set_option maxRecDepth 100000
theorem add35 (l : List (List UInt8)) (y : List UInt8) (hl : l.length < 1000000000) : ACalls ED 35 [.arr 1 (l.map sv), .box [.osl 1 0 0 l.length none]] [.ptr 1 0, .str y]
    (fun h' d => h' = [.arr 1 ((l ++ [y]).map sv), .box [.osl 1 0 0 (l ++ [y]).length none]] ∧ d = .tup []) := by
  refine acalls_go c35 (by simp [f35]) ?_
  simp only [f35, ↓gos, gop, Nat.reduceBEq, Nat.reduceAdd, Nat.reduceSub, Nat.reduceLeDiff, Nat.reduceMul, Int.reduceLE, Int.reduceLT, Int.reduceNe, Int.reduceToNat]
  refine ⟨by omega, by omega, end_l1 rfl ⟨?_, rfl⟩⟩
  rw [List.map_append, List.length_append]; rfl
theorem last33 (l : List (List UInt8)) (hl : l.length < 1000000000) : ACalls ED 33 [.arr 1 (l.map sv), .box [.osl 1 0 0 l.length none]] [.ptr 1 0]
    (fun h' d => h' = [.arr 1 (l.map sv), .box [.osl 1 0 0 l.length none]] ∧ d = if l = [] then .nilp else .aptr 1 0 (l.length - 1) 0) := by
  refine acalls_go c33 (by simp [f33]) ?_
  simp only [f33, ↓gos, gop, Nat.reduceBEq, Nat.reduceAdd, Nat.reduceSub, Nat.reduceLeDiff, Nat.reduceMul, Int.reduceLE, Int.reduceLT, Int.reduceNe, Int.reduceToNat]
  refine ⟨fun h => ?_, fun h => ?_⟩
  · have : l = [] := List.eq_nil_of_length_eq_zero (by omega)
    subst this
    exact end_l1 rfl ⟨rfl, rfl⟩
  · intro v hv
    rw [wrap_i64 (by omega) (by omega)] at hv
    have hv : v = ((l.length - 1 : Nat) : Int) := by omega
    subst hv
    have hne : l ≠ [] := fun e => h (by rw [e]; rfl)
    refine ⟨by omega, by omega, ?_⟩
    rw [Int.toNat_natCast]
    exact end_l1a ⟨rfl, by rw [if_neg hne]⟩
theorem last33e : ACalls ED 33 [.arr 1 (([] : List (List UInt8)).map sv), .box [.osl 1 0 0 0 none]] [.ptr 1 0]
    (fun h' d => h' = [.arr 1 (([] : List (List UInt8)).map sv), .box [.osl 1 0 0 0 none]] ∧ d = .nilp) := last33 [] (by simp)
theorem last33n (l : List (List UInt8)) (hl : l.length < 1000000000) (h0 : l ≠ []) : ACalls ED 33 [.arr 1 (l.map sv), .box [.osl 1 0 0 l.length none]] [.ptr 1 0]
    (fun h' d => h' = [.arr 1 (l.map sv), .box [.osl 1 0 0 l.length none]] ∧ d = .aptr 1 0 (l.length - 1) 0) := by
  have := last33 l hl
  rwa [if_neg h0] at this
theorem last33c (a : List (List UInt8)) (x : List UInt8) (hl : a.length < 100000000) : ACalls ED 33 [.arr 1 ((a ++ [x]).map sv), .box [.osl 1 0 0 (a ++ [x]).length none]] [.ptr 1 0]
    (fun h' d => h' = [.arr 1 ((a ++ [x]).map sv), .box [.osl 1 0 0 (a ++ [x]).length none]] ∧ d = .aptr 1 0 a.length 0) := by
  have := last33n (a ++ [x]) (by simp; omega) (by simp)
  rwa [show (a ++ [x]).length - 1 = a.length by simp] at this
theorem unf_fuel : ∀ (k j : Nat) (acc : List (List UInt8)) (s : List UInt8), s.length ≤ k → s.length ≤ j → unf k acc s = unf j acc s
  | 0, 0, _, _, _, _ => rfl
  | 0, j + 1, acc, s, h, _ => by rw [unf, unf, if_pos (List.eq_nil_of_length_eq_zero (by omega))]
  | k + 1, 0, acc, s, _, h => by rw [unf, unf, if_pos (List.eq_nil_of_length_eq_zero (by omega))]
  | k + 1, j + 1, acc, s, h1, h2 => by
    rw [unf, unf]
    by_cases hs : s = []
    · rw [if_pos hs, if_pos hs]
    rw [if_neg hs, if_neg hs]
    cases hc : (cutE s).2.2
    · rw [if_pos (by simp), if_pos (by simp)]
    · have := (cutE_len s).2 hc
      rw [unf_fuel k j _ (cutE s).2.1 (by omega) (by omega), unf_fuel k j _ (cutE s).2.1 (by omega) (by omega)]
def unfA (acc : List (List UInt8)) (s : List UInt8) : Option (List (List UInt8)) := unf s.length acc s
theorem unfA_nil (acc : List (List UInt8)) : unfA acc [] = some acc := rfl
theorem unfA_step (acc : List (List UInt8)) (s : List UInt8) (hs : s ≠ []) : unfA acc s =
    if ((!(cutE s).2.2) || endB (cutE s).1 || (moreB (cutE s).1 && acc.isEmpty)) = true then none else
    if moreB (cutE s).1 = true then unfA (acc.dropLast ++ [acc.getLastD [] ++ (cutE s).1.tail]) (cutE s).2.1 else unfA (acc ++ [(cutE s).1]) (cutE s).2.1 := by
  have h0 : 0 < s.length := List.length_pos_iff.2 hs
  rw [unfA, show s.length = (s.length - 1) + 1 by omega, unf, if_neg hs]
  cases hc : (cutE s).2.2
  · rw [if_pos (by simp), if_pos (by simp)]
  · have := (cutE_len s).2 hc
    rw [unf_fuel (s.length - 1) (cutE s).2.1.length _ (cutE s).2.1 (by omega) (Nat.le_refl _), unf_fuel (s.length - 1) (cutE s).2.1.length _ (cutE s).2.1 (by omega) (Nat.le_refl _)]
    rfl
/-- Rows as lines, or why not. -/
def unfoldR (s : List UInt8) : List (List UInt8) × Int :=
  if 20000 < s.length then ([], 4) else if runAt mayB s 0 = false then ([], 3) else match unfA [] s with | none => ([], 17) | some l => (l, 0)
theorem pre_one (c : UInt8) (r : List UInt8) : [c].isPrefixOf r = decide (r.head? = some c) := by
  cases r with
  | nil => rfl
  | cons x r =>
    simp only [List.isPrefixOf, Bool.and_true, List.head?_cons, Option.some.injEq]
    by_cases h : c = x
    · subst h; simp
    · rw [decide_eq_false (Ne.symm h)]; simpa using h
theorem any_end (r : List UInt8) : r.any ([13, 10] : List UInt8).contains = endB r := by
  unfold endB
  congr 1
  funext x
  simp only [List.contains_cons, List.contains_nil, Bool.or_false]
  by_cases h1 : x = 13
  · subst h1; simp
  · by_cases h2 : x = 10
    · subst h2; simp
    · simp [h1, h2]
theorem sg2 : Sg [13, 10] := ⟨by decide, by decide, by decide⟩
theorem unfold14 (s : List UInt8) (hs : s.length < 1000000000) : ACalls ED 14 [] [.str s] (fun h d => h = [.arr 1 ((unfoldR s).1.map sv)] ∧ d = .tup [.osl 1 0 0 (unfoldR s).1.length none, .int .i64 (unfoldR s).2]) := by
  refine acalls_go c14 (by simp [f14]) ?_
  simp only [f14, ↓gos, gop, Nat.reduceBEq, Nat.reduceAdd, Nat.reduceSub, Nat.reduceLeDiff, Nat.reduceMul, Int.reduceLE, Int.reduceLT, Int.reduceNe, Int.reduceToNat]
  unfold unfoldR
  refine ⟨fun h => ?_, fun h => ?_⟩
  · rw [if_pos (by omega)]
    exact end_rowt rfl rfl ⟨rfl, rfl⟩
  · rw [if_neg (by omega)]
    refine call_ret (valid_c s (by omega)) rfl rfl ?_
    cases hv : runAt mayB s 0
    · simp only [↓gos, gop, Nat.reduceBEq, Nat.reduceAdd, Nat.reduceSub, Nat.reduceLeDiff, Nat.reduceMul, Int.reduceLE, Int.reduceLT, Int.reduceNe, Int.reduceToNat]
      rw [if_pos trivial]
      exact end_rowt rfl rfl ⟨rfl, rfl⟩
    · simp only [↓gos, gop, Nat.reduceBEq, Nat.reduceAdd, Nat.reduceSub, Nat.reduceLeDiff, Nat.reduceMul, Int.reduceLE, Int.reduceLT, Int.reduceNe, Int.reduceToNat]
      rw [if_neg (by simp)]
      refine goN_lp (γ := List (List UInt8) × List UInt8) (fun g => [(0, .str g.2), (4, .ptr 2 0)]) (fun g => [.arr 1 [], .arr 1 (g.1.map sv), .box [.osl 1 1 0 g.1.length none]])
        (fun g => g.1.length ≤ s.length - g.2.length ∧ g.2.length ≤ s.length ∧ g.1.flatten.length + g.2.length ≤ s.length ∧ unfA g.1 g.2 = unfA [] s) (fun g => g.2.length) ([], s)
        (wks rfl (by simp) ⟨rfl, rfl, trivial⟩) ⟨by simp, by simp, by simp, rfl⟩ fun g hg => ?_
      obtain ⟨acc, t⟩ := g
      obtain ⟨p1, pt, p3, p2⟩ := hg
      simp only at p1 p2 p3 pt
      simp only [f14l0, ↓gos, gop, Nat.reduceBEq, Nat.reduceAdd, Nat.reduceSub, Nat.reduceLeDiff, Nat.reduceMul, Int.reduceLE, Int.reduceLT, Int.reduceNe, Int.reduceToNat]
      refine ⟨fun h0 => ?_, fun h0 => ?_⟩
      · have hst := unfA_step acc t h0
        have hcl := cutE_len t
        refine call_ret (cutE31 t (by omega)) rfl rfl ?_
        generalize cutE t = ct at hst hcl
        obtain ⟨row, rest, is⟩ := ct
        simp only at hst hcl
        simp only [↓gos, gop, Nat.reduceBEq, Nat.reduceAdd, Nat.reduceSub, Nat.reduceLeDiff, Nat.reduceMul, Int.reduceLE, Int.reduceLT, Int.reduceNe, Int.reduceToNat]
        refine call_ret (pre113 row [32] (by omega) (by simp)) rfl rfl ?_
        rw [pre_one]
        cases m1 : decide (row.head? = some 32)
        · simp only [↓gos, gop, Nat.reduceBEq, Nat.reduceAdd, Nat.reduceSub, Nat.reduceLeDiff, Nat.reduceMul, Int.reduceLE, Int.reduceLT, Int.reduceNe, Int.reduceToNat]
          refine call_ret (pre113 row [9] (by omega) (by simp)) rfl rfl ?_
          rw [pre_one]
          have hm : moreB row = decide (row.head? = some 9) := by unfold moreB; rw [m1, Bool.false_or]
          rw [← hm]
          cases m2 : moreB row
          · simp only [↓gos, gop, Nat.reduceBEq, Nat.reduceAdd, Nat.reduceSub, Nat.reduceLeDiff, Nat.reduceMul, Int.reduceLE, Int.reduceLT, Int.reduceNe, Int.reduceToNat]
            by_cases ha : acc = []
            · subst ha
              refine call_l1 (m := 1) (l := 2) (n' := 0) (es' := ([] : List (List UInt8)).map sv) (xs := []) (DR := .nilp) rfl rfl rfl last33e rfl ?_
              simp only [↓gos, gop, Nat.reduceBEq, Nat.reduceAdd, Nat.reduceSub, Nat.reduceLeDiff, Nat.reduceMul, Int.reduceLE, Int.reduceLT, Int.reduceNe, Int.reduceToNat]
              cases is
              · simp only [↓gos, gop, Nat.reduceBEq, Nat.reduceAdd, Nat.reduceSub, Nat.reduceLeDiff, Nat.reduceMul, Int.reduceLE, Int.reduceLT, Int.reduceNe, Int.reduceToNat]
                have hn : unfA [] s = none := by rw [← p2, hst]; simp [m2]
                rw [hn]
                exact end_rowt rfl rfl ⟨rfl, rfl⟩
              · simp only [↓gos, gop, Nat.reduceBEq, Nat.reduceAdd, Nat.reduceSub, Nat.reduceLeDiff, Nat.reduceMul, Int.reduceLE, Int.reduceLT, Int.reduceNe, Int.reduceToNat]
                refine call_ret (has86 [13, 10] sg2 row (by omega)) rfl rfl ?_
                rw [any_end]
                cases he : endB row
                · simp only [↓gos, gop, Nat.reduceBEq, Nat.reduceAdd, Nat.reduceSub, Nat.reduceLeDiff, Nat.reduceMul, Int.reduceLE, Int.reduceLT, Int.reduceNe, Int.reduceToNat]
                  refine call_l1 (m := 1) (l := 2) (n' := (([] : List (List UInt8)) ++ [row]).length) (es' := (([] : List (List UInt8)) ++ [row]).map sv) (xs := [.str row]) (DR := .tup []) rfl rfl rfl (add35 ([] : List (List UInt8)) row (by simp)) rfl ?_
                  simp only [↓gos, gop, Nat.reduceBEq, Nat.reduceAdd, Nat.reduceSub, Nat.reduceLeDiff, Nat.reduceMul, Int.reduceLE, Int.reduceLT, Int.reduceNe, Int.reduceToNat]
                  rw [m2, he] at hst
                  simp only [Bool.not_true, Bool.false_or, Bool.false_and, Bool.false_eq_true, if_false] at hst
                  have h3 := hcl.2 rfl
                  refine rnd_s ([] ++ [row], rest) rfl (by simp) ⟨rfl, rfl, trivial⟩ ⟨by simp at p1 h3 hcl p3 ⊢; omega, by simp at h3 ⊢; omega, by simp at p1 h3 hcl p3 ⊢; omega, by rw [← hst, p2]⟩ (by omega)
                · simp only [↓gos, gop, Nat.reduceBEq, Nat.reduceAdd, Nat.reduceSub, Nat.reduceLeDiff, Nat.reduceMul, Int.reduceLE, Int.reduceLT, Int.reduceNe, Int.reduceToNat]
                  have hn : unfA [] s = none := by rw [← p2, hst]; simp [he]
                  rw [hn]
                  exact end_rowt rfl rfl ⟨rfl, rfl⟩
            · obtain ⟨a, x, rfl⟩ : ∃ a x, acc = a ++ [x] := ⟨acc.dropLast, acc.getLast ha, (List.dropLast_concat_getLast ha).symm⟩
              have p1a : a.length + 1 ≤ s.length - t.length := by simpa using p1
              refine call_l1 (m := 1) (l := 2) (n' := (a ++ [x]).length) (es' := (a ++ [x]).map sv) (xs := []) (DR := .aptr 1 1 a.length 0) rfl rfl rfl (last33c a x (by omega)) rfl ?_
              simp only [↓gos, gop, Nat.reduceBEq, Nat.reduceAdd, Nat.reduceSub, Nat.reduceLeDiff, Nat.reduceMul, Int.reduceLE, Int.reduceLT, Int.reduceNe, Int.reduceToNat]
              cases is
              · simp only [↓gos, gop, Nat.reduceBEq, Nat.reduceAdd, Nat.reduceSub, Nat.reduceLeDiff, Nat.reduceMul, Int.reduceLE, Int.reduceLT, Int.reduceNe, Int.reduceToNat]
                have hn : unfA [] s = none := by rw [← p2, hst]; simp [m2]
                rw [hn]
                exact end_rowt rfl rfl ⟨rfl, rfl⟩
              · simp only [↓gos, gop, Nat.reduceBEq, Nat.reduceAdd, Nat.reduceSub, Nat.reduceLeDiff, Nat.reduceMul, Int.reduceLE, Int.reduceLT, Int.reduceNe, Int.reduceToNat]
                refine call_ret (has86 [13, 10] sg2 row (by omega)) rfl rfl ?_
                rw [any_end]
                cases he : endB row
                · simp only [↓gos, gop, Nat.reduceBEq, Nat.reduceAdd, Nat.reduceSub, Nat.reduceLeDiff, Nat.reduceMul, Int.reduceLE, Int.reduceLT, Int.reduceNe, Int.reduceToNat]
                  refine call_l1 (m := 1) (l := 2) (n' := ((a ++ [x]) ++ [row]).length) (es' := ((a ++ [x]) ++ [row]).map sv) (xs := [.str row]) (DR := .tup []) rfl rfl rfl (add35 (a ++ [x]) row (by simp; omega)) rfl ?_
                  simp only [↓gos, gop, Nat.reduceBEq, Nat.reduceAdd, Nat.reduceSub, Nat.reduceLeDiff, Nat.reduceMul, Int.reduceLE, Int.reduceLT, Int.reduceNe, Int.reduceToNat]
                  rw [m2, he] at hst
                  simp only [Bool.not_true, Bool.false_or, Bool.false_and, Bool.false_eq_true, if_false] at hst
                  have h3 := hcl.2 rfl
                  refine rnd_s ((a ++ [x]) ++ [row], rest) rfl (by simp) ⟨rfl, rfl, trivial⟩ ⟨by simp at p1 h3 hcl p3 ⊢; omega, by simp at h3 ⊢; omega, by simp at p1 h3 hcl p3 ⊢; omega, by rw [← hst, p2]⟩ (by omega)
                · simp only [↓gos, gop, Nat.reduceBEq, Nat.reduceAdd, Nat.reduceSub, Nat.reduceLeDiff, Nat.reduceMul, Int.reduceLE, Int.reduceLT, Int.reduceNe, Int.reduceToNat]
                  have hn : unfA [] s = none := by rw [← p2, hst]; simp [he]
                  rw [hn]
                  exact end_rowt rfl rfl ⟨rfl, rfl⟩
          · simp only [↓gos, gop, Nat.reduceBEq, Nat.reduceAdd, Nat.reduceSub, Nat.reduceLeDiff, Nat.reduceMul, Int.reduceLE, Int.reduceLT, Int.reduceNe, Int.reduceToNat]
            by_cases ha : acc = []
            · subst ha
              refine call_l1 (m := 1) (l := 2) (n' := 0) (es' := ([] : List (List UInt8)).map sv) (xs := []) (DR := .nilp) rfl rfl rfl last33e rfl ?_
              simp only [↓gos, gop, Nat.reduceBEq, Nat.reduceAdd, Nat.reduceSub, Nat.reduceLeDiff, Nat.reduceMul, Int.reduceLE, Int.reduceLT, Int.reduceNe, Int.reduceToNat]
              cases is
              · simp only [↓gos, gop, Nat.reduceBEq, Nat.reduceAdd, Nat.reduceSub, Nat.reduceLeDiff, Nat.reduceMul, Int.reduceLE, Int.reduceLT, Int.reduceNe, Int.reduceToNat]
                have hn : unfA [] s = none := by rw [← p2, hst]; simp [m2]
                rw [hn]
                exact end_rowt rfl rfl ⟨rfl, rfl⟩
              · simp only [↓gos, gop, Nat.reduceBEq, Nat.reduceAdd, Nat.reduceSub, Nat.reduceLeDiff, Nat.reduceMul, Int.reduceLE, Int.reduceLT, Int.reduceNe, Int.reduceToNat]
                refine call_ret (has86 [13, 10] sg2 row (by omega)) rfl rfl ?_
                rw [any_end]
                cases he : endB row
                · simp only [↓gos, gop, Nat.reduceBEq, Nat.reduceAdd, Nat.reduceSub, Nat.reduceLeDiff, Nat.reduceMul, Int.reduceLE, Int.reduceLT, Int.reduceNe, Int.reduceToNat]
                  have hn : unfA [] s = none := by rw [← p2, hst]; simp [m2]
                  rw [hn]
                  exact end_rowt rfl rfl ⟨rfl, rfl⟩
                · simp only [↓gos, gop, Nat.reduceBEq, Nat.reduceAdd, Nat.reduceSub, Nat.reduceLeDiff, Nat.reduceMul, Int.reduceLE, Int.reduceLT, Int.reduceNe, Int.reduceToNat]
                  have hn : unfA [] s = none := by rw [← p2, hst]; simp [he]
                  rw [hn]
                  exact end_rowt rfl rfl ⟨rfl, rfl⟩
            · obtain ⟨a, x, rfl⟩ : ∃ a x, acc = a ++ [x] := ⟨acc.dropLast, acc.getLast ha, (List.dropLast_concat_getLast ha).symm⟩
              have p1a : a.length + 1 ≤ s.length - t.length := by simpa using p1
              refine call_l1 (m := 1) (l := 2) (n' := (a ++ [x]).length) (es' := (a ++ [x]).map sv) (xs := []) (DR := .aptr 1 1 a.length 0) rfl rfl rfl (last33c a x (by omega)) rfl ?_
              simp only [↓gos, gop, Nat.reduceBEq, Nat.reduceAdd, Nat.reduceSub, Nat.reduceLeDiff, Nat.reduceMul, Int.reduceLE, Int.reduceLT, Int.reduceNe, Int.reduceToNat]
              cases is
              · simp only [↓gos, gop, Nat.reduceBEq, Nat.reduceAdd, Nat.reduceSub, Nat.reduceLeDiff, Nat.reduceMul, Int.reduceLE, Int.reduceLT, Int.reduceNe, Int.reduceToNat]
                have hn : unfA [] s = none := by rw [← p2, hst]; simp [m2]
                rw [hn]
                exact end_rowt rfl rfl ⟨rfl, rfl⟩
              · simp only [↓gos, gop, Nat.reduceBEq, Nat.reduceAdd, Nat.reduceSub, Nat.reduceLeDiff, Nat.reduceMul, Int.reduceLE, Int.reduceLT, Int.reduceNe, Int.reduceToNat]
                refine call_ret (has86 [13, 10] sg2 row (by omega)) rfl rfl ?_
                rw [any_end]
                cases he : endB row
                · simp only [↓gos, gop, Nat.reduceBEq, Nat.reduceAdd, Nat.reduceSub, Nat.reduceLeDiff, Nat.reduceMul, Int.reduceLE, Int.reduceLT, Int.reduceNe, Int.reduceToNat]
                  refine optP_at [] (by simp) ?_
                  rw [show (a ++ [x]).getD a.length [] = x by simp]
                  have hrow : row ≠ [] := fun e => by subst e; simp [moreB] at m2
                  have hr0 : 0 < row.length := List.length_pos_iff.2 hrow
                  have hfl : (a ++ [x]).flatten.length = a.flatten.length + x.length := by simp
                  have h3 := hcl.2 rfl
                  simp only [sv, ↓gos, gop, Nat.reduceBEq, Nat.reduceAdd, Nat.reduceSub, Nat.reduceLeDiff, Nat.reduceMul, Int.reduceLE, Int.reduceLT, Int.reduceNe, Int.reduceToNat]
                  refine ⟨by omega, by simp only [List.length_take, List.length_drop]; omega, ?_⟩
                  rw [show (a ++ [x])[a.length]? = some x by simp, optP_some]
                  have htl : List.take (row.length - 1) (List.drop 1 row) = row.tail := by
                    rw [List.drop_one]; exact List.take_of_length_le (by simp)
                  rw [htl]
                  have hset : (List.map sv (a ++ [x])).set a.length [DV.str (x ++ row.tail)] = List.map sv (a ++ [x ++ row.tail]) := by
                    rw [List.map_append, List.set_append_right _ _ (by simp)]; simp [sv]
                  have hln : (a ++ [x]).length = (a ++ [x ++ row.tail]).length := by simp
                  rw [hset, hln]
                  rw [m2, he] at hst
                  simp only [Bool.not_true, Bool.false_or, Bool.true_and, List.dropLast_concat, getLastD_app] at hst
                  rw [if_neg (by simp), if_pos trivial] at hst
                  have htl2 : row.tail.length + 1 = row.length := by rw [List.length_tail]; omega
                  refine rnd_s (a ++ [x ++ row.tail], rest) rfl (by simp) ⟨rfl, rfl, trivial⟩ ⟨by simp; omega, by simp only; omega, by simp at p3 ⊢; omega, by rw [← hst, p2]⟩ (by simp only; omega)
                · simp only [↓gos, gop, Nat.reduceBEq, Nat.reduceAdd, Nat.reduceSub, Nat.reduceLeDiff, Nat.reduceMul, Int.reduceLE, Int.reduceLT, Int.reduceNe, Int.reduceToNat]
                  have hn : unfA [] s = none := by rw [← p2, hst]; simp [he]
                  rw [hn]
                  exact end_rowt rfl rfl ⟨rfl, rfl⟩
        · simp only [↓gos, gop, Nat.reduceBEq, Nat.reduceAdd, Nat.reduceSub, Nat.reduceLeDiff, Nat.reduceMul, Int.reduceLE, Int.reduceLT, Int.reduceNe, Int.reduceToNat]
          have m2 : moreB row = true := by unfold moreB; rw [m1, Bool.true_or]
          by_cases ha : acc = []
          · subst ha
            refine call_l1 (m := 1) (l := 2) (n' := 0) (es' := ([] : List (List UInt8)).map sv) (xs := []) (DR := .nilp) rfl rfl rfl last33e rfl ?_
            simp only [↓gos, gop, Nat.reduceBEq, Nat.reduceAdd, Nat.reduceSub, Nat.reduceLeDiff, Nat.reduceMul, Int.reduceLE, Int.reduceLT, Int.reduceNe, Int.reduceToNat]
            cases is
            · simp only [↓gos, gop, Nat.reduceBEq, Nat.reduceAdd, Nat.reduceSub, Nat.reduceLeDiff, Nat.reduceMul, Int.reduceLE, Int.reduceLT, Int.reduceNe, Int.reduceToNat]
              have hn : unfA [] s = none := by rw [← p2, hst]; simp [m2]
              rw [hn]
              exact end_rowt rfl rfl ⟨rfl, rfl⟩
            · simp only [↓gos, gop, Nat.reduceBEq, Nat.reduceAdd, Nat.reduceSub, Nat.reduceLeDiff, Nat.reduceMul, Int.reduceLE, Int.reduceLT, Int.reduceNe, Int.reduceToNat]
              refine call_ret (has86 [13, 10] sg2 row (by omega)) rfl rfl ?_
              rw [any_end]
              cases he : endB row
              · simp only [↓gos, gop, Nat.reduceBEq, Nat.reduceAdd, Nat.reduceSub, Nat.reduceLeDiff, Nat.reduceMul, Int.reduceLE, Int.reduceLT, Int.reduceNe, Int.reduceToNat]
                have hn : unfA [] s = none := by rw [← p2, hst]; simp [m2]
                rw [hn]
                exact end_rowt rfl rfl ⟨rfl, rfl⟩
              · simp only [↓gos, gop, Nat.reduceBEq, Nat.reduceAdd, Nat.reduceSub, Nat.reduceLeDiff, Nat.reduceMul, Int.reduceLE, Int.reduceLT, Int.reduceNe, Int.reduceToNat]
                have hn : unfA [] s = none := by rw [← p2, hst]; simp [he]
                rw [hn]
                exact end_rowt rfl rfl ⟨rfl, rfl⟩
          · obtain ⟨a, x, rfl⟩ : ∃ a x, acc = a ++ [x] := ⟨acc.dropLast, acc.getLast ha, (List.dropLast_concat_getLast ha).symm⟩
            have p1a : a.length + 1 ≤ s.length - t.length := by simpa using p1
            refine call_l1 (m := 1) (l := 2) (n' := (a ++ [x]).length) (es' := (a ++ [x]).map sv) (xs := []) (DR := .aptr 1 1 a.length 0) rfl rfl rfl (last33c a x (by omega)) rfl ?_
            simp only [↓gos, gop, Nat.reduceBEq, Nat.reduceAdd, Nat.reduceSub, Nat.reduceLeDiff, Nat.reduceMul, Int.reduceLE, Int.reduceLT, Int.reduceNe, Int.reduceToNat]
            cases is
            · simp only [↓gos, gop, Nat.reduceBEq, Nat.reduceAdd, Nat.reduceSub, Nat.reduceLeDiff, Nat.reduceMul, Int.reduceLE, Int.reduceLT, Int.reduceNe, Int.reduceToNat]
              have hn : unfA [] s = none := by rw [← p2, hst]; simp [m2]
              rw [hn]
              exact end_rowt rfl rfl ⟨rfl, rfl⟩
            · simp only [↓gos, gop, Nat.reduceBEq, Nat.reduceAdd, Nat.reduceSub, Nat.reduceLeDiff, Nat.reduceMul, Int.reduceLE, Int.reduceLT, Int.reduceNe, Int.reduceToNat]
              refine call_ret (has86 [13, 10] sg2 row (by omega)) rfl rfl ?_
              rw [any_end]
              cases he : endB row
              · simp only [↓gos, gop, Nat.reduceBEq, Nat.reduceAdd, Nat.reduceSub, Nat.reduceLeDiff, Nat.reduceMul, Int.reduceLE, Int.reduceLT, Int.reduceNe, Int.reduceToNat]
                refine optP_at [] (by simp) ?_
                rw [show (a ++ [x]).getD a.length [] = x by simp]
                have hrow : row ≠ [] := fun e => by subst e; simp [moreB] at m2
                have hr0 : 0 < row.length := List.length_pos_iff.2 hrow
                have hfl : (a ++ [x]).flatten.length = a.flatten.length + x.length := by simp
                have h3 := hcl.2 rfl
                simp only [sv, ↓gos, gop, Nat.reduceBEq, Nat.reduceAdd, Nat.reduceSub, Nat.reduceLeDiff, Nat.reduceMul, Int.reduceLE, Int.reduceLT, Int.reduceNe, Int.reduceToNat]
                refine ⟨by omega, by simp only [List.length_take, List.length_drop]; omega, ?_⟩
                rw [show (a ++ [x])[a.length]? = some x by simp, optP_some]
                have htl : List.take (row.length - 1) (List.drop 1 row) = row.tail := by
                  rw [List.drop_one]; exact List.take_of_length_le (by simp)
                rw [htl]
                have hset : (List.map sv (a ++ [x])).set a.length [DV.str (x ++ row.tail)] = List.map sv (a ++ [x ++ row.tail]) := by
                  rw [List.map_append, List.set_append_right _ _ (by simp)]; simp [sv]
                have hln : (a ++ [x]).length = (a ++ [x ++ row.tail]).length := by simp
                rw [hset, hln]
                rw [m2, he] at hst
                simp only [Bool.not_true, Bool.false_or, Bool.true_and, List.dropLast_concat, getLastD_app] at hst
                rw [if_neg (by simp), if_pos trivial] at hst
                have htl2 : row.tail.length + 1 = row.length := by rw [List.length_tail]; omega
                refine rnd_s (a ++ [x ++ row.tail], rest) rfl (by simp) ⟨rfl, rfl, trivial⟩ ⟨by simp; omega, by simp only; omega, by simp at p3 ⊢; omega, by rw [← hst, p2]⟩ (by simp only; omega)
              · simp only [↓gos, gop, Nat.reduceBEq, Nat.reduceAdd, Nat.reduceSub, Nat.reduceLeDiff, Nat.reduceMul, Int.reduceLE, Int.reduceLT, Int.reduceNe, Int.reduceToNat]
                have hn : unfA [] s = none := by rw [← p2, hst]; simp [he]
                rw [hn]
                exact end_rowt rfl rfl ⟨rfl, rfl⟩
      · have h0 : t = [] := by simpa using h0
        subst h0
        rw [unfA_nil] at p2
        rw [← p2]
        exact end_rowt rfl rfl ⟨rfl, rfl⟩
end Go.Proofs.Ut
