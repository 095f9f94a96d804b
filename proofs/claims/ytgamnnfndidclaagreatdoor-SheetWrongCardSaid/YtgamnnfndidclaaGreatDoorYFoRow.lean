/- sheet.one: the contact of a row. -/
import Derived.Test.YtgamnnfndidclaaGreatDoorYP
import Derived.Test.YtgamnnfndidclaaGreatDoorAiEnd
import Derived.Carry
import Derived.Test.YtgamnnfndidclaaGreatDoorYFoUtF
import Derived.Test.YtgamnnfndidclaaGreatDoorRows
import Derived.Lib.LaidIn
import Derived.Lib.LaidTab
import Derived.Lib.LaidU8T
import Derived.PinnedBridge
import Derived.ProofKit
import Derived.LaidMore
import Derived.Lay
import Derived.Stop.Joined
import Derived.Handed
import Derived.Shelf.Vars
set_option linter.all false
namespace Go.Proofs.Ut
open Go.Ai
set_option maxRecDepth 100000
set_option linter.all false
def tf (k : Nat) : Nat := match k with | 4 => 94 | 9 => 100 | _ => 143
def tc (k : Nat) : List DV := match k with
  | 0 => [.eptr [.fn 90 []] 0] | 1 => [.eptr [.fn 91 []] 0] | 2 => [.eptr [.fn 92 []] 0] | 3 => [.eptr [.fn 93 []] 0] | 5 => [.eptr [.fn 96 []] 0] | 6 => [.eptr [.fn 97 []] 0] | 7 => [.eptr [.fn 98 []] 0] | 8 => [.eptr [.fn 99 []] 0] | _ => []
def uf (k : Nat) : Nat := match k with | 4 => 95 | 9 => 101 | _ => 144
def colv (k : Nat) : List DV := [.str (COLS.getD k []), .fn (tf k) (tc k), .fn (uf k) (tc k)]
theorem ten {p : Nat → Prop} (h0 : p 0) (h1 : p 1) (h2 : p 2) (h3 : p 3) (h4 : p 4) (h5 : p 5) (h6 : p 6) (h7 : p 7) (h8 : p 8) (h9 : p 9) : ∀ k, k < 10 → p k
  | 0, _ => h0 | 1, _ => h1 | 2, _ => h2 | 3, _ => h3 | 4, _ => h4 | 5, _ => h5 | 6, _ => h6 | 7, _ => h7 | 8, _ => h8 | 9, _ => h9
  | k + 10, h => by omega
theorem cols_at : ∀ k, k < 10 → cols[k]? = some (colv k) := ten rfl rfl rfl rfl rfl rfl rfl rfl rfl rfl
theorem tc_closed : ∀ k, k < 10 → (tc k).all DV.closed = true := ten rfl rfl rfl rfl rfl rfl rfl rfl rfl rfl
def putC (k : Nat) (c : CT) (s : List UInt8) : CT × Int := match k with
  | 0 => ({ c with name := s }, 0) | 1 => ({ c with family := s }, 0) | 2 => ({ c with given := s }, 0) | 3 => ({ c with nick := s }, 0) | 4 => jidP c s
  | 5 => ({ c with email := s }, 0) | 6 => ({ c with tel := s }, 0) | 7 => ({ c with note := s }, 0) | 8 => ({ c with uid := s }, 0) | 9 => groupsP c s | _ => (c, 0)
theorem take_at (c : CT) (s : List UInt8) (hs : s.length < 100000000) : ∀ k, k < 10 → (k = 9 → (splitF 59 false [] s).length < 20) → Tk (tf k) c (.str s :: tc k) (putC k c s).1 (putC k c s).2 :=
  ten (fun _ => put0 c s) (fun _ => put1 c s) (fun _ => put2 c s) (fun _ => put3 c s) (fun _ => put4 c s hs) (fun _ => put5 c s) (fun _ => put6 c s) (fun _ => put7 c s) (fun _ => put8 c s) (fun h => put9 c s hs (h rfl))
def C0 : CT := ⟨[], [], [], [], [], [], [], [], [], [], []⟩
def oneF (names row : List (List UInt8)) : Nat → CT × Int
  | 0 => (C0, 0)
  | k + 1 => if (oneF names row k).2 = 0 then (if names.contains (COLS.getD k []) = true then putC k (oneF names row k).1 (row.getD (names.idxOf (COLS.getD k [])) []) else oneF names row k) else oneF names row k
theorem oneF_err {names row : List (List UInt8)} {k : Nat} (h : (oneF names row k).2 ≠ 0) : ∀ n, oneF names row (k + n) = oneF names row k
  | 0 => rfl
  | n + 1 => by
    rw [show k + (n + 1) = (k + n) + 1 from rfl, oneF, oneF_err h n, if_neg h]
def oneR (names row : List (List UInt8)) : CT × Int :=
  if row.length = names.length then (if (oneF names row 10).2 = 0 then (if rightC (oneF names row 10).1 = true then ((oneF names row 10).1, 0) else ((oneF names row 10).1, 12)) else oneF names row 10) else (C0, 12)
theorem one42 (names row : List (List UInt8)) (hl : names.length < 1000000000) (hrl : row.length < 1000000000) (hw : ∀ s ∈ row, s.length < 100000000) (h20 : (splitF 59 false [] (row.getD (names.idxOf GROUPS) [])).length < 20) (hok : okS (oneF names row 10).1) :
    DRet 42 [.sl 1 (names.map sv), .sl 1 (row.map sv)] (.tup [.agg (ctv (oneR names row).1), .int .i64 (oneR names row).2]) := by
  refine acalls_goF c42 (by simp [f42]) ?_
  simp only [f42, finF_e, finF_en, ↓gos, gop, Nat.reduceBEq, Nat.reduceAdd, Nat.reduceSub, Nat.reduceLeDiff, Nat.reduceMul, Int.reduceLE, Int.reduceLT, Int.reduceNe, Int.reduceToNat]
  unfold oneR
  refine ⟨fun h => ?_, fun h => ?_⟩
  · rw [if_neg (by omega)]
    exact end_fc [6, 7] rfl rfl ⟨rfl, rfl⟩
  · rw [if_pos (by omega)]
    have hlen : row.length = names.length := by omega
    refine call_frz [0, 1, 3, 4, 6, 7] rfl ?_
    simp only [finF_e, finF_en, ↓gos, gop, Nat.reduceBEq, Nat.reduceAdd, Nat.reduceSub, Nat.reduceLeDiff, Nat.reduceMul, Int.reduceLE, Int.reduceLT, Int.reduceNe, Int.reduceToNat]
    refine call_clo columns48 rfl rfl ?_
    simp only [finF_e, finF_en, ↓gos, gop, Nat.reduceBEq, Nat.reduceAdd, Nat.reduceSub, Nat.reduceLeDiff, Nat.reduceMul, Int.reduceLE, Int.reduceLT, Int.reduceNe, Int.reduceToNat]
    refine goN_lp (γ := Nat) (fun i => [(20, .int .i64 i), (19, .int .i64 10), (18, .sl 3 cols), (6, .ptr 5 0), (5, .int .i64 0), (4, .ptr 2 0), (0, .sl 1 (names.map sv)), (1, .sl 1 (row.map sv))])
      (fun i => [.dead, .dead, .box (ctv C0), .dead, .dead, .box (ctv (oneF names row i).1), .dead, .dead]) (fun i => i ≤ 10 ∧ (oneF names row i).2 = 0) (fun i => 10 - i) 0
      (wks rfl (by simp) ⟨rfl, rfl, rfl, rfl, rfl, rfl, rfl, rfl, trivial⟩) ⟨by omega, rfl⟩ fun i hi => ?_
    obtain ⟨hi, hz⟩ := hi
    simp only [f42l0, finF_e, finF_en, ↓gos, gop, Nat.reduceBEq, Nat.reduceAdd, Nat.reduceSub, Nat.reduceLeDiff, Nat.reduceMul, Int.reduceLE, Int.reduceLT, Int.reduceNe, Int.reduceToNat]
    refine ⟨fun h => ?_, fun h => ?_⟩
    · have h10 : i < 10 := by omega
      have hnx : oneF names row (i + 1) = if names.contains (COLS.getD i []) = true then putC i (oneF names row i).1 (row.getD (names.idxOf (COLS.getD i [])) []) else oneF names row i := by
        rw [oneF, if_pos hz]
      have w1 : IntKind.i64.wrap ((i : Int) + 1) = ((i + 1 : Nat) : Int) := by rw [wrap_i64 (by omega) (by omega)]; rfl
      have hcol := cols_at i h10
      simp only [hcol, colv, finF_e, finF_en, ↓gos, gop, Nat.reduceBEq, Nat.reduceAdd, Nat.reduceSub, Nat.reduceLeDiff, Nat.reduceMul, Int.reduceLE, Int.reduceLT, Int.reduceNe, Int.reduceToNat]
      refine call_ret (index84 names (COLS.getD i []) hl) rfl rfl ?_
      unfold idxI
      by_cases hc : names.contains (COLS.getD i []) = true
      · rw [if_pos hc] at hnx ⊢
        have hlt : names.idxOf (COLS.getD i []) < row.length := by rw [hlen]; exact List.idxOf_lt_length_of_mem (by simpa using hc)
        have hm : row.getD (names.idxOf (COLS.getD i [])) [] ∈ row := by rw [List.getD_eq_getElem?_getD, List.getElem?_eq_getElem hlt]; exact List.getElem_mem hlt
        have h20' : i = 9 → (splitF 59 false [] (row.getD (names.idxOf (COLS.getD i [])) [])).length < 20 := fun e => by subst e; exact h20
        have hx : row[names.idxOf (COLS.getD i [])]? = some (row.getD (names.idxOf (COLS.getD i [])) []) := by
          rw [List.getD_eq_getElem?_getD (l := row), List.getElem?_eq_getElem hlt]; rfl
        generalize row.getD (names.idxOf (COLS.getD i [])) [] = x at *
        generalize names.idxOf (COLS.getD i []) = j at *
        simp only [hx, sv, finF_e, finF_en, ↓gos, gop, Nat.reduceBEq, Nat.reduceAdd, Nat.reduceSub, Nat.reduceLeDiff, Nat.reduceMul, Int.reduceLE, Int.reduceLT, Int.reduceNe, Int.reduceToNat]
        refine call_bx (i := 5) rfl (ctv_closed _) (ctv_closed _) rfl (by rw [List.all_cons, tc_closed i h10]; rfl) (take_at (oneF names row i).1 x (hw x hm) i h10 h20') ?_
        rw [← hnx]
        by_cases he : (oneF names row (i + 1)).2 = 0
        · simp only [he, w1, forall_eq, finF_e, finF_en, ↓gos, gop, Nat.reduceBEq, Nat.reduceAdd, Nat.reduceSub, Nat.reduceLeDiff, Nat.reduceMul, Int.reduceLE, Int.reduceLT, Int.reduceNe, Int.reduceToNat]
          refine rnd_d 8 (i + 1) rfl (by simp) ⟨rfl, rfl, rfl, rfl, rfl, rfl, rfl, rfl, rfl, rfl, rfl, rfl, rfl, rfl, rfl, rfl, trivial⟩ rfl ⟨by omega, he⟩ (by omega)
        · have hfin : oneF names row 10 = oneF names row (i + 1) := by
            have := oneF_err (k := i + 1) he (9 - i)
            rwa [show i + 1 + (9 - i) = 10 by omega] at this
          rw [hfin, if_neg he]
          simp only [he, finF_e, finF_en, ctv, ↓gos, gop, Nat.reduceBEq, Nat.reduceAdd, Nat.reduceSub, Nat.reduceLeDiff, Nat.reduceMul, Int.reduceLE, Int.reduceLT, Int.reduceNe, Int.reduceToNat]
          exact end_fc [] rfl rfl ⟨rfl, rfl⟩
      · rw [if_neg hc] at hnx ⊢
        simp only [w1, forall_eq, finF_e, finF_en, ↓gos, gop, Nat.reduceBEq, Nat.reduceAdd, Nat.reduceSub, Nat.reduceLeDiff, Nat.reduceMul, Int.reduceLE, Int.reduceLT, Int.reduceNe, Int.reduceToNat]
        refine rnd_d 8 (i + 1) (by rw [hnx]; rfl) (by simp) ⟨rfl, rfl, rfl, rfl, rfl, rfl, rfl, rfl, rfl, rfl, rfl, rfl, rfl, rfl, rfl, rfl, trivial⟩ rfl ⟨by omega, by rw [hnx]; exact hz⟩ (by omega)
    · have h10 : i = 10 := by omega
      subst h10
      rw [if_pos hz]
      have htk : ∀ c : CT, (ctv c).take 11 = ctv c := fun _ => rfl
      refine chk_i (by simp [ctv]) ?_
      rw [htk]
      refine call_ret (right35 _ hok) rfl rfl ?_
      cases hr : rightC (oneF names row 10).1
      · simp only [ctv, finF_e, finF_en, Bool.false_eq_true, reduceIte, ↓gos, gop, Nat.reduceBEq, Nat.reduceAdd, Nat.reduceSub, Nat.reduceLeDiff, Nat.reduceMul, Int.reduceLE, Int.reduceLT, Int.reduceNe, Int.reduceToNat]
        exact end_fc [] rfl rfl ⟨rfl, rfl⟩
      · simp only [ctv, finF_e, finF_en, reduceIte, ↓gos, gop, Nat.reduceBEq, Nat.reduceAdd, Nat.reduceSub, Nat.reduceLeDiff, Nat.reduceMul, Int.reduceLE, Int.reduceLT, Int.reduceNe, Int.reduceToNat]
        exact end_fc [] rfl rfl ⟨rfl, rfl⟩
end Go.Proofs.Ut

/- sheet.Read: whom rows are of. -/
namespace Go.Proofs.Ut
open Go.Ai
set_option maxRecDepth 100000
set_option linter.all false
def rwv (r : List (List UInt8)) : List DV := [.sl 1 (r.map sv)]
def readK (names : List (List UInt8)) (tl : List (List (List UInt8))) : Nat → List CT × Int × Int
  | 0 => ([], 0, 0)
  | i + 1 => if (readK names tl i).2.2 = 0 then (if (oneR names (tl.getD i [])).2 = 0 then ((readK names tl i).1 ++ [(oneR names (tl.getD i [])).1], 0, 0) else ([], ((i + 1 : Nat) : Int), (oneR names (tl.getD i [])).2)) else readK names tl i
theorem readK_err {names : List (List UInt8)} {tl : List (List (List UInt8))} {k : Nat} (h : (readK names tl k).2.2 ≠ 0) : ∀ n, readK names tl (k + n) = readK names tl k
  | 0 => rfl
  | n + 1 => by
    rw [show k + (n + 1) = (k + n) + 1 from rfl, readK, readK_err h n, if_neg h]
def readR (rows : List (List (List UInt8))) : List CT × Int × Int := match rows with
  | [] => ([], 0, 0)
  | r :: tl => if (headR r).2 = true then (if tl.length ≤ 60 then readK (headR r).1 tl tl.length else ([], 0, 4)) else ([], 0, 21)
structure okRow (names row : List (List UInt8)) : Prop where
  hrl : row.length < 1000000000
  hw : ∀ s ∈ row, s.length < 100000000
  h20 : (splitF 59 false [] (row.getD (names.idxOf GROUPS) [])).length < 20
  hok : okS (oneF names row 10).1
def okRows (rows : List (List (List UInt8))) : Prop := match rows with
  | [] => True
  | r :: tl => r.length < 1000000000 ∧ (∀ s ∈ r, s.length < 100000000) ∧ ((headR r).2 = true → ∀ row ∈ tl, okRow (headR r).1 row)
theorem read14 (rows : List (List (List UInt8))) (hn : rows.length < 1000000000) (hok : okRows rows) :
    DRet 14 [.sl 1 (rows.map rwv)] (.tup [.sl 11 ((readR rows).1.map ctv), .int .i64 (readR rows).2.1, .int .i64 (readR rows).2.2]) := by
  refine acalls_goF c14 (by simp [f14]) ?_
  simp only [f14, finF_e, finF_en, ↓gos, gop, Nat.reduceBEq, Nat.reduceAdd, Nat.reduceSub, Nat.reduceLeDiff, Nat.reduceMul, Int.reduceLE, Int.reduceLT, Int.reduceNe, Int.reduceToNat]
  cases rows with
  | nil =>
    simp only [finF_e, finF_en, ↓gos, gop, Nat.reduceBEq, Nat.reduceAdd, Nat.reduceSub, Nat.reduceLeDiff, Nat.reduceMul, Int.reduceLE, Int.reduceLT, Int.reduceNe, Int.reduceToNat]
    exact end_fc [1] rfl rfl ⟨rfl, rfl⟩
  | cons r tl =>
    obtain ⟨hr1, hr2, hr3⟩ := hok
    have hR : readR (r :: tl) = if (headR r).2 = true then (if tl.length ≤ 60 then readK (headR r).1 tl tl.length else ([], 0, 4)) else ([], 0, 21) := rfl
    rw [hR]
    simp only [List.length_cons] at hn
    simp only [rwv, finF_e, finF_en, ↓gos, gop, Nat.reduceBEq, Nat.reduceAdd, Nat.reduceSub, Nat.reduceLeDiff, Nat.reduceMul, Int.reduceLE, Int.reduceLT, Int.reduceNe, Int.reduceToNat]
    refine call_clo (header41 r hr1 hr2) rfl rfl ?_
    cases hh : (headR r).2
    · simp only [Bool.false_eq_true, reduceIte, finF_e, finF_en, ↓gos, gop, Nat.reduceBEq, Nat.reduceAdd, Nat.reduceSub, Nat.reduceLeDiff, Nat.reduceMul, Int.reduceLE, Int.reduceLT, Int.reduceNe, Int.reduceToNat]
      exact end_fc [1] rfl rfl ⟨rfl, rfl⟩
    · have hr3 := hr3 hh
      have w0 : IntKind.i64.wrap (((tl.length + 1 : Nat) : Int) - 1) = (tl.length : Int) := by rw [wrap_i64 (by omega) (by omega)]; omega
      simp only [w0, forall_eq, reduceIte, finF_e, finF_en, ↓gos, gop, Nat.reduceBEq, Nat.reduceAdd, Nat.reduceSub, Nat.reduceLeDiff, Nat.reduceMul, Int.reduceLE, Int.reduceLT, Int.reduceNe, Int.reduceToNat]
      refine ⟨fun h => ?_, fun h => ?_⟩
      · rw [if_neg (by omega)]
        exact end_fc [1] rfl rfl ⟨rfl, rfl⟩
      · rw [if_pos (by omega)]
        have hnl : (headR r).1.length ≤ r.length := by unfold headR; split <;> simp
        generalize (headR r).1 = names at *
        have htk : List.take (tl.length + 1 - 1) (tl.map rwv) = tl.map rwv := List.take_of_length_le (by simp)
        rw [htk]
        refine chk_i (by omega) ?_
        refine goN_lp (γ := Nat) (fun i => [(33, .int .i64 i), (32, .int .i64 tl.length), (31, .sl 1 (tl.map rwv)), (7, .osl 11 1 0 i none), (5, .sl 1 (names.map sv))])
          (fun i => [.arr 11 [], .arr 11 ((readK names tl i).1.map ctv)]) (fun i => i ≤ tl.length ∧ (readK names tl i).2 = (0, 0) ∧ (readK names tl i).1.length = i) (fun i => tl.length - i) 0
          (wks rfl (by simp) ⟨rfl, by simp [slots], rfl, rfl, rfl, trivial⟩) ⟨by omega, rfl, rfl⟩ fun i hi => ?_
        obtain ⟨hi, hz, hil⟩ := hi
        simp only [f14l0, finF_e, finF_en, ↓gos, gop, Nat.reduceBEq, Nat.reduceAdd, Nat.reduceSub, Nat.reduceLeDiff, Nat.reduceMul, Int.reduceLE, Int.reduceLT, Int.reduceNe, Int.reduceToNat]
        refine ⟨fun h5 => ?_, fun h5 => ?_⟩
        · have h2 : i < tl.length := by omega
          refine optP_at [] h2 ?_
          have hm : tl.getD i [] ∈ tl := by rw [List.getD_eq_getElem?_getD, List.getElem?_eq_getElem h2]; exact List.getElem_mem h2
          have hok := hr3 _ hm
          have hnx : readK names tl (i + 1) = if (oneR names (tl.getD i [])).2 = 0 then ((readK names tl i).1 ++ [(oneR names (tl.getD i [])).1], 0, 0) else ([], ((i + 1 : Nat) : Int), (oneR names (tl.getD i [])).2) := by
            rw [readK, if_pos (by rw [hz])]
          have w1 : IntKind.i64.wrap ((i : Int) + 1) = ((i + 1 : Nat) : Int) := by rw [wrap_i64 (by omega) (by omega)]; rfl
          generalize tl.getD i [] = row at *
          simp only [rwv, finF_e, finF_en, ↓gos, gop, Nat.reduceBEq, Nat.reduceAdd, Nat.reduceSub, Nat.reduceLeDiff, Nat.reduceMul, Int.reduceLE, Int.reduceLT, Int.reduceNe, Int.reduceToNat]
          refine call_clo (one42 names row (by omega) hok.hrl hok.hw hok.h20 hok.hok) rfl rfl ?_
          generalize oneR names row = o at *
          obtain ⟨c, e⟩ := o
          simp only at hnx
          simp only [ctv, w1, forall_eq, finF_e, finF_en, ↓gos, gop, Nat.reduceBEq, Nat.reduceAdd, Nat.reduceSub, Nat.reduceLeDiff, Nat.reduceMul, Int.reduceLE, Int.reduceLT, Int.reduceNe, Int.reduceToNat]
          refine ⟨fun he => ?_, fun he => ?_⟩
          · rw [if_neg he] at hnx
            have hfin : readK names tl tl.length = readK names tl (i + 1) := by
              have := readK_err (k := i + 1) (by rw [hnx]; exact he) (tl.length - (i + 1))
              rwa [show i + 1 + (tl.length - (i + 1)) = tl.length by omega] at this
            rw [hfin, hnx]
            exact end_fc [5] rfl rfl ⟨rfl, rfl⟩
          · subst he
            rw [if_pos rfl] at hnx
            refine chk_i (by omega) (chk_i (by omega) (chk_i (by omega) ?_))
            refine rnd_d 2 (i + 1) ?_ (by simp) ⟨rfl, rfl, rfl, rfl, rfl, rfl, rfl, rfl, rfl, rfl, trivial⟩ (by rw [hnx]; rfl) ⟨by omega, by rw [hnx], by rw [hnx]; simp [hil]⟩ (by omega)
            have ht2 : List.take i (List.map ctv (readK names tl i).1) = List.map ctv (readK names tl i).1 := List.take_of_length_le (by simp [hil])
            rw [hnx, ht2]
            simp only [List.map_append]
            rfl
        · have h2 : i = tl.length := by omega
          subst h2
          rw [hz]
          have e : frzD [1] [.arr 11 [], .arr 11 ((readK names tl tl.length).1.map ctv)] (.osl 11 1 0 tl.length none) = .sl 11 ((readK names tl tl.length).1.map ctv) :=
            frz_row (F := [1]) (h := [.arr 11 [], .arr 11 ((readK names tl tl.length).1.map ctv)]) (sz := 11) (i := 1) (n := tl.length) (c := none) rfl (by simp [hil]) rfl
          refine end_fc [1] (D := .tup [.sl 11 ((readK names tl tl.length).1.map ctv), .int .i64 0, .int .i64 0]) ?_ rfl ⟨rfl, rfl⟩
          show DV.tup [frzD _ _ _, _, _] = _
          rw [e]; rfl
end Go.Proofs.Ut

/- The statements of sheet: what holds of rows that are given, and awake. -/
namespace Go.Proofs.Ut
open Go.Ai
set_option maxRecDepth 100000
set_option linter.all false
def okSB (c : CT) : Bool := [c.name, c.family, c.given, c.nick, c.jid, c.email, c.tel, c.note, c.uid].all (fun s => decide (s.length < 10000)) && decide (c.groups.length < 10000) && c.groups.all (fun s => decide (s.length < 10000)) && c.other.isEmpty
theorem okS_of {c : CT} (h : okSB c = true) : okS c := by
  simp only [okSB, Bool.and_eq_true, List.all_cons, List.all_nil, decide_eq_true_eq, Bool.and_true] at h
  obtain ⟨⟨⟨⟨h1, h2, h3, h4, h5, h6, h7, h8, h9⟩, h10⟩, h11⟩, h12⟩ := h
  have e : c.other = [] := by simpa using h12
  refine ⟨by omega, by omega, by omega, by omega, by omega, by omega, by omega, by omega, by omega, by omega, fun s hs => ?_, by simp [e], fun p hp => by simp [e] at hp⟩
  have := List.all_eq_true.1 h11 s hs
  simp only [decide_eq_true_eq] at this
  omega
def okRowB (names row : List (List UInt8)) : Bool := decide (row.length < 10000) && row.all (fun s => decide (s.length < 10000)) && decide ((splitF 59 false [] (row.getD (names.idxOf GROUPS) [])).length < 20) && okSB (oneF names row 10).1
def okRowsB (rows : List (List (List UInt8))) : Bool := match rows with
  | [] => true
  | r :: tl => decide (r.length < 10000) && r.all (fun s => decide (s.length < 10000)) && (!(headR r).2 || tl.all (okRowB (headR r).1))
theorem okRow_of {names row : List (List UInt8)} (h : okRowB names row = true) : okRow names row := by
  simp only [okRowB, Bool.and_eq_true, decide_eq_true_eq, List.all_eq_true] at h
  obtain ⟨⟨⟨h1, h2⟩, h3⟩, h4⟩ := h
  exact ⟨by omega, fun s hs => by have := h2 s hs; omega, h3, okS_of h4⟩
theorem okRows_of {rows : List (List (List UInt8))} (h : okRowsB rows = true) : okRows rows := by
  cases rows with
  | nil => trivial
  | cons r tl =>
    simp only [okRowsB, Bool.and_eq_true, decide_eq_true_eq, List.all_eq_true] at h
    obtain ⟨⟨h1, h2⟩, h3⟩ := h
    refine ⟨by omega, fun s hs => by have := h2 s hs; omega, fun hh row hr => ?_⟩
    rw [hh] at h3
    simp only [Bool.not_true, Bool.false_or, List.all_eq_true] at h3
    exact okRow_of (h3 row hr)
def aw : List (List (List UInt8)) := [[[74, 73, 68], [78, 97, 109, 101]], [[65, 64, 104], [110]]]
theorem aw_is : readR aw = ([{ C0 with name := [110], jid := [97, 64, 104] }], 0, 0) := by kernel_rfl
theorem aw_ok : okRows aw := okRows_of (by decide +kernel)
theorem aw_read : DRet 14 [.sl 1 [[.sl 1 [[.str [74, 73, 68]], [.str [78, 97, 109, 101]]]], [.sl 1 [[.str [65, 64, 104]], [.str [110]]]]]] (.tup [.sl 11 [ctv { C0 with name := [110], jid := [97, 64, 104] }], .int .i64 0, .int .i64 0]) := by
  have h := read14 aw (by decide) aw_ok
  rw [aw_is] at h
  exact h
theorem awake15 : DRet 15 [] (.bool true) := by
  refine acalls_goF c15 (by simp [f15]) ?_
  simp only [f15, finF_e, finF_en, ↓gos, gop, Nat.reduceBEq, Nat.reduceAdd, Nat.reduceSub, Nat.reduceLeDiff, Nat.reduceMul, Int.reduceLE, Int.reduceLT, Int.reduceNe, Int.reduceToNat]
  refine call_frz [2] rfl ?_
  simp only [finF_e, finF_en, ↓gos, gop, Nat.reduceBEq, Nat.reduceAdd, Nat.reduceSub, Nat.reduceLeDiff, Nat.reduceMul, Int.reduceLE, Int.reduceLT, Int.reduceNe, Int.reduceToNat]
  refine call_clo aw_read rfl rfl ?_
  simp only [ctv, C0, finF_e, finF_en, ↓gos, gop, Nat.reduceBEq, Nat.reduceAdd, Nat.reduceSub, Nat.reduceLeDiff, Nat.reduceMul, Int.reduceLE, Int.reduceLT, Int.reduceNe, Int.reduceToNat]
  exact end_fc [1] rfl rfl ⟨rfl, rfl⟩
end Go.Proofs.Ut

/- SheetWrong. -/
namespace Go.Proofs.Ut
open Go.Ai
set_option maxRecDepth 100000
set_option linter.all false
def heads : List (List (List UInt8)) := [[], [[106,105,100]], [NAME, NAME], [NAME, [78,65,77,69]], [NAME, [120]], [NAME, []]]
def bads : List (List (List UInt8)) := [[[110],[]],[[110],[64],[]],[[110],[],[92]],[[],[],[]],[[110],[],[],[]],[[110],[97,64,98,47,99],[92]]]
def wants : List Int := [12,14,18,12,12,14]
def rowsW (k : Nat) : List (List (List UInt8)) := [NAME, JID, GROUPS] :: List.replicate k [[110],[],[]]
theorem w1 : ∀ k, k < 6 → (readR [heads.getD k [], [[97]]]) = ([], 0, 21) := by
  have h : ∀ k, k < 6 → ((readR [heads.getD k [], [[97]]]).1.length, (readR [heads.getD k [], [[97]]]).2) = (0, 0, 21) := by decide +kernel
  intro k hk
  have := h k hk
  generalize readR _ = q at *
  obtain ⟨q1, q2⟩ := q
  simp only [Prod.mk.injEq, List.length_eq_zero_iff] at this
  obtain ⟨rfl, rfl, rfl⟩ := this
  rfl
theorem w2 : ∀ a, a < 5 → ∀ k, k < 6 → readR (rowsW a ++ [bads.getD k []]) = ([], ((a + 1 : Nat) : Int), wants.getD k 0) := by
  have h : ∀ a, a < 5 → ∀ k, k < 6 → ((readR (rowsW a ++ [bads.getD k []])).1.length, (readR (rowsW a ++ [bads.getD k []])).2) = (0, ((a + 1 : Nat) : Int), wants.getD k 0) := by decide +kernel
  intro a ha k hk
  have := h a ha k hk
  generalize readR _ = q at *
  obtain ⟨q1, q2⟩ := q
  simp only [Prod.mk.injEq, List.length_eq_zero_iff] at this
  obtain ⟨rfl, rfl, rfl⟩ := this
  rfl
theorem w3 : ∀ a, a < 5 → ((readR (rowsW a)).1.length, (readR (rowsW a)).2) = (a, 0, 0) := by decide +kernel
theorem o1 : ∀ k, k < 6 → okRowsB [heads.getD k [], [[97]]] = true := by decide +kernel
theorem o2 : ∀ a, a < 5 → ∀ k, k < 6 → okRowsB (rowsW a ++ [bads.getD k []]) = true := by decide +kernel
theorem o3 : ∀ a, a < 5 → okRowsB (rowsW a) = true := by decide +kernel
theorem mod_in (y : Int) (n : Nat) (hn : 0 < n) (h9 : n < 1000) : ∃ a : Nat, a < n ∧ IntKind.i64.wrap ((IntKind.u64.wrap y).tmod n) = a := by
  have h0 : 0 ≤ IntKind.u64.wrap y := by
    simp only [IntKind.wrap, IntKind.bits, IntKind.signed]
    exact Int.emod_nonneg _ (by decide)
  obtain ⟨m, hm⟩ := Int.eq_ofNat_of_zero_le h0
  refine ⟨m % n, Nat.mod_lt _ hn, ?_⟩
  rw [hm]
  have h1 : ((m : Int).tmod n) = ((m % n : Nat) : Int) := by
    rw [Int.tmod_eq_emod_of_nonneg (by omega)]; simp
  have := Nat.mod_lt m hn
  rw [h1, wrap_i64 (by omega) (by omega)]
theorem wrong3 (x y : Int) : DRet 3 [.int .i64 x, .int .i64 y] (.bool true) := by
  refine acalls_goF c3 (by simp [f3]) ?_
  simp only [f3, finF_e, finF_en, ↓gos, gop, Nat.reduceBEq, Nat.reduceAdd, Nat.reduceSub, Nat.reduceLeDiff, Nat.reduceMul, Int.reduceLE, Int.reduceLT, Int.reduceNe, Int.reduceToNat]
  intro v1 h1 v2 h2 v3 h3 v4 h4 v5 h5 v6 h6
  obtain ⟨a, ha, ea⟩ := mod_in y 5 (by decide) (by decide)
  obtain ⟨k, hk, ek⟩ := mod_in x 6 (by decide) (by decide)
  have e3 : v3 = a := by rw [h3, h2, h1]; exact ea
  have e6 : v6 = k := by rw [h6, h5, h4]; exact ek
  clear h1 h2 h3 h4 h5 h6
  subst e3 e6
  refine chk_i (by omega) (chk_i (by omega) ?_)
  rw [show ((k : Int).toNat) = k from rfl]
  refine optP_at (l := heads.map rwv) [] hk ?_
  rw [show (heads.map rwv).getD k [] = rwv (heads.getD k []) from by simp [List.getD_eq_getElem?_getD, List.getElem?_map]; rw [List.getElem?_eq_getElem hk]; rfl]
  simp only [rwv, finF_e, finF_en, ↓gos, gop, Nat.reduceBEq, Nat.reduceAdd, Nat.reduceSub, Nat.reduceLeDiff, Nat.reduceMul, Int.reduceLE, Int.reduceLT, Int.reduceNe, Int.reduceToNat]
  refine call_frz [8] rfl ?_
  simp only [finF_e, finF_en, ↓gos, gop, Nat.reduceBEq, Nat.reduceAdd, Nat.reduceSub, Nat.reduceLeDiff, Nat.reduceMul, Int.reduceLE, Int.reduceLT, Int.reduceNe, Int.reduceToNat]
  have r1 := read14 [heads.getD k [], [[97]]] (by simp) (okRows_of (o1 k hk))
  rw [w1 k hk] at r1
  refine call_clo r1 rfl rfl ?_
  simp only [List.map_nil, finF_e, finF_en, ↓gos, gop, Nat.reduceBEq, Nat.reduceAdd, Nat.reduceSub, Nat.reduceLeDiff, Nat.reduceMul, Int.reduceLE, Int.reduceLT, Int.reduceNe, Int.reduceToNat]
  refine goN_lp (γ := Nat) (fun i => [(11, .int .i64 i), (10, .osl 1 10 0 (i + 1) none), (9, .int .i64 21), (8, .int .i64 0), (6, .int .i64 k), (4, .bool false), (1, .int .i64 a)])
    (fun i => [.dead, .dead, .dead, .dead, .dead, .dead, .arr 1 (heads.map rwv), .dead, .dead, .dead, .arr 1 ((rowsW i).map rwv)]) (fun i => i ≤ a) (fun i => a - i) 0
    (wks rfl (by simp) ⟨by simp [slots], by simp [slots], by simp [slots], by simp [slots], by simp [slots], by simp [slots], by simp [slots], trivial⟩) (by omega) fun i hi => ?_
  simp only [f3l0, finF_e, finF_en, ↓gos, gop, Nat.reduceBEq, Nat.reduceAdd, Nat.reduceSub, Nat.reduceLeDiff, Nat.reduceMul, Int.reduceLE, Int.reduceLT, Int.reduceNe, Int.reduceToNat]
  refine ⟨fun h5 => ?_, fun h5 => ?_⟩
  · have hl : (rowsW i).length = i + 1 := by simp [rowsW]
    refine chk_i (by omega) (chk_i (by omega) (chk_i (by omega) ?_))
    intro v hv
    have e : v = ((i + 1 : Nat) : Int) := by rw [hv, wrap_i64 (by omega) (by omega)]; rfl
    subst e
    refine rnd_d 11 (i + 1) ?_ (by simp) ⟨rfl, rfl, rfl, rfl, rfl, rfl, rfl, rfl, rfl, rfl, rfl, rfl, rfl, rfl, trivial⟩ rfl (by omega) (by omega)
    have ht : List.take (i + 1) (List.map rwv (rowsW i)) = List.map rwv (rowsW i) := List.take_of_length_le (by simp [hl])
    have hr : List.map rwv (rowsW (i + 1)) = List.map rwv (rowsW i) ++ [[.sl 1 [[.str [110]], [.str []], [.str []]]]] := by
      simp only [rowsW, List.replicate_succ', List.map_cons, List.map_append]; rfl
    rw [ht, hr]
    rfl
  · have hia : i = a := by omega
    subst hia
    refine chk_i (by omega) ?_
    refine optP_at (l := bads.map rwv) [] hk ?_
    rw [show (bads.map rwv).getD k [] = rwv (bads.getD k []) from by simp [List.getD_eq_getElem?_getD, List.getElem?_map]; rw [List.getElem?_eq_getElem hk]; rfl]
    simp only [rwv, finF_e, finF_en, ↓gos, gop, Nat.reduceBEq, Nat.reduceAdd, Nat.reduceSub, Nat.reduceLeDiff, Nat.reduceMul, Int.reduceLE, Int.reduceLT, Int.reduceNe, Int.reduceToNat]
    refine chk_i (by simp [rowsW]) (chk_i (by omega) (chk_i (by omega) ?_))
    have r2 := read14 (rowsW i ++ [bads.getD k []]) (by simp [rowsW]; omega) (okRows_of (o2 i ha k hk))
    rw [w2 i ha k hk] at r2
    have r3 := read14 (rowsW i) (by simp [rowsW]; omega) (okRows_of (o3 i ha))
    have r4 := w3 i ha
    simp only [List.map_append, List.map_cons, List.map_nil] at r2
    refine call_clo r2 rfl rfl ?_
    have hl : (rowsW i).length = i + 1 := by simp [rowsW]
    have ht : List.take (i + 1) (List.map rwv (rowsW i)) = List.map rwv (rowsW i) := List.take_of_length_le (by simp [hl])
    simp only [ht, hl, Nat.le_refl, decide_true, finF_e, finF_en, ↓gos, gop, Nat.reduceBEq, Nat.reduceAdd, Nat.reduceSub, Nat.reduceLeDiff, Nat.reduceMul, Int.reduceLE, Int.reduceLT, Int.reduceNe, Int.reduceToNat]
    refine call_clo r3 rfl rfl ?_
    generalize readR (rowsW i) = q at *
    obtain ⟨q1, q2, q3⟩ := q
    simp only [Prod.mk.injEq] at r4
    obtain ⟨h1, rfl, rfl⟩ := r4
    simp only [finF_e, finF_en, ↓gos, gop, Nat.reduceBEq, Nat.reduceAdd, Nat.reduceSub, Nat.reduceLeDiff, Nat.reduceMul, Int.reduceLE, Int.reduceLT, Int.reduceNe, Int.reduceToNat]
    refine call_clo awake15 rfl rfl ?_
    simp only [finF_e, finF_en, ↓gos, gop, Nat.reduceBEq, Nat.reduceAdd, Nat.reduceSub, Nat.reduceLeDiff, Nat.reduceMul, Int.reduceLE, Int.reduceLT, Int.reduceNe, Int.reduceToNat]
    refine chk_i (by omega) ?_
    refine optP_at (l := wants.map fun n => [DV.int .i64 n]) [] hk ?_
    rw [show (wants.map fun n => [DV.int .i64 n]).getD k [] = [.int .i64 (wants.getD k 0)] from by simp [List.getD_eq_getElem?_getD, List.getElem?_map]; rw [List.getElem?_eq_getElem hk]; rfl]
    have w1 : IntKind.i64.wrap ((i : Int) + 1) = ((i + 1 : Nat) : Int) := by rw [wrap_i64 (by omega) (by omega)]; rfl
    simp only [w1, h1, List.length_map, forall_eq, decide_true, finF_e, finF_en, ↓gos, gop, Nat.reduceBEq, Nat.reduceAdd, Nat.reduceSub, Nat.reduceLeDiff, Nat.reduceMul, Int.reduceLE, Int.reduceLT, Int.reduceNe, Int.reduceToNat]
    exact end_fc [] rfl rfl ⟨rfl, rfl⟩
end Go.Proofs.Ut

/- From a contract to a row: a law's call, in a world that came in. -/
namespace Go.Ai
open Go.RowKit
theorem row_walk {E : Env} {f : Nat} {args : List DV} (hc : ACalls E f [] args fun h d => h = [] ∧ d = .bool true) (W : World) (hg : E.G W) (hn : E.N ≤ W.heap.size) (vs : List Value) (hl : vs.length = args.length)
    (hv : ∀ (i : Nat) v d, vs[i]? = some v → args[i]? = some d → Rep W (fun b => b < W.heap.size) noLoc v d) : Calls E.P f vs.toArray W fun e W' => e = .returned (.bool true) ∧ Below W.heap.size W W' := by
  refine (hc.2 W (fun b => b < W.heap.size) noLoc vs hg hn ⟨fun _ _ => rfl, fun l l' b o o' h => by simp [noLoc] at h, fun l b o h => by simp [noLoc] at h, fun l b o h => by simp [noLoc] at h, fun _ h => h, fun l o h => by simp at h⟩ hl hv).mono ?_
  rintro e W' ⟨v, ok', β', h', d, rfl, ⟨_, rfl⟩, _, hev, _, hr, _⟩
  refine ⟨by rw [hr.bool_in], ⟨hev.os, hev.tape, hev.output, hev.size, fun k hk => hev.same k hk fun l x h => by simp [noLoc] at h⟩⟩
end Go.Ai

/- From what a row lists to where the variables lie; the witness; the world's shape kept. -/
namespace Go.Proofs.Ut
open Go.Shelf Go.Lib Go.RowKit
open Go.Proofs.YtgamnnfndidclaaGreatDoor Go.Ai
noncomputable abbrev laidL : List (String × DataW Unit) := [("unicode/utf8.acceptRanges", Rows.laid_unicode_utf8_acceptRanges), ("unicode.asciiFold", Rows.laid_unicode_asciiFold), ("unicode.caseOrbit", Rows.laid_unicode_caseOrbit), ("unicode.CaseRanges", Rows.laid_unicode_CaseRanges), ("unicode/utf8.first", Rows.laid_unicode_utf8_first)]
theorem accept_eq : (Rows.laid_unicode_utf8_acceptRanges : DataW Unit) = acceptData := by kernel_rfl
theorem first_eq : Rows.laid_unicode_utf8_first = firstData := by kernel_rfl
def foldZ : List Int := (List.range 128).map foldC
theorem fold_eq : (Rows.laid_unicode_asciiFold : DataW Unit) = tabData .u16 foldZ := by kernel_rfl
theorem tab_of_read {P : Program} {W : World} {name : String} {k : IntKind} {zs : List Int} {g : Nat} {t e : TypeId} {n : Nat}
    (hg : P.globalNamed name = some g) (hty : (P.globals[g]?).map (·.type) = some t) (ht : P.underlying t = some (.array n e)) (he : P.underlying e = some (.int k)) (hce : P.cellsOf e = 1) (hct : P.cellsOf t = n)
    (h : VarReads P W name (tabData k zs)) : TabIs P W name k zs := by
  obtain ⟨g', t', cs, fuel, p, hg', ht', hvar, hd⟩ := h
  obtain rfl := Option.some.inj (hg.symm.trans hg')
  obtain rfl := Option.some.inj (hty.symm.trans ht')
  unfold TabIs
  rw [hvar, ← cells_of_tab ht he hce hct hd]
theorem laid_of {W : World} (h : laidMetH Tryz.prog laidL W) (hsh : W.ShapedOpen Tryz.prog) : Laid W := by
  rw [MakeChecks.laidMetH_plain _ _ _ (by kernel_rfl)] at h
  have h3 := Lib.laidMet.reads h (.tail _ (.tail _ (.tail _ (.tail _ (.head _)))))
  have h4 := Lib.laidMet.reads h (.head _)
  have h0 := Lib.laidMet.reads h (.tail _ (.head _))
  rw [first_eq] at h3
  rw [accept_eq] at h4
  rw [fold_eq] at h0
  refine ⟨utf8Tabs_of_readsT (U8Types.of196 Tryz.laysValid) ⟨by kernel_rfl, by kernel_rfl, by kernel_rfl, by kernel_rfl, by kernel_rfl, by kernel_rfl, by kernel_rfl⟩ h3 h4, ?_, fun i hi => ?_⟩
  · exact cell_of_shapedOpen_int (t := 3) (zero := #[.int .i64 0]) hsh (of_decide_eq_true (by kernel_rfl)) (by kernel_rfl) (by kernel_rfl) (by kernel_rfl) (by kernel_rfl) (by kernel_rfl)
  · have ht := tab_of_read (P := Tryz.prog) (g := 3) (t := 259) (e := 258) (n := 128) (by kernel_rfl) (by kernel_rfl) (by kernel_rfl) (by kernel_rfl) (by kernel_rfl) (by kernel_rfl) h0
    have := ht.cell (g := 3) (by kernel_rfl) i (by simpa [foldZ] using hi)
    rw [this]
    simp [foldZ, hi]
theorem laid_size {W : World} (h : Laid W) : 4 ≤ W.heap.size := by
  have hm := h.fold 0 (by omega)
  rcases Nat.lt_or_ge 3 W.heap.size with h1 | h1
  · exact h1
  · simp [World.cell?, Array.getElem?_eq_none h1] at hm
theorem laid_witness (os : Os) (args : Array Value) : laidMetH Tryz.prog laidL ((World.laidAll Tryz.prog os laidL).forCall (fun _ _ => 0) ⟨#[], args, []⟩).memory := by
  rw [MakeChecks.laidMetH_plain _ _ _ (by kernel_rfl)]
  exact laidMet_laidAll _ (by kernel_rfl) (by kernel_rfl)
theorem door_walk {f : Nat} {args : List DV} (hc : Ai.ACalls ED f [] args fun h d => h = [] ∧ d = .bool true) (W : World) (hT : Laid W) (vs : List Value) (hl : vs.length = args.length)
    (hv : ∀ (i : Nat) v d, vs[i]? = some v → args[i]? = some d → Ai.Rep W (fun b => b < W.heap.size) Ai.noLoc v d) : Calls Tryz.prog f vs.toArray W fun e W' => e = .returned (.bool true) ∧ Below W.heap.size W W' :=
  Ai.row_walk hc W hT (laid_size hT) vs hl hv
/-- The wrap, with what is listed and with the world's shape. -/
theorem returns_shaped {H : Type} {enc : TypeId × Value → H} {a : Assume} {C : Checked} {os : Os} {f : FuncId} {fn : Func} {s : ChangeSpec} {conds : List PathCond} {apart fresh handsOn again : Bool} {X : World → Array Value → Prop}
    (hX : ∀ (w w' : World) (args : Array Value), w.heap = w'.heap → X w args → X w' args)
    (own : ownKnob C.prog.godebug = none) (started : os.Started) (noInit : C.prog.inits.idxOf? f = none) (hfn : C.prog.funcs[f]? = some fn)
    (witness : ∃ (w : World) (tape : Tape) (i : Input), w.os = os ∧ (w.forCall tape i).Shaped C.prog ∧ i.vars = [] ∧ Input.okWide C.prog (w.forCall tape i) .any w.heap.size f i ∧
      ((s.pre enc C.prog fn conds apart (w.forCall tape i).memory i.args ∧ X (w.forCall tape i).memory i.args) ∧ sizedMet enc C.prog fn (OpenSpec.ofChange s) apart (w.forCall tape i).memory i.args) ∧ a.holds C.prog (lone (Frame.enter C.prog f i.args .normal) [] (w.forCall tape i)))
    (contract : ∀ (W : World) (base : Nat) (args : Array Value) (ds gs : List (DataW H)) (before : List MemPlace),
      (∀ (j : Nat) t v, fn.params[j]? = some t → args[j]? = some v → Value.okWide C.prog W .any base t v) →
      DataW.Whole enc C.prog fn.params.toList s.vars apart W args.toList ds gs before →
      conds.all (PathCond.test C.prog ⟨fn.params.toList, ds, s.plain.varTypes C.prog, gs⟩) = true →
      (DataW.weightsEach C.prog (fn.params.toList ++ s.plain.varTypes C.prog) (ds ++ gs)).all (· ≤ reachBytes) = true → X W args → W.ShapedOpen C.prog →
      a.holds C.prog (lone (Frame.enter C.prog f args .normal) [] W) →
      Calls C.prog f args W fun e W' => ∃ v, e = .returned v ∧ s.post enc C.prog fn apart fresh handsOn again W args v W') :
    ReturnsInHanded a C os f .any (fun w args => (s.pre enc C.prog fn conds apart w args ∧ X w args) ∧ sizedMet enc C.prog fn (OpenSpec.ofChange s) apart w args) (s.post enc C.prog fn apart fresh handsOn again) := by
  refine returnsInHanded_of_calls own started noInit witness ?_
  intro w tape i _ hsh _ hok hpre hholds
  obtain ⟨_, _, _, fn', hfn', _, _, _, _, hval⟩ := hok
  have e : fn' = fn := Option.some.inj (hfn'.symm.trans hfn)
  subst e
  obtain ⟨⟨⟨ds, gs, before, hw, hc⟩, hx⟩, hz⟩ := hpre
  have hw' := DataW.Whole.of_heap (w' := w.forCall tape i) (by rfl) hw
  refine (contract (w.forCall tape i) w.heap.size i.args ds gs before hval hw' hc (hz.weights hw) (hX _ _ _ (by rfl) hx) hsh hholds).mono fun e W' ⟨v, he, hp⟩ => ?_
  subst he
  exact ChangeSpec.post_blind hp
end Go.Proofs.Ut
