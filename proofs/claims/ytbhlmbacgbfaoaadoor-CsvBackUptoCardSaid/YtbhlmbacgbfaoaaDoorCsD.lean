/- What is written: fields, rows. -/
import Derived.Test.YtbhlmbacgbfaoaaDoorCsC
import Derived.Test.YtbhlmbacgbfaoaaDoorAiGrow2
set_option linter.all false
namespace Go.Proofs.Ut
open Go.Ai Classical Go.Shelf Go.RowKit
set_option linter.unusedSimpArgs false
set_option linter.unusedVariables false
set_option maxHeartbeats 1000000
set_option maxRecDepth 100000
theorem grow120 (n : Nat) (h0 : 0 < n) (hn : n ≤ 281474976710656) : ACalls ED 120 (Bld false 73 5 []) [.ptr 1 0, .int .i64 n] (fun h' d => h' = Bld true 73 5 [] ∧ d = .undef) :=
  grow_prim (E := ED) Tryd.lays165 Tryd.extra165 rfl rfl rfl ⟨Tryd.f120, Tryd.func120, by kernel_rfl, by kernel_rfl⟩ n h0 hn
/-- Each quote twice. -/
def dbl : List UInt8 → List UInt8
  | [] => []
  | c :: s => if c = 34 then 34 :: 34 :: dbl s else c :: dbl s
theorem dbl_cut : ∀ t : List UInt8, dbl t = if (cut 34 t).2.2 = true then (cut 34 t).1 ++ 34 :: 34 :: dbl (cut 34 t).2.1 else t
  | [] => rfl
  | c :: s => by
    by_cases hc : c = 34
    · subst hc; rfl
    · have ih := dbl_cut s
      rw [dbl, if_neg hc, cut, if_neg hc, ih]
      simp only
      split <;> rfl
theorem count_cut : ∀ t : List UInt8, t.count 34 = if (cut 34 t).2.2 = true then (cut 34 t).2.1.count 34 + 1 else 0
  | [] => rfl
  | c :: s => by
    by_cases hc : c = 34
    · subst hc; simp [cut]
    · have ih := count_cut s
      rw [cut, if_neg hc, List.count_cons_of_ne (by simpa using hc), ih]
theorem dbl_len : ∀ s : List UInt8, (dbl s).length = s.length + s.count 34
  | [] => rfl
  | c :: s => by
    have := dbl_len s
    rw [dbl]
    by_cases hc : c = 34
    · subst hc; simp; omega
    · rw [if_neg hc, List.count_cons_of_ne (by simpa using hc)]; simp; omega
theorem replace109 (s : List UInt8) (hs : s.length < 100000000) : DRet 109 [.str s, .str [34], .str [34, 34], .int .i64 (-1)] (.str (dbl s)) := by
  refine acalls_go c109 (by simp [f109]) ?_
  simp only [f109, ↓gos, gop, Nat.reduceBEq, Nat.reduceAdd, Nat.reduceSub, Nat.reduceLeDiff, Nat.reduceMul, Int.reduceLE, Int.reduceLT, Int.reduceNe, Int.reduceToNat]
  refine ⟨fun h => (by cases h), fun _ => ⟨fun h => (by omega), fun _ => call_ret (count119 s 34) rfl rfl ?_⟩⟩
  simp only [↓gos, gop, Nat.reduceBEq, Nat.reduceAdd, Nat.reduceSub, Nat.reduceLeDiff, Nat.reduceMul, Int.reduceLE, Int.reduceLT, Int.reduceNe, Int.reduceToNat]
  refine ⟨fun h => ?_, fun h => ?_⟩
  · have hd := dbl_cut s
    have hc := count_cut s
    rw [if_neg (fun q => by rw [if_pos q] at hc; omega)] at hd
    rw [hd]
    exact ends rfl
  · intro v hv v1 hv1 v2 hv2
    have hc := List.count_le_length (a := 34) (l := s)
    have hv : v = 1 := by rw [hv]; rfl
    subst hv
    rw [Int.mul_one, wrap_i64 (by omega) (by omega)] at hv1
    subst hv1
    rw [wrap_i64 (by omega) (by omega)] at hv2
    have hv2 : v2 = ((s.length + s.count 34 : Nat) : Int) := by rw [hv2]; omega
    subst hv2
    refine call_bld (gr := false) (gr' := true) (m := 0) (l := 1) rfl rfl rfl (grow120 (s.length + s.count 34) (by omega) (by omega)) ?_
    simp only [Buf, ↓gos, gop, Nat.reduceBEq, Nat.reduceAdd, Nat.reduceSub, Nat.reduceLeDiff, Nat.reduceMul, Int.reduceLE, Int.reduceLT, Int.reduceNe, Int.reduceToNat]
    refine goN_lp (γ := List UInt8 × Nat × Nat) (fun g => [(53, .int .i64 (g.2.2 : Nat)), (52, .int .i64 (s.count 34 : Nat)), (11, .int .i64 (g.2.1 : Nat)), (10, .ptr 1 0), (0, .str s), (1, .str [34]), (2, .str [34, 34])])
      (fun g => [.gbuf 5 g.1, .box [.self 1 73 2, .hdr 0 5 g.1.length]])
      (fun g => g.2.1 ≤ s.length ∧ g.2.2 ≤ s.count 34 ∧ g.1 ++ dbl (s.drop g.2.1) = dbl s ∧ (s.drop g.2.1).count 34 + g.2.2 = s.count 34 ∧ g.1.length ≤ 2 * g.2.1) (fun g => s.count 34 - g.2.2) ([], 0, 0)
      (wks rfl (by simp) ⟨rfl, rfl, rfl, rfl, rfl, rfl, rfl, trivial⟩) ⟨by simp, by simp, rfl, rfl, by simp⟩ fun g hg => ?_
    obtain ⟨acc, st, i⟩ := g
    obtain ⟨p1, p2, p3, p4, p5⟩ := hg
    simp only at p1 p2 p3 p4 p5
    simp only [f109l0, ↓gos, gop, Nat.reduceBEq, Nat.reduceAdd, Nat.reduceSub, Nat.reduceLeDiff, Nat.reduceMul, Int.reduceLE, Int.reduceLT, Int.reduceNe, Int.reduceToNat]
    have ht : List.take (s.length - st) (List.drop st s) = s.drop st := List.take_of_length_le (by simp)
    have hlt : (s.drop st).length = s.length - st := List.length_drop
    rw [ht]
    have hcc := count_cut (s.drop st)
    have hdd := dbl_cut (s.drop st)
    refine ⟨fun hi => ⟨by omega, ?_⟩, fun hi => ⟨by omega, ?_⟩⟩
    · refine call_ret (index121 (s.drop st) 34) rfl rfl ?_
      rcases index_cut 34 (s.drop st) with ⟨h1, h2⟩ | ⟨n, h1, h2, h3⟩
      · exfalso
        rw [h2] at hcc
        simp only [Bool.false_eq_true, if_false] at hcc
        omega
      · rw [h1]
        rw [h3] at hcc hdd
        simp only [if_true] at hcc hdd
        simp only [↓gos, gop, Nat.reduceBEq, Nat.reduceAdd, Nat.reduceSub, Nat.reduceLeDiff, Nat.reduceMul, Int.reduceLE, Int.reduceLT, Int.reduceNe, Int.reduceToNat]
        intro v hv
        rw [wrap_i64 (by omega) (by omega)] at hv
        have hv : v = ((st + n : Nat) : Int) := by omega
        subst hv
        refine ⟨by omega, by omega, ?_⟩
        have e1 : ((st + n : Nat) : Int).toNat - st = n := by omega
        rw [e1]
        refine call_bld (gr := true) (gr' := true) (m := 0) (l := 1) rfl rfl rfl (ws58 true acc _ (by simp; omega)) ?_
        simp only [Buf, ↓gos, gop, Nat.reduceBEq, Nat.reduceAdd, Nat.reduceSub, Nat.reduceLeDiff, Nat.reduceMul, Int.reduceLE, Int.reduceLT, Int.reduceNe, Int.reduceToNat]
        refine call_bld (gr := true) (gr' := true) (m := 0) (l := 1) rfl rfl rfl (ws58 true _ _ (by simp; omega)) ?_
        simp only [Buf, ↓gos, gop, Nat.reduceBEq, Nat.reduceAdd, Nat.reduceSub, Nat.reduceLeDiff, Nat.reduceMul, Int.reduceLE, Int.reduceLT, Int.reduceNe, Int.reduceToNat]
        intro v hv
        rw [wrap_i64 (by omega) (by omega)] at hv
        have hv : v = ((st + n + 1 : Nat) : Int) := by rw [hv]; omega
        subst hv
        intro v hv
        rw [wrap_i64 (by omega) (by omega)] at hv
        have hv : v = ((i + 1 : Nat) : Int) := by rw [hv]; omega
        subst hv
        refine rnd_s (acc ++ List.take n (s.drop st) ++ [34, 34], st + n + 1, i + 1) rfl (by simp) ⟨rfl, rfl, rfl, rfl, rfl, rfl, rfl, trivial⟩ ⟨by simp only; omega, by simp only; omega, ?_, ?_, by simp; omega⟩ (by simp only; omega)
        · rw [← p3, hdd, List.drop_drop]
          simp [Nat.add_assoc]
        · rw [List.drop_drop] at hcc
          simp only [Nat.add_assoc] at hcc ⊢
          omega
    · have hi : i = s.count 34 := by omega
      refine call_bld (gr := true) (gr' := true) (m := 0) (l := 1) rfl rfl rfl (ws58 true acc _ (by simp; omega)) ?_
      simp only [Buf, ↓gos, gop, Nat.reduceBEq, Nat.reduceAdd, Nat.reduceSub, Nat.reduceLeDiff, Nat.reduceMul, Int.reduceLE, Int.reduceLT, Int.reduceNe, Int.reduceToNat]
      refine call_bstr (gr := true) (m := 0) (l := 1) rfl rfl (str60 true _) ?_
      simp only [↓gos, gop, Nat.reduceBEq, Nat.reduceAdd, Nat.reduceSub, Nat.reduceLeDiff, Nat.reduceMul, Int.reduceLE, Int.reduceLT, Int.reduceNe, Int.reduceToNat]
      refine ends ?_
      rw [← p3, hdd, if_neg (fun q => by rw [if_pos q] at hcc; omega)]
theorem replace87 (s : List UInt8) (hs : s.length < 100000000) : DRet 87 [.str s, .str [34], .str [34, 34]] (.str (dbl s)) := by
  refine acalls_go c87 (by simp [f87]) ?_
  simp only [f87, ↓gos, gop, Nat.reduceBEq, Nat.reduceAdd, Nat.reduceSub, Nat.reduceLeDiff, Nat.reduceMul, Int.reduceLE, Int.reduceLT, Int.reduceNe, Int.reduceToNat]
  refine call_ret (replace109 s hs) rfl rfl ?_
  simp only [↓gos, gop, Nat.reduceBEq, Nat.reduceAdd, Nat.reduceSub, Nat.reduceLeDiff, Nat.reduceMul, Int.reduceLE, Int.reduceLT, Int.reduceNe, Int.reduceToNat]
  exact ends rfl
/-- A field as it is written. -/
def writtenF (s : List UInt8) (alone : Bool) : List UInt8 := if (decide (s = []) && alone) || s.any SG.contains then 34 :: dbl s ++ [34] else s
theorem writtenF_t {s : List UInt8} {alone : Bool} (h : ((decide (s = []) && alone) || s.any SG.contains) = true) : writtenF s alone = 34 :: dbl s ++ [34] := by unfold writtenF; rw [if_pos h]
theorem writtenF_f {s : List UInt8} {alone : Bool} (h : ((decide (s = []) && alone) || s.any SG.contains) = false) : writtenF s alone = s := by unfold writtenF; rw [if_neg (by rw [h]; simp)]
theorem written59 (s : List UInt8) (alone : Bool) (hs : s.length < 100000000) : DRet 59 [.str s, .bool alone] (.str (writtenF s alone)) := by
  refine acalls_go c59 (by simp [f59]) ?_
  have hd := dbl_len s
  have hd2 := List.count_le_length (a := 34) (l := s)
  cases alone
  · simp only [f59, ↓gos, gop, Nat.reduceBEq, Nat.reduceAdd, Nat.reduceSub, Nat.reduceLeDiff, Nat.reduceMul, Int.reduceLE, Int.reduceLT, Int.reduceNe, Int.reduceToNat]
    refine ⟨fun h => ?_, fun h => ?_⟩
    all_goals
      refine call_ret (has86 s (by omega)) rfl rfl ?_
      cases hc : s.any SG.contains
      · simp only [↓gos, gop, Nat.reduceBEq, Nat.reduceAdd, Nat.reduceSub, Nat.reduceLeDiff, Nat.reduceMul, Int.reduceLE, Int.reduceLT, Int.reduceNe, Int.reduceToNat]
        refine ends (writtenF_f ?_).symm
        rw [hc]; simp
      · simp only [↓gos, gop, Nat.reduceBEq, Nat.reduceAdd, Nat.reduceSub, Nat.reduceLeDiff, Nat.reduceMul, Int.reduceLE, Int.reduceLT, Int.reduceNe, Int.reduceToNat]
        refine call_ret (replace87 s hs) rfl rfl ?_
        simp only [↓gos, gop, Nat.reduceBEq, Nat.reduceAdd, Nat.reduceSub, Nat.reduceLeDiff, Nat.reduceMul, Int.reduceLE, Int.reduceLT, Int.reduceNe, Int.reduceToNat]
        refine ⟨by omega, by omega, ends ?_⟩
        rw [writtenF_t (by rw [hc]; simp)]; rfl
  · simp only [f59, ↓gos, gop, Nat.reduceBEq, Nat.reduceAdd, Nat.reduceSub, Nat.reduceLeDiff, Nat.reduceMul, Int.reduceLE, Int.reduceLT, Int.reduceNe, Int.reduceToNat]
    refine ⟨fun h => ?_, fun h => ?_⟩
    · refine call_ret (replace87 s hs) rfl rfl ?_
      simp only [↓gos, gop, Nat.reduceBEq, Nat.reduceAdd, Nat.reduceSub, Nat.reduceLeDiff, Nat.reduceMul, Int.reduceLE, Int.reduceLT, Int.reduceNe, Int.reduceToNat]
      refine ⟨by omega, by omega, ends ?_⟩
      rw [writtenF_t (by simp [h])]; rfl
    · refine call_ret (has86 s (by omega)) rfl rfl ?_
      cases hc : s.any SG.contains
      · simp only [↓gos, gop, Nat.reduceBEq, Nat.reduceAdd, Nat.reduceSub, Nat.reduceLeDiff, Nat.reduceMul, Int.reduceLE, Int.reduceLT, Int.reduceNe, Int.reduceToNat]
        refine ends (writtenF_f ?_).symm
        rw [hc]; simp [h]
      · simp only [↓gos, gop, Nat.reduceBEq, Nat.reduceAdd, Nat.reduceSub, Nat.reduceLeDiff, Nat.reduceMul, Int.reduceLE, Int.reduceLT, Int.reduceNe, Int.reduceToNat]
        refine call_ret (replace87 s hs) rfl rfl ?_
        simp only [↓gos, gop, Nat.reduceBEq, Nat.reduceAdd, Nat.reduceSub, Nat.reduceLeDiff, Nat.reduceMul, Int.reduceLE, Int.reduceLT, Int.reduceNe, Int.reduceToNat]
        refine ⟨by omega, by omega, ends ?_⟩
        rw [writtenF_t (by rw [hc]; simp)]; rfl
/-- The fields of a row, and what is between them. -/
def jn (alone : Bool) : Bool → List (List UInt8) → List UInt8
  | _, [] => []
  | first, x :: l => (if first then [] else [44]) ++ (writtenF x alone ++ jn alone false l)
def rowW (x : List (List UInt8)) : List UInt8 := if x = [] then [] else jn (decide (x.length = 1)) true x ++ [13, 10]
def writeF (l : List (List (List UInt8))) : List UInt8 := l.flatMap rowW
theorem write35 (l : List (List (List UInt8))) (hl : l.length < 1000000) (hb : (writeF l).length < 1000000000) (hx : ∀ x ∈ l, x.length < 1000000 ∧ ∀ s ∈ x, s.length < 100000000) : DRet 35 [.sl 1 (l.map rwv)] (.str (writeF l)) := by
  refine acalls_go c35 (by simp [f35]) ?_
  simp only [f35, ↓gos, gop, Nat.reduceBEq, Nat.reduceAdd, Nat.reduceSub, Nat.reduceLeDiff, Nat.reduceMul, Int.reduceLE, Int.reduceLT, Int.reduceNe, Int.reduceToNat]
  refine goN_lp (γ := List UInt8 × Nat) (fun g => [(10, .int .i64 (g.2 : Nat)), (9, .int .i64 (l.length : Nat)), (8, .sl 1 (l.map rwv)), (3, .ptr 1 0)])
    (fun g => [.buf 5 g.1, .box [.self 1 73 2, .hdr 0 5 g.1.length]])
    (fun g => g.2 ≤ l.length ∧ g.1 ++ writeF (l.drop g.2) = writeF l) (fun g => l.length - g.2) ([], 0)
    (wks rfl (by simp) ⟨rfl, rfl, rfl, rfl, trivial⟩) ⟨by simp, rfl⟩ fun g hg => ?_
  obtain ⟨acc, i⟩ := g
  obtain ⟨p1, p2⟩ := hg
  simp only at p1 p2
  simp only [f35l1, ↓gos, gop, Nat.reduceBEq, Nat.reduceAdd, Nat.reduceSub, Nat.reduceLeDiff, Nat.reduceMul, Int.reduceLE, Int.reduceLT, Int.reduceNe, Int.reduceToNat]
  refine ⟨fun hi => optP_at [] (by omega) ?_, fun hi => ?_⟩
  · have hdr : l.drop i = l.getD i [] :: l.drop (i + 1) := by
      rw [List.getD_eq_getElem?_getD, List.getElem?_eq_getElem (by omega)]
      exact List.drop_eq_getElem_cons (by omega)
    have hmem : l.getD i [] ∈ l := by
      rw [List.getD_eq_getElem?_getD, List.getElem?_eq_getElem (show i < l.length by omega)]
      exact List.getElem_mem _
    have hxx := hx _ hmem
    rw [hdr] at p2
    generalize l.getD i [] = x at p2 hxx
    have p2 : acc ++ rowW x ++ writeF (l.drop (i + 1)) = writeF l := by
      rw [← p2]; simp [writeF]
    have hlen := congrArg List.length p2
    simp only [List.length_append] at hlen
    simp only [rwv, ↓gos, gop, Nat.reduceBEq, Nat.reduceAdd, Nat.reduceSub, Nat.reduceLeDiff, Nat.reduceMul, Int.reduceLE, Int.reduceLT, Int.reduceNe, Int.reduceToNat]
    refine ⟨fun h0 v hv => ?_, fun h0 => ?_⟩
    · rw [wrap_i64 (by omega) (by omega)] at hv
      have hv : v = ((i + 1 : Nat) : Int) := by omega
      subst hv
      refine rnd_s (acc, i + 1) rfl (by simp) ⟨rfl, rfl, rfl, rfl, trivial⟩ ⟨by simp only; omega, ?_⟩ (by simp only; omega)
      have hx0 : x = [] := List.eq_nil_of_length_eq_zero (by omega)
      subst hx0
      rw [← p2]; simp [rowW]
    · have hx0 : x ≠ [] := fun e => h0 (by rw [e]; rfl)
      have hrw : rowW x = jn (decide (x.length = 1)) true x ++ [13, 10] := by unfold rowW; rw [if_neg hx0]
      refine goN_lp (γ := List UInt8 × Nat) (fun g => [(19, .int .i64 (g.2 : Nat)), (18, .int .i64 (x.length : Nat)), (17, .sl 1 (x.map sv)), (5, .sl 1 (x.map sv)), (10, .int .i64 (i : Nat)), (9, .int .i64 (l.length : Nat)), (8, .sl 1 (l.map rwv)), (3, .ptr 1 0)])
        (fun g => [.buf 5 g.1, .box [.self 1 73 2, .hdr 0 5 g.1.length]])
        (fun g => g.2 ≤ x.length ∧ g.1 ++ jn (decide (x.length = 1)) (decide (g.2 = 0)) (x.drop g.2) = acc ++ jn (decide (x.length = 1)) true x) (fun g => x.length - g.2) (acc, 0)
        (wks rfl (by simp) ⟨rfl, rfl, rfl, rfl, rfl, rfl, rfl, rfl, trivial⟩) ⟨by simp, rfl⟩ fun g hg => ?_
      obtain ⟨a2, k⟩ := g
      obtain ⟨q1, q2⟩ := hg
      simp only at q1 q2
      have hq2 := congrArg List.length q2
      rw [hrw] at hlen
      simp only [List.length_append] at hq2 hlen
      simp only [f35l0, ↓gos, gop, Nat.reduceBEq, Nat.reduceAdd, Nat.reduceSub, Nat.reduceLeDiff, Nat.reduceMul, Int.reduceLE, Int.reduceLT, Int.reduceNe, Int.reduceToNat]
      refine ⟨fun hk => optP_at [] (by omega) ?_, fun hk => ?_⟩
      · have hdk : x.drop k = x.getD k [] :: x.drop (k + 1) := by
          rw [List.getD_eq_getElem?_getD, List.getElem?_eq_getElem (by omega)]
          exact List.drop_eq_getElem_cons (by omega)
        have hmk : x.getD k [] ∈ x := by
          rw [List.getD_eq_getElem?_getD, List.getElem?_eq_getElem (show k < x.length by omega)]
          exact List.getElem_mem _
        have hsl := hxx.2 _ hmk
        rw [hdk, jn] at q2 hq2
        generalize x.getD k [] = y at q2 hq2 hsl
        simp only [sv, ↓gos, gop, Nat.reduceBEq, Nat.reduceAdd, Nat.reduceSub, Nat.reduceLeDiff, Nat.reduceMul, Int.reduceLE, Int.reduceLT, Int.reduceNe, Int.reduceToNat]
        refine ⟨fun hk0 => ?_, fun hk0 => ?_⟩
        · rw [decide_eq_false (show ¬ k = 0 by omega)] at q2 hq2
          simp only [Bool.false_eq_true, if_false] at q2 hq2
          refine call_bld (gr := false) (gr' := false) (m := 0) (l := 1) rfl rfl rfl (ws58 false _ _ (by simp only [List.length_append, List.length_cons, List.length_nil] at *; omega)) ?_
          simp only [Buf, ↓gos, gop, Nat.reduceBEq, Nat.reduceAdd, Nat.reduceSub, Nat.reduceLeDiff, Nat.reduceMul, Int.reduceLE, Int.reduceLT, Int.reduceNe, Int.reduceToNat]
          refine ⟨fun h1 => ?_, fun h1 => ?_⟩
          · have e1 : decide (x.length = 1) = true := decide_eq_true (by omega)
            rw [e1] at q2 hq2 hlen
            refine call_ret (written59 y true hsl) rfl rfl ?_
            simp only [↓gos, gop, Nat.reduceBEq, Nat.reduceAdd, Nat.reduceSub, Nat.reduceLeDiff, Nat.reduceMul, Int.reduceLE, Int.reduceLT, Int.reduceNe, Int.reduceToNat]
            refine call_bld (gr := false) (gr' := false) (m := 0) (l := 1) rfl rfl rfl (ws58 false _ _ (by simp only [List.length_append, List.length_cons, List.length_nil] at *; omega)) ?_
            simp only [Buf, ↓gos, gop, Nat.reduceBEq, Nat.reduceAdd, Nat.reduceSub, Nat.reduceLeDiff, Nat.reduceMul, Int.reduceLE, Int.reduceLT, Int.reduceNe, Int.reduceToNat]
            intro v hv
            rw [wrap_i64 (by omega) (by omega)] at hv
            have hv : v = ((k + 1 : Nat) : Int) := by omega
            subst hv
            refine rnd_s (a2 ++ [44] ++ writtenF y true, k + 1) rfl (by simp) ⟨rfl, rfl, rfl, rfl, rfl, rfl, rfl, rfl, trivial⟩ ⟨by simp only; omega, ?_⟩ (by simp only; omega)
            rw [decide_eq_false (show ¬ k + 1 = 0 by omega), e1, ← q2]
            simp only [List.append_assoc]
          · have e1 : decide (x.length = 1) = false := decide_eq_false (by omega)
            rw [e1] at q2 hq2 hlen
            refine call_ret (written59 y false hsl) rfl rfl ?_
            simp only [↓gos, gop, Nat.reduceBEq, Nat.reduceAdd, Nat.reduceSub, Nat.reduceLeDiff, Nat.reduceMul, Int.reduceLE, Int.reduceLT, Int.reduceNe, Int.reduceToNat]
            refine call_bld (gr := false) (gr' := false) (m := 0) (l := 1) rfl rfl rfl (ws58 false _ _ (by simp only [List.length_append, List.length_cons, List.length_nil] at *; omega)) ?_
            simp only [Buf, ↓gos, gop, Nat.reduceBEq, Nat.reduceAdd, Nat.reduceSub, Nat.reduceLeDiff, Nat.reduceMul, Int.reduceLE, Int.reduceLT, Int.reduceNe, Int.reduceToNat]
            intro v hv
            rw [wrap_i64 (by omega) (by omega)] at hv
            have hv : v = ((k + 1 : Nat) : Int) := by omega
            subst hv
            refine rnd_s (a2 ++ [44] ++ writtenF y false, k + 1) rfl (by simp) ⟨rfl, rfl, rfl, rfl, rfl, rfl, rfl, rfl, trivial⟩ ⟨by simp only; omega, ?_⟩ (by simp only; omega)
            rw [decide_eq_false (show ¬ k + 1 = 0 by omega), e1, ← q2]
            simp only [List.append_assoc]
        · rw [decide_eq_true (show k = 0 by omega)] at q2 hq2
          simp only [if_true, List.nil_append] at q2 hq2
          refine ⟨fun h1 => ?_, fun h1 => ?_⟩
          · have e1 : decide (x.length = 1) = true := decide_eq_true (by omega)
            rw [e1] at q2 hq2 hlen
            refine call_ret (written59 y true hsl) rfl rfl ?_
            simp only [↓gos, gop, Nat.reduceBEq, Nat.reduceAdd, Nat.reduceSub, Nat.reduceLeDiff, Nat.reduceMul, Int.reduceLE, Int.reduceLT, Int.reduceNe, Int.reduceToNat]
            refine call_bld (gr := false) (gr' := false) (m := 0) (l := 1) rfl rfl rfl (ws58 false _ _ (by simp only [List.length_append, List.length_cons, List.length_nil] at *; omega)) ?_
            simp only [Buf, ↓gos, gop, Nat.reduceBEq, Nat.reduceAdd, Nat.reduceSub, Nat.reduceLeDiff, Nat.reduceMul, Int.reduceLE, Int.reduceLT, Int.reduceNe, Int.reduceToNat]
            intro v hv
            rw [wrap_i64 (by omega) (by omega)] at hv
            have hv : v = ((k + 1 : Nat) : Int) := by omega
            subst hv
            refine rnd_s (a2 ++ writtenF y true, k + 1) rfl (by simp) ⟨rfl, rfl, rfl, rfl, rfl, rfl, rfl, rfl, trivial⟩ ⟨by simp only; omega, ?_⟩ (by simp only; omega)
            rw [decide_eq_false (show ¬ k + 1 = 0 by omega), e1, ← q2]
            simp only [List.append_assoc]
          · have e1 : decide (x.length = 1) = false := decide_eq_false (by omega)
            rw [e1] at q2 hq2 hlen
            refine call_ret (written59 y false hsl) rfl rfl ?_
            simp only [↓gos, gop, Nat.reduceBEq, Nat.reduceAdd, Nat.reduceSub, Nat.reduceLeDiff, Nat.reduceMul, Int.reduceLE, Int.reduceLT, Int.reduceNe, Int.reduceToNat]
            refine call_bld (gr := false) (gr' := false) (m := 0) (l := 1) rfl rfl rfl (ws58 false _ _ (by simp only [List.length_append, List.length_cons, List.length_nil] at *; omega)) ?_
            simp only [Buf, ↓gos, gop, Nat.reduceBEq, Nat.reduceAdd, Nat.reduceSub, Nat.reduceLeDiff, Nat.reduceMul, Int.reduceLE, Int.reduceLT, Int.reduceNe, Int.reduceToNat]
            intro v hv
            rw [wrap_i64 (by omega) (by omega)] at hv
            have hv : v = ((k + 1 : Nat) : Int) := by omega
            subst hv
            refine rnd_s (a2 ++ writtenF y false, k + 1) rfl (by simp) ⟨rfl, rfl, rfl, rfl, rfl, rfl, rfl, rfl, trivial⟩ ⟨by simp only; omega, ?_⟩ (by simp only; omega)
            rw [decide_eq_false (show ¬ k + 1 = 0 by omega), e1, ← q2]
            simp only [List.append_assoc]
      · have hk2 : k = x.length := by omega
        rw [decide_eq_false (show ¬ k = 0 by omega), List.drop_of_length_le (by omega), jn, List.append_nil] at q2
        refine call_bld (gr := false) (gr' := false) (m := 0) (l := 1) rfl rfl rfl (ws58 false _ _ (by rw [q2]; simp only [List.length_append, List.length_cons, List.length_nil] at *; omega)) ?_
        simp only [Buf, ↓gos, gop, Nat.reduceBEq, Nat.reduceAdd, Nat.reduceSub, Nat.reduceLeDiff, Nat.reduceMul, Int.reduceLE, Int.reduceLT, Int.reduceNe, Int.reduceToNat]
        intro v hv
        rw [wrap_i64 (by omega) (by omega)] at hv
        have hv : v = ((i + 1 : Nat) : Int) := by omega
        subst hv
        refine rnd_s (a2 ++ [13, 10], i + 1) rfl (by simp) ⟨rfl, rfl, rfl, rfl, trivial⟩ ⟨by simp only; omega, ?_⟩ (by simp only; omega)
        rw [q2, ← p2, hrw]
        simp only [List.append_assoc]
  · refine call_bstr (gr := false) (m := 0) (l := 1) rfl rfl (str60 false _) ?_
    simp only [↓gos, gop, Nat.reduceBEq, Nat.reduceAdd, Nat.reduceSub, Nat.reduceLeDiff, Nat.reduceMul, Int.reduceLE, Int.reduceLT, Int.reduceNe, Int.reduceToNat]
    refine ends ?_
    rw [← p2, List.drop_of_length_le (by omega)]
    simp [writeF]
end Go.Proofs.Ut
