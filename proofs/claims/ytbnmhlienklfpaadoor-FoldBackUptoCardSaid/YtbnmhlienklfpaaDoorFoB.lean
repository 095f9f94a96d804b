/- What the library does for fold; how many characters fit; lines in rows. -/
import Derived.Test.YtbnmhlienklfpaaDoorFoAny
import Derived.Test.YtbnmhlienklfpaaDoorFoCsE
import Derived.Test.YtbnmhlienklfpaaDoorFoA
import Derived.Lib.IndexMore
import Derived.Shelf.Strings.Search2
import Derived.Shelf.Unicode.DecodeAny
import Derived.Test.YtbnmhlienklfpaaDoorAiHand
set_option linter.all false
namespace Go.Proofs.Ut
open Go.Ai Classical Go.Shelf Go.RowKit
set_option linter.unusedSimpArgs false
set_option linter.unusedVariables false
set_option maxHeartbeats 1000000
set_option maxRecDepth 100000
/-- A call that leaves all as it lies, and reads the variables. -/
theorem scalG {f : Nat} {args : List DV} {r : DV} (hent : Ent Tryd.prog f) (h : ∀ (w : World) (ok : Nat → Prop) (β : Ai.Loc) (vs : List Value), Laid w → vs.length = args.length → (∀ (i : Nat) v d, vs[i]? = some v → args[i]? = some d → Rep w ok β v d) →
    ∃ v, (∀ w ok β, Rep w ok β v r) ∧ Calls Tryd.prog f vs.toArray w fun e w' => e = .returned v ∧ Below w.heap.size w w') : DRet f args r := by
  refine ⟨hent, fun w ok β vs hg hn hh hl hv => ?_⟩
  obtain ⟨v, hr, hc⟩ := h w ok β vs hg hl hv
  refine hc.mono ?_
  rintro e w' ⟨rfl, hb⟩
  exact ⟨_, ok, β, [], _, rfl, ⟨rfl, rfl⟩, stable_below hg hn hb, Ev.below hb, hrep_nil hh hb.size, hr _ _ _, fun l cs q => by simp at q, Nat.le_refl _, fun _ _ _ => rfl⟩
theorem one {vs : List Value} {a : DV} (h : vs.length = [a].length) : ∃ u, vs = [u] := by
  match vs, h with
  | [u], _ => exact ⟨u, rfl⟩
theorem index73 (s sub : List UInt8) (hs : s.length < 1000000000) : DRet 73 [.str s, .str sub] (.int .i64 (Lib.index s sub)) := by
  refine scalG ⟨Tryd.f73, Tryd.func73, by kernel_rfl, by kernel_rfl⟩ fun w ok β vs hg hl hv => ?_
  obtain ⟨u, v, rfl⟩ := two hl
  obtain rfl := of_str (hv 0 u _ rfl rfl)
  obtain rfl := of_str (hv 1 v _ rfl rfl)
  obtain ⟨m, hm⟩ := hg.most
  refine ⟨_, fun _ _ _ => .int _ _, (Any.stringslite_Index Tryd.lays219 ⟨s.toArray⟩ ⟨sub.toArray⟩ m w (by simp [ByteArray.size]; omega) hm).mono ?_⟩
  rintro e w' ⟨rfl, rfl⟩
  exact ⟨by simp, Below.refl _ _⟩
theorem decode52 (s : List UInt8) (hs : s ≠ []) : DRet 52 [.str s] (.tup [.int .i32 (D s 0).1, .int .i64 (D s 0).2]) := by
  refine scalG ⟨Tryd.f52, Tryd.func52, by kernel_rfl, by kernel_rfl⟩ fun w ok β vs hg hl hv => ?_
  obtain ⟨u, rfl⟩ := one hl
  obtain rfl := of_str (hv 0 u _ rfl rfl)
  have hd : Lib.decodeGo ⟨s.toArray⟩ = D s 0 := by
    unfold Lib.decodeGo
    rw [if_neg (by simpa [ByteArray.size] using hs)]; rfl
  refine ⟨_, fun _ _ _ => .tup [.int .i32 (D s 0).1, .int .i64 (D s 0).2] _ rfl fun i v d h1 h2 => by
    rcases i with _ | _ | i
    · cases h1; cases h2; exact .int _ _
    · cases h1; cases h2; exact .int _ _
    · simp at h1, (Any.utf8_DecodeRuneInString Tryd.lays197 ⟨s.toArray⟩ w hg.tabs).mono ?_⟩
  rintro e w' ⟨rfl, hb⟩
  exact ⟨by rw [hd], hb⟩
theorem index_cutE (s : List UInt8) : (Lib.index s [13, 10] < 0 ∧ cutE s = (s, [], false)) ∨ (∃ n : Nat, Lib.index s [13, 10] = n ∧ n + 2 ≤ s.length ∧ cutE s = (s.take n, s.drop (n + 2), true)) := by
  induction s with
  | nil => exact .inl ⟨by decide, rfl⟩
  | cons x s ih =>
    unfold Lib.index cutE
    by_cases hx : x = 13 ∧ s.head? = some 10
    · obtain ⟨rfl, h2⟩ := hx
      match s, h2 with
      | y :: t, h2 =>
        simp only [List.head?_cons, Option.some.injEq] at h2
        subst h2
        rw [if_pos (by simp), if_pos ⟨rfl, rfl⟩]
        exact .inr ⟨0, rfl, by simp, rfl⟩
    · have hp : ([13, 10] : List UInt8).isPrefixOf (x :: s) = false := by
        cases hq : ([13, 10] : List UInt8).isPrefixOf (x :: s)
        · rfl
        · exfalso
          match s, hq, hx with
          | [], hq, _ => simp [List.isPrefixOf] at hq
          | y :: t, hq, hx =>
            simp [List.isPrefixOf] at hq
            exact hx ⟨hq.1.symm, by rw [List.head?_cons, ← hq.2]⟩
      rw [hp, if_neg hx]
      simp only [Bool.false_eq_true, if_false]
      have hg := Lib.index_ge s [13, 10]
      rcases ih with ⟨h1, h2⟩ | ⟨n, h1, h2, h3⟩
      · have e : Lib.index s [13, 10] = -1 := by omega
        rw [e, h2]
        exact .inl ⟨by decide, rfl⟩
      · rw [h1, h3, if_neg (by first | (simp; done) | (simp; omega))]
        exact .inr ⟨n + 1, by omega, by simp; omega, rfl⟩
theorem cutE56 (s : List UInt8) (hs : s.length < 1000000000) : DRet 56 [.str s, .str [13, 10]] (.tup [.str (cutE s).1, .str (cutE s).2.1, .bool (cutE s).2.2]) := by
  refine acalls_go c56 (by simp [f56]) ?_
  simp only [f56, ↓gos, gop, Nat.reduceBEq, Nat.reduceAdd, Nat.reduceSub, Nat.reduceLeDiff, Nat.reduceMul, Int.reduceLE, Int.reduceLT, Int.reduceNe, Int.reduceToNat]
  refine call_ret (index73 s [13, 10] hs) rfl rfl ?_
  simp only [↓gos, gop, Nat.reduceBEq, Nat.reduceAdd, Nat.reduceSub, Nat.reduceLeDiff, Nat.reduceMul, Int.reduceLE, Int.reduceLT, Int.reduceNe, Int.reduceToNat]
  rcases index_cutE s with ⟨h1, h2⟩ | ⟨n, h1, h2, h3⟩
  · refine ⟨fun h => absurd h (by omega), fun _ => ?_⟩
    rw [h2]
    exact finE_closed rfl ⟨rfl, rfl⟩
  · rw [h1]
    refine ⟨fun _ => ⟨by omega, by omega, fun v hv => ?_⟩, fun h => absurd h (by omega)⟩
    rw [wrap_i64 (by omega) (by omega)] at hv
    subst hv
    refine ⟨by omega, by omega, ?_⟩
    rw [h3]
    refine finE_closed rfl ⟨rfl, ?_⟩
    have e1 : ((n : Int)).toNat = n := by omega
    have e2 : ((n : Int) + 2).toNat = n + 2 := by omega
    rw [e1, e2, List.take_of_length_le (l := s.drop (n + 2)) (by simp)]
    rfl
theorem cutE31 (s : List UInt8) (hs : s.length < 1000000000) : DRet 31 [.str s, .str [13, 10]] (.tup [.str (cutE s).1, .str (cutE s).2.1, .bool (cutE s).2.2]) := by
  refine acalls_go c31 (by simp [f31]) ?_
  simp only [f31, ↓gos, gop, Nat.reduceBEq, Nat.reduceAdd, Nat.reduceSub, Nat.reduceLeDiff, Nat.reduceMul, Int.reduceLE, Int.reduceLT, Int.reduceNe, Int.reduceToNat]
  refine call_ret (cutE56 s hs) rfl rfl ?_
  simp only [↓gos, gop, Nat.reduceBEq, Nat.reduceAdd, Nat.reduceSub, Nat.reduceLeDiff, Nat.reduceMul, Int.reduceLE, Int.reduceLT, Int.reduceNe, Int.reduceToNat]
  exact finE_closed rfl ⟨rfl, rfl⟩
theorem fits27 (s : List UInt8) (most : Nat) (hs : s.length < 1000000000) (hm : most < 1000000000) : DRet 27 [.str s, .int .i64 most] (.int .i64 (fits s most : Nat)) := by
  refine acalls_go c27 (by simp [f27]) ?_
  simp only [f27, ↓gos, gop, Nat.reduceBEq, Nat.reduceAdd, Nat.reduceSub, Nat.reduceLeDiff, Nat.reduceMul, Int.reduceLE, Int.reduceLT, Int.reduceNe, Int.reduceToNat]
  refine goN_lp (γ := Nat) (fun n => [(0, .str s), (1, .int .i64 (most : Nat)), (5, .int .i64 (n : Nat))]) (fun _ => []) (fun n => n ≤ s.length ∧ fitA s most n = fits s most) (fun n => s.length - n) 0
    (wks rfl (by simp) ⟨rfl, rfl, rfl, trivial⟩) ⟨by simp, rfl⟩ fun n hg => ?_
  obtain ⟨p1, p2⟩ := hg
  simp only [f27l0, ↓gos, gop, Nat.reduceBEq, Nat.reduceAdd, Nat.reduceSub, Nat.reduceLeDiff, Nat.reduceMul, Int.reduceLE, Int.reduceLT, Int.reduceNe, Int.reduceToNat]
  refine ⟨fun h1 => ?_, fun h1 => ?_⟩
  · have hl := D_len s n (by omega)
    refine ⟨by omega, ?_⟩
    have ht : List.take (s.length - n) (List.drop n s) = s.drop n := List.take_of_length_le (by simp)
    rw [ht]
    refine call_ret (decode52 (s.drop n) (by intro e; have := congrArg List.length e; simp at this; omega)) rfl rfl ?_
    rw [← D_drop s n p1]
    have hst := fitA_step s most n (by omega)
    simp only [↓gos, gop, Nat.reduceBEq, Nat.reduceAdd, Nat.reduceSub, Nat.reduceLeDiff, Nat.reduceMul, Int.reduceLE, Int.reduceLT, Int.reduceNe, Int.reduceToNat]
    refine ⟨fun h2 v hv => ?_, fun h2 v hv => ?_⟩
    · rw [wrap_i64 (by omega) (by omega)] at hv
      have hv : v = ((n + (D s n).2 : Nat) : Int) := by omega
      subst hv
      refine ⟨fun h3 => endi ?_, fun h3 v hv => ?_⟩
      · rw [if_pos ⟨by omega, by omega⟩] at hst
        rw [← p2, hst]
      · rw [wrap_i64 (by omega) (by omega)] at hv
        have hv : v = ((n + (D s n).2 : Nat) : Int) := by omega
        subst hv
        rw [if_neg (by omega)] at hst
        exact rnd_s (n + (D s n).2) rfl (by simp) ⟨rfl, rfl, rfl, trivial⟩ ⟨hl.2.1, by rw [← hst, p2]⟩ (by omega)
    · rw [wrap_i64 (by omega) (by omega)] at hv
      have hv : v = ((n + (D s n).2 : Nat) : Int) := by omega
      subst hv
      rw [if_neg (by omega)] at hst
      exact rnd_s (n + (D s n).2) rfl (by simp) ⟨rfl, rfl, rfl, trivial⟩ ⟨hl.2.1, by rw [← hst, p2]⟩ (by omega)
  · refine endi ?_
    rw [← p2, fitA_end s most n (by omega)]
theorem rows_eq (s : List UInt8) : ended (rowsL s) = s.take (fits s 75) ++ 13 :: 10 :: ended (foldR (s.drop (fits s 75))) := by rw [rowsL_eq, ended_cons]
theorem foldF_app (a b : List (List UInt8)) : foldF (a ++ b) = foldF a ++ foldF b := by simp [foldF]
theorem fold13 (l : List (List UInt8)) (hl : l.length < 1000000) (hb : (foldF l).length < 1000000000) : DRet 13 [.sl 1 (l.map sv)] (.str (foldF l)) := by
  refine acalls_go c13 (by simp [f13]) ?_
  simp only [f13, ↓gos, gop, Nat.reduceBEq, Nat.reduceAdd, Nat.reduceSub, Nat.reduceLeDiff, Nat.reduceMul, Int.reduceLE, Int.reduceLT, Int.reduceNe, Int.reduceToNat]
  refine goN_lp (γ := List UInt8 × Nat) (fun g => [(9, .int .i64 (g.2 : Nat)), (8, .int .i64 (l.length : Nat)), (7, .sl 1 (l.map sv)), (3, .ptr 1 0)])
    (fun g => [.buf 5 g.1, .box [.self 1 63 2, .hdr 0 5 g.1.length]])
    (fun g => g.2 ≤ l.length ∧ g.1 ++ foldF (l.drop g.2) = foldF l) (fun g => l.length - g.2) ([], 0)
    (wks rfl (by simp) ⟨rfl, rfl, rfl, rfl, trivial⟩) ⟨by simp, rfl⟩ fun g hg => ?_
  obtain ⟨acc, i⟩ := g
  obtain ⟨p1, p2⟩ := hg
  simp only at p1 p2
  simp only [f13l1, ↓gos, gop, Nat.reduceBEq, Nat.reduceAdd, Nat.reduceSub, Nat.reduceLeDiff, Nat.reduceMul, Int.reduceLE, Int.reduceLT, Int.reduceNe, Int.reduceToNat]
  refine ⟨fun hi => optP_at [] (by omega) ?_, fun hi => ?_⟩
  · have hdr : l.drop i = l.getD i [] :: l.drop (i + 1) := by
      rw [List.getD_eq_getElem?_getD, List.getElem?_eq_getElem (by omega)]
      exact List.drop_eq_getElem_cons (by omega)
    rw [hdr] at p2
    generalize l.getD i [] = s at p2
    have p2 : acc ++ ended (rowsL s) ++ foldF (l.drop (i + 1)) = foldF l := by
      rw [← p2]; simp [foldF]
    have hlen := congrArg List.length p2
    have hrl := rows_len s
    have hfl : fits s 75 ≤ s.length := by
      by_cases hs : s = []
      · subst hs; simp [fits_nil]
      · exact (fits_le s 75 hs).2
    rw [rows_eq] at p2 hlen hrl
    simp only [List.length_append, List.length_cons] at hlen hrl
    have hrl2 := rowsL_eq s
    have hrl3 := congrArg List.length hrl2
    simp only [List.length_cons] at hrl3
    have hs : s.length < 1000000000 := by omega
    simp only [sv, ↓gos, gop, Nat.reduceBEq, Nat.reduceAdd, Nat.reduceSub, Nat.reduceLeDiff, Nat.reduceMul, Int.reduceLE, Int.reduceLT, Int.reduceNe, Int.reduceToNat]
    refine call_ret (fits27 s 75 hs (by omega)) rfl rfl ?_
    simp only [↓gos, gop, Nat.reduceBEq, Nat.reduceAdd, Nat.reduceSub, Nat.reduceLeDiff, Nat.reduceMul, Int.reduceLE, Int.reduceLT, Int.reduceNe, Int.reduceToNat]
    have ht : (List.take (fits s 75) s).length ≤ s.length := by simp; omega
    refine ⟨by omega, by omega, ?_⟩
    refine call_bld (gr := false) (gr' := false) (m := 0) (l := 1) rfl rfl rfl (ws58 false _ _ (by simp only [List.length_append, List.length_cons, List.length_nil] at *; omega)) ?_
    simp only [Buf, ↓gos, gop, Nat.reduceBEq, Nat.reduceAdd, Nat.reduceSub, Nat.reduceLeDiff, Nat.reduceMul, Int.reduceLE, Int.reduceLT, Int.reduceNe, Int.reduceToNat]
    refine ⟨by omega, ?_⟩
    have hd0 : List.take (s.length - fits s 75) (List.drop (fits s 75) s) = s.drop (fits s 75) := List.take_of_length_le (by simp)
    rw [hd0]
    refine goN_lp (γ := List UInt8 × List UInt8) (fun g => [(5, .str g.2), (9, .int .i64 (i : Nat)), (8, .int .i64 (l.length : Nat)), (7, .sl 1 (l.map sv)), (3, .ptr 1 0)])
      (fun g => [.buf 5 g.1, .box [.self 1 63 2, .hdr 0 5 g.1.length]])
      (fun g => g.1 ++ ended (foldR g.2) ++ foldF (l.drop (i + 1)) = foldF l ∧ g.2.length ≤ s.length) (fun g => g.2.length) (acc ++ (List.take (fits s 75) s ++ [13, 10]), s.drop (fits s 75))
      (wks rfl (by simp) ⟨rfl, rfl, rfl, rfl, rfl, trivial⟩) ⟨by rw [← p2]; simp, by simp⟩ fun g hg => ?_
    obtain ⟨a2, t⟩ := g
    obtain ⟨q1, q2⟩ := hg
    simp only at q1 q2
    have hql := congrArg List.length q1
    simp only [List.length_append] at hql
    simp only [f13l0, ↓gos, gop, Nat.reduceBEq, Nat.reduceAdd, Nat.reduceSub, Nat.reduceLeDiff, Nat.reduceMul, Int.reduceLE, Int.reduceLT, Int.reduceNe, Int.reduceToNat]
    refine ⟨fun h0 => ?_, fun h0 v hv => ?_⟩
    · refine call_ret (fits27 t 74 (by omega) (by omega)) rfl rfl ?_
      simp only [↓gos, gop, Nat.reduceBEq, Nat.reduceAdd, Nat.reduceSub, Nat.reduceLeDiff, Nat.reduceMul, Int.reduceLE, Int.reduceLT, Int.reduceNe, Int.reduceToNat]
      have hft := fits_le t 74 h0
      have hstep := foldR_step t h0
      have htt : (List.take (fits t 74) t).length ≤ t.length := by simp; omega
      rw [hstep, ended_cons] at q1 hql
      simp only [List.length_append, List.length_cons] at hql
      refine ⟨by omega, by first | omega | (simp only [List.length_append, List.length_cons, List.length_nil]; omega), by first | omega | (simp only [List.length_append, List.length_cons, List.length_nil]; omega), ?_⟩
      refine call_bld (gr := false) (gr' := false) (m := 0) (l := 1) rfl rfl rfl (ws58 false _ _ (by simp only [List.length_append, List.length_cons, List.length_nil] at *; omega)) ?_
      simp only [Buf, ↓gos, gop, Nat.reduceBEq, Nat.reduceAdd, Nat.reduceSub, Nat.reduceLeDiff, Nat.reduceMul, Int.reduceLE, Int.reduceLT, Int.reduceNe, Int.reduceToNat]
      refine ⟨by omega, ?_⟩
      have hd1 : List.take (t.length - fits t 74) (List.drop (fits t 74) t) = t.drop (fits t 74) := List.take_of_length_le (by simp)
      rw [hd1]
      refine rnd_s (a2 ++ ([32] ++ List.take (fits t 74) t ++ [13, 10]), t.drop (fits t 74)) rfl (by simp) ⟨rfl, rfl, rfl, rfl, rfl, trivial⟩ ⟨?_, by simp only [List.length_drop]; omega⟩ (by simp only [List.length_drop]; omega)
      rw [← q1]; simp
    · rw [wrap_i64 (by omega) (by omega)] at hv
      have hv : v = ((i + 1 : Nat) : Int) := by omega
      subst hv
      have h0 : t = [] := by simpa using h0
      subst h0
      refine rnd_s (a2, i + 1) rfl (by simp) ⟨rfl, rfl, rfl, rfl, trivial⟩ ⟨by omega, ?_⟩ (by omega)
      rw [← q1, foldR_nil]; simp [ended]
  · refine call_bstr (gr := false) (m := 0) (l := 1) rfl rfl (str60 false _) ?_
    simp only [↓gos, gop, Nat.reduceBEq, Nat.reduceAdd, Nat.reduceSub, Nat.reduceLeDiff, Nat.reduceMul, Int.reduceLE, Int.reduceLT, Int.reduceNe, Int.reduceToNat]
    refine ends ?_
    rw [← p2, List.drop_of_length_le (by omega)]
    simp [foldF]
end Go.Proofs.Ut
