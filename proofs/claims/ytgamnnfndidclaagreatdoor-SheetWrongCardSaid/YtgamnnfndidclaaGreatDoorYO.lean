/- What the library does for fold; how many characters fit; lines in rows. -/
import Derived.Test.YtgamnnfndidclaaGreatDoorYFoCsE
import Derived.Test.YtgamnnfndidclaaGreatDoorYFoA
import Derived.Lib.IndexMore
import Derived.Shelf.Strings.Search2
import Derived.Shelf.Unicode.DecodeAny
import Derived.Test.YtgamnnfndidclaaGreatDoorLawGroups
import Derived.Shelf.Strings.Fold
import Derived.Lib.IndexBytes
set_option linter.all false
namespace Go.Proofs.Ut
open Go.Ai Classical Go.Shelf Go.RowKit
set_option linter.unusedSimpArgs false
set_option linter.unusedVariables false
set_option maxHeartbeats 1000000
set_option maxRecDepth 100000
/-- A call that leaves all as it lies, and reads the variables. -/
theorem scalG {f : Nat} {args : List DV} {r : DV} (hent : Ent Tryz.prog f) (h : ∀ (w : World) (ok : Nat → Prop) (β : Ai.Loc) (vs : List Value), Laid w → vs.length = args.length → (∀ (i : Nat) v d, vs[i]? = some v → args[i]? = some d → Rep w ok β v d) →
    ∃ v, (∀ w ok β, Rep w ok β v r) ∧ Calls Tryz.prog f vs.toArray w fun e w' => e = .returned v ∧ Below w.heap.size w w') : DRet f args r := by
  refine ⟨hent, fun w ok β vs hg hn hh hl hv => ?_⟩
  obtain ⟨v, hr, hc⟩ := h w ok β vs hg hl hv
  refine hc.mono ?_
  rintro e w' ⟨rfl, hb⟩
  exact ⟨_, ok, β, [], _, rfl, ⟨rfl, rfl⟩, stable_below hg hn hb, Ev.below hb, hrep_nil hh hb.size, hr _ _ _, fun l cs q => by simp at q, Nat.le_refl _, fun _ _ _ => rfl⟩
theorem one {vs : List Value} {a : DV} (h : vs.length = [a].length) : ∃ u, vs = [u] := by
  match vs, h with
  | [u], _ => exact ⟨u, rfl⟩
theorem index73 (s sub : List UInt8) (hs : s.length < 1000000000) : DRet 166 [.str s, .str sub] (.int .i64 (Lib.index s sub)) := by
  refine scalG ⟨Tryz.f166, Tryz.func166, by kernel_rfl, by kernel_rfl⟩ fun w ok β vs hg hl hv => ?_
  obtain ⟨u, v, rfl⟩ := two hl
  obtain rfl := of_str (hv 0 u _ rfl rfl)
  obtain rfl := of_str (hv 1 v _ rfl rfl)
  obtain ⟨m, hm⟩ := hg.most
  refine ⟨_, fun _ _ _ => .int _ _, (Any.stringslite_Index Tryz.lays219 ⟨s.toArray⟩ ⟨sub.toArray⟩ m w (by simp [ByteArray.size]; omega) hm).mono ?_⟩
  rintro e w' ⟨rfl, rfl⟩
  exact ⟨by simp, Below.refl _ _⟩
theorem decode52 (s : List UInt8) (hs : s ≠ []) : DRet 220 [.str s] (.tup [.int .i32 (D s 0).1, .int .i64 (D s 0).2]) := by
  refine scalG ⟨Tryz.f220, Tryz.func220, by kernel_rfl, by kernel_rfl⟩ fun w ok β vs hg hl hv => ?_
  obtain ⟨u, rfl⟩ := one hl
  obtain rfl := of_str (hv 0 u _ rfl rfl)
  have hd : Lib.decodeGo ⟨s.toArray⟩ = D s 0 := by
    unfold Lib.decodeGo
    rw [if_neg (by simpa [ByteArray.size] using hs)]; rfl
  refine ⟨_, fun _ _ _ => .tup [.int .i32 (D s 0).1, .int .i64 (D s 0).2] _ rfl fun i v d h1 h2 => by
    rcases i with _ | _ | i
    · cases h1; cases h2; exact .int _ _
    · cases h1; cases h2; exact .int _ _
    · simp at h1, (Any.utf8_DecodeRuneInString Tryz.lays197 ⟨s.toArray⟩ w hg.tabs).mono ?_⟩
  rintro e w' ⟨rfl, hb⟩
  exact ⟨by rw [hd], hb⟩
theorem fits27 (s : List UInt8) (most : Nat) (hs : s.length < 1000000000) (hm : most < 1000000000) : DRet 173 [.str s, .int .i64 most] (.int .i64 (fits s most : Nat)) := by
  refine acalls_go c173 (by simp [f173]) ?_
  simp only [f173, ↓gos, gop, Nat.reduceBEq, Nat.reduceAdd, Nat.reduceSub, Nat.reduceLeDiff, Nat.reduceMul, Int.reduceLE, Int.reduceLT, Int.reduceNe, Int.reduceToNat]
  refine goN_lp (γ := Nat) (fun n => [(0, .str s), (1, .int .i64 (most : Nat)), (5, .int .i64 (n : Nat))]) (fun _ => []) (fun n => n ≤ s.length ∧ fitA s most n = fits s most) (fun n => s.length - n) 0
    (wks rfl (by simp) ⟨rfl, rfl, rfl, trivial⟩) ⟨by simp, rfl⟩ fun n hg => ?_
  obtain ⟨p1, p2⟩ := hg
  simp only [f173l0, ↓gos, gop, Nat.reduceBEq, Nat.reduceAdd, Nat.reduceSub, Nat.reduceLeDiff, Nat.reduceMul, Int.reduceLE, Int.reduceLT, Int.reduceNe, Int.reduceToNat]
  refine ⟨fun h1 => ?_, fun h1 => ?_⟩
  · have hl := D_len s n (by omega)
    refine ⟨by omega, ?_⟩
    have ht : List.take (s.length - n) (List.drop n s) = s.drop n := List.take_of_length_le (by simp)
    rw [ht]
    refine call_ret (decode52 (s.drop n) (by intro e; have := congrArg List.length e; simp at this; omega)) rfl rfl ?_
    rw [← D_drop s n p1]
    have hst := fitA_step s most n (by omega)
    simp only [↓gos, gop, Nat.reduceBEq, Nat.reduceAdd, Nat.reduceSub, Nat.reduceLeDiff, Nat.reduceMul, Int.reduceLE, Int.reduceLT, Int.reduceNe, Int.reduceToNat]
    refine ⟨fun h2 v hv => ?_, fun h2 v hv => ?_⟩
    · rw [wrap_i64 (by omega) (by omega)] at hv
      have hv : v = ((n + (D s n).2 : Nat) : Int) := by omega
      subst hv
      refine ⟨fun h3 => endi ?_, fun h3 v hv => ?_⟩
      · rw [if_pos ⟨by omega, by omega⟩] at hst
        rw [← p2, hst]
      · rw [wrap_i64 (by omega) (by omega)] at hv
        have hv : v = ((n + (D s n).2 : Nat) : Int) := by omega
        subst hv
        rw [if_neg (by omega)] at hst
        exact rnd_s (n + (D s n).2) rfl (by simp) ⟨rfl, rfl, rfl, trivial⟩ ⟨hl.2.1, by rw [← hst, p2]⟩ (by omega)
    · rw [wrap_i64 (by omega) (by omega)] at hv
      have hv : v = ((n + (D s n).2 : Nat) : Int) := by omega
      subst hv
      rw [if_neg (by omega)] at hst
      exact rnd_s (n + (D s n).2) rfl (by simp) ⟨rfl, rfl, rfl, trivial⟩ ⟨hl.2.1, by rw [← hst, p2]⟩ (by omega)
  · refine endi ?_
    rw [← p2, fitA_end s most n (by omega)]
theorem rows_eq (s : List UInt8) : ended (rowsL s) = s.take (fits s 75) ++ 13 :: 10 :: ended (foldR (s.drop (fits s 75))) := by rw [rowsL_eq, ended_cons]
theorem fold13 (l : List (List UInt8)) (hl : l.length < 1000000) (hb : (foldF l).length < 1000000000) : DRet 132 [.sl 1 (l.map sv)] (.str (foldF l)) := by
  refine acalls_go c132 (by simp [f132]) ?_
  simp only [f132, ↓gos, gop, Nat.reduceBEq, Nat.reduceAdd, Nat.reduceSub, Nat.reduceLeDiff, Nat.reduceMul, Int.reduceLE, Int.reduceLT, Int.reduceNe, Int.reduceToNat]
  refine goN_lp (γ := List UInt8 × Nat) (fun g => [(9, .int .i64 (g.2 : Nat)), (8, .int .i64 (l.length : Nat)), (7, .sl 1 (l.map sv)), (3, .ptr 1 0)])
    (fun g => [.buf 5 g.1, .box [.self 1 169 2, .hdr 0 5 g.1.length]])
    (fun g => g.2 ≤ l.length ∧ g.1 ++ foldF (l.drop g.2) = foldF l) (fun g => l.length - g.2) ([], 0)
    (wks rfl (by simp) ⟨rfl, rfl, rfl, rfl, trivial⟩) ⟨by simp, rfl⟩ fun g hg => ?_
  obtain ⟨acc, i⟩ := g
  obtain ⟨p1, p2⟩ := hg
  simp only at p1 p2
  simp only [f132l1, ↓gos, gop, Nat.reduceBEq, Nat.reduceAdd, Nat.reduceSub, Nat.reduceLeDiff, Nat.reduceMul, Int.reduceLE, Int.reduceLT, Int.reduceNe, Int.reduceToNat]
  refine ⟨fun hi => optP_at [] (by omega) ?_, fun hi => ?_⟩
  · have hdr : l.drop i = l.getD i [] :: l.drop (i + 1) := by
      rw [List.getD_eq_getElem?_getD, List.getElem?_eq_getElem (by omega)]
      exact List.drop_eq_getElem_cons (by omega)
    rw [hdr] at p2
    generalize l.getD i [] = s at p2
    have p2 : acc ++ ended (rowsL s) ++ foldF (l.drop (i + 1)) = foldF l := by
      rw [← p2]; simp [foldF]
    have hlen := congrArg List.length p2
    have hrl := rows_len s
    have hfl : fits s 75 ≤ s.length := by
      by_cases hs : s = []
      · subst hs; simp [fits_nil]
      · exact (fits_le s 75 hs).2
    rw [rows_eq] at p2 hlen hrl
    simp only [List.length_append, List.length_cons] at hlen hrl
    have hrl2 := rowsL_eq s
    have hrl3 := congrArg List.length hrl2
    simp only [List.length_cons] at hrl3
    have hs : s.length < 1000000000 := by omega
    simp only [sv, ↓gos, gop, Nat.reduceBEq, Nat.reduceAdd, Nat.reduceSub, Nat.reduceLeDiff, Nat.reduceMul, Int.reduceLE, Int.reduceLT, Int.reduceNe, Int.reduceToNat]
    refine call_ret (fits27 s 75 hs (by omega)) rfl rfl ?_
    simp only [↓gos, gop, Nat.reduceBEq, Nat.reduceAdd, Nat.reduceSub, Nat.reduceLeDiff, Nat.reduceMul, Int.reduceLE, Int.reduceLT, Int.reduceNe, Int.reduceToNat]
    have ht : (List.take (fits s 75) s).length ≤ s.length := by simp; omega
    refine ⟨by omega, by omega, ?_⟩
    refine call_bld (gr := false) (gr' := false) (m := 0) (l := 1) rfl rfl rfl (ws58 false _ _ (by simp only [List.length_append, List.length_cons, List.length_nil] at *; omega)) ?_
    simp only [Buf, ↓gos, gop, Nat.reduceBEq, Nat.reduceAdd, Nat.reduceSub, Nat.reduceLeDiff, Nat.reduceMul, Int.reduceLE, Int.reduceLT, Int.reduceNe, Int.reduceToNat]
    refine ⟨by omega, ?_⟩
    have hd0 : List.take (s.length - fits s 75) (List.drop (fits s 75) s) = s.drop (fits s 75) := List.take_of_length_le (by simp)
    rw [hd0]
    refine goN_lp (γ := List UInt8 × List UInt8) (fun g => [(5, .str g.2), (9, .int .i64 (i : Nat)), (8, .int .i64 (l.length : Nat)), (7, .sl 1 (l.map sv)), (3, .ptr 1 0)])
      (fun g => [.buf 5 g.1, .box [.self 1 169 2, .hdr 0 5 g.1.length]])
      (fun g => g.1 ++ ended (foldR g.2) ++ foldF (l.drop (i + 1)) = foldF l ∧ g.2.length ≤ s.length) (fun g => g.2.length) (acc ++ (List.take (fits s 75) s ++ [13, 10]), s.drop (fits s 75))
      (wks rfl (by simp) ⟨rfl, rfl, rfl, rfl, rfl, trivial⟩) ⟨by rw [← p2]; simp, by simp⟩ fun g hg => ?_
    obtain ⟨a2, t⟩ := g
    obtain ⟨q1, q2⟩ := hg
    simp only at q1 q2
    have hql := congrArg List.length q1
    simp only [List.length_append] at hql
    simp only [f132l0, ↓gos, gop, Nat.reduceBEq, Nat.reduceAdd, Nat.reduceSub, Nat.reduceLeDiff, Nat.reduceMul, Int.reduceLE, Int.reduceLT, Int.reduceNe, Int.reduceToNat]
    refine ⟨fun h0 => ?_, fun h0 v hv => ?_⟩
    · refine call_ret (fits27 t 74 (by omega) (by omega)) rfl rfl ?_
      simp only [↓gos, gop, Nat.reduceBEq, Nat.reduceAdd, Nat.reduceSub, Nat.reduceLeDiff, Nat.reduceMul, Int.reduceLE, Int.reduceLT, Int.reduceNe, Int.reduceToNat]
      have hft := fits_le t 74 h0
      have hstep := foldR_step t h0
      have htt : (List.take (fits t 74) t).length ≤ t.length := by simp; omega
      rw [hstep, ended_cons] at q1 hql
      simp only [List.length_append, List.length_cons] at hql
      refine ⟨by omega, by first | omega | (simp only [List.length_append, List.length_cons, List.length_nil]; omega), by first | omega | (simp only [List.length_append, List.length_cons, List.length_nil]; omega), ?_⟩
      refine call_bld (gr := false) (gr' := false) (m := 0) (l := 1) rfl rfl rfl (ws58 false _ _ (by simp only [List.length_append, List.length_cons, List.length_nil] at *; omega)) ?_
      simp only [Buf, ↓gos, gop, Nat.reduceBEq, Nat.reduceAdd, Nat.reduceSub, Nat.reduceLeDiff, Nat.reduceMul, Int.reduceLE, Int.reduceLT, Int.reduceNe, Int.reduceToNat]
      refine ⟨by omega, ?_⟩
      have hd1 : List.take (t.length - fits t 74) (List.drop (fits t 74) t) = t.drop (fits t 74) := List.take_of_length_le (by simp)
      rw [hd1]
      refine rnd_s (a2 ++ ([32] ++ List.take (fits t 74) t ++ [13, 10]), t.drop (fits t 74)) rfl (by simp) ⟨rfl, rfl, rfl, rfl, rfl, trivial⟩ ⟨?_, by simp only [List.length_drop]; omega⟩ (by simp only [List.length_drop]; omega)
      rw [← q1]; simp
    · rw [wrap_i64 (by omega) (by omega)] at hv
      have hv : v = ((i + 1 : Nat) : Int) := by omega
      subst hv
      have h0 : t = [] := by simpa using h0
      subst h0
      refine rnd_s (a2, i + 1) rfl (by simp) ⟨rfl, rfl, rfl, rfl, trivial⟩ ⟨by omega, ?_⟩ (by omega)
      rw [← q1, foldR_nil]; simp [ended]
  · refine call_bstr (gr := false) (m := 0) (l := 1) rfl rfl (str60 false _) ?_
    simp only [↓gos, gop, Nat.reduceBEq, Nat.reduceAdd, Nat.reduceSub, Nat.reduceLeDiff, Nat.reduceMul, Int.reduceLE, Int.reduceLT, Int.reduceNe, Int.reduceToNat]
    refine ends ?_
    rw [← p2, List.drop_of_length_le (by omega)]
    simp [foldF]
end Go.Proofs.Ut

/- Rows as lines. -/
namespace Go.Proofs.Ut
open Go.Ai Classical Go.Shelf Go.RowKit
set_option linter.unusedSimpArgs false
set_option linter.unusedVariables false
set_option maxHeartbeats 1000000
set_option maxRecDepth 100000
theorem add35 (l : List (List UInt8)) (y : List UInt8) (hl : l.length < 1000000000) : ACalls ED 181 [.arr 1 (l.map sv), .box [.osl 1 0 0 l.length none]] [.ptr 1 0, .str y]
    (fun h' d => h' = [.arr 1 ((l ++ [y]).map sv), .box [.osl 1 0 0 (l ++ [y]).length none]] ∧ d = .tup []) := by
  refine acalls_go c181 (by simp [f181]) ?_
  simp only [f181, ↓gos, gop, Nat.reduceBEq, Nat.reduceAdd, Nat.reduceSub, Nat.reduceLeDiff, Nat.reduceMul, Int.reduceLE, Int.reduceLT, Int.reduceNe, Int.reduceToNat]
  refine ⟨by omega, by omega, end_l1 rfl ⟨?_, rfl⟩⟩
  rw [List.map_append, List.length_append]; rfl
theorem any_end (r : List UInt8) : r.any ([13, 10] : List UInt8).contains = endB r := by
  unfold endB
  congr 1
  funext x
  simp only [List.contains_cons, List.contains_nil, Bool.or_false]
  by_cases h1 : x = 13
  · subst h1; simp
  · by_cases h2 : x = 10
    · subst h2; simp
    · simp [h1, h2]
theorem sg2 : Sg [13, 10] := ⟨by decide, by decide, by decide⟩
end Go.Proofs.Ut

/- The text of a value; its parts. -/
namespace Go.Proofs.Ut
open Go.Ai Classical Go.Shelf Go.RowKit
set_option linter.unusedSimpArgs false
set_option linter.unusedVariables false
set_option maxHeartbeats 1000000
set_option maxRecDepth 100000
/-- A sign behind a backslash. -/
def escC (c : UInt8) : Option UInt8 := if c = 92 ∨ c = 44 ∨ c = 59 then some c else if c = 110 ∨ c = 78 then some 10 else none
def plainF : List UInt8 → Option (List UInt8)
  | [] => some []
  | x :: s =>
    if x = 92 then (match s with | [] => none | c :: t => (escC c).bind fun y => (plainF t).map (y :: ·))
    else (plainF s).map (x :: ·)
def plainB : List UInt8 → Option (List UInt8)
  | [] => none
  | c :: t => (escC c).bind fun y => (plainF t).map (y :: ·)
theorem plain_cut : ∀ s : List UInt8, plainF s = if (cut 92 s).2.2 = true then (plainB (cut 92 s).2.1).map ((cut 92 s).1 ++ ·) else some s
  | [] => by simp [plainF, cut]
  | x :: s => by
    have ih := plain_cut s
    rw [cut]
    by_cases hx : x = 92
    · rw [if_pos hx]
      subst hx
      cases s with
      | nil => simp [plainF, plainB]
      | cons c t => simp [plainF, plainB]
    · rw [if_neg hx]
      have e : plainF (x :: s) = (plainF s).map (x :: ·) := by rw [plainF.eq_def]; simp only; rw [if_neg hx]
      rw [e, ih]
      simp only
      split
      · cases plainB (cut 92 s).2.1 <;> rfl
      · rfl
theorem cut_lenB (c : UInt8) : ∀ s : List UInt8, (cut c s).1.length + (cut c s).2.1.length ≤ s.length ∧ ((cut c s).2.2 = true → (cut c s).1.length + (cut c s).2.1.length < s.length) ∧ ((cut c s).2.2 = false → (cut c s).1 = s)
  | [] => by simp [cut]
  | x :: s => by
    have ih := cut_lenB c s
    rw [cut]
    split
    · simp
    · simp only [List.length_cons]
      exact ⟨by omega, fun h => by have := ih.2.1 h; omega, fun h => by rw [ih.2.2 h]⟩
theorem index59 (s sub : List UInt8) (hs : s.length < 1000000000) : DRet 126 [.str s, .str sub] (.int .i64 (Lib.index s sub)) := by
  refine acalls_go c126 (by simp [f126]) ?_
  simp only [f126, ↓gos, gop, Nat.reduceBEq, Nat.reduceAdd, Nat.reduceSub, Nat.reduceLeDiff, Nat.reduceMul, Int.reduceLE, Int.reduceLT, Int.reduceNe, Int.reduceToNat]
  refine call_ret (index73 s sub hs) rfl rfl ?_
  simp only [↓gos, gop, Nat.reduceBEq, Nat.reduceAdd, Nat.reduceSub, Nat.reduceLeDiff, Nat.reduceMul, Int.reduceLE, Int.reduceLT, Int.reduceNe, Int.reduceToNat]
  exact endi rfl
def EC : List UInt8 := [92, 44, 59, 110, 78]
theorem contains38 (c : UInt8) : DRet 65 [.str [92, 44, 59, 110, 78], .str [c]] (.bool (EC.contains c)) := by
  refine acalls_go c65 (by simp [f65]) ?_
  simp only [f65, ↓gos, gop, Nat.reduceBEq, Nat.reduceAdd, Nat.reduceSub, Nat.reduceLeDiff, Nat.reduceMul, Int.reduceLE, Int.reduceLT, Int.reduceNe, Int.reduceToNat]
  refine call_ret (index59 [92, 44, 59, 110, 78] [c] (by simp)) rfl rfl ?_
  rw [Lib.index_one]
  simp only [↓gos, gop, Nat.reduceBEq, Nat.reduceAdd, Nat.reduceSub, Nat.reduceLeDiff, Nat.reduceMul, Int.reduceLE, Int.reduceLT, Int.reduceNe, Int.reduceToNat]
  have := sg_index EC c
  refine ⟨fun h => endb ?_, fun h => endb ?_⟩
  · rw [this.1 h]
  · cases hc : EC.contains c
    · rfl
    · exact absurd (this.2 hc) h
theorem fold39 (s t : List UInt8) (hs : s.length < 1000000000) (h1 : ∀ b ∈ s, b.toNat < 128) (h2 : ∀ b ∈ t, b.toNat < 128) : DRet 171 [.str s, .str t] (.bool (Lib.equalFold s t)) := by
  refine scal ⟨Tryz.f171, Tryz.func171, by kernel_rfl, by kernel_rfl⟩ fun w ok β vs hl hv => ?_
  obtain ⟨u, v, rfl⟩ := two hl
  obtain rfl := of_str (hv 0 u _ rfl rfl)
  obtain rfl := of_str (hv 1 v _ rfl rfl)
  refine ⟨_, fun _ _ _ => .bool _, (Any.strings_EqualFold Tryz.lays164 ⟨s.toArray⟩ ⟨t.toArray⟩ w (by simp [ByteArray.size]; omega) (fun j b hj => h1 b (List.mem_of_getElem? (by simpa using hj))) (fun j b hj => h2 b (List.mem_of_getElem? (by simpa using hj)))).mono ?_⟩
  rintro e w' ⟨rfl, rfl⟩
  exact ⟨by simp, Below.refl _ _⟩
theorem esc_no {c : UInt8} (h : EC.contains c = false) : escC c = none := by
  unfold EC at h
  simp only [List.contains_cons, List.contains_nil, Bool.or_false, Bool.or_eq_false_iff, beq_eq_false_iff_ne, ne_eq] at h
  unfold escC
  rw [if_neg (by simp [h]), if_neg (by simp [h])]
theorem esc_fold {c : UInt8} (h : EC.contains c = true) : c.toNat < 128 ∧ ((Lib.equalFold [c] [110] = false ∧ escC c = some c) ∨ (Lib.equalFold [c] [110] = true ∧ escC c = some 10)) := by
  unfold EC at h
  simp only [List.contains_cons, List.contains_nil, Bool.or_false, Bool.or_eq_true, beq_iff_eq] at h
  rcases h with rfl | rfl | rfl | rfl | rfl
  · exact ⟨by decide, .inl ⟨by decide, by decide⟩⟩
  · exact ⟨by decide, .inl ⟨by decide, by decide⟩⟩
  · exact ⟨by decide, .inl ⟨by decide, by decide⟩⟩
  · exact ⟨by decide, .inr ⟨by decide, by decide⟩⟩
  · exact ⟨by decide, .inr ⟨by decide, by decide⟩⟩
theorem plain16 (s : List UInt8) (hs : s.length < 1000000000) : DRet 146 [.str s] (.tup [.str ((plainF s).getD []), .int .i64 (if (plainF s).isSome then 0 else 18)]) := by
  refine acalls_go c146 (by simp [f146]) ?_
  simp only [f146, ↓gos, gop, Nat.reduceBEq, Nat.reduceAdd, Nat.reduceSub, Nat.reduceLeDiff, Nat.reduceMul, Int.reduceLE, Int.reduceLT, Int.reduceNe, Int.reduceToNat]
  refine goN_lp (γ := List UInt8 × List UInt8) (fun g => [(0, .str g.2), (4, .ptr 1 0)])
    (fun g => [.buf 5 g.1, .box [.self 1 169 2, .hdr 0 5 g.1.length]])
    (fun g => g.1.length + g.2.length ≤ s.length ∧ (plainF g.2).map (g.1 ++ ·) = plainF s) (fun g => g.2.length) ([], s)
    (wks rfl (by simp) ⟨rfl, rfl, trivial⟩) ⟨by simp, by simp⟩ fun g hg => ?_
  obtain ⟨acc, t⟩ := g
  obtain ⟨p1, p2⟩ := hg
  simp only at p1 p2
  simp only [f146l0, ↓gos, gop, Nat.reduceBEq, Nat.reduceAdd, Nat.reduceSub, Nat.reduceLeDiff, Nat.reduceMul, Int.reduceLE, Int.reduceLT, Int.reduceNe, Int.reduceToNat]
  have hc := plain_cut t
  have hcl := cut_lenB 92 t
  refine call_ret (cut112 t 92 (by omega)) rfl rfl ?_
  generalize cut 92 t = ct at hc hcl
  obtain ⟨head, rest, is⟩ := ct
  simp only at hc hcl
  simp only [↓gos, gop, Nat.reduceBEq, Nat.reduceAdd, Nat.reduceSub, Nat.reduceLeDiff, Nat.reduceMul, Int.reduceLE, Int.reduceLT, Int.reduceNe, Int.reduceToNat]
  refine call_bld (gr := false) (gr' := false) (m := 0) (l := 1) rfl rfl rfl (ws58 false acc head (by omega)) ?_
  cases is
  · simp only [Buf, ↓gos, gop, Nat.reduceBEq, Nat.reduceAdd, Nat.reduceSub, Nat.reduceLeDiff, Nat.reduceMul, Int.reduceLE, Int.reduceLT, Int.reduceNe, Int.reduceToNat]
    refine call_bstr (gr := false) (m := 0) (l := 1) rfl rfl (str60 false _) ?_
    simp only [↓gos, gop, Nat.reduceBEq, Nat.reduceAdd, Nat.reduceSub, Nat.reduceLeDiff, Nat.reduceMul, Int.reduceLE, Int.reduceLT, Int.reduceNe, Int.reduceToNat]
    simp only [Bool.false_eq_true, if_false] at hc
    rw [hc] at p2
    refine finE_closed rfl ⟨rfl, ?_⟩
    rw [← p2, hcl.2.2 rfl]
    rfl
  · simp only [Buf, ↓gos, gop, Nat.reduceBEq, Nat.reduceAdd, Nat.reduceSub, Nat.reduceLeDiff, Nat.reduceMul, Int.reduceLE, Int.reduceLT, Int.reduceNe, Int.reduceToNat]
    simp only [if_true] at hc
    have hcl2 := hcl.2.1 rfl
    cases rest with
    | nil =>
      simp only [↓gos, gop, Nat.reduceBEq, Nat.reduceAdd, Nat.reduceSub, Nat.reduceLeDiff, Nat.reduceMul, Int.reduceLE, Int.reduceLT, Int.reduceNe, Int.reduceToNat]
      have hn : plainF s = none := by rw [← p2, hc]; rfl
      rw [hn]
      exact finE_closed rfl ⟨rfl, rfl⟩
    | cons c r =>
      simp only [↓gos, gop, Nat.reduceBEq, Nat.reduceAdd, Nat.reduceSub, Nat.reduceLeDiff, Nat.reduceMul, Int.reduceLE, Int.reduceLT, Int.reduceNe, Int.reduceToNat]
      simp only [List.length_cons] at hcl hcl2
      refine ⟨fun h => (by cases h), fun _ => ⟨by omega, call_ret (contains38 c) rfl rfl ?_⟩⟩
      cases he : EC.contains c
      · simp only [↓gos, gop, Nat.reduceBEq, Nat.reduceAdd, Nat.reduceSub, Nat.reduceLeDiff, Nat.reduceMul, Int.reduceLE, Int.reduceLT, Int.reduceNe, Int.reduceToNat]
        have hn : plainF s = none := by rw [← p2, hc, plainB, esc_no he]; rfl
        rw [hn]
        exact finE_closed rfl ⟨rfl, rfl⟩
      · obtain ⟨h128, hf⟩ := esc_fold he
        simp only [↓gos, gop, Nat.reduceBEq, Nat.reduceAdd, Nat.reduceSub, Nat.reduceLeDiff, Nat.reduceMul, Int.reduceLE, Int.reduceLT, Int.reduceNe, Int.reduceToNat]
        refine ⟨by omega, call_ret (fold39 [c] [110] (by simp) (by simpa using h128) (by decide)) rfl rfl ?_⟩
        rcases hf with ⟨h1, h2⟩ | ⟨h1, h2⟩
        all_goals
          rw [h1]
          rw [plainB, h2] at hc
          simp only [Option.bind_some] at hc
          simp only [↓gos, gop, Nat.reduceBEq, Nat.reduceAdd, Nat.reduceSub, Nat.reduceLeDiff, Nat.reduceMul, Int.reduceLE, Int.reduceLT, Int.reduceNe, Int.reduceToNat]
          refine call_bld (gr := false) (gr' := false) (m := 0) (l := 1) rfl rfl rfl (ws58 false (acc ++ head) _ (by simp only [List.length_append, List.length_cons, List.length_nil]; omega)) ?_
          simp only [Buf, ↓gos, gop, Nat.reduceBEq, Nat.reduceAdd, Nat.reduceSub, Nat.reduceLeDiff, Nat.reduceMul, Int.reduceLE, Int.reduceLT, Int.reduceNe, Int.reduceToNat]
          refine ⟨by omega, ?_⟩
          rw [show List.take (r.length + 1 - 1) r = r from List.take_of_length_le (by omega)]
          refine rnd_s (acc ++ head ++ [_], r) rfl (by simp) ⟨rfl, rfl, trivial⟩ ⟨by simp; omega, ?_⟩ (by simp only; omega)
          rw [← p2, hc, Option.map_map, Option.map_map]
          congr 1
          funext z
          simp
/-- The parts of a value. -/
def escN (e : Bool) (x : UInt8) : Bool := decide (x = 92) && !e
def splitF (sep : UInt8) : Bool → List UInt8 → List UInt8 → List (List UInt8)
  | _, cur, [] => [cur]
  | e, cur, x :: s => if (decide (x = sep) && !e) = true then cur :: splitF sep (escN e x) [] s else splitF sep (escN e x) (cur ++ [x]) s
theorem clone51 (l : List (List UInt8)) (hl : l ≠ []) (hb : l.length < 1000000000) : ACalls ED 182 [] [.sl 1 (l.map sv)] (fun h d => h = [.arr 1 (l.map sv)] ∧ d = .osl 1 0 0 l.length none) := by
  refine acalls_go c182 (by simp [f182]) ?_
  simp only [f182, ↓gos, gop, Nat.reduceBEq, Nat.reduceAdd, Nat.reduceSub, Nat.reduceLeDiff, Nat.reduceMul, Int.reduceLE, Int.reduceLT, Int.reduceNe, Int.reduceToNat]
  exact ⟨by simpa using hl, by omega, by omega, end_row rfl rfl rfl⟩
theorem free_sv (l : List (List UInt8)) (n : Nat) : ((DV.osl 1 0 0 n none).free && [AObj.arr 1 (l.map sv)].all freeO) = true := by simp [DV.free, freeO, sv]
theorem take_next (s : List UInt8) (fr i : Nat) (h : fr ≤ i) (hi : i < s.length) : List.take (i + 1 - fr) (List.drop fr s) = List.take (i - fr) (List.drop fr s) ++ [s.getD i 0] := by
  rw [show i + 1 - fr = (i - fr) + 1 by omega, List.take_add_one]
  congr 1
  rw [List.getElem?_drop, show fr + (i - fr) = i by omega, List.getD_eq_getElem?_getD, List.getElem?_eq_getElem hi]
  rfl
theorem drop_next (s : List UInt8) (i : Nat) (hi : i < s.length) : List.drop i s = s.getD i 0 :: List.drop (i + 1) s := by
  rw [List.getD_eq_getElem?_getD, List.getElem?_eq_getElem hi]
  exact List.drop_eq_getElem_cons hi
theorem split26 (s : List UInt8) (sep : UInt8) (hs : s.length < 100000000) : ACalls ED 145 [] [.str s, .int .u8 sep.toNat] (fun h d => h = [.arr 1 ((splitF sep false [] s).map sv)] ∧ d = .osl 1 0 0 (splitF sep false [] s).length none) := by
  refine acalls_go c145 (by simp [f145]) ?_
  simp only [f145, ↓gos, gop, Nat.reduceBEq, Nat.reduceAdd, Nat.reduceSub, Nat.reduceLeDiff, Nat.reduceMul, Int.reduceLE, Int.reduceLT, Int.reduceNe, Int.reduceToNat]
  refine goN_lp (γ := List (List UInt8) × Nat × Nat × Bool) (fun g => [(0, .str s), (1, .int .u8 sep.toNat), (5, .ptr 2 0), (6, .int .i64 (g.2.1 : Nat)), (7, .bool g.2.2.2), (12, .int .i64 s.length), (13, .int .i64 (g.2.2.1 : Nat))])
    (fun g => [.arr 1 [], .arr 1 (g.1.map sv), .box [.osl 1 1 0 g.1.length none]])
    (fun g => g.2.1 ≤ g.2.2.1 ∧ g.2.2.1 ≤ s.length ∧ g.1.length ≤ g.2.1 ∧ g.1 ++ splitF sep g.2.2.2 ((s.drop g.2.1).take (g.2.2.1 - g.2.1)) (s.drop g.2.2.1) = splitF sep false [] s) (fun g => s.length - g.2.2.1) ([], 0, 0, false)
    (wks rfl (by simp) ⟨rfl, rfl, rfl, rfl, rfl, rfl, rfl, trivial⟩) ⟨by simp, by simp, by simp, rfl⟩ fun g hg => ?_
  obtain ⟨acc, fr, i, e⟩ := g
  obtain ⟨p1, p2, p3, p4⟩ := hg
  simp only at p1 p2 p3 p4
  by_cases hi : i < s.length
  · have hxb := (s.getD i 0).toNat_lt
    have hbt : bt s i = ((s.getD i 0).toNat : Int) := rfl
    have hq : ∀ c : UInt8, (bt s i = (c.toNat : Int)) ↔ s.getD i 0 = c := fun c => by
      rw [hbt]
      exact ⟨fun q => UInt8.toNat_inj.1 (by omega), fun q => by rw [q]⟩
    have hq92 : (bt s i = 92) ↔ s.getD i 0 = 92 := hq 92
    have hpl : (List.take (i - fr) (List.drop fr s)).length ≤ s.length := by simp; omega
    have htn := take_next s fr i p1 hi
    rw [drop_next s i hi, splitF] at p4
    generalize s.getD i 0 = x at p4 hq hq92 hxb hbt htn
    cases e
    · simp only [f145l0, ↓gos, gop, Nat.reduceBEq, Nat.reduceAdd, Nat.reduceSub, Nat.reduceLeDiff, Nat.reduceMul, Int.reduceLE, Int.reduceLT, Int.reduceNe, Int.reduceToNat]
      refine ⟨fun _ => ⟨by omega, fun h1 => ?_, fun h1 => ?_⟩, fun h => absurd h (by omega)⟩
      · have hs1 := (hq sep).1 h1
        rw [if_pos (by rw [hs1]; simp)] at p4
        refine ⟨by omega, by omega, ?_⟩
        refine call_l1 (m := 1) (l := 2) (n' := (acc ++ [List.take (i - fr) (List.drop fr s)]).length) (es' := (acc ++ [List.take (i - fr) (List.drop fr s)]).map sv) (xs := [.str (List.take (i - fr) (List.drop fr s))]) (DR := .tup []) rfl rfl rfl (add35 acc _ (by omega)) rfl ?_
        simp only [↓gos, gop, Nat.reduceBEq, Nat.reduceAdd, Nat.reduceSub, Nat.reduceLeDiff, Nat.reduceMul, Int.reduceLE, Int.reduceLT, Int.reduceNe, Int.reduceToNat]
        intro v hv
        rw [wrap_i64 (by omega) (by omega)] at hv
        have hv : v = ((i + 1 : Nat) : Int) := by omega
        subst hv
        refine ⟨by omega, fun h9 v1 hv1 => ?_, fun h9 v1 hv1 => ?_⟩
        · have h92 := hq92.1 h9
          rw [wrap_i64 (by omega) (by omega)] at hv1
          have hv1 : v1 = ((i + 1 : Nat) : Int) := by omega
          subst hv1
          refine rnd_s (acc ++ [List.take (i - fr) (List.drop fr s)], i + 1, i + 1, true) rfl (by simp) ⟨rfl, rfl, rfl, rfl, rfl, rfl, rfl, trivial⟩ ⟨by first | omega | (simp only; omega), by first | omega | (simp only; omega), by simp; omega, ?_⟩ (by first | omega | (simp only; omega))
          rw [← p4]
          simp [escN, h92]
        · have h92 := mt hq92.2 h9
          rw [wrap_i64 (by omega) (by omega)] at hv1
          have hv1 : v1 = ((i + 1 : Nat) : Int) := by omega
          subst hv1
          refine rnd_s (acc ++ [List.take (i - fr) (List.drop fr s)], i + 1, i + 1, false) rfl (by simp) ⟨rfl, rfl, rfl, rfl, rfl, rfl, rfl, trivial⟩ ⟨by first | omega | (simp only; omega), by first | omega | (simp only; omega), by simp; omega, ?_⟩ (by first | omega | (simp only; omega))
          rw [← p4]
          simp [escN, h92]
      · have hs1 : x ≠ sep := mt (hq sep).2 h1
        rw [if_neg (by simp [hs1])] at p4
        refine ⟨by omega, fun h9 v1 hv1 => ?_, fun h9 v1 hv1 => ?_⟩
        · have h92 := hq92.1 h9
          rw [wrap_i64 (by omega) (by omega)] at hv1
          have hv1 : v1 = ((i + 1 : Nat) : Int) := by omega
          subst hv1
          refine rnd_s (acc, fr, i + 1, true) rfl (by simp) ⟨rfl, rfl, rfl, rfl, rfl, rfl, rfl, trivial⟩ ⟨by first | omega | (simp only; omega), by first | omega | (simp only; omega), by simp; omega, ?_⟩ (by first | omega | (simp only; omega))
          rw [← p4]
          simp only [htn, escN]
          simp [h92]
        · have h92 := mt hq92.2 h9
          rw [wrap_i64 (by omega) (by omega)] at hv1
          have hv1 : v1 = ((i + 1 : Nat) : Int) := by omega
          subst hv1
          refine rnd_s (acc, fr, i + 1, false) rfl (by simp) ⟨rfl, rfl, rfl, rfl, rfl, rfl, rfl, trivial⟩ ⟨by first | omega | (simp only; omega), by first | omega | (simp only; omega), by simp; omega, ?_⟩ (by first | omega | (simp only; omega))
          rw [← p4]
          simp only [htn, escN]
          simp [h92]
    · rw [if_neg (by simp)] at p4
      simp only [f145l0, ↓gos, gop, Nat.reduceBEq, Nat.reduceAdd, Nat.reduceSub, Nat.reduceLeDiff, Nat.reduceMul, Int.reduceLE, Int.reduceLT, Int.reduceNe, Int.reduceToNat]
      refine ⟨fun _ => ⟨by omega, fun _ => ⟨by omega, fun _ v hv => ?_, fun _ v hv => ?_⟩, fun _ => ⟨by omega, fun _ v hv => ?_, fun _ v hv => ?_⟩⟩, fun h => absurd h (by omega)⟩
      all_goals
        rw [wrap_i64 (by omega) (by omega)] at hv
        have hv : v = ((i + 1 : Nat) : Int) := by omega
        subst hv
        refine rnd_s (acc, fr, i + 1, false) rfl (by simp) ⟨rfl, rfl, rfl, rfl, rfl, rfl, rfl, trivial⟩ ⟨by first | omega | (simp only; omega), by first | omega | (simp only; omega), by first | omega | (simp only; omega), ?_⟩ (by first | omega | (simp only; omega))
        rw [← p4]
        simp only [htn, escN]
        simp
  · have e0 : i = s.length := by omega
    subst e0
    rw [List.drop_length, splitF] at p4
    have hacc : acc.length < 100000000 := by omega
    cases e
    all_goals
      simp only [f145l0, ↓gos, gop, Nat.reduceBEq, Nat.reduceAdd, Nat.reduceSub, Nat.reduceLeDiff, Nat.reduceMul, Int.reduceLE, Int.reduceLT, Int.reduceNe, Int.reduceToNat]
      refine ⟨fun h => absurd h (by omega), fun _ => ⟨by omega, ?_⟩⟩
      refine call_l1 (m := 1) (l := 2) (n' := (acc ++ [List.take (s.length - fr) (List.drop fr s)]).length) (es' := (acc ++ [List.take (s.length - fr) (List.drop fr s)]).map sv) (xs := [.str (List.take (s.length - fr) (List.drop fr s))]) (DR := .tup []) rfl rfl rfl (add35 acc _ (by omega)) rfl ?_
      simp only [↓gos, gop, Nat.reduceBEq, Nat.reduceAdd, Nat.reduceSub, Nat.reduceLeDiff, Nat.reduceMul, Int.reduceLE, Int.reduceLT, Int.reduceNe, Int.reduceToNat]
      refine call_lend (clone51 (acc ++ [List.take (s.length - fr) (List.drop fr s)]) (by simp) (by simp; omega)) ?_ ?_ ?_
      · rw [List.map_cons, List.map_nil, dn_osl rfl (by simp)]
      · exact free_sv _ _
      · simp only [DV.ren, renO, ↓gos, gop, Nat.reduceBEq, Nat.reduceAdd, Nat.reduceSub, Nat.reduceLeDiff, Nat.reduceMul, Int.reduceLE, Int.reduceLT, Int.reduceNe, Int.reduceToNat]
        exact end_row rfl (by rw [p4]) (by rw [p4])
end Go.Proofs.Ut

/- item.Groups, of some twenty at most: the library's stable sort, Compact, DeleteFunc. -/
namespace Go.Ai
/-- A row is handed down, and stays where it is; what leads to other places is lent. -/
theorem call_in1f {E : Env} {L : List (Nat × DV)} {h : List AObj} {f : Nat} {ds ds' : List DV} {post : List AObj → DV → Prop} {K : DV → St → Prop} {i sz : Nat} {es : List (List DV)} (hi : h[i]? = some (.arr sz es)) (hc : ACallsK E true f [.arr sz es] ds' post) (he : ds.map (DV.dn [i] h) = ds')
    (hin : ∀ h' d, post h' d → (d.free && h'.all freeO) = true) (hk : ∀ h' d, post h' d → ∃ es', h' = [.arr sz es'] ∧ d.closed = true ∧ K d (sta L (h.set i (.arr sz es')))) : acall E true f ds K (sta L h) := by
  have hlt : i < h.length := (List.getElem?_eq_some_iff.1 hi).1
  have hg : h.getD i .dead = .arr sz es := by simp [hi]
  refine .go ?_
  refine .inr (.inr ⟨true, [i], post, .inl rfl, by simp, fun l hl => by simp at hl; subst hl; exact hlt, ?_, fun h' d hp => ?_⟩)
  · rw [show (sta L h).h = h from rfl, he]
    simp only [List.map_cons, List.map_nil, hg, lowO]
    exact hc
  · have hfr := hin h' d hp
    obtain ⟨es', rfl, hd, hk⟩ := hk h' d hp
    refine ⟨.inr hfr, ?_⟩
    rw [closed_ren hd]
    have e : (sta L h).handed true [i] [AObj.arr sz es'] = sta L (h.set i (.arr sz es')) := by
      unfold St.handed
      simp [renO, setAll, sta]
    rw [e]; exact hk
end Go.Ai
namespace Go.Proofs.Ut
open Go.Ai
set_option maxRecDepth 100000
set_option linter.all false
theorem free_st1 (l : List (List UInt8)) : ((DV.tup []).free && [AObj.arr 1 (l.map st1)].all freeO) = true := by simp [DV.free, DV.free.freeAll, freeO, st1]
theorem stable275 (l : List (List UInt8)) (c : Option Nat) (hl : l.length < 20) (h0 : 0 < l.length) :
    ACallsK ED true 275 [.arr 1 (l.map st1)] [.osl 1 0 0 l.length c, .int .i64 l.length, FC] fun h d => h = [.arr 1 ((srtT Op.bytesLess l).map st1)] ∧ d = .tup [] := by
  refine acalls_goG c275 (by simp [f275]) (by simp) ?_
  simp only [f275, finG_e, finG_en, ↓gos, gop, Nat.reduceBEq, Nat.reduceAdd, Nat.reduceSub, Nat.reduceLeDiff, Nat.reduceMul, Int.reduceLE, Int.reduceLT, Int.reduceNe, Int.reduceToNat]
  refine goN_un 1 ?_
  have e1 : ¬ (20 : Int) ≤ l.length := by omega
  have e2 : ¬ (20 : Int) < l.length := by omega
  simp only [f275l0, e1, finG_e, finG_en, ↓gos, gop, Nat.reduceBEq, Nat.reduceAdd, Nat.reduceSub, Nat.reduceLeDiff, Nat.reduceMul, Int.reduceLE, Int.reduceLT, Int.reduceNe, Int.reduceToNat]
  refine call_in1 (i := 0) rfl (ins307 l 0 l.length c (by omega) h0 (by omega) (Nat.le_refl _)) rfl rfl ?_
  rintro h' d ⟨rfl, rfl⟩
  refine ⟨_, rfl, rfl, ?_⟩
  rw [Nat.sub_zero, insK_all bl_tot]
  simp only [finG_e, finG_en, ↓gos, gop, Nat.reduceBEq, Nat.reduceAdd, Nat.reduceSub, Nat.reduceLeDiff, Nat.reduceMul, Int.reduceLE, Int.reduceLT, Int.reduceNe, Int.reduceToNat]
  refine goN_un 1 ?_
  simp only [f275l2, e2, finG_e, finG_en, ↓gos, gop, Nat.reduceBEq, Nat.reduceAdd, Nat.reduceSub, Nat.reduceLeDiff, Nat.reduceMul, Int.reduceLE, Int.reduceLT, Int.reduceNe, Int.reduceToNat]
  exact end_G1 rfl rfl ⟨rfl, rfl⟩ rfl h0 rfl
theorem sort225 (l : List (List UInt8)) (c : Option Nat) (hl : l.length < 20) (h0 : 0 < l.length) :
    ACallsK ED true 225 [.arr 1 (l.map st1)] [.osl 1 0 0 l.length c, FC] fun h d => h = [.arr 1 ((srtT Op.bytesLess l).map st1)] ∧ d = .tup [] := by
  refine acalls_goG c225 (by simp [f225]) (by simp) ?_
  simp only [f225, finG_e, finG_en, ↓gos, gop, Nat.reduceBEq, Nat.reduceAdd, Nat.reduceSub, Nat.reduceLeDiff, Nat.reduceMul, Int.reduceLE, Int.reduceLT, Int.reduceNe, Int.reduceToNat]
  refine call_in1 (i := 0) rfl (stable275 l c hl h0) rfl rfl ?_
  rintro h' d ⟨rfl, rfl⟩
  refine ⟨_, rfl, rfl, ?_⟩
  simp only [finG_e, finG_en, ↓gos, gop, Nat.reduceBEq, Nat.reduceAdd, Nat.reduceSub, Nat.reduceLeDiff, Nat.reduceMul, Int.reduceLE, Int.reduceLT, Int.reduceNe, Int.reduceToNat]
  exact end_G1 rfl rfl ⟨rfl, rfl⟩ rfl h0 rfl
theorem sorted184 (l : List (List UInt8)) (hl : l.length < 20) (h0 : l ≠ []) :
    ACalls ED 184 [] [.sl 1 (l.map sv), .fn 185 []] fun h d => h = [.arr 1 ((srtT Op.bytesLess l).map sv)] ∧ d = .osl 1 0 0 l.length none := by
  have hp : 0 < l.length := List.length_pos_iff.2 h0
  refine acalls_go c184 (by simp [f184]) ?_
  simp only [f184, ↓gos, gop, Nat.reduceBEq, Nat.reduceAdd, Nat.reduceSub, Nat.reduceLeDiff, Nat.reduceMul, Int.reduceLE, Int.reduceLT, Int.reduceNe, Int.reduceToNat]
  refine call_new (clone51 l h0 (by omega)) (by simp [DV.closed, DV.closed.closedAll]) ?_
  simp only [DV.ren, renO, ↓gos, gop, Nat.reduceBEq, Nat.reduceAdd, Nat.reduceSub, Nat.reduceLeDiff, Nat.reduceMul, Int.reduceLE, Int.reduceLT, Int.reduceNe, Int.reduceToNat]
  refine call_in1f (i := 2) rfl (sort225 l none hl hp) rfl ?_ ?_
  · rintro h' d ⟨rfl, rfl⟩
    exact free_st1 _
  · rintro h' d ⟨rfl, rfl⟩
    refine ⟨_, rfl, rfl, ?_⟩
    simp only [↓gos, gop, Nat.reduceBEq, Nat.reduceAdd, Nat.reduceSub, Nat.reduceLeDiff, Nat.reduceMul, Int.reduceLE, Int.reduceLT, Int.reduceNe, Int.reduceToNat]
    exact end_row rfl rfl rfl
end Go.Proofs.Ut
