/- What the library does for csv: where a sign stands, what is ahead of it, what a builder holds. -/
import Derived.Test.YtbhlmbacgbfaoaaDoorAiBld
import Derived.Test.YtbhlmbacgbfaoaaDoorCsFuns
import Derived.Test.YtbhlmbacgbfaoaaDoorCsShelf
import Derived.Test.YtbhlmbacgbfaoaaDoorUtH
import Derived.Shelf.Strings.Count
import Derived.Shelf.Strings.IndexAnyAll
set_option linter.all false
namespace Go.Proofs.Ut
open Go.Ai Classical Go.Shelf Go.RowKit
set_option linter.unusedSimpArgs false
set_option maxHeartbeats 1000000
set_option maxRecDepth 100000
/-- A call that leaves all as it lies. -/
theorem scal {f : Nat} {args : List DV} {r : DV} (hent : Ent Tryd.prog f) (h : ∀ (w : World) (ok : Nat → Prop) (β : Ai.Loc) (vs : List Value), vs.length = args.length → (∀ (i : Nat) v d, vs[i]? = some v → args[i]? = some d → Rep w ok β v d) →
    ∃ v, (∀ w ok β, Rep w ok β v r) ∧ Calls Tryd.prog f vs.toArray w fun e w' => e = .returned v ∧ Below w.heap.size w w') : DRet f args r := by
  refine ⟨hent, fun w ok β vs hg hn hh hl hv => ?_⟩
  obtain ⟨v, hr, hc⟩ := h w ok β vs hl hv
  refine hc.mono ?_
  rintro e w' ⟨rfl, hb⟩
  exact ⟨_, ok, β, [], _, rfl, ⟨rfl, rfl⟩, stable_below hg hn hb, Ev.below hb, hrep_nil hh hb.size, hr _ _ _, fun l cs q => by simp at q, Nat.le_refl _, fun _ _ _ => rfl⟩
theorem of_str {w : World} {ok : Nat → Prop} {β : Ai.Loc} {v : Value} {s : List UInt8} (h : Rep w ok β v (.str s)) : v = .string ⟨s.toArray⟩ := by
  generalize hd : DV.str s = d at h
  cases h <;> try cases hd
  rfl
theorem of_int {w : World} {ok : Nat → Prop} {β : Ai.Loc} {v : Value} {k : IntKind} {n : Int} (h : Rep w ok β v (.int k n)) : v = .int k n := by
  cases h; rfl
theorem str_of (w : World) (ok : Nat → Prop) (β : Ai.Loc) (s : List UInt8) : Rep w ok β (.string ⟨s.toArray⟩) (.str s) := by
  have := Rep.str (w := w) (ok := ok) (β := β) ⟨s.toArray⟩
  simpa using this
theorem two {vs : List Value} {a b : DV} (h : vs.length = [a, b].length) : ∃ u v, vs = [u, v] := by
  match vs, h with
  | [u, v], _ => exact ⟨u, v, rfl⟩
theorem index131 (s : List UInt8) (c : UInt8) : DRet 131 [.str s, .str [c]] (.int .i64 (Lib.indexByte s c)) := by
  refine scal ⟨Tryd.f131, Tryd.func131, by kernel_rfl, by kernel_rfl⟩ fun w ok β vs hl hv => ?_
  obtain ⟨u, v, rfl⟩ := two hl
  obtain rfl := of_str (hv 0 u _ rfl rfl)
  obtain rfl := of_str (hv 1 v _ rfl rfl)
  refine ⟨_, fun _ _ _ => .int _ _, (Any.stringslite_Index_one Tryd.lays219 ⟨s.toArray⟩ c w).mono ?_⟩
  rintro e w' ⟨rfl, rfl⟩
  exact ⟨rfl, Below.refl _ _⟩
theorem index121 (s : List UInt8) (c : UInt8) : DRet 121 [.str s, .str [c]] (.int .i64 (Lib.indexByte s c)) := by
  refine scal ⟨Tryd.f121, Tryd.func121, by kernel_rfl, by kernel_rfl⟩ fun w ok β vs hl hv => ?_
  obtain ⟨u, v, rfl⟩ := two hl
  obtain rfl := of_str (hv 0 u _ rfl rfl)
  obtain rfl := of_str (hv 1 v _ rfl rfl)
  refine ⟨_, fun _ _ _ => .int _ _, (Any.strings_Index_one Tryd.lays143 ⟨s.toArray⟩ c w).mono ?_⟩
  rintro e w' ⟨rfl, rfl⟩
  exact ⟨rfl, Below.refl _ _⟩
theorem count119 (s : List UInt8) (c : UInt8) : DRet 119 [.str s, .str [c]] (.int .i64 (s.count c : Nat)) := by
  refine scal ⟨Tryd.f119, Tryd.func119, by kernel_rfl, by kernel_rfl⟩ fun w ok β vs hl hv => ?_
  obtain ⟨u, v, rfl⟩ := two hl
  obtain rfl := of_str (hv 0 u _ rfl rfl)
  obtain rfl := of_str (hv 1 v _ rfl rfl)
  refine ⟨_, fun _ _ _ => .int _ _, (Any.strings_Count_one Tryd.lays138 ⟨s.toArray⟩ c w).mono ?_⟩
  rintro e w' ⟨rfl, rfl⟩
  exact ⟨rfl, Below.refl _ _⟩
theorem byte133 (s : List UInt8) (c : Int) : DRet 133 [.str s, .int .u8 c] (.int .i64 (Lib.indexByte s c.toNat.toUInt8)) := by
  refine scal ⟨Tryd.f133, Tryd.func133, by kernel_rfl, by kernel_rfl⟩ fun w ok β vs hl hv => ?_
  obtain ⟨u, v, rfl⟩ := two hl
  obtain rfl := of_str (hv 0 u _ rfl rfl)
  obtain rfl := of_int (hv 1 v _ rfl rfl)
  refine ⟨_, fun _ _ _ => .int _ _, (Any.stringslite_IndexByte Tryd.lays217 ⟨s.toArray⟩ c w).mono ?_⟩
  rintro e w' ⟨rfl, rfl⟩
  exact ⟨rfl, Below.refl _ _⟩
theorem byte124 (s : List UInt8) (c : Int) : DRet 124 [.str s, .int .u8 c] (.int .i64 (Lib.indexByte s c.toNat.toUInt8)) := by
  refine acalls_go c124 (by simp [f124]) ?_
  simp only [f124, ↓gos, gop, Nat.reduceBEq, Nat.reduceAdd, Nat.reduceSub, Nat.reduceLeDiff, Nat.reduceMul, Int.reduceLE, Int.reduceLT, Int.reduceNe, Int.reduceToNat]
  refine call_ret (byte133 s c) rfl rfl ?_
  simp only [↓gos, gop, Nat.reduceBEq, Nat.reduceAdd, Nat.reduceSub, Nat.reduceLeDiff, Nat.reduceMul, Int.reduceLE, Int.reduceLT, Int.reduceNe, Int.reduceToNat]
  exact endi rfl
theorem ws58 (gr : Bool) (bs s : List UInt8) (hlen : bs.length + s.length ≤ 140737488355328) : ACalls ED 58 (Bld gr 73 5 bs) [.ptr 1 0, .str s] (fun h' d => h' = Bld gr 73 5 (bs ++ s) ∧ d = .undef) :=
  ws_prim (E := ED) Tryd.lays166 Tryd.extra166 rfl rfl rfl ⟨Tryd.f58, Tryd.func58, by kernel_rfl, by kernel_rfl⟩ gr bs s hlen
theorem str60 (gr : Bool) (bs : List UInt8) : ACalls ED 60 (Bld gr 73 5 bs) [.ptr 1 0] (fun h' d => h' = [.dead, .box [.undef, .undef]] ∧ d = .str bs) :=
  str_prim (E := ED) Tryd.lays169 Tryd.extra169 rfl rfl rfl ⟨Tryd.f60, Tryd.func60, by kernel_rfl, by kernel_rfl⟩ gr bs
/-- What is ahead of a sign, and what behind it. -/
def cut (c : UInt8) : List UInt8 → List UInt8 × List UInt8 × Bool
  | [] => ([], [], false)
  | x :: s => if x = c then ([], s, true) else (x :: (cut c s).1, (cut c s).2.1, (cut c s).2.2)
theorem index_cut (c : UInt8) : ∀ s : List UInt8, (Lib.indexByte s c < 0 ∧ cut c s = (s, [], false)) ∨ (∃ n : Nat, Lib.indexByte s c = n ∧ n < s.length ∧ cut c s = (s.take n, s.drop (n + 1), true))
  | [] => .inl ⟨by simp [Lib.indexByte], rfl⟩
  | x :: s => by
    unfold Lib.indexByte cut
    by_cases hx : x = c
    · rw [if_pos hx, if_pos (by simp [hx])]
      exact .inr ⟨0, rfl, by simp, rfl⟩
    · rw [if_neg hx, if_neg (by simp [hx])]
      rcases index_cut c s with ⟨h1, h2⟩ | ⟨n, h1, h2, h3⟩
      · have := Lib.indexByte_ge s c
        have e : Lib.indexByte s c = -1 := by omega
        rw [h2, if_pos (by rw [e]; rfl)]
        exact .inl ⟨by omega, rfl⟩
      · rw [h3, h1, if_neg (by first | (simp; done) | (simp; omega))]
        exact .inr ⟨n + 1, by omega, by simpa using h2, rfl⟩
theorem cut123 (s : List UInt8) (c : UInt8) (hs : s.length < 1000000000000) : DRet 123 [.str s, .str [c]] (.tup [.str (cut c s).1, .str (cut c s).2.1, .bool (cut c s).2.2]) := by
  refine acalls_go c123 (by simp [f123]) ?_
  simp only [f123, ↓gos, gop, Nat.reduceBEq, Nat.reduceAdd, Nat.reduceSub, Nat.reduceLeDiff, Nat.reduceMul, Int.reduceLE, Int.reduceLT, Int.reduceNe, Int.reduceToNat]
  refine call_ret (index131 s c) rfl rfl ?_
  simp only [↓gos, gop, Nat.reduceBEq, Nat.reduceAdd, Nat.reduceSub, Nat.reduceLeDiff, Nat.reduceMul, Int.reduceLE, Int.reduceLT, Int.reduceNe, Int.reduceToNat]
  rcases index_cut c s with ⟨h1, h2⟩ | ⟨n, h1, h2, h3⟩
  · refine ⟨fun h => absurd h (by omega), fun _ => ?_⟩
    rw [h2]
    exact finE_closed rfl ⟨rfl, rfl⟩
  · rw [h1]
    refine ⟨fun _ => ⟨by omega, by omega, fun v hv => ?_⟩, fun h => absurd h (by omega)⟩
    rw [wrap_i64 (by omega) (by omega)] at hv
    subst hv
    refine ⟨by omega, by omega, ?_⟩
    rw [h3]
    refine finE_closed rfl ⟨rfl, ?_⟩
    have e1 : ((n : Int)).toNat = n := by omega
    have e2 : ((n : Int) + 1).toNat = n + 1 := by omega
    rw [e1, e2, List.take_of_length_le (l := s.drop (n + 1)) (by simp)]
    rfl
theorem cut112 (s : List UInt8) (c : UInt8) (hs : s.length < 1000000000000) : DRet 112 [.str s, .str [c]] (.tup [.str (cut c s).1, .str (cut c s).2.1, .bool (cut c s).2.2]) := by
  refine acalls_go c112 (by simp [f112]) ?_
  simp only [f112, ↓gos, gop, Nat.reduceBEq, Nat.reduceAdd, Nat.reduceSub, Nat.reduceLeDiff, Nat.reduceMul, Int.reduceLE, Int.reduceLT, Int.reduceNe, Int.reduceToNat]
  refine call_ret (cut123 s c hs) rfl rfl ?_
  simp only [↓gos, gop, Nat.reduceBEq, Nat.reduceAdd, Nat.reduceSub, Nat.reduceLeDiff, Nat.reduceMul, Int.reduceLE, Int.reduceLT, Int.reduceNe, Int.reduceToNat]
  exact finE_closed rfl ⟨rfl, rfl⟩
theorem pre118 (s p : List UInt8) (hs : s.length < 1000000000000) (hp : p.length < 1000000000000) : DRet 118 [.str s, .str p] (.bool (p.isPrefixOf s)) := by
  refine acalls_go c118 (by simp [f118]) ?_
  simp only [f118, ↓gos, gop, Nat.reduceBEq, Nat.reduceAdd, Nat.reduceSub, Nat.reduceLeDiff, Nat.reduceMul, Int.reduceLE, Int.reduceLT, Int.reduceNe, Int.reduceToNat]
  have hiff : p.isPrefixOf s = true ↔ s.take p.length = p := by
    rw [List.isPrefixOf_iff_prefix, List.prefix_iff_eq_take]
    exact eq_comm
  refine ⟨fun h => ⟨h, fun q => endb ?_, fun q => endb ?_⟩, fun h => endb ?_⟩
  · rw [hiff.2 q]
  · cases hp : p.isPrefixOf s
    · rfl
    · exact absurd (hiff.1 hp) q
  · cases hp : p.isPrefixOf s
    · rfl
    · have := congrArg List.length (hiff.1 hp)
      rw [List.length_take] at this
      omega
theorem pre113 (s p : List UInt8) (hs : s.length < 1000000000000) (hp : p.length < 1000000000000) : DRet 113 [.str s, .str p] (.bool (p.isPrefixOf s)) := by
  refine acalls_go c113 (by simp [f113]) ?_
  simp only [f113, ↓gos, gop, Nat.reduceBEq, Nat.reduceAdd, Nat.reduceSub, Nat.reduceLeDiff, Nat.reduceMul, Int.reduceLE, Int.reduceLT, Int.reduceNe, Int.reduceToNat]
  refine call_ret (pre118 s p hs hp) rfl rfl ?_
  simp only [↓gos, gop, Nat.reduceBEq, Nat.reduceAdd, Nat.reduceSub, Nat.reduceLeDiff, Nat.reduceMul, Int.reduceLE, Int.reduceLT, Int.reduceNe, Int.reduceToNat]
  exact endb rfl
/-- What is behind what a text begins with. -/
def behind (p s : List UInt8) : List UInt8 × Bool := if p.isPrefixOf s then (s.drop p.length, true) else (s, false)
theorem cutp107 (s p : List UInt8) (hs : s.length < 1000000000000) (hp : p.length < 1000000000000) : DRet 107 [.str s, .str p] (.tup [.str (behind p s).1, .bool (behind p s).2]) := by
  refine acalls_go c107 (by simp [f107]) ?_
  simp only [f107, ↓gos, gop, Nat.reduceBEq, Nat.reduceAdd, Nat.reduceSub, Nat.reduceLeDiff, Nat.reduceMul, Int.reduceLE, Int.reduceLT, Int.reduceNe, Int.reduceToNat]
  refine call_ret (pre118 s p hs hp) rfl rfl ?_
  unfold behind
  cases h : p.isPrefixOf s
  · simp only [↓gos, gop, Nat.reduceBEq, Nat.reduceAdd, Nat.reduceSub, Nat.reduceLeDiff, Nat.reduceMul, Int.reduceLE, Int.reduceLT, Int.reduceNe, Int.reduceToNat]
    exact finE_closed rfl ⟨rfl, rfl⟩
  · have hle : p.length ≤ s.length := (List.isPrefixOf_iff_prefix.1 h).length_le
    simp only [↓gos, gop, Nat.reduceBEq, Nat.reduceAdd, Nat.reduceSub, Nat.reduceLeDiff, Nat.reduceMul, Int.reduceLE, Int.reduceLT, Int.reduceNe, Int.reduceToNat]
    refine ⟨by omega, finE_closed rfl ⟨rfl, ?_⟩⟩
    rw [List.take_of_length_le (l := s.drop p.length) (by simp)]
    rfl
theorem cutp84 (s p : List UInt8) (hs : s.length < 1000000000000) (hp : p.length < 1000000000000) : DRet 84 [.str s, .str p] (.tup [.str (behind p s).1, .bool (behind p s).2]) := by
  refine acalls_go c84 (by simp [f84]) ?_
  simp only [f84, ↓gos, gop, Nat.reduceBEq, Nat.reduceAdd, Nat.reduceSub, Nat.reduceLeDiff, Nat.reduceMul, Int.reduceLE, Int.reduceLT, Int.reduceNe, Int.reduceToNat]
  refine call_ret (cutp107 s p hs hp) rfl rfl ?_
  simp only [↓gos, gop, Nat.reduceBEq, Nat.reduceAdd, Nat.reduceSub, Nat.reduceLeDiff, Nat.reduceMul, Int.reduceLE, Int.reduceLT, Int.reduceNe, Int.reduceToNat]
  exact finE_closed rfl ⟨rfl, rfl⟩
/-- The field between quotes ahead of a text, what is behind it, and whether it has an end. -/
def qd : List UInt8 → List UInt8 × List UInt8 × Bool
  | [] => ([], [], false)
  | [c] => if c = 34 then ([], [], true) else ([c], [], false)
  | c :: d :: s => if c = 34 then (if d = 34 then (34 :: (qd s).1, (qd s).2.1, (qd s).2.2) else ([], d :: s, true)) else (c :: (qd (d :: s)).1, (qd (d :: s)).2.1, (qd (d :: s)).2.2)
theorem cut_len2 (c : UInt8) (s : List UInt8) (h : (cut c s).2.2 = true) : (cut c s).1.length + (cut c s).2.1.length + 1 = s.length := by
  rcases index_cut c s with ⟨_, e⟩ | ⟨n, _, h2, e⟩ <;> rw [e] at h ⊢
  · cases h
  · simp; omega
theorem qd_cut : ∀ t : List UInt8, qd t = if (cut 34 t).2.2 = true then (if [34].isPrefixOf (cut 34 t).2.1 = true then ((cut 34 t).1 ++ 34 :: (qd ((cut 34 t).2.1.drop 1)).1, (qd ((cut 34 t).2.1.drop 1)).2.1, (qd ((cut 34 t).2.1.drop 1)).2.2)
      else ((cut 34 t).1, (cut 34 t).2.1, true)) else ((cut 34 t).1, [], false)
  | [] => rfl
  | [c] => by
    by_cases hc : c = 34
    · subst hc; rfl
    · simp [qd, cut, hc]
  | c :: d :: s => by
    by_cases hc : c = 34
    · subst hc
      by_cases hd : d = 34
      · subst hd; simp [qd, cut, List.isPrefixOf]
      · have : (34 == d) = false := by simpa using fun e => hd e.symm
        simp [qd, cut, List.isPrefixOf, hd, this]
    · have ih := qd_cut (d :: s)
      rw [qd, if_neg hc, cut, if_neg hc, ih]
      simp only
      split
      · split <;> rfl
      · rfl
theorem cut_len (c : UInt8) (s : List UInt8) : (cut c s).1.length ≤ s.length ∧ (cut c s).2.1.length ≤ s.length := by
  rcases index_cut c s with ⟨_, h⟩ | ⟨n, _, _, h⟩ <;> rw [h] <;> simp <;> omega
theorem quoted105 (s : List UInt8) (hs : s.length < 100000000000) : DRet 105 [.str s] (.tup [.str (qd s).1, .str (qd s).2.1, .bool (qd s).2.2]) := by
  refine acalls_go c105 (by simp [f105]) ?_
  simp only [f105, ↓gos, gop, Nat.reduceBEq, Nat.reduceAdd, Nat.reduceSub, Nat.reduceLeDiff, Nat.reduceMul, Int.reduceLE, Int.reduceLT, Int.reduceNe, Int.reduceToNat]
  refine goN_lp (γ := List UInt8 × List UInt8) (fun g => [(5, .ptr 1 0), (0, .str g.2)]) (fun g => [.buf 5 g.1, .box [.self 1 73 2, .hdr 0 5 g.1.length]])
    (fun g => g.1.length + g.2.length ≤ s.length ∧ qd s = (g.1 ++ (qd g.2).1, (qd g.2).2.1, (qd g.2).2.2)) (fun g => g.2.length) ([], s)
    (wks rfl (by simp) ⟨rfl, rfl, trivial⟩) (by simp) fun g hg => ?_
  obtain ⟨acc, t⟩ := g
  obtain ⟨h1, h2⟩ := hg
  simp only at h1 h2
  simp only [f105l0, ↓gos, gop, Nat.reduceBEq, Nat.reduceAdd, Nat.reduceSub, Nat.reduceLeDiff, Nat.reduceMul, Int.reduceLE, Int.reduceLT, Int.reduceNe, Int.reduceToNat]
  have hc := cut_len 34 t
  refine call_ret (cut112 t 34 (by omega)) rfl rfl ?_
  simp only [↓gos, gop, Nat.reduceBEq, Nat.reduceAdd, Nat.reduceSub, Nat.reduceLeDiff, Nat.reduceMul, Int.reduceLE, Int.reduceLT, Int.reduceNe, Int.reduceToNat]
  refine call_bld (gr := false) (gr' := false) (m := 0) (l := 1) rfl rfl rfl (ws58 false acc _ (by omega)) ?_
  simp only [Buf, ↓gos, gop, Nat.reduceBEq, Nat.reduceAdd, Nat.reduceSub, Nat.reduceLeDiff, Nat.reduceMul, Int.reduceLE, Int.reduceLT, Int.reduceNe, Int.reduceToNat]
  have hq := qd_cut t
  refine ⟨fun hb => ?_, fun hb => ?_⟩
  · refine call_bstr (gr := false) (m := 0) (l := 1) rfl rfl (str60 false _) ?_
    simp only [↓gos, gop, Nat.reduceBEq, Nat.reduceAdd, Nat.reduceSub, Nat.reduceLeDiff, Nat.reduceMul, Int.reduceLE, Int.reduceLT, Int.reduceNe, Int.reduceToNat]
    rw [hb] at hq
    have e : (cut 34 t).2.1 = [] := by
      rcases index_cut 34 t with ⟨_, h⟩ | ⟨n, _, _, h⟩ <;> rw [h] at hb ⊢
      cases hb
    refine finE_closed rfl ⟨rfl, ?_⟩
    rw [h2, hq, hb, e]
    rfl
  · refine call_ret (pre113 (cut 34 t).2.1 [34] (by omega) (by simp)) rfl rfl ?_
    rw [hb] at hq
    cases hp : [34].isPrefixOf (cut 34 t).2.1
    · simp only [↓gos, gop, Nat.reduceBEq, Nat.reduceAdd, Nat.reduceSub, Nat.reduceLeDiff, Nat.reduceMul, Int.reduceLE, Int.reduceLT, Int.reduceNe, Int.reduceToNat]
      refine call_bstr (gr := false) (m := 0) (l := 1) rfl rfl (str60 false _) ?_
      simp only [↓gos, gop, Nat.reduceBEq, Nat.reduceAdd, Nat.reduceSub, Nat.reduceLeDiff, Nat.reduceMul, Int.reduceLE, Int.reduceLT, Int.reduceNe, Int.reduceToNat]
      rw [hp] at hq
      refine finE_closed rfl ⟨rfl, ?_⟩
      rw [h2, hq, hb]
      rfl
    · simp only [↓gos, gop, Nat.reduceBEq, Nat.reduceAdd, Nat.reduceSub, Nat.reduceLeDiff, Nat.reduceMul, Int.reduceLE, Int.reduceLT, Int.reduceNe, Int.reduceToNat]
      have hl := cut_len2 34 t hb
      have hr : (cut 34 t).2.1.length ≠ 0 := fun e => by
        rw [List.length_eq_zero_iff] at e
        rw [e] at hp; cases hp
      rw [hp] at hq
      refine call_bld (gr := false) (gr' := false) (m := 0) (l := 1) rfl rfl rfl (ws58 false _ _ (by simp; omega)) ?_
      simp only [↓gos, gop, Nat.reduceBEq, Nat.reduceAdd, Nat.reduceSub, Nat.reduceLeDiff, Nat.reduceMul, Int.reduceLE, Int.reduceLT, Int.reduceNe, Int.reduceToNat]
      refine ⟨by omega, ?_⟩
      have e : List.take ((cut 34 t).2.1.length - 1) (List.drop 1 (cut 34 t).2.1) = List.drop 1 (cut 34 t).2.1 := List.take_of_length_le (by simp)
      refine rnd_s (acc ++ (cut 34 t).1 ++ [34], List.drop 1 (cut 34 t).2.1) rfl (by simp) ⟨rfl, congrArg DV.str e, trivial⟩ ⟨by simp; omega, ?_⟩ (by simp; omega)
      rw [h2, hq]
      simp
end Go.Proofs.Ut
