/- A line of a card, taken apart. -/
import Derived.Test.YtgamnnfndidclaaGreatDoorYVcA
import Derived.Test.YtgamnnfndidclaaGreatDoorYN
open Nat renaming reduceBEq → qA, reduceAdd → qB, reduceSub → qC, reduceLeDiff → qD, reduceMul → qE
open Int renaming reduceLE → qF, reduceLT → qG, reduceNe → qH, reduceToNat → qI
set_option linter.all false
namespace Go.Proofs.Ut
open Go.Ai Go.Shelf Go.RowKit
set_option linter.unusedSimpArgs false
set_option linter.unusedVariables false
set_option maxHeartbeats 1000000
set_option maxRecDepth 100000
theorem word80 (s : List UInt8) (hs : s.length < 1000000000) : ACalls ED 216 [.box [.str s]] [.ptr 0 0] (fun h' d => h' = [.box [.str (restL s)]] ∧ d = .str (wordL s)) := by
  refine acalls_go c216 (by simp [f216]) ?_
  simp only [f216, ↓gos, gop, qA, qB, qC, qD, qE, qF, qG, qH, qI]
  refine call_ret (trim96 s) rfl rfl ?_
  simp only [↓gos, gop, qA, qB, qC, qD, qE, qF, qG, qH, qI]
  have hl := rest_len s
  have hw := congrArg List.length (word_rest s)
  rw [List.length_append] at hw
  intro v hv
  rw [wrap_i64 (by omega) (by omega)] at hv
  have hv : v = ((wordL s).length : Int) := by omega
  subst hv
  refine ⟨by omega, by omega, end_bx rfl rfl ⟨rfl, ?_⟩⟩
  simp only [rvd, Int.toNat_natCast]
  have := List.take_left (l₁ := wordL s) (l₂ := restL s)
  rw [word_rest] at this
  rw [this]
theorem is81 (s p : List UInt8) (hs : s.length < 1000000000) (hp : p.length < 1000000000) : ACalls ED 217 [.box [.str s]] [.ptr 0 0, .str p] (fun h' d => h' = [.box [.str (behind p s).1]] ∧ d = .bool (behind p s).2) := by
  refine acalls_go c217 (by simp [f217]) ?_
  simp only [f217, ↓gos, gop, qA, qB, qC, qD, qE, qF, qG, qH, qI]
  refine call_ret (cutp84 s p (by omega) (by omega)) rfl rfl ?_
  simp only [↓gos, gop, qA, qB, qC, qD, qE, qF, qG, qH, qI]
  exact end_bx rfl rfl ⟨rfl, rfl⟩
theorem behind1 (c : UInt8) (s : List UInt8) : behind [c] s = if s.head? = some c then (s.tail, true) else (s, false) := by
  unfold behind
  cases s with
  | nil => simp
  | cons x t =>
    simp only [List.isPrefixOf, Bool.and_true, List.head?_cons, Option.some.injEq]
    by_cases h : c = x
    · subst h; simp
    · rw [if_neg (by simpa using h), if_neg (Ne.symm h)]
theorem any4 (s : List UInt8) : (Lib.indexAny s A4 = -1 ∧ s.takeWhile (fun c => !A4.contains c) = s ∧ s.dropWhile (fun c => !A4.contains c) = []) ∨
    ∃ n : Nat, Lib.indexAny s A4 = n ∧ n ≤ s.length ∧ s.takeWhile (fun c => !A4.contains c) = s.take n ∧ s.dropWhile (fun c => !A4.contains c) = s.drop n := by
  induction s with
  | nil => exact .inl ⟨rfl, rfl, rfl⟩
  | cons x s ih =>
    unfold Lib.indexAny
    rw [List.takeWhile_cons, List.dropWhile_cons]
    cases hx : A4.contains x with
    | true => exact .inr ⟨0, by simp, by simp, by simp, by simp⟩
    | false =>
      simp only [Bool.false_eq_true, if_false, Bool.not_false, if_true]
      rcases ih with ⟨h1, h2, h3⟩ | ⟨n, h1, h2, h3, h4⟩
      · rw [h1, h2, h3]
        exact .inl ⟨by simp, rfl, rfl⟩
      · rw [h1, h3, h4]
        have : ((n : Int) == -1) = false := by simp
        refine .inr ⟨n + 1, by rw [this]; simp, by simpa using h2, by simp, by simp⟩
theorem value102 (s : List UInt8) (hs : s.length < 1000000000) : ACalls ED 266 [.box [.str s]] [.ptr 0 0] (fun h' d => h' = [.box [.str (valueL s).2.1]] ∧ d = .tup [.str (valueL s).1, .bool (valueL s).2.2]) := by
  refine acalls_go c266 (by simp [f266]) ?_
  simp only [f266, ↓gos, gop, qA, qB, qC, qD, qE, qF, qG, qH, qI]
  refine call_bx (xs := [.str [34]]) rfl rfl rfl rfl rfl (is81 s [34] hs (by simp)) ?_
  rw [behind1]
  simp only [↓gos, gop, qA, qB, qC, qD, qE, qF, qG, qH, qI]
  have hv : valueL s = if s.head? = some 34 then cut 34 s.tail else (s.takeWhile (fun c => !A4.contains c), s.dropWhile (fun c => !A4.contains c), true) := by
    unfold valueL
    cases s with
    | nil => rfl
    | cons x t =>
      simp only [List.head?_cons, Option.some.injEq, List.tail_cons]
  rw [hv]
  by_cases h : s.head? = some 34
  · simp only [if_pos h, ↓gos, gop, qA, qB, qC, qD, qE, qF, qG, qH, qI]
    refine call_ret (cut112 s.tail 34 (by simp; omega)) rfl rfl ?_
    simp only [↓gos, gop, qA, qB, qC, qD, qE, qF, qG, qH, qI]
    exact end_bx rfl rfl ⟨rfl, rfl⟩
  · simp only [if_neg h, ↓gos, gop, qA, qB, qC, qD, qE, qF, qG, qH, qI]
    refine call_ret (any106 A4 ⟨by decide, by decide, by decide⟩ s hs) rfl rfl ?_
    rcases any4 s with ⟨h1, h2, h3⟩ | ⟨n, h1, h2, h3, h4⟩
    · rw [h1]
      simp only [↓gos, gop, qA, qB, qC, qD, qE, qF, qG, qH, qI]
      exact ⟨by omega, by omega, end_bx rfl rfl ⟨by rw [h3]; simp, by rw [h2]; rfl⟩⟩
    · rw [h1]
      simp only [↓gos, gop, qA, qB, qC, qD, qE, qF, qG, qH, qI]
      exact ⟨by omega, by omega, end_bx rfl rfl ⟨by rw [h4, List.take_of_length_le (l := s.drop n) (by simp)], by rw [h3]; rfl⟩⟩
theorem word_asc (s : List UInt8) : ∀ b ∈ wordL s, b.toNat < 128 := fun b hb => (sgn_a b (word_sgn s b hb)).1
theorem word_len (s : List UInt8) : (wordL s).length ≤ s.length := (List.takeWhile_sublist _).length_le
theorem param83 (s : List UInt8) (hs : s.length < 1000000000) : ACalls ED 219 [.box [.str s]] [.ptr 0 0] (fun h' d => h' = [.box [.str (paramL s).2.1]] ∧ d = .tup [.agg [.str (paramL s).1.1, .str (paramL s).1.2], .bool (paramL s).2.2]) := by
  have hwl := word_len s
  have hrl := rest_len s
  refine acalls_go c219 (by simp [f219]) ?_
  simp only [f219, ↓gos, gop, qA, qB, qC, qD, qE, qF, qG, qH, qI]
  refine call_bx (xs := []) rfl rfl rfl rfl rfl (word80 s hs) ?_
  simp only [↓gos, gop, qA, qB, qC, qD, qE, qF, qG, qH, qI]
  refine call_ret (upper82 (wordL s) (by omega) (word_asc s)) rfl rfl ?_
  simp only [↓gos, gop, qA, qB, qC, qD, qE, qF, qG, qH, qI]
  unfold paramL
  refine ⟨fun h => ?_, fun h => ?_⟩
  · rw [if_pos h]
    exact end_bx rfl rfl ⟨rfl, rfl⟩
  · rw [if_neg h]
    refine call_bx (xs := [.str [61]]) rfl rfl rfl rfl rfl (is81 (restL s) [61] (by omega) (by simp)) ?_
    rw [behind1]
    cases hr : restL s with
    | nil =>
      simp only [List.head?_nil, reduceCtorEq, if_false, ↓gos, gop, qA, qB, qC, qD, qE, qF, qG, qH, qI]
      exact end_bx rfl rfl ⟨rfl, rfl⟩
    | cons x t =>
      rw [hr] at hrl
      by_cases hx : x = 61
      · subst hx
        simp only [List.head?_cons, if_true, List.tail_cons, ↓gos, gop, qA, qB, qC, qD, qE, qF, qG, qH, qI]
        refine call_bx (xs := []) rfl rfl rfl rfl rfl (value102 t (by simp at hrl; omega)) ?_
        simp only [↓gos, gop, qA, qB, qC, qD, qE, qF, qG, qH, qI]
        exact end_bx rfl rfl ⟨rfl, rfl⟩
      · simp only [List.head?_cons, Option.some.injEq, hx, if_false, ↓gos, gop, qA, qB, qC, qD, qE, qF, qG, qH, qI]
        exact end_bx rfl rfl ⟨rfl, rfl⟩
def av (a : List UInt8 × List UInt8) : List DV := [.str a.1, .str a.2]
def pv (p : PR) : List DV := [.str p.g, .str p.n, .sl 2 (p.ps.map av), .str p.v]
def f168t : ACode := tl (tl (tl (tl f168.body)))
theorem f168e : f168.body = .seq (hd f168.body) (.seq (hd (tl f168.body)) (.seq (hd (tl (tl f168.body))) (.seq (hd (tl (tl (tl f168.body)))) f168t))) := rfl
def tailP (g n r : List UInt8) : PR × Bool :=
  if up n = [] then (⟨g, [], [], (lastL r).1⟩, false) else
  if (parsA [] r).2.2 = false then (⟨g, up n, (parsA [] r).1, []⟩, false) else
  (⟨g, up n, (parsA [] r).1, (lastL (parsA [] r).2.1).1⟩, (lastL (parsA [] r).2.1).2)
theorem prop_tailP (s : List UInt8) : propL s = tailP (headL s).1 (headL s).2.1 (headL s).2.2 := rfl
abbrev postP (x : PR × Bool) : List AObj → DV → Prop := fun h' d => h' = [.arr 2 (x.1.ps.map av)] ∧ d = .tup [.agg [.str x.1.g, .str x.1.n, .osl 2 0 0 x.1.ps.length none, .str x.1.v], .bool x.2]
theorem end_P {h : List AObj} {g n v : List UInt8} {ps : List (List UInt8 × List UInt8)} {b : Bool} {x : PR × Bool} (hi : h[5]? = some (.arr 2 (ps.map av))) (hx : x = (⟨g, n, ps, v⟩, b)) :
    finE 0 (postP x) (some [.agg [.str g, .str n, .osl 2 5 0 ps.length none, .str v], .bool b]) h := by
  subst hx
  have hlt : 5 < h.length := (List.getElem?_eq_some_iff.1 hi).1
  have hg : h.getD 5 .dead = .arr 2 (ps.map av) := by rw [List.getD_eq_getElem?_getD, hi]; rfl
  refine end_h [5] (by simp) (by simp) (fun i h => by omega) (fun l hl => by simp at hl; omega) (by simp [rvd, DV.inL, DV.inL.inAll]) (fun l hl => ?_) rfl rfl ⟨?_, ?_⟩
  · simp only [List.mem_singleton] at hl
    subst hl; rw [hg]; rfl
  · simp only [List.map_cons, List.map_nil, hg, renO]
  · simp [rvd, DV.ren, DV.ren.renAll]
theorem last_eq (r : List UInt8) : behind [58] r = lastL r := by rw [behind1]; rfl
theorem prop_tail (L : List (Nat × DV)) (g n r : List UInt8) (hr : r.length < 1000000000) (hn : n.length < 1000000000) (ha : ∀ b ∈ n, b.toNat < 128) (h2 : slots L 2 = .ptr 1 0) (h4 : slots L 4 = .ptr 2 0) (h5 : slots L 5 = .ptr 4 0) (h6 : slots L 6 = .str n) :
    goN ED 0 (fin 0 f168.res (postP (tailP g n r))) [] f168t L [.arr 2 [], .box [.str [], .str [], .osl 2 0 0 0 none, .str []], .box [.str r], .arr 2 [], .box [.str g, .str [], .osl 2 5 0 0 none, .str []], .arr 2 []] := by
  simp only [f168t, f168, tl_seq, h2, h4, h5, h6, ↓gos, gop, qA, qB, qC, qD, qE, qF, qG, qH, qI]
  refine call_ret (upper82 n hn ha) rfl rfl ?_
  simp only [h2, h4, h5, h6, ↓gos, gop, qA, qB, qC, qD, qE, qF, qG, qH, qI]
  refine goN_lp (γ := List (List UInt8 × List UInt8) × List UInt8) (fun q => [(4, .ptr 2 0), (5, .ptr 4 0), (2, .ptr 1 0)]) (fun q => [.arr 2 [], .box [.str [], .str [], .osl 2 0 0 0 none, .str []], .box [.str q.2], .arr 2 [], .box [.str g, .str (up n), .osl 2 5 0 q.1.length none, .str []], .arr 2 (q.1.map av)])
    (fun q => parsA q.1 q.2 = parsA [] r ∧ q.1.length + q.2.length ≤ r.length ∧ (up n = [] → q = ([], r))) (fun q => q.2.length) ([], r)
    (wks rfl (by simp) ⟨h4, h5, h2, trivial⟩) ⟨rfl, by simp, fun _ => rfl⟩ fun q hq => ?_
  obtain ⟨acc, t⟩ := q
  obtain ⟨q1, q2, q3⟩ := hq
  simp only at q1 q2 q3
  simp only [f168l0, ↓gos, gop, qA, qB, qC, qD, qE, qF, qG, qH, qI]
  refine ⟨fun hne => ?_, fun he => ?_⟩
  · refine call_bx (xs := [.str [59]]) rfl rfl rfl rfl rfl (is81 t [59] (by omega) (by simp)) ?_
    rw [behind1]
    by_cases h59 : t.head? = some 59
    · obtain ⟨u, rfl⟩ : ∃ u, t = 59 :: u := by
        cases t with
        | nil => simp at h59
        | cons x u => simp at h59; exact ⟨u, by rw [h59]⟩
      simp only [List.length_cons] at q2
      simp only [List.head?_cons, if_true, List.tail_cons, ↓gos, gop, qA, qB, qC, qD, qE, qF, qG, qH, qI]
      have hlp := param_len u
      refine call_bx (xs := []) rfl rfl rfl rfl rfl (param83 u (by omega)) ?_
      rw [parsA_step] at q1
      generalize paramL u = p at q1 hlp ⊢
      obtain ⟨⟨an, avv⟩, rest, ok⟩ := p
      simp only at q1 hlp ⊢
      cases ok
      · simp only [↓gos, gop, qA, qB, qC, qD, qE, qF, qG, qH, qI]
        rw [if_neg (by simp)] at q1
        refine end_P rfl ?_
        unfold tailP
        rw [if_neg hne, ← q1]
        rfl
      · simp only [↓gos, gop, qA, qB, qC, qD, qE, qF, qG, qH, qI]
        rw [if_pos rfl] at q1
        refine ⟨by omega, by omega, ?_⟩
        refine rnd_d 6 (acc ++ [(an, avv)], rest) ?_ (by simp) ⟨rfl, rfl, rfl, rfl, rfl, rfl, trivial⟩ ?_ ⟨q1, by simp; omega, fun h => absurd h hne⟩ (by simp; omega)
        · simp [av]
        · simp [inO, DV.inL]
    · simp only [if_neg h59, ↓gos, gop, qA, qB, qC, qD, qE, qF, qG, qH, qI]
      refine call_bx (xs := [.str [58]]) rfl rfl rfl rfl rfl (is81 t [58] (by omega) (by simp)) ?_
      rw [last_eq]
      simp only [↓gos, gop, qA, qB, qC, qD, qE, qF, qG, qH, qI]
      rw [parsA_end _ _ h59] at q1
      have he : tailP g n r = (⟨g, up n, acc, (lastL t).1⟩, (lastL t).2) := by
        unfold tailP
        rw [if_neg hne, ← q1]
        rfl
      rw [he]
      generalize lastL t = lt
      obtain ⟨v, b⟩ := lt
      simp only [if_pos hne, ↓gos, gop, qA, qB, qC, qD, qE, qF, qG, qH, qI]
      exact ⟨fun _ => end_P rfl rfl, fun h => absurd h hne⟩
  · obtain ⟨rfl, rfl⟩ := Prod.mk.inj (q3 he)
    refine call_bx (xs := [.str [58]]) rfl rfl rfl rfl rfl (is81 t [58] (by omega) (by simp)) ?_
    rw [last_eq]
    simp only [↓gos, gop, qA, qB, qC, qD, qE, qF, qG, qH, qI]
    have hp : tailP g n t = (⟨g, [], [], (lastL t).1⟩, false) := by
      unfold tailP
      rw [if_pos he]
    rw [hp]
    generalize lastL t = lt
    obtain ⟨v, b⟩ := lt
    simp only [he, ↓gos, gop, qA, qB, qC, qD, qE, qF, qG, qH, qI]
    exact end_P (ps := []) rfl rfl
theorem prop61 (s : List UInt8) (hs : s.length < 1000000000) : ACalls ED 168 [] [.str s] (postP (propL s)) := by
  have hwl := word_len s
  have hrl := rest_len s
  refine acalls_go c168 (by simp [f168]) ?_
  rw [f168e]
  simp only [f168, hd_seq, tl_seq, ↓gos, gop, qA, qB, qC, qD, qE, qF, qG, qH, qI]
  refine call_bx (xs := []) rfl rfl rfl rfl rfl (word80 s hs) ?_
  simp only [↓gos, gop, qA, qB, qC, qD, qE, qF, qG, qH, qI]
  rw [prop_tailP]
  unfold headL
  refine ⟨fun h => ?_, fun h => ?_⟩
  · refine call_bx (xs := [.str [46]]) rfl rfl rfl rfl rfl (is81 (restL s) [46] (by omega) (by simp)) ?_
    rw [behind1]
    by_cases h46 : (restL s).head? = some 46
    · simp only [if_pos h46, ↓gos, gop, qA, qB, qC, qD, qE, qF, qG, qH, qI]
      have h1 := rest_len (restL s).tail
      have h2 := word_len (restL s).tail
      have h3 : (restL s).tail.length ≤ (restL s).length := by simp
      refine call_bx (xs := []) rfl rfl rfl rfl rfl (word80 (restL s).tail (by omega)) ?_
      simp only [↓gos, gop, qA, qB, qC, qD, qE, qF, qG, qH, qI]
      rw [if_pos ⟨h, h46⟩]
      exact prop_tail _ (wordL s) (wordL (restL s).tail) (restL (restL s).tail) (by omega) (by omega) (word_asc _) rfl rfl rfl rfl
    · simp only [if_neg h46, ↓gos, gop, qA, qB, qC, qD, qE, qF, qG, qH, qI]
      rw [if_neg (fun q => h46 q.2)]
      exact prop_tail _ [] (wordL s) (restL s) (by omega) (by omega) (word_asc _) rfl rfl rfl rfl
  · rw [if_neg (fun q => q.1 h)]
    exact prop_tail _ [] (wordL s) (restL s) (by omega) (by omega) (word_asc _) rfl rfl rfl rfl
end Go.Proofs.Ut

/- A property's line, written; what may be kept. -/
namespace Go.Proofs.Ut
open Go.Ai Go.Shelf Go.RowKit
set_option linter.unusedSimpArgs false
set_option linter.unusedVariables false
set_option maxHeartbeats 1000000
set_option maxRecDepth 100000
def wtA (l : List (List UInt8 × List UInt8)) : Nat := (l.map fun a => a.1.length + a.2.length + 5).sum
def wtP (p : PR) : Nat := p.g.length + p.n.length + p.v.length + 5 + wtA p.ps
theorem quo_len (v : List UInt8) : (quoL v).length ≤ v.length + 2 := by unfold quoL; split <;> simp
theorem att_len (a : List UInt8 × List UInt8) : (attL a).length ≤ a.1.length + a.2.length + 4 := by
  have := quo_len a.2
  unfold attL; simp; omega
theorem wtA_cons (a : List UInt8 × List UInt8) (l : List (List UInt8 × List UInt8)) : wtA (a :: l) = a.1.length + a.2.length + 5 + wtA l := by simp [wtA]
theorem wtA_app (a b : List (List UInt8 × List UInt8)) : wtA (a ++ b) = wtA a + wtA b := by simp [wtA]
theorem atts_len : ∀ l : List (List UInt8 × List UInt8), (l.flatMap attL).length ≤ wtA l ∧ l.length ≤ wtA l
  | [] => by simp [wtA]
  | a :: l => by
    have := atts_len l
    have h2 := att_len a
    rw [List.flatMap_cons, List.length_append, wtA_cons, List.length_cons]
    omega
theorem written_len (p : PR) : (writtenL p).length ≤ wtP p := by
  have := (atts_len p.ps).1
  unfold writtenL frontL wtP
  split <;> (simp only [List.length_append, List.length_cons]; omega)
theorem atts_take (p : PR) (i : Nat) (h : i < p.ps.length) : p.ps.take (i + 1) = p.ps.take i ++ [p.ps.getD i default] := by
  rw [List.take_add_one, List.getD_eq_getElem?_getD, List.getElem?_eq_getElem h]; rfl
def f131t : ACode := tl (tl (tl f131.body))
theorem f131e : f131.body = .seq (hd f131.body) (.seq (hd (tl f131.body)) (.seq (hd (tl (tl f131.body))) f131t)) := rfl
theorem written48 (p : PR) (hp : wtP p < 1000000000) : DRet 131 [.agg (pv p)] (.str (writtenL p)) := by
  have ha := atts_len p.ps
  have hw : p.g.length + p.n.length + p.v.length + 5 + wtA p.ps < 1000000000 := hp
  refine acalls_go c131 (by simp [f131]) ?_
  have key : ∀ (L : List (Nat × DV)) (x : List UInt8), x = frontL p → slots L 1 = .ptr 0 0 → slots L 3 = .str x → goN ED 0 (fin 0 f131.res fun h d => h = [] ∧ d = .str (writtenL p)) [] f131t L [.box (pv p)] := fun L x hx h1 h3 => by
    have hxl : x.length ≤ p.g.length + p.n.length + 1 := by rw [hx]; unfold frontL; split <;> first | omega | (simp only [List.length_append, List.length_cons]; omega)
    simp only [f131t, f131, tl_seq, pv, h1, h3, ↓gos, gop, qA, qB, qC, qD, qE, qF, qG, qH, qI]
    refine goN_lp (γ := Nat) (fun i => [(20, .int .i64 i), (19, .int .i64 p.ps.length), (18, .sl 2 (p.ps.map av)), (1, .ptr 0 0), (3, .str (x ++ (p.ps.take i).flatMap attL))]) (fun _ => [.box (pv p)]) (fun i => i ≤ p.ps.length) (fun i => p.ps.length - i) 0
      (wks rfl (by simp) ⟨rfl, rfl, rfl, h1, (by simp [slots, h3]), trivial⟩) (by omega) fun i hi => ?_
    have hti : ((p.ps.take i).flatMap attL).length ≤ wtA p.ps := by
      have e := wtA_app (p.ps.take i) (p.ps.drop i)
      rw [List.take_append_drop] at e
      have := (atts_len (p.ps.take i)).1
      omega
    simp only [f131l0, pv, ↓gos, gop, qA, qB, qC, qD, qE, qF, qG, qH, qI]
    refine ⟨fun h => ?_, fun h => ?_⟩
    · have hi2 : i < p.ps.length := by omega
      refine optP_at default (by simpa using hi2) ?_
      have hat := atts_take p i hi2
      have hal : p.ps.getD i default ∈ p.ps := by
        rw [List.getD_eq_getElem?_getD, List.getElem?_eq_getElem hi2]; exact List.getElem_mem _
      generalize p.ps.getD i default = a at hat hal ⊢
      simp only [av, ↓gos, gop, qA, qB, qC, qD, qE, qF, qG, qH, qI]
      have hr : p.ps.take i ++ [a] = p.ps.take (i + 1) := hat.symm
      have haw : a.1.length + a.2.length + 5 + wtA (p.ps.take i) ≤ wtA p.ps := by
        have e := wtA_app (p.ps.take (i + 1)) (p.ps.drop (i + 1))
        rw [List.take_append_drop, ← hr, wtA_app, wtA_cons] at e
        omega
      have hti := (atts_len (p.ps.take i)).1
      have fin : ∀ (L' : List (Nat × DV)) (y : List UInt8), y = x ++ (p.ps.take i).flatMap attL ++ attL a → slots L' 20 = .int .i64 ((i + 1 : Nat) : Int) → slots L' 19 = .int .i64 p.ps.length → slots L' 18 = .sl 2 (p.ps.map av) → slots L' 1 = .ptr 0 0 → slots L' 3 = .str y →
          rnd 0 (fun (i : Nat) => [(20, .int .i64 i), (19, .int .i64 p.ps.length), (18, .sl 2 (p.ps.map av)), (1, .ptr 0 0), (3, .str (x ++ (p.ps.take i).flatMap attL))]) (fun _ => [.box [.str p.g, .str p.n, .sl 2 (p.ps.map av), .str p.v]]) (fun (i : Nat) => i ≤ p.ps.length) (fun (i : Nat) => p.ps.length - i) (p.ps.length - i)
            (sta L' [.box [.str p.g, .str p.n, .sl 2 (p.ps.map av), .str p.v], .box [.str a.1, .str a.2]]) := fun L' y hy k1 k2 k3 k4 k5 => by
        refine rnd_d 1 (i + 1) rfl (by simp) ⟨k1, rfl, k2, rfl, k3, rfl, k4, rfl, ?_, rfl, trivial⟩ (by simp [inO, DV.inL]) (by omega) (by omega)
        rw [k5, hy, hat, List.flatMap_append]
        simp
      refine ⟨fun he => ?_, fun he => ?_⟩
      · repeat (refine ⟨by first | omega | (simp only [List.length_append, List.length_cons, List.length_nil]; omega), ?_⟩)
        intro v hv
        rw [wrap_i64 (by omega) (by omega)] at hv
        subst hv
        refine fin _ _ ?_ rfl rfl rfl rfl rfl
        simp [attL, quoL, he]
      · refine call_ret (has86 A3 ⟨by decide, by decide, by decide⟩ a.2 (by omega)) rfl rfl ?_
        cases hc : a.2.any A3.contains
        · simp only [↓gos, gop, qA, qB, qC, qD, qE, qF, qG, qH, qI]
          repeat (refine ⟨by first | omega | (simp only [List.length_append, List.length_cons, List.length_nil]; omega), ?_⟩)
          intro v hv
          rw [wrap_i64 (by omega) (by omega)] at hv
          subst hv
          refine fin _ _ ?_ rfl rfl rfl rfl rfl
          rw [attL, quoL, if_neg (by rw [hc]; simp [he])]
          simp
        · simp only [↓gos, gop, qA, qB, qC, qD, qE, qF, qG, qH, qI]
          repeat (refine ⟨by first | omega | (simp only [List.length_append, List.length_cons, List.length_nil]; omega), ?_⟩)
          intro v hv
          rw [wrap_i64 (by omega) (by omega)] at hv
          subst hv
          refine fin _ _ ?_ rfl rfl rfl rfl rfl
          rw [attL, quoL, if_pos (.inr hc)]
          simp
    · have hi2 : i = p.ps.length := by omega
      subst hi2
      rw [List.take_length] at hti ⊢
      repeat (refine ⟨by first | omega | (simp only [List.length_append, List.length_cons, List.length_nil]; omega), ?_⟩)
      refine ends ?_
      rw [writtenL, hx]
      simp
  rw [f131e]
  simp only [f131, hd_seq, tl_seq, pv, ↓gos, gop, qA, qB, qC, qD, qE, qF, qG, qH, qI]
  refine ⟨fun hg => ?_, fun hg => ?_⟩
  · refine ⟨by omega, by simp only [List.length_append, List.length_cons, List.length_nil]; omega, ?_⟩
    refine key _ _ ?_ rfl rfl
    rw [frontL, if_neg hg]; simp
  · refine key _ _ ?_ rfl rfl
    rw [frontL, if_pos hg]
end Go.Proofs.Ut

/- Properties held against each other; what may be kept; cards, written. -/
namespace Go.Proofs.Ut
open Go.Ai Go.Shelf Go.RowKit
set_option linter.unusedSimpArgs false
set_option linter.unusedVariables false
set_option maxHeartbeats 1000000
set_option maxRecDepth 100000
theorem take_dec {α : Type} [DecidableEq α] {a b : List α} {i : Nat} (hl : a.length = b.length) (h : a.take i = b.take i) (hi : i < a.length) (d : α) : (a.getD i d = b.getD i d → a.take (i + 1) = b.take (i + 1)) ∧ (a.getD i d ≠ b.getD i d → a ≠ b) := by
  refine ⟨fun he => ?_, fun hn he => hn (by rw [he])⟩
  have hb : i < b.length := by omega
  rw [List.take_add_one, List.take_add_one, h]
  simp only [List.getD_eq_getElem?_getD, List.getElem?_eq_getElem hi, List.getElem?_eq_getElem hb, Option.getD_some] at he
  rw [List.getElem?_eq_getElem hi, List.getElem?_eq_getElem hb, he]
theorem equal67 (a b : List (List UInt8 × List UInt8)) (ha : a.length < 1000000000) (hb : b.length < 1000000000) : DRet 169 [.sl 2 (a.map av), .sl 2 (b.map av)] (.bool (decide (a = b))) := by
  refine acalls_go c169 (by simp [f169]) ?_
  simp only [f169, ↓gos, gop, qA, qB, qC, qD, qE, qF, qG, qH, qI]
  refine ⟨fun h => endb ?_, fun h => ?_⟩
  · rw [decide_eq_false]
    intro e; apply h; rw [e]
  · have hl : a.length = b.length := by omega
    refine goN_lp (γ := Nat) (fun i => [(13, .int .i64 i), (12, .int .i64 a.length), (0, .sl 2 (a.map av)), (1, .sl 2 (b.map av))]) (fun _ => []) (fun i => i ≤ a.length ∧ a.take i = b.take i) (fun i => a.length - i) 0
      (wks rfl (by simp) ⟨rfl, rfl, rfl, rfl, trivial⟩) ⟨by omega, by simp⟩ fun i hi => ?_
    obtain ⟨hi, ht⟩ := hi
    simp only [f169l0, ↓gos, gop, qA, qB, qC, qD, qE, qF, qG, qH, qI]
    refine ⟨fun h1 => ?_, fun h1 => ?_⟩
    · have h2 : i < a.length := by omega
      have hd := take_dec hl ht h2 default
      refine optP_at default (by simpa using h2) ?_
      simp only [av, ↓gos, gop, qA, qB, qC, qD, qE, qF, qG, qH, qI]
      refine optP_at default (by omega) ?_
      generalize a.getD i default = x at hd ⊢
      generalize b.getD i default = y at hd ⊢
      obtain ⟨x1, x2⟩ := x
      obtain ⟨y1, y2⟩ := y
      simp only [av, ↓gos, gop, qA, qB, qC, qD, qE, qF, qG, qH, qI]
      refine ⟨fun h3 => endb ?_, fun h3 v hv => ?_⟩
      · have hne : ¬ (x1 = y1 ∧ x2 = y2) := by
          rintro ⟨rfl, rfl⟩
          simp at h3
        rw [decide_eq_false (hd.2 (by simpa using hne))]
      · obtain ⟨rfl, rfl⟩ := h3
        rw [wrap_i64 (by omega) (by omega)] at hv
        subst hv
        exact rnd_s (i + 1) rfl (by simp) ⟨rfl, rfl, rfl, rfl, trivial⟩ ⟨by omega, hd.1 rfl⟩ (by omega)
    · refine endb ?_
      have : i = a.length := by omega
      subst this
      rw [List.take_length, hl, List.take_length] at ht
      rw [decide_eq_true ht]
theorem may63 (p : PR) : DRet 170 [.agg (pv p)] (.bool (mayP p)) := by
  refine acalls_go c170 (by simp [f170]) ?_
  simp only [f170, pv, ↓gos, gop, qA, qB, qC, qD, qE, qF, qG, qH, qI]
  have e1 : FIR = [66, 69, 71, 73, 78] := rfl
  have e2 : VER = [86, 69, 82, 83, 73, 79, 78] := rfl
  unfold mayP
  rw [e1, e2]
  refine ⟨fun h1 => ⟨fun h2 => endb ?_, fun h2 => endb ?_⟩, fun h1 => endb ?_⟩
  · rw [decide_eq_false h1, decide_eq_false h2]; rfl
  · rw [decide_eq_true h2]; simp
  · rw [decide_eq_true h1]; simp
theorem pars_max : ∀ n (s : List UInt8) acc, s.length ≤ n → (parsA acc s).1.length ≤ acc.length + s.length
  | n, s, acc, hn => by
    by_cases h59 : s.head? = some 59
    · obtain ⟨t, rfl⟩ : ∃ t, s = 59 :: t := by
        cases s with
        | nil => simp at h59
        | cons x t => simp at h59; exact ⟨t, by rw [h59]⟩
      rw [parsA_step]
      have hl := param_len t
      cases n with
      | zero => simp at hn
      | succ n =>
        simp only [List.length_cons] at hn
        split
        · have := pars_max n (paramL t).2.1 (acc ++ [(paramL t).1]) (by omega)
          simp at this ⊢; omega
        · simp
    · rw [parsA_end _ _ h59]; simp
theorem prop_max (s : List UInt8) : (propL s).1.ps.length ≤ s.length := by
  have h1 : (headL s).2.2.length ≤ s.length := by
    unfold headL
    have := rest_len s
    split
    · have h2 := rest_len (restL s).tail
      have h3 : (restL s).tail.length ≤ (restL s).length := by simp
      show (restL (restL s).tail).length ≤ _
      omega
    · exact this
  have h2 := pars_max _ (headL s).2.2 [] (Nat.le_refl _)
  unfold propL
  split
  · simp
  · split
    · simp at h2 ⊢; omega
    · simp at h2 ⊢; omega
theorem kept47 (p : PR) (hp : wtP p < 100000000) : DRet 130 [.agg (pv p)] (.bool (keptP p)) := by
  have hwl := written_len p
  refine acalls_go c130 (by simp [f130]) ?_
  simp only [f130, pv, ↓gos, gop, qA, qB, qC, qD, qE, qF, qG, qH, qI]
  refine call_ret (written48 p (by omega)) rfl rfl ?_
  simp only [↓gos, gop, qA, qB, qC, qD, qE, qF, qG, qH, qI]
  refine call_new (prop61 (writtenL p) (by omega)) (by simp [DV.closed]) ?_
  generalize hx : propL (writtenL p) = x
  obtain ⟨q, b⟩ := x
  have hk : keptP p = (b && decide (q = p) && mayP p && !ef (writtenL p) END && runAt mayB (writtenL p) 0 && !endB (writtenL p)) := by
    unfold keptP; rw [hx]
  have no : q ≠ p → false = keptP p := fun h => by rw [hk, decide_eq_false h]; simp
  have hqb := prop_max (writtenL p)
  rw [hx] at hqb
  simp only at hqb
  have hpb := (atts_len p.ps).2
  have hpw : wtA p.ps ≤ wtP p := by unfold wtP; omega
  cases b
  · simp only [DV.ren, DV.ren.renAll, renO, ↓gos, gop, qA, qB, qC, qD, qE, qF, qG, qH, qI]
    exact endb (by rw [hk]; rfl)
  · simp only [DV.ren, DV.ren.renAll, renO, ↓gos, gop, qA, qB, qC, qD, qE, qF, qG, qH, qI]
    refine ⟨fun g1 => ⟨fun g2 => ⟨fun g3 => ?_, fun g3 => endb (no fun e => g3 (by rw [e]))⟩, fun g2 => endb (no fun e => g2 (by rw [e]))⟩, fun g1 => endb (no fun e => g1 (by rw [e]))⟩
    refine call_ret (equal67 q.ps p.ps (by omega) (by omega)) (by simp [DV.dn, DV.low, Go.Ai.tkm]) rfl ?_
    by_cases g4 : q.ps = p.ps
    · have hq : q = p := by cases q; cases p; simp_all
      subst hq
      rw [decide_eq_true rfl]
      simp only [↓gos, gop, qA, qB, qC, qD, qE, qF, qG, qH, qI]
      refine call_ret (may63 q) (by simp [DV.dn, DV.low, DV.low.lowAll, pv, Go.Ai.tkm]) rfl ?_
      cases hm : mayP q
      · simp only [↓gos, gop, qA, qB, qC, qD, qE, qF, qG, qH, qI]
        exact endb (by rw [hk, hm]; simp)
      simp only [↓gos, gop, qA, qB, qC, qD, qE, qF, qG, qH, qI]
      refine call_ret (ef39 (writtenL q) END (by omega) (by decide) (by unfold plainT; decide)) rfl rfl ?_
      cases he : ef (writtenL q) END
      · simp only [↓gos, gop, qA, qB, qC, qD, qE, qF, qG, qH, qI]
        refine call_ret (valid_c (writtenL q) (by omega)) rfl rfl ?_
        cases hv : runAt mayB (writtenL q) 0
        · simp only [↓gos, gop, qA, qB, qC, qD, qE, qF, qG, qH, qI]
          exact endb (by rw [hk, hm, he, hv]; simp)
        · simp only [↓gos, gop, qA, qB, qC, qD, qE, qF, qG, qH, qI]
          refine call_ret (has86 [13, 10] sg2 (writtenL q) (by omega)) rfl rfl ?_
          rw [any_end]
          cases hd : endB (writtenL q)
          · simp only [↓gos, gop, qA, qB, qC, qD, qE, qF, qG, qH, qI]
            exact endb (by rw [hk, hm, he, hv, hd]; simp)
          · simp only [↓gos, gop, qA, qB, qC, qD, qE, qF, qG, qH, qI]
            exact endb (by rw [hk, hm, he, hv, hd]; simp)
      · simp only [↓gos, gop, qA, qB, qC, qD, qE, qF, qG, qH, qI]
        exact endb (by rw [hk, hm, he]; simp)
    · rw [decide_eq_false g4]
      simp only [↓gos, gop, qA, qB, qC, qD, qE, qF, qG, qH, qI]
      exact endb (no fun e => g4 (by rw [e]))
end Go.Proofs.Ut

/- Cards, written. -/
namespace Go.Proofs.Ut
open Go.Ai Go.Shelf Go.RowKit
set_option linter.unusedSimpArgs false
set_option linter.unusedVariables false
set_option maxHeartbeats 1000000
set_option maxRecDepth 100000
theorem lets46 (p : PR) (hp : wtP p < 100000000) : DRet 129 [.agg (pv p)] (.bool (!keptP p)) := by
  refine acalls_go c129 (by simp [f129]) ?_
  simp only [f129, pv, ↓gos, gop, qA, qB, qC, qD, qE, qF, qG, qH, qI]
  refine call_ret (kept47 p hp) rfl rfl ?_
  cases keptP p
  · simp only [↓gos, gop, qA, qB, qC, qD, qE, qF, qG, qH, qI]
    exact endb rfl
  · simp only [↓gos, gop, qA, qB, qC, qD, qE, qF, qG, qH, qI]
    exact endb rfl
theorem get_mem {α : Type} {l : List α} {i : Nat} (h : i < l.length) (d : α) : l.getD i d ∈ l := by
  rw [List.getD_eq_getElem?_getD, List.getElem?_eq_getElem h]; exact List.getElem_mem _
theorem take_getD {α : Type} {l : List α} {i : Nat} (h : i < l.length) (d : α) : l.take (i + 1) = l.take i ++ [l.getD i d] := by
  rw [List.take_add_one, List.getD_eq_getElem?_getD, List.getElem?_eq_getElem h]; rfl
theorem all_no {α : Type} {l : List α} {i : Nat} (h : i < l.length) (d : α) {p : α → Bool} (hp : p (l.getD i d) = false) : l.all p = false := by
  cases hc : l.all p with
  | false => rfl
  | true => rw [List.all_eq_true.1 hc _ (get_mem h d)] at hp; cases hp
instance : Inhabited PR := ⟨⟨[], [], [], []⟩⟩
def wtC (c : List PR) : Prop := ∀ p ∈ c, wtP p ≤ 50000
theorem index66 (c : List PR) (hc : c.length < 1000000000) (hw : wtC c) : ACalls ED 167 [] [.sl 4 (c.map pv), .fn 129 []] (fun h d => h = [] ∧ ∃ n : Int, d = .int .i64 n ∧ (decide (0 ≤ n)) = !c.all keptP) := by
  refine acalls_go c167 (by simp [f167]) ?_
  simp only [f167, ↓gos, gop, qA, qB, qC, qD, qE, qF, qG, qH, qI]
  refine goN_lp (γ := Nat) (fun i => [(8, .int .i64 i), (7, .int .i64 c.length), (0, .sl 4 (c.map pv)), (1, .fn 129 [])]) (fun _ => []) (fun i => i ≤ c.length ∧ (c.take i).all keptP = true) (fun i => c.length - i) 0
    (wks rfl (by simp) ⟨rfl, rfl, rfl, rfl, trivial⟩) ⟨by omega, by simp⟩ fun i hi => ?_
  obtain ⟨hi, ht⟩ := hi
  simp only [f167l0, ↓gos, gop, qA, qB, qC, qD, qE, qF, qG, qH, qI]
  refine ⟨fun h => ?_, fun h => ?_⟩
  · have h2 : i < c.length := by omega
    refine optP_at default (by simpa using h2) ?_
    have htk := take_getD h2 default
    have hm := get_mem h2 default
    have hno := fun (p : PR → Bool) => all_no (p := p) h2 default
    generalize c.getD i default = p at htk hm hno ⊢
    simp only [pv, ↓gos, gop, qA, qB, qC, qD, qE, qF, qG, qH, qI]
    refine call_ret (lets46 p (by have := hw p hm; omega)) rfl rfl ?_
    cases hk : keptP p
    · simp only [↓gos, gop, qA, qB, qC, qD, qE, qF, qG, qH, qI]
      refine finE_closed rfl ⟨rfl, _, rfl, ?_⟩
      rw [hno _ hk]; simp
    · simp only [↓gos, gop, qA, qB, qC, qD, qE, qF, qG, qH, qI]
      intro v hv
      rw [wrap_i64 (by omega) (by omega)] at hv
      subst hv
      refine rnd_s (i + 1) rfl (by simp) ⟨rfl, rfl, rfl, rfl, trivial⟩ ⟨by omega, ?_⟩ (by omega)
      rw [htk, List.all_append, ht]; simp [hk]
  · have h2 : i = c.length := by omega
    subst h2
    rw [List.take_length] at ht
    refine finE_closed rfl ⟨rfl, _, rfl, ?_⟩
    rw [ht]; rfl
theorem contains45 (c : List PR) (hc : c.length < 1000000000) (hw : wtC c) : DRet 128 [.sl 4 (c.map pv), .fn 129 []] (.bool (!c.all keptP)) := by
  refine acalls_go c128 (by simp [f128]) ?_
  simp only [f128, ↓gos, gop, qA, qB, qC, qD, qE, qF, qG, qH, qI]
  refine call_any (index66 c hc hw) rfl ⟨_, if c.all keptP = true then -1 else 0, rfl, by split <;> simp_all⟩ ?_
  rintro d ⟨n, rfl, hn⟩
  refine ⟨rfl, ?_⟩
  rw [← hn]
  simp only [↓gos, gop, qA, qB, qC, qD, qE, qF, qG, qH, qI]
  refine ⟨fun h => endb ?_, fun h => endb ?_⟩
  · rw [decide_eq_true h]
  · rw [decide_eq_false h]
def cv (c : List PR) : List DV := [.sl 4 (c.map pv)]
def okc (c : List PR) : Bool := decide (c.length ≤ 40) && c.all keptP
theorem okW_eq (l : List (List PR)) : okW l = (decide (l.length ≤ 60) && l.all okc) := rfl
def lineC (c : List PR) : List (List UInt8) := [BEG, VER ++ 58 :: V40] ++ c.map writtenL ++ [END]
theorem linesW_app (a : List (List PR)) (c : List PR) : linesW (a ++ [c]) = linesW a ++ lineC c := by simp [linesW, lineC]
theorem lineC_len (c : List PR) : (lineC c).length = c.length + 3 := by simp [lineC]
theorem linesW_len (l : List (List PR)) (h : l.all okc = true) : (linesW l).length ≤ 43 * l.length := by
  induction l with
  | nil => simp [linesW]
  | cons c l ih =>
    rw [List.all_cons, Bool.and_eq_true] at h
    have h1 := h.1
    unfold okc at h1
    rw [Bool.and_eq_true, decide_eq_true_eq] at h1
    have := ih h.2
    have e : linesW (c :: l) = lineC c ++ linesW l := by simp [linesW, lineC]
    rw [e, List.length_append, lineC_len, List.length_cons]
    omega
theorem foldF_le (N : Nat) (m : List (List UInt8)) (h : ∀ x ∈ m, x.length ≤ N) : (foldF m).length ≤ m.length * (4 * N + 2) := by
  refine Nat.le_trans (foldF_len m) ?_
  induction m with
  | nil => simp
  | cons x m ih =>
    rw [List.map_cons, List.sum_cons, List.length_cons, Nat.add_mul, Nat.one_mul]
    have := ih fun y hy => h y (by simp [hy])
    have := h x (by simp)
    omega
theorem lines_le (l : List (List PR)) (h : ∀ c ∈ l, wtC c) : ∀ x ∈ linesW l, x.length ≤ 50000 := by
  intro x hx
  obtain ⟨c, hc, hx⟩ := List.mem_flatMap.1 hx
  simp only [List.mem_append, List.mem_cons, List.mem_nil_iff, or_false, List.mem_map] at hx
  rcases hx with ((rfl | rfl) | ⟨p, hp, rfl⟩) | rfl
  · decide
  · decide
  · have := written_len p; have := h c hc p hp; omega
  · decide
theorem write24 (l : List (List PR)) (hl : l.length < 1000000000) (hc : ∀ c ∈ l, c.length < 1000000000 ∧ wtC c) : DRet 67 [.sl 1 (l.map cv)] (.tup [.str (writeL l).1, .int .i64 (writeL l).2]) := by
  refine acalls_go c67 (by simp [f67]) ?_
  simp only [f67, ↓gos, gop, qA, qB, qC, qD, qE, qF, qG, qH, qI]
  have bad : okW l = false → writeL l = ([], 12) := fun h => by unfold writeL; rw [if_pos h]
  refine ⟨fun h => ?_, fun h => ?_⟩
  · rw [bad (by rw [okW_eq, decide_eq_false (by omega)]; rfl)]
    exact finE_closed rfl ⟨rfl, rfl⟩
  · refine goN_lp (γ := Nat) (fun i => [(15, .int .i64 i), (14, .int .i64 l.length), (13, .sl 1 (l.map cv)), (4, .osl 1 0 0 (linesW (l.take i)).length none)]) (fun i => [.arr 1 ((linesW (l.take i)).map sv)])
      (fun i => i ≤ l.length ∧ (l.take i).all okc = true) (fun i => l.length - i) 0 (wks rfl (by simp) ⟨rfl, rfl, rfl, rfl, trivial⟩) ⟨by omega, by simp⟩ fun i hi => ?_
    obtain ⟨hi, ht⟩ := hi
    have hlw := linesW_len _ ht
    rw [List.length_take] at hlw
    simp only [f67l1, ↓gos, gop, qA, qB, qC, qD, qE, qF, qG, qH, qI]
    refine ⟨fun h1 => ?_, fun h1 => ?_⟩
    · have h2 : i < l.length := by omega
      refine optP_at default (by simpa using h2) ?_
      have htk := take_getD h2 default
      have hm := get_mem h2 default
      have hno := fun (p : List PR → Bool) => all_no (p := p) h2 default
      generalize l.getD i default = c at htk hm hno ⊢
      simp only [cv, ↓gos, gop, qA, qB, qC, qD, qE, qF, qG, qH, qI]
      refine ⟨fun h3 => ?_, fun h3 => ?_⟩
      · rw [bad (by rw [okW_eq, hno okc (by rw [okc, decide_eq_false (by omega)]; rfl)]; simp)]
        exact finE_closed rfl ⟨rfl, rfl⟩
      · refine call_ret (contains45 c (by omega) (hc c hm).2) rfl rfl ?_
        cases hk : c.all keptP
        · simp only [↓gos, gop, qA, qB, qC, qD, qE, qF, qG, qH, qI]
          rw [bad (by rw [okW_eq, hno okc (by rw [okc, hk]; simp)]; simp)]
          exact finE_closed rfl ⟨rfl, rfl⟩
        · simp only [↓gos, gop, qA, qB, qC, qD, qE, qF, qG, qH, qI]
          refine ⟨by omega, by omega, ?_⟩
          have hck : okc c = true := by rw [okc, hk, decide_eq_true (by omega)]; rfl
          have hall : (l.take (i + 1)).all okc = true := by rw [htk, List.all_append, ht]; simp [hck]
          have hlw2 := linesW_len _ hall
          rw [List.length_take] at hlw2
          generalize hb : linesW (l.take i) ++ [BEG, VER ++ 58 :: V40] = base
          have hbl : base.length = (linesW (l.take i)).length + 2 := by rw [← hb]; simp
          refine goN_lp (γ := Nat) (fun j => [(31, .int .i64 j), (30, .int .i64 c.length), (29, .sl 4 (c.map pv)), (4, .osl 1 0 0 (base ++ (c.take j).map writtenL).length none), (15, .int .i64 i), (14, .int .i64 l.length), (13, .sl 1 (l.map cv))]) (fun j => [.arr 1 ((base ++ (c.take j).map writtenL).map sv)])
            (fun j => j ≤ c.length) (fun j => c.length - j) 0 (wkd 1 ?_ (by simp) ⟨rfl, rfl, rfl, rfl, rfl, rfl, ?_, rfl, rfl, rfl, rfl, rfl, rfl, rfl, trivial⟩ (by simp [inO])) (by omega) fun j hj => ?_
          · simp [← hb, sv]; decide
          · simp [slots, hbl]
          simp only [f67l0, ↓gos, gop, qA, qB, qC, qD, qE, qF, qG, qH, qI]
          refine ⟨fun q1 => ?_, fun q1 => ?_⟩
          · have q2 : j < c.length := by omega
            refine optP_at default (by simpa using q2) ?_
            have jtk := take_getD q2 default
            have jm := get_mem q2 default
            generalize c.getD j default = p at jtk jm ⊢
            simp only [pv, ↓gos, gop, qA, qB, qC, qD, qE, qF, qG, qH, qI]
            refine call_ret (written48 p (by have := (hc c hm).2 p jm; omega)) rfl rfl ?_
            simp only [↓gos, gop, qA, qB, qC, qD, qE, qF, qG, qH, qI]
            have e1 : (base ++ (c.take j).map writtenL).length + 1 = (base ++ (c.take (j + 1)).map writtenL).length := by rw [jtk]; simp; omega
            have e2 : (base ++ (c.take j).map writtenL).map sv ++ [[DV.str (writtenL p)]] = (base ++ (c.take (j + 1)).map writtenL).map sv := by rw [jtk]; simp [sv]
            have e3 : (base ++ (c.take j).map writtenL).length ≤ 10000 := by simp [hbl]; omega
            refine ⟨by omega, by omega, ?_⟩
            intro v hv
            rw [wrap_i64 (by omega) (by omega)] at hv
            subst hv
            rw [e1, e2]
            exact rnd_d 1 (j + 1) rfl (by simp) ⟨rfl, rfl, rfl, rfl, rfl, rfl, rfl, rfl, rfl, rfl, rfl, rfl, rfl, rfl, trivial⟩ rfl (by omega) (by omega)
          · have q2 : j = c.length := by omega
            subst q2
            rw [List.take_length]
            have e1 : (base ++ c.map writtenL).length + 1 = (linesW (l.take (i + 1))).length := by rw [htk, linesW_app, lineC, ← hb]; simp; omega
            have e2 : (base ++ c.map writtenL).map sv ++ [[DV.str [69, 78, 68, 58, 86, 67, 65, 82, 68]]] = (linesW (l.take (i + 1))).map sv := by rw [htk, linesW_app, lineC, ← hb]; simp [sv]; rfl
            have e3 : (base ++ c.map writtenL).length ≤ 10000 := by simp [hbl]; omega
            refine ⟨by omega, by omega, ?_⟩
            intro v hv
            rw [wrap_i64 (by omega) (by omega)] at hv
            subst hv
            rw [e1, e2]
            exact rnd_d 1 (i + 1) rfl (by simp) ⟨rfl, rfl, rfl, rfl, rfl, rfl, rfl, rfl, trivial⟩ rfl ⟨by omega, hall⟩ (by omega)
    · have h2 : i = l.length := by omega
      subst h2
      rw [List.take_length] at ht hlw ⊢
      have hok : okW l = true := by rw [okW_eq, ht, decide_eq_true (by omega)]; rfl
      have hfl := foldF_le 50000 (linesW l) (lines_le l fun c hm => (hc c hm).2)
      have hll : (linesW l).length ≤ 2580 := by omega
      have hmul : (linesW l).length * (4 * 50000 + 2) ≤ 2580 * (4 * 50000 + 2) := Nat.mul_le_mul_right _ hll
      refine call_ret (fold13 (linesW l) (by omega) (by omega)) (by simp [DV.dn, DV.low, Go.Ai.tkm]) rfl ?_
      simp only [↓gos, gop, qA, qB, qC, qD, qE, qF, qG, qH, qI]
      unfold writeL
      rw [if_neg (by rw [hok]; simp)]
      refine ⟨fun q => ?_, fun q => ?_⟩
      · rw [if_pos (by omega)]
        exact finE_closed rfl ⟨rfl, rfl⟩
      · rw [if_neg (by omega)]
        exact finE_closed rfl ⟨rfl, rfl⟩
end Go.Proofs.Ut
