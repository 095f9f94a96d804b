/- The document's Unfold. -/
import Derived.Test.YtbnmhlienklfpaaGreatDoorZFoD
import Derived.Test.YtbnmhlienklfpaaGreatDoorZVcI
set_option linter.all false
namespace Go.Proofs.Ut
open Go.Ai Go.Shelf Go.RowKit
set_option linter.unusedSimpArgs false
set_option linter.unusedVariables false
set_option maxHeartbeats 1000000
set_option maxRecDepth 100000
theorem cut_bad (b : UInt8) (t : List UInt8) (hb : b = 10 ∨ (b = 13 ∧ t.head? ≠ some 10)) : ∀ pre : List UInt8, (∀ x ∈ pre, x ≠ 13 ∧ x ≠ 10) → endB (cutE (pre ++ b :: t)).1 = true
  | [], _ => by
    rw [List.nil_append, cutE, if_neg]
    · rcases hb with rfl | ⟨rfl, _⟩ <;> rfl
    · rintro ⟨rfl, h⟩
      rcases hb with hb | ⟨_, hb⟩
      · cases hb
      · exact hb h
  | x :: pre, h => by
    rw [List.cons_append, cutE, if_neg (fun q => (h x (by simp)).1 q.1)]
    have ih := cut_bad b t hb pre fun y hy => h y (by simp [hy])
    unfold endB at ih ⊢
    rw [List.any_cons, ih, Bool.or_true]
theorem unf_bad (acc : List (List UInt8)) (b : UInt8) (pre t : List UInt8) (hb : b = 10 ∨ (b = 13 ∧ t.head? ≠ some 10)) (hp : ∀ x ∈ pre, x ≠ 13 ∧ x ≠ 10) : unfA acc (pre ++ b :: t) = none := by
  rw [unfA_step _ _ (by simp), if_pos (by rw [cut_bad b t hb pre hp]; simp)]
theorem cut_none : ∀ s : List UInt8, (∀ x ∈ s, x ≠ 13 ∧ x ≠ 10) → (cutE s).2.2 = false
  | [], _ => rfl
  | x :: s, h => by
    rw [cutE, if_neg (fun q => (h x (by simp)).1 q.1)]
    exact cut_none s fun y hy => h y (by simp [hy])
theorem unf_cutoff (acc : List (List UInt8)) (s : List UInt8) (h0 : s ≠ []) (hp : ∀ x ∈ s, x ≠ 13 ∧ x ≠ 10) : unfA acc s = none := by
  rw [unfA_step _ _ h0, if_pos (by rw [cut_none s hp]; rfl)]
theorem unf_row (acc : List (List UInt8)) (pre t : List UInt8) (hp : ∀ x ∈ pre, x ≠ 13 ∧ x ≠ 10) : unfA acc (pre ++ 13 :: 10 :: t) =
    if (moreB pre && acc.isEmpty) = true then none else if moreB pre = true then unfA (acc.dropLast ++ [acc.getLastD [] ++ pre.tail]) t else unfA (acc ++ [pre]) t := by
  have he : endB pre = false := by
    unfold endB
    rw [List.any_eq_false]
    intro x hx
    have := hp x hx
    simp [this]
  rw [unfA_step _ _ (by simp), cutE_row pre t fun x hx => (hp x hx).1, he]
  simp only [Bool.not_true, Bool.false_or]
/-- The place that is read, and what is ahead and behind. -/
theorem drop_cut (s : List UInt8) (f i : Nat) (h1 : f ≤ i) (h2 : i < s.length) : s.drop f = (s.drop f).take (i - f) ++ s.getD i 0 :: s.drop (i + 1) := by
  have e : s.drop i = s.getD i 0 :: s.drop (i + 1) := by
    rw [List.drop_eq_getElem_cons h2, List.getD_eq_getElem?_getD, List.getElem?_eq_getElem h2]; rfl
  rw [← e]
  have := (List.take_append_drop (i - f) (s.drop f)).symm
  rw [List.drop_drop, show f + (i - f) = i by omega] at this
  exact this
theorem take_more (s : List UInt8) (f i : Nat) (h1 : f ≤ i) (h2 : i < s.length) : (s.drop f).take (i + 1 - f) = (s.drop f).take (i - f) ++ [s.getD i 0] := by
  have e := drop_cut s f i h1 h2
  have hl : ((s.drop f).take (i - f)).length = i - f := by simp; omega
  rw [show i + 1 - f = (i - f) + 1 by omega]
  generalize (s.drop f).take (i - f) = p at e hl
  rw [e, List.take_append, hl, List.take_of_length_le (by omega), show i - f + 1 - (i - f) = 1 by omega]
  rfl
theorem set_last {α : Type} (y d : α) : ∀ l : List α, l ≠ [] → l.set (l.length - 1) y = l.dropLast ++ [y] ∧ l.getD (l.length - 1) d = l.getLastD d
  | [], h => absurd rfl h
  | [x], _ => ⟨rfl, rfl⟩
  | x :: z :: l, _ => by
    have ih := set_last y d (z :: l) (by simp)
    simp only [List.length_cons, Nat.add_sub_cancel] at ih ⊢
    refine ⟨by rw [List.set_cons_succ, ih.1]; rfl, ?_⟩
    rw [List.getD_cons_succ, ih.2]
    simp
theorem tail_all (pre : List UInt8) : List.take (pre.length - 1) (List.drop 1 pre) = pre.tail := by
  rw [List.take_of_length_le (by simp), List.drop_one]
theorem last_len {acc : List (List UInt8)} {f : Nat} (h : ∀ a ∈ acc, a.length ≤ f) : (acc.getLastD []).length ≤ f := by
  rw [List.getLastD_eq_getLast?]
  cases h2 : acc.getLast? with
  | none => simp
  | some a => exact h a (List.mem_of_getLast? h2)
theorem unf8 (s : List UInt8) (hs : s.length < 1000000000) : ACalls ED 8 [] [.str s] (fun h d => h = [.arr 1 ((unfoldR s).1.map sv)] ∧ d = .tup [.osl 1 0 0 (unfoldR s).1.length none, .int .i64 (unfoldR s).2]) := by
  refine acalls_go c8 (by simp [f8]) ?_
  simp only [f8, ↓gos, gop, Nat.reduceBEq, Nat.reduceAdd, Nat.reduceSub, Nat.reduceLeDiff, Nat.reduceMul, Int.reduceLE, Int.reduceLT, Int.reduceNe, Int.reduceToNat]
  unfold unfoldR
  refine ⟨fun h => ?_, fun h => ?_⟩
  · rw [if_pos (by omega)]
    exact end_rowt rfl rfl ⟨rfl, rfl⟩
  · rw [if_neg (by omega)]
    refine call_ret (rvalid17 (E := ED) rfl s (by omega)) rfl rfl ?_
    cases hv : runAt mayB s 0
    · rw [if_pos rfl]
      simp only [↓gos, gop, Nat.reduceBEq, Nat.reduceAdd, Nat.reduceSub, Nat.reduceLeDiff, Nat.reduceMul, Int.reduceLE, Int.reduceLT, Int.reduceNe, Int.reduceToNat]
      exact end_rowt rfl rfl ⟨rfl, rfl⟩
    · rw [if_neg (by simp)]
      simp only [↓gos, gop, Nat.reduceBEq, Nat.reduceAdd, Nat.reduceSub, Nat.reduceLeDiff, Nat.reduceMul, Int.reduceLE, Int.reduceLT, Int.reduceNe, Int.reduceToNat]
      refine goN_lp (γ := List (List UInt8) × Nat × Nat) (fun g => [(6, .int .i64 g.2.2), (5, .int .i64 g.2.1), (4, .osl 1 1 0 g.1.length none), (3, .int .i64 0), (2, .osl 1 0 0 0 none), (0, .str s)])
        (fun g => [.arr 1 [], .arr 1 (g.1.map sv)])
        (fun g => g.2.1 ≤ g.2.2 ∧ g.2.2 ≤ s.length ∧ (∀ x ∈ (s.drop g.2.1).take (g.2.2 - g.2.1), x ≠ 13 ∧ x ≠ 10) ∧ unfA g.1 (s.drop g.2.1) = unfA [] s ∧ g.1.length ≤ g.2.1 ∧ ∀ a ∈ g.1, a.length ≤ g.2.1) (fun g => s.length - g.2.2) ([], 0, 0)
        (wks rfl (by simp) ⟨rfl, rfl, rfl, rfl, rfl, rfl, trivial⟩) ⟨by simp, by simp, by simp, rfl, by simp, by simp⟩ fun g hg => ?_
      obtain ⟨acc, f, i⟩ := g
      obtain ⟨g1, g2, g3, g4, g5, g6⟩ := hg
      simp only at g1 g2 g3 g4 g5 g6
      simp only [f8l0, ↓gos, gop, Nat.reduceBEq, Nat.reduceAdd, Nat.reduceSub, Nat.reduceLeDiff, Nat.reduceMul, Int.reduceLE, Int.reduceLT, Int.reduceNe, Int.reduceToNat]
      refine ⟨fun a1 => ?_, fun a1 => ?_⟩
      · have hbt : bt s i = ((s.getD i 0).toNat : Int) := rfl
        have hcut := drop_cut s f i g1 (by omega)
        have hmo := take_more s f i g1 (by omega)
        have hnx : ∀ v : Int, v = IntKind.i64.wrap (i + 1) → v = ((i + 1 : Nat) : Int) := fun v hv => by
          rw [wrap_i64 (by omega) (by omega)] at hv; omega
        have hbn : bt s (i + 1) = ((s.getD (i + 1) 0).toNat : Int) := rfl
        have hpl : ((s.drop f).take (i - f)).length = i - f := by simp; omega
        have hdn : i + 1 < s.length → s.drop (i + 1) = s.getD (i + 1) 0 :: s.drop (i + 1 + 1) := fun h => by
          rw [List.drop_eq_getElem_cons h, List.getD_eq_getElem?_getD, List.getElem?_eq_getElem h]; rfl
        have hd1 : ¬ i + 1 < s.length → s.drop (i + 1) = [] := fun h => List.drop_eq_nil_of_le (by omega)
        have hc : (s.getD i 0).toNat < 256 := UInt8.toNat_lt _
        generalize s.getD i 0 = c at hbt hcut hmo hc
        generalize (s.drop f).take (i - f) = pre at g3 hcut hmo hpl ⊢
        refine ⟨by omega, fun c1 => ?_, fun c1 => ⟨by omega, fun c2 v hv => ?_, fun c2 => ⟨by omega, fun _ v hv => ?_, fun q => absurd q c2⟩⟩⟩
        · have hn : unfA [] s = none := by rw [← g4, hcut]; exact unf_bad acc c pre _ (.inl (UInt8.toNat_inj.1 (by show c.toNat = 10; omega))) g3
          rw [hn]
          exact end_rowt rfl rfl ⟨rfl, rfl⟩
        · obtain rfl := hnx v hv
          have c13 : c = 13 := UInt8.toNat_inj.1 (by show c.toNat = 13; omega)
          subst c13
          refine ⟨fun a2 => ?_, fun a2 w hw => ?_⟩
          · have hn : unfA [] s = none := by
              rw [← g4, hcut, hd1 (by omega)]; exact unf_bad acc 13 pre _ (.inr ⟨rfl, by simp⟩) g3
            rw [hn]
            exact end_rowt rfl rfl ⟨rfl, rfl⟩
          · obtain rfl := hnx w hw
            rw [Int.toNat_natCast]
            have hdn := hdn (by omega)
            generalize s.getD (i + 1) 0 = e at hbn hdn
            refine ⟨by omega, by omega, fun a3 => ?_, fun a3 => ⟨by omega, fun q => absurd c2 q, fun _ => ?_⟩⟩
            · have hn : unfA [] s = none := by
                rw [← g4, hcut, hdn]
                refine unf_bad acc 13 pre _ (.inr ⟨rfl, ?_⟩) g3
                rw [List.head?_cons]
                intro q; injection q with q; subst q; exact a3 hbn
              rw [hn]
              exact end_rowt rfl rfl ⟨rfl, rfl⟩
            · have e10 : e = 10 := UInt8.toNat_inj.1 (by show e.toNat = 10; omega)
              subst e10
              rw [hcut, hdn, unf_row acc pre _ g3] at g4
              refine ⟨by omega, by omega, fun w hw w2 hw2 => ?_⟩
              obtain rfl := hnx w hw
              rw [wrap_i64 (by omega) (by omega)] at hw2
              have hw2 : w2 = ((i + 1 + 1 : Nat) : Int) := by omega
              subst hw2
              have hml : moreB pre = (decide (pre.head? = some 32) || decide (pre.head? = some 9)) := rfl
              have hb0 : pre ≠ [] → ∃ x p, pre = x :: p := fun h => by cases pre with
                | nil => exact absurd rfl h
                | cons x p => exact ⟨x, p, rfl⟩
              refine ⟨fun b1 => ⟨by have := List.length_pos_iff.2 b1; omega, fun b2 => ⟨fun b3 => ?_, fun b3 => ?_⟩, fun b2 => ⟨by have := List.length_pos_iff.2 b1; omega, fun b4 => ⟨fun b3 => ?_, fun b3 => ?_⟩, fun b4 => ?_⟩⟩, fun b1 => ?_⟩
              · have hm : moreB pre = true := by
                  obtain ⟨x, p, rfl⟩ := hb0 b1
                  have : x = 32 := UInt8.toNat_inj.1 (by have : bt (x :: p) 0 = (x.toNat : Int) := rfl; show x.toNat = 32; omega)
                  subst this; rfl
                have ha : acc = [] := List.eq_nil_of_length_eq_zero (by omega)
                rw [hm, ha, if_pos (by rfl)] at g4
                rw [← g4]
                exact end_rowt rfl rfl ⟨rfl, rfl⟩
              · have hm : moreB pre = true := by
                  obtain ⟨x, p, rfl⟩ := hb0 b1
                  have : x = 32 := UInt8.toNat_inj.1 (by have : bt (x :: p) 0 = (x.toNat : Int) := rfl; show x.toNat = 32; omega)
                  subst this; rfl
                have hne : acc ≠ [] := fun q => by rw [q] at b3; simp at b3
                have ha : acc.isEmpty = false := by cases acc with
                  | nil => simp at b3
                  | cons => rfl
                rw [hm, ha, if_neg (by simp), if_pos rfl] at g4
                have hla := last_len g6
                have hsl := set_last (acc.getLastD [] ++ pre.tail) [] acc hne
                intro w hw w2 hw2
                rw [wrap_i64 (by omega) (by omega)] at hw hw2
                have hw : w = ((acc.length - 1 : Nat) : Int) := by omega
                have hw2 : w2 = ((acc.length - 1 : Nat) : Int) := by omega
                subst hw; subst hw2
                refine ⟨by omega, by omega, ?_⟩
                rw [Int.toNat_natCast]
                refine optP_at [] (by omega) ?_
                simp only [sv, List.getElem?_cons_zero, ↓gos, gop, Nat.reduceBEq, Nat.reduceAdd, Nat.reduceSub, Nat.reduceLeDiff, Nat.reduceMul, Int.reduceLE, Int.reduceLT, Int.reduceNe, Int.reduceToNat]
                rw [tail_all, hsl.2]
                have hp0 : 0 < pre.length := List.length_pos_iff.2 b1
                refine ⟨by omega, by rw [List.length_tail]; omega, by omega, optP_at [] (by omega) fun w3 hw3 => ?_⟩
                rw [wrap_i64 (by omega) (by omega)] at hw3
                have hw3 : w3 = ((i + 1 + 1 : Nat) : Int) := by omega
                subst hw3
                have hst : (List.map sv acc).set (acc.length - 1) [DV.str (acc.getLastD [] ++ pre.tail)] = List.map sv (acc.dropLast ++ [acc.getLastD [] ++ pre.tail]) := by
                  rw [← hsl.1, List.map_set]; rfl
                rw [hst]
                have hln : (acc.dropLast ++ [acc.getLastD [] ++ pre.tail]).length = acc.length := by
                  have := List.length_pos_iff.2 hne
                  simp; omega
                refine rnd_s (acc.dropLast ++ [acc.getLastD [] ++ pre.tail], i + 1 + 1, i + 1 + 1) rfl (by simp) ⟨rfl, rfl, by simp only [hln]; rfl, rfl, rfl, rfl, trivial⟩ ⟨by simp only; omega, by simp only; omega, by simp only; rw [Nat.sub_self]; simp, g4, by simp only [hln]; omega, fun a ha2 => ?_⟩ (by simp only; omega)
                rcases List.mem_append.1 ha2 with ha2 | ha2
                · have := g6 a (List.dropLast_subset _ ha2); simp only; omega
                · rw [List.mem_singleton.1 ha2, List.length_append, List.length_tail]; simp only; omega
              · have hm : moreB pre = true := by
                  obtain ⟨x, p, rfl⟩ := hb0 b1
                  have : x = 9 := UInt8.toNat_inj.1 (by have : bt (x :: p) 0 = (x.toNat : Int) := rfl; show x.toNat = 9; omega)
                  subst this; rfl
                have ha : acc = [] := List.eq_nil_of_length_eq_zero (by omega)
                rw [hm, ha, if_pos (by rfl)] at g4
                rw [← g4]
                exact end_rowt rfl rfl ⟨rfl, rfl⟩
              · have hm : moreB pre = true := by
                  obtain ⟨x, p, rfl⟩ := hb0 b1
                  have : x = 9 := UInt8.toNat_inj.1 (by have : bt (x :: p) 0 = (x.toNat : Int) := rfl; show x.toNat = 9; omega)
                  subst this; rfl
                have hne : acc ≠ [] := fun q => by rw [q] at b3; simp at b3
                have ha : acc.isEmpty = false := by cases acc with
                  | nil => simp at b3
                  | cons => rfl
                rw [hm, ha, if_neg (by simp), if_pos rfl] at g4
                have hla := last_len g6
                have hsl := set_last (acc.getLastD [] ++ pre.tail) [] acc hne
                intro w hw w2 hw2
                rw [wrap_i64 (by omega) (by omega)] at hw hw2
                have hw : w = ((acc.length - 1 : Nat) : Int) := by omega
                have hw2 : w2 = ((acc.length - 1 : Nat) : Int) := by omega
                subst hw; subst hw2
                refine ⟨by omega, by omega, ?_⟩
                rw [Int.toNat_natCast]
                refine optP_at [] (by omega) ?_
                simp only [sv, List.getElem?_cons_zero, ↓gos, gop, Nat.reduceBEq, Nat.reduceAdd, Nat.reduceSub, Nat.reduceLeDiff, Nat.reduceMul, Int.reduceLE, Int.reduceLT, Int.reduceNe, Int.reduceToNat]
                rw [tail_all, hsl.2]
                have hp0 : 0 < pre.length := List.length_pos_iff.2 b1
                refine ⟨by omega, by rw [List.length_tail]; omega, by omega, optP_at [] (by omega) fun w3 hw3 => ?_⟩
                rw [wrap_i64 (by omega) (by omega)] at hw3
                have hw3 : w3 = ((i + 1 + 1 : Nat) : Int) := by omega
                subst hw3
                have hst : (List.map sv acc).set (acc.length - 1) [DV.str (acc.getLastD [] ++ pre.tail)] = List.map sv (acc.dropLast ++ [acc.getLastD [] ++ pre.tail]) := by
                  rw [← hsl.1, List.map_set]; rfl
                rw [hst]
                have hln : (acc.dropLast ++ [acc.getLastD [] ++ pre.tail]).length = acc.length := by
                  have := List.length_pos_iff.2 hne
                  simp; omega
                refine rnd_s (acc.dropLast ++ [acc.getLastD [] ++ pre.tail], i + 1 + 1, i + 1 + 1) rfl (by simp) ⟨rfl, rfl, by simp only [hln]; rfl, rfl, rfl, rfl, trivial⟩ ⟨by simp only; omega, by simp only; omega, by simp only; rw [Nat.sub_self]; simp, g4, by simp only [hln]; omega, fun a ha2 => ?_⟩ (by simp only; omega)
                rcases List.mem_append.1 ha2 with ha2 | ha2
                · have := g6 a (List.dropLast_subset _ ha2); simp only; omega
                · rw [List.mem_singleton.1 ha2, List.length_append, List.length_tail]; simp only; omega
              · have hm : moreB pre = false := by
                  obtain ⟨x, p, rfl⟩ := hb0 b1
                  have hx : bt (x :: p) 0 = (x.toNat : Int) := rfl
                  unfold moreB
                  rw [List.head?_cons, decide_eq_false (fun q => by injection q with q; subst q; exact b2 hx), decide_eq_false (fun q => by injection q with q; subst q; exact b4 hx)]
                  rfl
                rw [hm] at g4
                simp only [Bool.false_and, Bool.false_eq_true, if_false] at g4
                refine ⟨by omega, by omega, fun w3 hw3 => ?_⟩
                rw [wrap_i64 (by omega) (by omega)] at hw3
                have hw3 : w3 = ((i + 1 + 1 : Nat) : Int) := by omega
                subst hw3
                refine rnd_d 2 (acc ++ [pre], i + 1 + 1, i + 1 + 1) ?_ (by simp) ⟨rfl, rfl, rfl, rfl, by simp only [List.length_append, List.length_singleton]; rfl, rfl, rfl, rfl, rfl, rfl, rfl, rfl, trivial⟩ rfl ⟨by simp only; omega, by simp only; omega, by simp only; rw [Nat.sub_self]; simp, g4, by simp only [List.length_append, List.length_singleton]; omega, fun a ha2 => ?_⟩ (by simp only; omega)
                · simp only [List.map_append, List.map_cons, List.map_nil]; rfl
                · rcases List.mem_append.1 ha2 with ha2 | ha2
                  · have := g6 a ha2; simp only; omega
                  · rw [List.mem_singleton.1 ha2]; simp only; omega
              · have hm : moreB pre = false := by rw [b1]; rfl
                rw [hm] at g4
                simp only [Bool.false_and, Bool.false_eq_true, if_false] at g4
                refine ⟨by omega, by omega, fun w3 hw3 => ?_⟩
                rw [wrap_i64 (by omega) (by omega)] at hw3
                have hw3 : w3 = ((i + 1 + 1 : Nat) : Int) := by omega
                subst hw3
                refine rnd_d 2 (acc ++ [pre], i + 1 + 1, i + 1 + 1) ?_ (by simp) ⟨rfl, rfl, rfl, rfl, by simp only [List.length_append, List.length_singleton]; rfl, rfl, rfl, rfl, rfl, rfl, rfl, rfl, trivial⟩ rfl ⟨by simp only; omega, by simp only; omega, by simp only; rw [Nat.sub_self]; simp, g4, by simp only [List.length_append, List.length_singleton]; omega, fun a ha2 => ?_⟩ (by simp only; omega)
                · simp only [List.map_append, List.map_cons, List.map_nil]; rfl
                · rcases List.mem_append.1 ha2 with ha2 | ha2
                  · have := g6 a ha2; simp only; omega
                  · rw [List.mem_singleton.1 ha2]; simp only; omega
        · obtain rfl := hnx v hv
          refine rnd_s (acc, f, i + 1) rfl (by simp) ⟨rfl, rfl, rfl, rfl, rfl, rfl, trivial⟩ ⟨by simp only; omega, by simp only; omega, ?_, g4, g5, g6⟩ (by simp only; omega)
          simp only
          rw [hmo]
          intro x hx
          rcases List.mem_append.1 hx with hx | hx
          · exact g3 x hx
          · rw [List.mem_singleton.1 hx]
            exact ⟨fun q => c2 (by rw [hbt, q]; rfl), fun q => c1 (by rw [hbt, q]; rfl)⟩
      · have : i = s.length := by omega
        subst this
        refine ⟨fun a2 => ?_, fun a2 => ?_⟩
        · have hn : unfA [] s = none := by
            rw [← g4]
            have hl : (s.drop f).length = s.length - f := by simp
            rw [List.take_of_length_le (by omega)] at g3
            exact unf_cutoff acc _ (fun q => by rw [q] at hl; simp at hl; omega) g3
          rw [hn]
          exact end_rowt rfl rfl ⟨rfl, rfl⟩
        · have : f = s.length := by omega
          subst this
          rw [List.drop_length, unfA_nil] at g4
          rw [← g4]
          exact end_rowt rfl rfl ⟨rfl, rfl⟩
end Go.Proofs.Ut

/- The document's words: capitals, and how far a word goes. -/
namespace Go.Proofs.Ut
open Go.Ai Go.Shelf Go.RowKit
set_option linter.unusedSimpArgs false
set_option linter.unusedVariables false
set_option maxHeartbeats 1000000
set_option maxRecDepth 100000
def upT (n : List UInt8) (j : Nat) : List UInt8 := up (n.take j) ++ n.drop j
theorem upT_len (n : List UInt8) (j : Nat) : (upT n j).length = n.length := by simp [upT, up]; omega
theorem upT_get (n : List UInt8) (j : Nat) (h : j < n.length) : (upT n j).getD j 0 = n.getD j 0 := by
  unfold upT
  have hl : (up (n.take j)).length = j := by simp [up]; omega
  rw [List.getD_eq_getElem?_getD, List.getD_eq_getElem?_getD, List.getElem?_append_right (by omega), hl, Nat.sub_self, List.getElem?_drop, Nat.add_zero]
theorem upT_set (n : List UInt8) (j : Nat) (h : j < n.length) : (upT n j).set j (Lib.upperB (n.getD j 0)) = upT n (j + 1) := by
  unfold upT
  have hl : (up (n.take j)).length = j := by simp [up]; omega
  rw [List.set_append_right _ _ (by omega), hl, Nat.sub_self, drop_by n j h, List.set_cons_zero, take_getD h 0]
  simp [up]
theorem upT_skip (n : List UInt8) (j : Nat) (h : j < n.length) (hu : Lib.upperB (n.getD j 0) = n.getD j 0) : upT n j = upT n (j + 1) := by
  rw [← upT_set n j h, hu]
  have : (upT n j).getD j 0 = n.getD j 0 := upT_get n j h
  rw [← this]
  refine (List.ext_getElem? fun i => ?_).symm
  rw [List.getElem?_set]
  split
  · rename_i e; subst e
    rw [if_pos (by rw [upT_len]; exact h), List.getD_eq_getElem?_getD, List.getElem?_eq_getElem (by rw [upT_len]; exact h)]
    rfl
  · rfl
theorem optG {bs : List UInt8} {i : Nat} {K : List DV → Prop} (h : i < bs.length) (hk : K [.int .u8 (bs.getD i 0).toNat]) : optP (byv bs)[i]? K := by
  unfold byv
  rw [optP_map]
  exact optP_at 0 h hk
theorem upper46 (s : List UInt8) (hs : s.length < 1000000000) : DRet 46 [.str s] (.str (up s)) := by
  refine acalls_go c46 (by simp [f46]) ?_
  simp only [f46, ↓gos, gop, Nat.reduceBEq, Nat.reduceAdd, Nat.reduceSub, Nat.reduceLeDiff, Nat.reduceMul, Int.reduceLE, Int.reduceLT, Int.reduceNe, Int.reduceToNat]
  refine goN_lp (γ := Nat) (fun j => [(4, .int .i64 j), (3, .osl 1 0 0 s.length none), (0, .str s)]) (fun j => [.arr 1 (byv (upT s j))]) (fun j => j ≤ s.length) (fun j => s.length - j) 0
    (wks rfl (by simp) ⟨rfl, rfl, rfl, trivial⟩) (by omega) fun j hj => ?_
  have hul := upT_len s j
  simp only [f46l0, ↓gos, gop, Nat.reduceBEq, Nat.reduceAdd, Nat.reduceSub, Nat.reduceLeDiff, Nat.reduceMul, Int.reduceLE, Int.reduceLT, Int.reduceNe, Int.reduceToNat]
  refine ⟨fun a1 => ?_, fun a1 => ?_⟩
  · have hj : j < s.length := by omega
    have hge := upT_get s j hj
    have hup := up_nat (s.getD j 0)
    have hset := upT_set s j hj
    have hskip := upT_skip s j hj
    have hci : (s.getD j 0).toNat < 256 := UInt8.toNat_lt _
    generalize s.getD j 0 = c at hge hup hset hskip hci
    refine ⟨by omega, optG (by omega) ?_⟩
    rw [hge]
    simp only [List.getElem?_cons_zero, ↓gos, gop, Nat.reduceBEq, Nat.reduceAdd, Nat.reduceSub, Nat.reduceLeDiff, Nat.reduceMul, Int.reduceLE, Int.reduceLT, Int.reduceNe, Int.reduceToNat]
    refine ⟨fun c1 => ⟨by omega, optG (by omega) ?_⟩, fun c1 => ?_⟩
    · rw [hge]
      simp only [List.getElem?_cons_zero, ↓gos, gop, Nat.reduceBEq, Nat.reduceAdd, Nat.reduceSub, Nat.reduceLeDiff, Nat.reduceMul, Int.reduceLE, Int.reduceLT, Int.reduceNe, Int.reduceToNat]
      refine ⟨fun c2 => ⟨by omega, optG (by omega) ?_⟩, fun c2 => ?_⟩
      · rw [hge]
        simp only [List.getElem?_cons_zero, ↓gos, gop, Nat.reduceBEq, Nat.reduceAdd, Nat.reduceSub, Nat.reduceLeDiff, Nat.reduceMul, Int.reduceLE, Int.reduceLT, Int.reduceNe, Int.reduceToNat]
        intro w hw
        have hw : w = ((Lib.upperB c).toNat : Int) := by
          rw [hw, hup, if_pos ⟨by omega, by omega⟩]
          rw [Go.Ai.wrap_u8 (by omega) (by omega)]; omega
        subst hw
        refine ⟨by omega, optG (by omega) ⟨by simp, fun v hv => ?_⟩⟩
        rw [wrap_i64 (by omega) (by omega)] at hv
        subst hv
        simp only [List.drop_succ_cons, List.drop_zero]
        rw [byv_set _ j (Lib.upperB c) _ rfl, hset]
        exact rnd_s (j + 1) rfl (by simp) ⟨rfl, rfl, rfl, trivial⟩ (by omega) (by omega)
      · intro v hv
        rw [wrap_i64 (by omega) (by omega)] at hv
        subst hv
        rw [hskip (UInt8.toNat_inj.1 (by rw [hup, if_neg (by omega)]))]
        exact rnd_s (j + 1) rfl (by simp) ⟨rfl, rfl, rfl, trivial⟩ (by omega) (by omega)
    · intro v hv
      rw [wrap_i64 (by omega) (by omega)] at hv
      subst hv
      rw [hskip (UInt8.toNat_inj.1 (by rw [hup, if_neg (by omega)]))]
      exact rnd_s (j + 1) rfl (by simp) ⟨rfl, rfl, rfl, trivial⟩ (by omega) (by omega)
  · have hje : j = s.length := by omega
    subst hje
    have hun : upT s s.length = up s := by simp [upT]
    rw [hun]
    have hul2 : (up s).length = s.length := by simp [up]
    refine .inr ⟨_, rfl, by simp [byv, up], up s, by rw [List.take_of_length_le (by simp [byv, up])]; rfl, ?_⟩
    exact ends rfl
def isL (c : UInt8) : Bool := decide ((65 ≤ c.toNat ∧ c.toNat ≤ 90) ∨ (97 ≤ c.toNat ∧ c.toNat ≤ 122))
theorem letter99 (c : UInt8) : DRet 99 [.int .u8 c.toNat] (.bool (isL c)) := by
  refine acalls_go c99 (by simp [f99]) ?_
  simp only [f99, ↓gos, gop, Nat.reduceBEq, Nat.reduceAdd, Nat.reduceSub, Nat.reduceLeDiff, Nat.reduceMul, Int.reduceLE, Int.reduceLT, Int.reduceNe, Int.reduceToNat]
  refine ⟨fun a => ⟨fun b => endb ?_, fun b => ⟨fun c => ⟨fun d => endb ?_, fun d => endb ?_⟩, fun c => endb ?_⟩⟩, fun a => ⟨fun c => ⟨fun d => endb ?_, fun d => endb ?_⟩, fun c => endb ?_⟩⟩ <;> (unfold isL; symm; first | (rw [decide_eq_true_iff]; omega) | (rw [decide_eq_false_iff_not]; omega))
theorem sgn_num (c : UInt8) : isS c = (isL c || (decide (48 ≤ c.toNat) && decide (c.toNat ≤ 57)) || decide (c.toNat = 45)) := u8_all (P := fun c => isS c = (isL c || (decide (48 ≤ c.toNat) && decide (c.toNat ≤ 57)) || decide (c.toNat = 45))) (by decide +kernel) c
theorem word_at (s : List UInt8) (j : Nat) (h : j < s.length) : wordL (s.drop j) = if isS (s.getD j 0) = true then s.getD j 0 :: wordL (s.drop (j + 1)) else [] := by
  have e : s.drop j = s.getD j 0 :: s.drop (j + 1) := by
    rw [List.drop_eq_getElem_cons h, List.getD_eq_getElem?_getD, List.getElem?_eq_getElem h]; rfl
  rw [e]
  unfold wordL
  rw [List.takeWhile_cons]
theorem wordat73 (s : List UInt8) (i : Nat) (hi : i ≤ s.length) (hs : s.length < 1000000000) : DRet 73 [.str s, .int .i64 i] (.int .i64 ((i + (wordL (s.drop i)).length : Nat) : Int)) := by
  refine acalls_go c73 (by simp [f73]) ?_
  simp only [f73, ↓gos, gop, Nat.reduceBEq, Nat.reduceAdd, Nat.reduceSub, Nat.reduceLeDiff, Nat.reduceMul, Int.reduceLE, Int.reduceLT, Int.reduceNe, Int.reduceToNat]
  refine goN_lp (γ := Nat) (fun j => [(1, .int .i64 j), (0, .str s)]) (fun _ => []) (fun j => j ≤ s.length ∧ j + (wordL (s.drop j)).length = i + (wordL (s.drop i)).length) (fun j => s.length - j) i
    (wks rfl (by simp) ⟨rfl, rfl, trivial⟩) ⟨hi, rfl⟩ fun j hj => ?_
  obtain ⟨h1, h2⟩ := hj
  simp only [f73l0, ↓gos, gop, Nat.reduceBEq, Nat.reduceAdd, Nat.reduceSub, Nat.reduceLeDiff, Nat.reduceMul, Int.reduceLE, Int.reduceLT, Int.reduceNe, Int.reduceToNat]
  have hend : isS (s.getD j 0) = false ∨ ¬ j < s.length → (j : Int) = ((i + (wordL (s.drop i)).length : Nat) : Int) := by
    rintro (h | h)
    · by_cases hj : j < s.length
      · rw [word_at s j hj, h, if_neg (by simp)] at h2
        simp at h2; omega
      · rw [List.drop_eq_nil_of_le (by omega)] at h2
        simp [wordL] at h2; simp [wordL]; omega
    · rw [List.drop_eq_nil_of_le (by omega)] at h2
      simp [wordL] at h2; simp [wordL]; omega
  have hstep : j < s.length → isS (s.getD j 0) = true → j + 1 + (wordL (s.drop (j + 1))).length = i + (wordL (s.drop i)).length := fun hj h => by
    rw [word_at s j hj, if_pos h, List.length_cons] at h2
    omega
  refine ⟨fun a1 => ⟨by omega, ?_⟩, fun a1 => ?_⟩
  · have hbt : bt s j = ((s.getD j 0).toNat : Int) := rfl
    have hnum := sgn_num (s.getD j 0)
    have hstep := hstep (by omega)
    generalize s.getD j 0 = c at hbt hnum hend hstep
    rw [hbt]
    refine call_ret (letter99 c) rfl rfl ?_
    have rnd : isS c = true → ∀ (L : List (Nat × DV)) (v : Int), v = IntKind.i64.wrap (j + 1) → slots L 1 = .int .i64 v → slots L 0 = .str s → rnd 0 (fun j : Nat => [(1, DV.int .i64 j), (0, DV.str s)]) (fun x => [])
        (fun j => j ≤ s.length ∧ j + (wordL (s.drop j)).length = i + (wordL (s.drop i)).length) (fun j => s.length - j) (s.length - j) (sta L []) := fun hS L v hv e1 e0 => by
      rw [wrap_i64 (by omega) (by omega)] at hv
      have hv : v = ((j + 1 : Nat) : Int) := by omega
      subst hv
      exact rnd_s (j + 1) rfl (by simp) ⟨e1, e0, trivial⟩ ⟨by omega, hstep hS⟩ (by omega)
    cases hL : isL c
    · simp only [↓gos, gop, Nat.reduceBEq, Nat.reduceAdd, Nat.reduceSub, Nat.reduceLeDiff, Nat.reduceMul, Int.reduceLE, Int.reduceLT, Int.reduceNe, Int.reduceToNat]
      rw [hL] at hnum
      simp only [Bool.false_or] at hnum
      refine ⟨by omega, fun b1 => ⟨by omega, fun b2 v hv => ?_, fun b2 => ⟨by omega, fun b3 v hv => ?_, fun b3 => ?_⟩⟩, fun b1 => ⟨by omega, fun b3 v hv => ?_, fun b3 => ?_⟩⟩
      · exact rnd (by rw [hnum, decide_eq_true (by omega), decide_eq_true (by omega)]; rfl) _ v hv rfl rfl
      · exact rnd (by rw [hnum, decide_eq_true (p := c.toNat = 45) (by omega), Bool.or_true]) _ v hv rfl rfl
      · exact endi (hend (.inl (by rw [hnum, decide_eq_true (p := 48 ≤ c.toNat) (by omega), decide_eq_false (p := c.toNat ≤ 57) (by omega), decide_eq_false (p := c.toNat = 45) (by omega)]; rfl)))
      · exact rnd (by rw [hnum, decide_eq_true (p := c.toNat = 45) (by omega), Bool.or_true]) _ v hv rfl rfl
      · exact endi (hend (.inl (by rw [hnum, decide_eq_false (p := 48 ≤ c.toNat) (by omega), decide_eq_false (p := c.toNat = 45) (by omega)]; rfl)))
    · simp only [↓gos, gop, Nat.reduceBEq, Nat.reduceAdd, Nat.reduceSub, Nat.reduceLeDiff, Nat.reduceMul, Int.reduceLE, Int.reduceLT, Int.reduceNe, Int.reduceToNat]
      intro v hv
      exact rnd (by rw [hnum, hL]; rfl) _ v hv rfl rfl
  · exact endi (hend (.inr (by omega)))
end Go.Proofs.Ut

/- The document's parameter. -/
namespace Go.Proofs.Ut
open Go.Ai Go.Shelf Go.RowKit
set_option linter.unusedSimpArgs false
set_option linter.unusedVariables false
set_option maxHeartbeats 1000000
set_option maxRecDepth 100000
def f74t : ACode := tl (tl (tl (tl (tl (tl (tl f74.body))))))
theorem f74e : f74.body = .seq (hd f74.body) (.seq (hd (tl f74.body)) (.seq (hd (tl (tl f74.body))) (.seq (hd (tl (tl (tl f74.body)))) (.seq (hd (tl (tl (tl (tl f74.body))))) (.seq (hd (tl (tl (tl (tl (tl f74.body)))))) (.seq (hd (tl (tl (tl (tl (tl (tl f74.body))))))) f74t)))))) := rfl
def isA (c : UInt8) : Bool := A4.contains c
theorem a4_num (c : UInt8) : isA c = (decide (c.toNat = 34) || decide (c.toNat = 59) || decide (c.toNat = 58) || decide (c.toNat = 44)) := u8_all (P := fun c => isA c = (decide (c.toNat = 34) || decide (c.toNat = 59) || decide (c.toNat = 58) || decide (c.toNat = 44))) (by decide +kernel) c
theorem span_stop (p : UInt8 → Bool) (a b : List UInt8) (ha : ∀ x ∈ a, p x = true) (hb : ∀ x, b.head? = some x → p x = false) : (a ++ b).takeWhile p = a ∧ (a ++ b).dropWhile p = b := by
  induction a with
  | nil =>
    cases b with
    | nil => exact ⟨rfl, rfl⟩
    | cons x b => have := hb x rfl; simp [this]
  | cons x a ih =>
    have hx := ha x (by simp)
    have := ih fun y hy => ha y (by simp [hy])
    simp only [List.cons_append, List.takeWhile_cons, List.dropWhile_cons, hx, if_true]
    exact ⟨by rw [this.1], this.2⟩
theorem drop_two (s : List UInt8) (f j : Nat) (h1 : f ≤ j) : s.drop f = (s.drop f).take (j - f) ++ s.drop j := by
  have := (List.take_append_drop (j - f) (s.drop f)).symm
  rw [List.drop_drop, show f + (j - f) = j by omega] at this
  exact this
theorem drop_at (s : List UInt8) (j : Nat) (h : j < s.length) : s.drop j = s.getD j 0 :: s.drop (j + 1) := by
  rw [List.drop_eq_getElem_cons h, List.getD_eq_getElem?_getD, List.getElem?_eq_getElem h]; rfl
theorem value_tail (s n : List UInt8) (f : Nat) (hf : f ≤ s.length) (hs : s.length < 1000000000) (L : List (Nat × DV)) (h0 : slots L 0 = .str s) (h7 : slots L 7 = .int .i64 f) (h9 : slots L 9 = .int .i64 f) (h4 : slots L 4 = .ptr 0 0) (h8 : slots L 8 = .ptr 1 0) :
    goN ED 0 (fin 0 f74.res fun h d => h = [] ∧ d = .tup [.agg [.str n, .str ((s.drop f).takeWhile fun c => !A4.contains c)], .int .i64 ((s.length - ((s.drop f).dropWhile fun c => !A4.contains c).length : Nat) : Int), .bool true]) [] f74t L [.box [.str [], .str []], .box [.str n, .str []]] := by
  simp only [f74t, f74, tl_seq, ↓gos, gop, Nat.reduceBEq, Nat.reduceAdd, Nat.reduceSub, Nat.reduceLeDiff, Nat.reduceMul, Int.reduceLE, Int.reduceLT, Int.reduceNe, Int.reduceToNat]
  refine goN_lp (γ := Nat) (fun j => [(7, .int .i64 j), (0, .str s), (9, .int .i64 f), (4, .ptr 0 0), (8, .ptr 1 0)]) (fun j => [.box [.str [], .str []], .box [.str n, .str []]]) (fun j => f ≤ j ∧ j ≤ s.length ∧ ∀ x ∈ (s.drop f).take (j - f), isA x = false) (fun j => s.length - j) f
    (wks rfl (by simp) ⟨h7, h0, h9, h4, h8, trivial⟩) ⟨by omega, hf, by rw [Nat.sub_self]; simp⟩ fun j hj => ?_
  obtain ⟨g1, g2, g3⟩ := hj
  simp only [f74l1, ↓gos, gop, Nat.reduceBEq, Nat.reduceAdd, Nat.reduceSub, Nat.reduceLeDiff, Nat.reduceMul, Int.reduceLE, Int.reduceLT, Int.reduceNe, Int.reduceToNat]
  have hsp : (∀ x, (s.drop j).head? = some x → isA x = true) → (s.drop f).takeWhile (fun c => !A4.contains c) = (s.drop f).take (j - f) ∧ (s.drop f).dropWhile (fun c => !A4.contains c) = s.drop j := fun h => by
    have e := drop_two s f j g1
    have := span_stop (fun c => !A4.contains c) ((s.drop f).take (j - f)) (s.drop j) (fun x hx => by have := g3 x hx; unfold isA at this; rw [this]; rfl) (fun x hx => by have := h x hx; unfold isA at this; rw [this]; rfl)
    rw [← e] at this
    exact this
  have hend : (∀ x, (s.drop j).head? = some x → isA x = true) → ∀ h, finE 0 (fun h d => h = [] ∧ d = .tup [.agg [.str n, .str ((s.drop f).takeWhile fun c => !A4.contains c)], .int .i64 ((s.length - ((s.drop f).dropWhile fun c => !A4.contains c).length : Nat) : Int), .bool true])
      (some [.agg [.str n, .str ((s.drop f).take (j - f))], .int .i64 j, .bool true]) h := fun hx h => by
    obtain ⟨e1, e2⟩ := hsp hx
    rw [e1, e2, List.length_drop, show s.length - (s.length - j) = j by omega]
    exact finE_closed rfl ⟨rfl, rfl⟩
  have hat : j < s.length → isA (s.getD j 0) = true → ∀ x, (s.drop j).head? = some x → isA x = true := fun h hA x hx => by
    rw [drop_at s j h, List.head?_cons] at hx
    injection hx with hx
    rw [← hx]; exact hA
  have hbt : bt s j = ((s.getD j 0).toNat : Int) := rfl
  have hnum := a4_num (s.getD j 0)
  have hmo : j < s.length → (s.drop f).take (j + 1 - f) = (s.drop f).take (j - f) ++ [s.getD j 0] := take_more s f j g1
  generalize s.getD j 0 = c at hat hbt hnum hmo
  rw [hbt]
  refine ⟨fun a1 => ⟨by omega, fun a2 => ⟨by omega, fun a3 => ⟨by omega, fun a4 => ⟨by omega, fun a5 v hv => ?_, fun a5 => ⟨by omega, by omega, hend (hat (by omega) ?_) _⟩⟩, fun a4 => ⟨by omega, by omega, hend (hat (by omega) ?_) _⟩⟩, fun a3 => ⟨by omega, by omega, hend (hat (by omega) ?_) _⟩⟩, fun a2 => ⟨by omega, by omega, hend (hat (by omega) ?_) _⟩⟩, fun a1 => ⟨by omega, by omega, hend (fun x hx => ?_) _⟩⟩
  · rw [wrap_i64 (by omega) (by omega)] at hv
    have hv : v = ((j + 1 : Nat) : Int) := by omega
    subst hv
    refine rnd_s (j + 1) rfl (by simp) ⟨rfl, rfl, rfl, rfl, rfl, trivial⟩ ⟨by omega, by omega, fun x hx => ?_⟩ (by omega)
    rw [hmo (by omega)] at hx
    rcases List.mem_append.1 hx with hx | hx
    · exact g3 x hx
    · rw [List.mem_singleton.1 hx, hnum, decide_eq_false (p := c.toNat = 34) (by omega), decide_eq_false (p := c.toNat = 59) (by omega), decide_eq_false (p := c.toNat = 58) (by omega), decide_eq_false (p := c.toNat = 44) (by omega)]; rfl
  · rw [hnum, decide_eq_true (p := c.toNat = 44) (by omega), Bool.or_true]
  · rw [hnum, decide_eq_true (p := c.toNat = 58) (by omega), Bool.or_true, Bool.true_or]
  · rw [hnum, decide_eq_true (p := c.toNat = 59) (by omega), Bool.or_true, Bool.true_or, Bool.true_or]
  · rw [hnum, decide_eq_true (p := c.toNat = 34) (by omega), Bool.true_or, Bool.true_or, Bool.true_or]
  · rw [List.drop_eq_nil_of_le (by omega)] at hx; cases hx
theorem param_main (t t2 : List UInt8) (h0 : wordL t ≠ []) (h : restL t = 61 :: t2) : paramL t = ((up (wordL t), (valueL t2).1), (valueL t2).2) := by
  have hu : up (wordL t) ≠ [] := fun e => h0 (List.map_eq_nil_iff.1 e)
  unfold paramL
  rw [if_neg hu, h]
  simp
theorem param_no (t : List UInt8) (h : wordL t = [] ∨ ∀ t2, restL t ≠ 61 :: t2) : (paramL t).2.2 = false := by
  unfold paramL
  by_cases hu : up (wordL t) = []
  · rw [if_pos hu]
  · rw [if_neg hu]
    rcases h with h | h
    · exact absurd (by rw [h]; rfl) hu
    · cases hr : restL t with
      | nil => rfl
      | cons x t2 =>
        simp only
        rw [if_neg (fun e => h t2 (by rw [hr, e]))]
def refP (s : List UInt8) (i : Nat) : DV :=
  if (paramL (s.drop i)).2.2 = true then .tup [.agg [.str (paramL (s.drop i)).1.1, .str (paramL (s.drop i)).1.2], .int .i64 ((s.length - (paramL (s.drop i)).2.1.length : Nat) : Int), .bool true] else .tup [.agg [.str [], .str []], .int .i64 0, .bool false]
theorem refP_no {s : List UInt8} {i : Nat} (h : (paramL (s.drop i)).2.2 = false) : refP s i = .tup [.agg [.str [], .str []], .int .i64 0, .bool false] := by
  unfold refP; rw [h, if_neg (by simp)]
theorem value_plain (t : List UInt8) (h : ∀ x, t.head? = some x → x ≠ 34) : valueL t = (t.takeWhile (fun c => !A4.contains c), t.dropWhile (fun c => !A4.contains c), true) := by
  unfold valueL
  cases t with
  | nil => rfl
  | cons x t => simp only; rw [if_neg (h x rfl)]
theorem cut_no (c : UInt8) : ∀ s : List UInt8, c ∉ s → (cut c s).2.2 = false
  | [], _ => rfl
  | x :: s, h => by
    rw [cut, if_neg (fun e => h (by simp [e]))]
    exact cut_no c s fun q => h (by simp [q])
theorem param74 (s : List UInt8) (i : Nat) (hi : i ≤ s.length) (hs : s.length < 1000000000) : DRet 74 [.str s, .int .i64 i] (refP s i) := by
  refine acalls_go c74 (by simp [f74]) ?_
  rw [f74e]
  simp only [f74, hd_seq, tl_seq, ↓gos, gop, Nat.reduceBEq, Nat.reduceAdd, Nat.reduceSub, Nat.reduceLeDiff, Nat.reduceMul, Int.reduceLE, Int.reduceLT, Int.reduceNe, Int.reduceToNat]
  refine call_ret (wordat73 s i hi hs) rfl rfl ?_
  simp only [↓gos, gop, Nat.reduceBEq, Nat.reduceAdd, Nat.reduceSub, Nat.reduceLeDiff, Nat.reduceMul, Int.reduceLE, Int.reduceLT, Int.reduceNe, Int.reduceToNat]
  have hwr := word_rest (s.drop i)
  have hlen := congrArg List.length hwr
  rw [List.length_append, List.length_drop] at hlen
  have hrest : restL (s.drop i) = s.drop (i + (wordL (s.drop i)).length) := by
    have := congrArg (List.drop (wordL (s.drop i)).length) hwr
    rw [List.drop_left, List.drop_drop] at this
    exact this
  have hword : (s.drop i).take (i + (wordL (s.drop i)).length - i) = wordL (s.drop i) := by
    have := congrArg (List.take (wordL (s.drop i)).length) hwr
    rw [List.take_left] at this
    rw [Nat.add_sub_cancel_left]; exact this.symm
  have hno := param_no (s.drop i)
  have hyes := param_main (s.drop i)
  have hrl : (restL (s.drop i)).length = s.length - (i + (wordL (s.drop i)).length) := by rw [hrest, List.length_drop]
  have hsub : (up (wordL (s.drop i))).length = (wordL (s.drop i)).length := by simp [up]
  rw [hword]
  have hfal : ((paramL (s.drop i)).2.2 = false) → ∀ h, finE 0 (fun h d => h = [] ∧ d = refP s i) (some [.agg [.str [], .str []], .int .i64 0, .bool false]) h := fun h h' => by
    rw [refP_no h]
    exact finE_closed rfl ⟨rfl, rfl⟩
  unfold refP at *
  generalize restL (s.drop i) = R at hno hyes hrest hrl hlen hwr
  generalize wordL (s.drop i) = w at *
  refine ⟨fun a1 => hfal (hno (.inl (List.eq_nil_of_length_eq_zero (by omega)))) _, fun a1 => ⟨fun a2 => hfal (hno (.inr fun t2 h => ?_)) _, fun a2 => ⟨by omega, fun a3 => hfal (hno (.inr fun t2 h => ?_)) _, fun a3 => ⟨by omega, by omega, ?_⟩⟩⟩⟩
  · rw [h] at hrl; simp at hrl; omega
  · have e := drop_at s (i + w.length) (by omega)
    rw [← hrest, h] at e
    injection e with e _
    exact a3 (by show ((s.getD (i + w.length) 0).toNat : Int) = 61; rw [← e]; rfl)
  · have hw0 : w ≠ [] := fun e => a1 (by rw [e]; simp)
    have h61 : s.getD (i + w.length) 0 = 61 := UInt8.toNat_inj.1 (by have : ((s.getD (i + w.length) 0).toNat : Int) = 61 := a3; show _ = 61; omega)
    have e := drop_at s (i + w.length) (by omega)
    rw [← hrest, h61] at e
    have hP := hyes _ hw0 e
    rw [hP]
    refine call_ret (upper46 w (by omega)) rfl rfl ?_
    simp only [↓gos, gop, Nat.reduceBEq, Nat.reduceAdd, Nat.reduceSub, Nat.reduceLeDiff, Nat.reduceMul, Int.reduceLE, Int.reduceLT, Int.reduceNe, Int.reduceToNat]
    generalize hk : i + w.length + 1 = f at hP
    have htail := value_tail s (up w) f (by omega) hs
    have hfin : (∀ x, (s.drop f).head? = some x → x ≠ 34) → (if (valueL (s.drop f)).2.2 = true then DV.tup [.agg [.str (up w), .str (valueL (s.drop f)).1], .int .i64 ((s.length - (valueL (s.drop f)).2.1.length : Nat) : Int), .bool true] else .tup [.agg [.str [], .str []], .int .i64 0, .bool false])
        = .tup [.agg [.str (up w), .str ((s.drop f).takeWhile fun c => !A4.contains c)], .int .i64 ((s.length - ((s.drop f).dropWhile fun c => !A4.contains c).length : Nat) : Int), .bool true] := fun h => by
      rw [value_plain _ h]; simp only [if_true]
    intro v hv
    rw [wrap_i64 (by omega) (by omega)] at hv
    have hv : v = (f : Int) := by omega
    subst hv
    rw [Int.toNat_natCast]
    refine ⟨fun b1 => ⟨by omega, by omega, fun b2 v hv => ?_, fun b2 => ?_⟩, fun b1 => ?_⟩
    · rw [wrap_i64 (by omega) (by omega)] at hv
      have hv : v = ((f + 1 : Nat) : Int) := by omega
      subst hv
      have h34 : s.getD f 0 = 34 := UInt8.toNat_inj.1 (by have : ((s.getD f 0).toNat : Int) = 34 := b2; show _ = 34; omega)
      have hdf := drop_at s f (by omega)
      rw [h34] at hdf
      have hvl : valueL (s.drop f) = cut 34 (s.drop (f + 1)) := by
        rw [hdf]; unfold valueL; simp
      rw [hvl]
      refine goN_lp (γ := Nat) (fun j => [(7, .int .i64 j), (0, .str s), (9, .int .i64 ((f + 1 : Nat) : Int)), (4, .ptr 0 0), (8, .ptr 1 0)]) (fun j => [.box [.str [], .str []], .box [.str (up w), .str []]]) (fun j => f + 1 ≤ j ∧ j ≤ s.length ∧ 34 ∉ (s.drop (f + 1)).take (j - (f + 1))) (fun j => s.length - j) (f + 1)
        (wks rfl (by simp) ⟨rfl, rfl, rfl, rfl, rfl, trivial⟩) ⟨by omega, by omega, by rw [Nat.sub_self]; simp⟩ fun j hj => ?_
      obtain ⟨g1, g2, g3⟩ := hj
      simp only [f74l0, ↓gos, gop, Nat.reduceBEq, Nat.reduceAdd, Nat.reduceSub, Nat.reduceLeDiff, Nat.reduceMul, Int.reduceLE, Int.reduceLT, Int.reduceNe, Int.reduceToNat]
      have hbt : bt s j = ((s.getD j 0).toNat : Int) := rfl
      have hmo : j < s.length → (s.drop (f + 1)).take (j + 1 - (f + 1)) = (s.drop (f + 1)).take (j - (f + 1)) ++ [s.getD j 0] := take_more s (f + 1) j g1
      have htw := drop_two s (f + 1) j g1
      have hdj := drop_at s j
      generalize s.getD j 0 = c at hbt hmo hdj
      rw [hbt]
      refine ⟨fun c1 => ⟨by omega, fun c2 v hv => ?_, fun c2 => ⟨fun q => absurd q (by omega), fun _ => ⟨by omega, by omega, fun v hv => ?_⟩⟩⟩, fun c1 => ⟨fun _ => ?_, fun q => absurd q (by omega)⟩⟩
      · rw [wrap_i64 (by omega) (by omega)] at hv
        have hv : v = ((j + 1 : Nat) : Int) := by omega
        subst hv
        refine rnd_s (j + 1) rfl (by simp) ⟨rfl, rfl, rfl, rfl, rfl, trivial⟩ ⟨by omega, by omega, fun hx => ?_⟩ (by omega)
        rw [hmo (by omega)] at hx
        rcases List.mem_append.1 hx with hx | hx
        · exact g3 hx
        · exact c2 (by rw [← List.mem_singleton.1 hx]; rfl)
      · rw [wrap_i64 (by omega) (by omega)] at hv
        have hv : v = ((j + 1 : Nat) : Int) := by omega
        subst hv
        have hc : c = 34 := UInt8.toNat_inj.1 (by show _ = 34; omega)
        rw [hdj (by omega), hc] at htw
        generalize (s.drop (f + 1)).take (j - (f + 1)) = pre at htw g3
        rw [htw, cut_app 34 _ _ g3]
        simp only [if_true]
        rw [List.length_drop, show s.length - (s.length - (j + 1)) = j + 1 by omega]
        exact finE_closed rfl ⟨rfl, rfl⟩
      · have : j = s.length := by omega
        subst this
        rw [List.drop_length, List.append_nil] at htw
        rw [cut_no 34 _ (htw ▸ g3), if_neg (by simp)]
        exact finE_closed rfl ⟨rfl, rfl⟩
    · refine (hfin ?_) ▸ htail _ rfl rfl rfl rfl rfl
      intro x hx e
      rw [drop_at s f (by omega), List.head?_cons, e] at hx
      injection hx with hx
      exact b2 (by show ((s.getD f 0).toNat : Int) = 34; rw [hx]; rfl)
    · refine (hfin ?_) ▸ htail _ rfl rfl rfl rfl rfl
      intro x hx
      rw [List.drop_eq_nil_of_le (by omega)] at hx; cases hx
end Go.Proofs.Ut

/- The document's property of a line. -/
namespace Go.Proofs.Ut
open Go.Ai Go.Shelf Go.RowKit
set_option linter.unusedSimpArgs false
set_option linter.unusedVariables false
set_option maxHeartbeats 1000000
set_option maxRecDepth 100000
def onlyP (x : PR × Bool) : PR × Bool := if x.2 = true then x else (⟨[], [], [], []⟩, false)
def f47t : ACode := tl (tl (tl (tl f47.body)))
theorem f47e : f47.body = .seq (hd f47.body) (.seq (hd (tl f47.body)) (.seq (hd (tl (tl f47.body))) (.seq (hd (tl (tl (tl f47.body)))) f47t))) := rfl
theorem cut_suffix (c : UInt8) : ∀ t : List UInt8, (cut c t).2.1 <:+ t
  | [] => List.suffix_refl _
  | x :: t => by
    rw [cut]
    split
    · exact List.suffix_cons x t
    · exact (cut_suffix c t).trans (List.suffix_cons x t)
theorem value_suffix (t : List UInt8) : (valueL t).2.1 <:+ t := by
  unfold valueL
  cases t with
  | nil => exact List.suffix_refl _
  | cons x t =>
    simp only
    split
    · exact (cut_suffix 34 t).trans (List.suffix_cons x t)
    · exact List.dropWhile_suffix _
theorem rest_suffix (t : List UInt8) : restL t <:+ t := List.dropWhile_suffix _
theorem param_suffix {t : List UInt8} (h : (paramL t).2.2 = true) : (paramL t).2.1 <:+ t := by
  obtain ⟨_, t2, h1, h2, _⟩ := param_ok h
  rw [h2]
  have := rest_suffix t
  rw [h1] at this
  exact ((value_suffix t2).trans (List.suffix_cons 61 t2)).trans this
theorem drop_suffix {r s : List UInt8} (h : r <:+ s) : s.drop (s.length - r.length) = r := (List.suffix_iff_eq_drop.1 h).symm
theorem end_Pk {k : Nat} {h : List AObj} {g n v : List UInt8} {ps : List (List UInt8 × List UInt8)} {b : Bool} {x : PR × Bool} (hi : h[k]? = some (.arr 2 (ps.map av))) (hx : x = (⟨g, n, ps, v⟩, b)) :
    finE 0 (postP x) (some [.agg [.str g, .str n, .osl 2 k 0 ps.length none, .str v], .bool b]) h := by
  subst hx
  have hlt : k < h.length := (List.getElem?_eq_some_iff.1 hi).1
  have hg : h.getD k .dead = .arr 2 (ps.map av) := by rw [List.getD_eq_getElem?_getD, hi]; rfl
  refine end_h [k] (by simp) (by simp) (fun i h => by omega) (fun l hl => by simp at hl; omega) (by simp [rvd, DV.inL, DV.inL.inAll]) (fun l hl => ?_) rfl rfl ⟨?_, ?_⟩
  · simp only [List.mem_singleton] at hl
    subst hl; rw [hg]; rfl
  · simp only [List.map_cons, List.map_nil, hg, renO]
  · simp [rvd, DV.ren, DV.ren.renAll]
theorem parse_tail (L : List (Nat × DV)) (s g n : List UInt8) (i : Nat) (hi : i ≤ s.length) (hs : s.length < 1000000000) (h0 : slots L 0 = .str s) (h2 : slots L 2 = .ptr 1 0) (h4 : slots L 4 = .ptr 3 0) (h5 : slots L 5 = .int .i64 i) :
    goN ED 0 (fin 0 f47.res (postP (onlyP (tailP g n (s.drop i))))) [] f47t L [.arr 2 [], .box [.str [], .str [], .osl 2 0 0 0 none, .str []], .arr 2 [], .box [.str g, .str (up n), .osl 2 4 0 0 none, .str []], .arr 2 []] := by
  simp only [f47t, f47, tl_seq, h0, h2, h4, h5, ↓gos, gop, Nat.reduceBEq, Nat.reduceAdd, Nat.reduceSub, Nat.reduceLeDiff, Nat.reduceMul, Int.reduceLE, Int.reduceLT, Int.reduceNe, Int.reduceToNat]
  have hnob : ∀ x : PR × Bool, x.2 = false → onlyP x = (⟨[], [], [], []⟩, false) := fun x h => by unfold onlyP; rw [h, if_neg (by simp)]
  refine ⟨fun he => ?_, fun hne => ?_⟩
  · refine end_Pk (ps := []) rfl (hnob _ ?_)
    unfold tailP; rw [if_pos he]
  · refine goN_lp (γ := List (List UInt8 × List UInt8) × Nat) (fun q => [(5, .int .i64 q.2), (4, .ptr 3 0), (2, .ptr 1 0), (0, .str s)]) (fun q => [.arr 2 [], .box [.str [], .str [], .osl 2 0 0 0 none, .str []], .arr 2 [], .box [.str g, .str (up n), .osl 2 4 0 q.1.length none, .str []], .arr 2 (q.1.map av)])
      (fun q => q.2 ≤ s.length ∧ parsA q.1 (s.drop q.2) = parsA [] (s.drop i) ∧ q.1.length ≤ q.2) (fun q => s.length - q.2) ([], i)
      (wks rfl (by simp) ⟨h5, h4, h2, h0, trivial⟩) ⟨hi, rfl, by simp⟩ fun q hq => ?_
    obtain ⟨acc, j⟩ := q
    obtain ⟨q1, q2, q3⟩ := hq
    simp only at q1 q2 q3
    simp only [f47l0, ↓gos, gop, Nat.reduceBEq, Nat.reduceAdd, Nat.reduceSub, Nat.reduceLeDiff, Nat.reduceMul, Int.reduceLE, Int.reduceLT, Int.reduceNe, Int.reduceToNat]
    have hno : ((parsA [] (s.drop i)).2.2 = false ∨ (lastL (parsA [] (s.drop i)).2.1).2 = false) → onlyP (tailP g n (s.drop i)) = (⟨[], [], [], []⟩, false) := fun h => by
      refine hnob _ ?_
      unfold tailP
      rw [if_neg hne]
      by_cases h1 : (parsA [] (s.drop i)).2.2 = false
      · rw [if_pos h1]
      · rw [if_neg h1]
        exact h.resolve_left h1
    have hbt : bt s j = ((s.getD j 0).toNat : Int) := rfl
    have hdj := drop_at s j
    have hdn : ¬ j < s.length → s.drop j = [] := fun h => List.drop_eq_nil_of_le (by omega)
    generalize s.getD j 0 = c at hbt hdj
    have hbad : (s.drop j).head? ≠ some 59 → (s.drop j).head? ≠ some 58 → onlyP (tailP g n (s.drop i)) = (⟨[], [], [], []⟩, false) := fun h1 h2 => by
      rw [parsA_end _ _ h1] at q2
      refine hno (.inr ?_)
      rw [← q2]
      unfold lastL
      rw [if_neg h2]
    refine ⟨fun a1 => ⟨by omega, fun c59 v hv => ?_, fun c59 => ⟨fun q => absurd q (by omega), fun _ => ⟨by omega, fun c58 => ?_, fun c58 v hv => ?_⟩⟩⟩, fun a1 => ⟨fun _ => ?_, fun q => absurd q (by omega)⟩⟩
    · have hdj := hdj (by omega)
      have hc : c = 59 := UInt8.toNat_inj.1 (by show _ = 59; omega)
      rw [wrap_i64 (by omega) (by omega)] at hv
      have hv : v = ((j + 1 : Nat) : Int) := by omega
      subst hv; subst hc
      refine call_ret (param74 s (j + 1) (by omega) hs) rfl (by unfold refP; split <;> rfl) ?_
      rw [hdj, parsA_step] at q2
      have hsf := fun h => param_suffix (t := s.drop (j + 1)) h
      have hpl := param_len (s.drop (j + 1))
      rw [List.length_drop] at hpl
      unfold refP
      generalize paramL (s.drop (j + 1)) = p at q2 hsf hpl ⊢
      obtain ⟨⟨an, avv⟩, rest, ok⟩ := p
      simp only at q2 hsf hpl ⊢
      cases ok
      · simp only [Bool.false_eq_true, if_false, ↓gos, gop, Nat.reduceBEq, Nat.reduceAdd, Nat.reduceSub, Nat.reduceLeDiff, Nat.reduceMul, Int.reduceLE, Int.reduceLT, Int.reduceNe, Int.reduceToNat]
        rw [if_neg (by simp)] at q2
        exact end_Pk (ps := []) rfl (hno (.inl (by rw [← q2])))
      · simp only [if_true, ↓gos, gop, Nat.reduceBEq, Nat.reduceAdd, Nat.reduceSub, Nat.reduceLeDiff, Nat.reduceMul, Int.reduceLE, Int.reduceLT, Int.reduceNe, Int.reduceToNat]
        rw [if_pos rfl] at q2
        have hsf := drop_suffix ((hsf rfl).trans (List.drop_suffix (j + 1) s))
        refine ⟨by omega, by omega, ?_⟩
        refine rnd_d 5 (acc ++ [(an, avv)], s.length - rest.length) ?_ (by simp) ⟨rfl, rfl, rfl, rfl, rfl, rfl, rfl, rfl, trivial⟩ ?_ ⟨by simp only; omega, by simp only; rw [hsf]; exact q2, by simp; omega⟩ (by simp only; omega)
        · simp [av]
        · simp [inO, DV.inL]
    · have hdj := hdj (by omega)
      refine end_Pk (ps := []) rfl (hbad ?_ ?_)
      · rw [hdj, List.head?_cons]; intro e; injection e with e; exact c59 (by rw [hbt, e]; rfl)
      · rw [hdj, List.head?_cons]; intro e; injection e with e; exact c58 (by rw [hbt, e]; rfl)
    · have hdj := hdj (by omega)
      have hc : c = 58 := UInt8.toNat_inj.1 (by show _ = 58; omega)
      rw [wrap_i64 (by omega) (by omega)] at hv
      have hv : v = ((j + 1 : Nat) : Int) := by omega
      subst hv; subst hc
      rw [parsA_end _ _ (by rw [hdj]; simp), hdj] at q2
      rw [Int.toNat_natCast, List.take_of_length_le (by simp)]
      refine ⟨by omega, by omega, end_Pk rfl ?_⟩
      unfold onlyP tailP
      rw [if_neg hne, ← q2]
      simp [lastL]
    · refine end_Pk (ps := []) rfl (hbad ?_ ?_) <;> (rw [hdn (by omega)]; simp)
theorem parse47 (s : List UInt8) (hs : s.length < 1000000000) : ACalls ED 47 [] [.str s] (postP (onlyP (propL s))) := by
  have hwl := word_len s
  have hrl := rest_len s
  refine acalls_go c47 (by simp [f47]) ?_
  rw [f47e]
  simp only [f47, hd_seq, tl_seq, ↓gos, gop, Nat.reduceBEq, Nat.reduceAdd, Nat.reduceSub, Nat.reduceLeDiff, Nat.reduceMul, Int.reduceLE, Int.reduceLT, Int.reduceNe, Int.reduceToNat]
  have hw := wordat73 s 0 (by omega) hs
  rw [List.drop_zero, Nat.zero_add] at hw
  refine call_ret hw rfl rfl ?_
  simp only [↓gos, gop, Nat.reduceBEq, Nat.reduceAdd, Nat.reduceSub, Nat.reduceLeDiff, Nat.reduceMul, Int.reduceLE, Int.reduceLT, Int.reduceNe, Int.reduceToNat]
  have hwr := word_rest s
  have hword : List.take (wordL s).length s = wordL s := by
    have := congrArg (List.take (wordL s).length) hwr
    rw [List.take_left] at this
    exact this.symm
  have hrest : s.drop (wordL s).length = restL s := by
    have := congrArg (List.drop (wordL s).length) hwr
    rw [List.drop_left] at this
    exact this.symm
  have hlen := congrArg List.length hwr
  rw [List.length_append] at hlen
  have hat := drop_at s (wordL s).length
  rw [hrest] at hat
  have hbt : bt s (wordL s).length = ((s.getD (wordL s).length 0).toNat : Int) := rfl
  rw [prop_tailP]
  unfold headL
  have hplain : ∀ L : List (Nat × DV), slots L 0 = .str s → slots L 2 = .ptr 1 0 → slots L 4 = .ptr 3 0 → slots L 5 = .int .i64 (wordL s).length → ¬ (wordL s ≠ [] ∧ (restL s).head? = some 46) →
      goN ED 0 (fin 0 f47.res (postP (onlyP (tailP (if wordL s ≠ [] ∧ (restL s).head? = some 46 then (wordL s, wordL (restL s).tail, restL (restL s).tail) else ([], wordL s, restL s)).1
        (if wordL s ≠ [] ∧ (restL s).head? = some 46 then (wordL s, wordL (restL s).tail, restL (restL s).tail) else ([], wordL s, restL s)).2.1
        (if wordL s ≠ [] ∧ (restL s).head? = some 46 then (wordL s, wordL (restL s).tail, restL (restL s).tail) else ([], wordL s, restL s)).2.2)))) [] f47t L
        [.arr 2 [], .box [.str [], .str [], .osl 2 0 0 0 none, .str []], .arr 2 [], .box [.str [], .str (up (wordL s)), .osl 2 4 0 0 none, .str []], .arr 2 []] := fun L e0 e2 e4 e5 hn => by
    rw [if_neg hn]
    have := parse_tail L s [] (wordL s) (wordL s).length hwl hs e0 e2 e4 e5
    rw [hrest] at this
    exact this
  rw [hword]
  generalize s.getD (wordL s).length 0 = c at hat hbt
  refine ⟨fun b1 => ⟨fun b2 => ⟨by omega, fun b3 => ⟨by omega, fun v hv => ?_⟩, fun b3 => ⟨by omega, ?_⟩⟩, fun b2 => ⟨by omega, ?_⟩⟩, fun b1 => ⟨by omega, ?_⟩⟩
  · have hc : c = 46 := UInt8.toNat_inj.1 (by show _ = 46; omega)
    have hat := hat (by omega)
    subst hc
    rw [wrap_i64 (by omega) (by omega)] at hv
    have hv : v = (((wordL s).length + 1 : Nat) : Int) := by omega
    subst hv
    refine call_ret (wordat73 s ((wordL s).length + 1) (by omega) hs) rfl rfl ?_
    simp only [↓gos, gop, Nat.reduceBEq, Nat.reduceAdd, Nat.reduceSub, Nat.reduceLeDiff, Nat.reduceMul, Int.reduceLE, Int.reduceLT, Int.reduceNe, Int.reduceToNat]
    intro v2 hv2
    rw [wrap_i64 (by omega) (by omega)] at hv2
    have hv2 : v2 = (((wordL s).length + 1 : Nat) : Int) := by omega
    subst hv2
    have hne : wordL s ≠ [] := fun e => by rw [e] at b1; simp at b1
    have hcond : wordL s ≠ [] ∧ (restL s).head? = some 46 := ⟨hne, by rw [hat]; rfl⟩
    rw [if_pos hcond]
    have htl : (restL s).tail = s.drop ((wordL s).length + 1) := by rw [hat]; rfl
    rw [htl]
    have hwr2 := word_rest (s.drop ((wordL s).length + 1))
    have hlen2 := congrArg List.length hwr2
    rw [List.length_append, List.length_drop] at hlen2
    rw [Int.toNat_natCast]
    have hw2 : (s.drop ((wordL s).length + 1)).take ((wordL s).length + 1 + (wordL (s.drop ((wordL s).length + 1))).length - ((wordL s).length + 1)) = wordL (s.drop ((wordL s).length + 1)) := by
      have := congrArg (List.take (wordL (s.drop ((wordL s).length + 1))).length) hwr2
      rw [List.take_left] at this
      rw [Nat.add_sub_cancel_left]; exact this.symm
    have hr2 : s.drop ((wordL s).length + 1 + (wordL (s.drop ((wordL s).length + 1))).length) = restL (s.drop ((wordL s).length + 1)) := by
      have := congrArg (List.drop (wordL (s.drop ((wordL s).length + 1))).length) hwr2
      rw [List.drop_left, List.drop_drop] at this
      exact this.symm
    rw [hw2]
    refine ⟨by omega, by omega, by omega, ?_⟩
    refine call_ret (upper46 _ (by omega)) rfl rfl ?_
    simp only [↓gos, gop, Nat.reduceBEq, Nat.reduceAdd, Nat.reduceSub, Nat.reduceLeDiff, Nat.reduceMul, Int.reduceLE, Int.reduceLT, Int.reduceNe, Int.reduceToNat]
    have := parse_tail
    rw [← hr2]
    exact parse_tail _ s (wordL s) (wordL (s.drop ((wordL s).length + 1))) _ (by omega) hs rfl rfl rfl rfl
  · refine call_ret (upper46 (wordL s) (by omega)) rfl rfl ?_
    simp only [↓gos, gop, Nat.reduceBEq, Nat.reduceAdd, Nat.reduceSub, Nat.reduceLeDiff, Nat.reduceMul, Int.reduceLE, Int.reduceLT, Int.reduceNe, Int.reduceToNat]
    exact hplain _ rfl rfl rfl rfl (fun q => by
      rw [hat (by omega), List.head?_cons] at q
      have := q.2; injection this with this
      exact b3 (by rw [hbt, this]; rfl))
  · refine call_ret (upper46 (wordL s) (by omega)) rfl rfl ?_
    simp only [↓gos, gop, Nat.reduceBEq, Nat.reduceAdd, Nat.reduceSub, Nat.reduceLeDiff, Nat.reduceMul, Int.reduceLE, Int.reduceLT, Int.reduceNe, Int.reduceToNat]
    exact hplain _ rfl rfl rfl rfl (fun q => by
      have : restL s = [] := List.eq_nil_of_length_eq_zero (by omega)
      rw [this] at q; simp at q)
  · refine call_ret (upper46 (wordL s) (by omega)) rfl rfl ?_
    simp only [↓gos, gop, Nat.reduceBEq, Nat.reduceAdd, Nat.reduceSub, Nat.reduceLeDiff, Nat.reduceMul, Int.reduceLE, Int.reduceLT, Int.reduceNe, Int.reduceToNat]
    exact hplain _ rfl rfl rfl rfl (fun q => q.1 (List.eq_nil_of_length_eq_zero (by omega)))
end Go.Proofs.Ut
