/- The document's Unfold. -/
import Derived.Test.YtbnmhlienklfpaaGreatDoorZFoD
set_option linter.all false
namespace Go.Proofs.Ut
open Go.Ai Go.Shelf Go.RowKit
set_option linter.unusedSimpArgs false
set_option linter.unusedVariables false
set_option maxHeartbeats 1000000
set_option maxRecDepth 100000
theorem cut_bad (b : UInt8) (t : List UInt8) (hb : b = 10 ∨ (b = 13 ∧ t.head? ≠ some 10)) : ∀ pre : List UInt8, (∀ x ∈ pre, x ≠ 13 ∧ x ≠ 10) → endB (cutE (pre ++ b :: t)).1 = true
  | [], _ => by
    rw [List.nil_append, cutE, if_neg]
    · rcases hb with rfl | ⟨rfl, _⟩ <;> rfl
    · rintro ⟨rfl, h⟩
      rcases hb with hb | ⟨_, hb⟩
      · cases hb
      · exact hb h
  | x :: pre, h => by
    rw [List.cons_append, cutE, if_neg (fun q => (h x (by simp)).1 q.1)]
    have ih := cut_bad b t hb pre fun y hy => h y (by simp [hy])
    unfold endB at ih ⊢
    rw [List.any_cons, ih, Bool.or_true]
theorem unf_bad (acc : List (List UInt8)) (b : UInt8) (pre t : List UInt8) (hb : b = 10 ∨ (b = 13 ∧ t.head? ≠ some 10)) (hp : ∀ x ∈ pre, x ≠ 13 ∧ x ≠ 10) : unfA acc (pre ++ b :: t) = none := by
  rw [unfA_step _ _ (by simp), if_pos (by rw [cut_bad b t hb pre hp]; simp)]
theorem cut_none : ∀ s : List UInt8, (∀ x ∈ s, x ≠ 13 ∧ x ≠ 10) → (cutE s).2.2 = false
  | [], _ => rfl
  | x :: s, h => by
    rw [cutE, if_neg (fun q => (h x (by simp)).1 q.1)]
    exact cut_none s fun y hy => h y (by simp [hy])
theorem unf_cutoff (acc : List (List UInt8)) (s : List UInt8) (h0 : s ≠ []) (hp : ∀ x ∈ s, x ≠ 13 ∧ x ≠ 10) : unfA acc s = none := by
  rw [unfA_step _ _ h0, if_pos (by rw [cut_none s hp]; rfl)]
theorem unf_row (acc : List (List UInt8)) (pre t : List UInt8) (hp : ∀ x ∈ pre, x ≠ 13 ∧ x ≠ 10) : unfA acc (pre ++ 13 :: 10 :: t) =
    if (moreB pre && acc.isEmpty) = true then none else if moreB pre = true then unfA (acc.dropLast ++ [acc.getLastD [] ++ pre.tail]) t else unfA (acc ++ [pre]) t := by
  have he : endB pre = false := by
    unfold endB
    rw [List.any_eq_false]
    intro x hx
    have := hp x hx
    simp [this]
  rw [unfA_step _ _ (by simp), cutE_row pre t fun x hx => (hp x hx).1, he]
  simp only [Bool.not_true, Bool.false_or]
/-- The place that is read, and what is ahead and behind. -/
theorem drop_cut (s : List UInt8) (f i : Nat) (h1 : f ≤ i) (h2 : i < s.length) : s.drop f = (s.drop f).take (i - f) ++ s.getD i 0 :: s.drop (i + 1) := by
  have e : s.drop i = s.getD i 0 :: s.drop (i + 1) := by
    rw [List.drop_eq_getElem_cons h2, List.getD_eq_getElem?_getD, List.getElem?_eq_getElem h2]; rfl
  rw [← e]
  have := (List.take_append_drop (i - f) (s.drop f)).symm
  rw [List.drop_drop, show f + (i - f) = i by omega] at this
  exact this
theorem take_more (s : List UInt8) (f i : Nat) (h1 : f ≤ i) (h2 : i < s.length) : (s.drop f).take (i + 1 - f) = (s.drop f).take (i - f) ++ [s.getD i 0] := by
  have e := drop_cut s f i h1 h2
  have hl : ((s.drop f).take (i - f)).length = i - f := by simp; omega
  rw [show i + 1 - f = (i - f) + 1 by omega]
  generalize (s.drop f).take (i - f) = p at e hl
  rw [e, List.take_append, hl, List.take_of_length_le (by omega), show i - f + 1 - (i - f) = 1 by omega]
  rfl
theorem set_last {α : Type} (y d : α) : ∀ l : List α, l ≠ [] → l.set (l.length - 1) y = l.dropLast ++ [y] ∧ l.getD (l.length - 1) d = l.getLastD d
  | [], h => absurd rfl h
  | [x], _ => ⟨rfl, rfl⟩
  | x :: z :: l, _ => by
    have ih := set_last y d (z :: l) (by simp)
    simp only [List.length_cons, Nat.add_sub_cancel] at ih ⊢
    refine ⟨by rw [List.set_cons_succ, ih.1]; rfl, ?_⟩
    rw [List.getD_cons_succ, ih.2]
    simp
theorem tail_all (pre : List UInt8) : List.take (pre.length - 1) (List.drop 1 pre) = pre.tail := by
  rw [List.take_of_length_le (by simp), List.drop_one]
theorem last_len {acc : List (List UInt8)} {f : Nat} (h : ∀ a ∈ acc, a.length ≤ f) : (acc.getLastD []).length ≤ f := by
  rw [List.getLastD_eq_getLast?]
  cases h2 : acc.getLast? with
  | none => simp
  | some a => exact h a (List.mem_of_getLast? h2)
theorem unf8 (s : List UInt8) (hs : s.length < 1000000000) : ACalls ED 8 [] [.str s] (fun h d => h = [.arr 1 ((unfoldR s).1.map sv)] ∧ d = .tup [.osl 1 0 0 (unfoldR s).1.length none, .int .i64 (unfoldR s).2]) := by
  refine acalls_go c8 (by simp [f8]) ?_
  simp only [f8, ↓gos, gop, Nat.reduceBEq, Nat.reduceAdd, Nat.reduceSub, Nat.reduceLeDiff, Nat.reduceMul, Int.reduceLE, Int.reduceLT, Int.reduceNe, Int.reduceToNat]
  unfold unfoldR
  refine ⟨fun h => ?_, fun h => ?_⟩
  · rw [if_pos (by omega)]
    exact end_rowt rfl rfl ⟨rfl, rfl⟩
  · rw [if_neg (by omega)]
    refine call_ret (rvalid17 (E := ED) rfl s (by omega)) rfl rfl ?_
    cases hv : runAt mayB s 0
    · rw [if_pos rfl]
      simp only [↓gos, gop, Nat.reduceBEq, Nat.reduceAdd, Nat.reduceSub, Nat.reduceLeDiff, Nat.reduceMul, Int.reduceLE, Int.reduceLT, Int.reduceNe, Int.reduceToNat]
      exact end_rowt rfl rfl ⟨rfl, rfl⟩
    · rw [if_neg (by simp)]
      simp only [↓gos, gop, Nat.reduceBEq, Nat.reduceAdd, Nat.reduceSub, Nat.reduceLeDiff, Nat.reduceMul, Int.reduceLE, Int.reduceLT, Int.reduceNe, Int.reduceToNat]
      refine goN_lp (γ := List (List UInt8) × Nat × Nat) (fun g => [(6, .int .i64 g.2.2), (5, .int .i64 g.2.1), (4, .osl 1 1 0 g.1.length none), (3, .int .i64 0), (2, .osl 1 0 0 0 none), (0, .str s)])
        (fun g => [.arr 1 [], .arr 1 (g.1.map sv)])
        (fun g => g.2.1 ≤ g.2.2 ∧ g.2.2 ≤ s.length ∧ (∀ x ∈ (s.drop g.2.1).take (g.2.2 - g.2.1), x ≠ 13 ∧ x ≠ 10) ∧ unfA g.1 (s.drop g.2.1) = unfA [] s ∧ g.1.length ≤ g.2.1 ∧ ∀ a ∈ g.1, a.length ≤ g.2.1) (fun g => s.length - g.2.2) ([], 0, 0)
        (wks rfl (by simp) ⟨rfl, rfl, rfl, rfl, rfl, rfl, trivial⟩) ⟨by simp, by simp, by simp, rfl, by simp, by simp⟩ fun g hg => ?_
      obtain ⟨acc, f, i⟩ := g
      obtain ⟨g1, g2, g3, g4, g5, g6⟩ := hg
      simp only at g1 g2 g3 g4 g5 g6
      simp only [f8l0, ↓gos, gop, Nat.reduceBEq, Nat.reduceAdd, Nat.reduceSub, Nat.reduceLeDiff, Nat.reduceMul, Int.reduceLE, Int.reduceLT, Int.reduceNe, Int.reduceToNat]
      refine ⟨fun a1 => ?_, fun a1 => ?_⟩
      · have hbt : bt s i = ((s.getD i 0).toNat : Int) := rfl
        have hcut := drop_cut s f i g1 (by omega)
        have hmo := take_more s f i g1 (by omega)
        have hnx : ∀ v : Int, v = IntKind.i64.wrap (i + 1) → v = ((i + 1 : Nat) : Int) := fun v hv => by
          rw [wrap_i64 (by omega) (by omega)] at hv; omega
        have hbn : bt s (i + 1) = ((s.getD (i + 1) 0).toNat : Int) := rfl
        have hpl : ((s.drop f).take (i - f)).length = i - f := by simp; omega
        have hdn : i + 1 < s.length → s.drop (i + 1) = s.getD (i + 1) 0 :: s.drop (i + 1 + 1) := fun h => by
          rw [List.drop_eq_getElem_cons h, List.getD_eq_getElem?_getD, List.getElem?_eq_getElem h]; rfl
        have hd1 : ¬ i + 1 < s.length → s.drop (i + 1) = [] := fun h => List.drop_eq_nil_of_le (by omega)
        have hc : (s.getD i 0).toNat < 256 := UInt8.toNat_lt _
        generalize s.getD i 0 = c at hbt hcut hmo hc
        generalize (s.drop f).take (i - f) = pre at g3 hcut hmo hpl ⊢
        refine ⟨by omega, fun c1 => ?_, fun c1 => ⟨by omega, fun c2 v hv => ?_, fun c2 => ⟨by omega, fun _ v hv => ?_, fun q => absurd q c2⟩⟩⟩
        · have hn : unfA [] s = none := by rw [← g4, hcut]; exact unf_bad acc c pre _ (.inl (UInt8.toNat_inj.1 (by show c.toNat = 10; omega))) g3
          rw [hn]
          exact end_rowt rfl rfl ⟨rfl, rfl⟩
        · obtain rfl := hnx v hv
          have c13 : c = 13 := UInt8.toNat_inj.1 (by show c.toNat = 13; omega)
          subst c13
          refine ⟨fun a2 => ?_, fun a2 w hw => ?_⟩
          · have hn : unfA [] s = none := by
              rw [← g4, hcut, hd1 (by omega)]; exact unf_bad acc 13 pre _ (.inr ⟨rfl, by simp⟩) g3
            rw [hn]
            exact end_rowt rfl rfl ⟨rfl, rfl⟩
          · obtain rfl := hnx w hw
            rw [Int.toNat_natCast]
            have hdn := hdn (by omega)
            generalize s.getD (i + 1) 0 = e at hbn hdn
            refine ⟨by omega, by omega, fun a3 => ?_, fun a3 => ⟨by omega, fun q => absurd c2 q, fun _ => ?_⟩⟩
            · have hn : unfA [] s = none := by
                rw [← g4, hcut, hdn]
                refine unf_bad acc 13 pre _ (.inr ⟨rfl, ?_⟩) g3
                rw [List.head?_cons]
                intro q; injection q with q; subst q; exact a3 hbn
              rw [hn]
              exact end_rowt rfl rfl ⟨rfl, rfl⟩
            · have e10 : e = 10 := UInt8.toNat_inj.1 (by show e.toNat = 10; omega)
              subst e10
              rw [hcut, hdn, unf_row acc pre _ g3] at g4
              refine ⟨by omega, by omega, fun w hw w2 hw2 => ?_⟩
              obtain rfl := hnx w hw
              rw [wrap_i64 (by omega) (by omega)] at hw2
              have hw2 : w2 = ((i + 1 + 1 : Nat) : Int) := by omega
              subst hw2
              have hml : moreB pre = (decide (pre.head? = some 32) || decide (pre.head? = some 9)) := rfl
              have hb0 : pre ≠ [] → ∃ x p, pre = x :: p := fun h => by cases pre with
                | nil => exact absurd rfl h
                | cons x p => exact ⟨x, p, rfl⟩
              refine ⟨fun b1 => ⟨by have := List.length_pos_iff.2 b1; omega, fun b2 => ⟨fun b3 => ?_, fun b3 => ?_⟩, fun b2 => ⟨by have := List.length_pos_iff.2 b1; omega, fun b4 => ⟨fun b3 => ?_, fun b3 => ?_⟩, fun b4 => ?_⟩⟩, fun b1 => ?_⟩
              · have hm : moreB pre = true := by
                  obtain ⟨x, p, rfl⟩ := hb0 b1
                  have : x = 32 := UInt8.toNat_inj.1 (by have : bt (x :: p) 0 = (x.toNat : Int) := rfl; show x.toNat = 32; omega)
                  subst this; rfl
                have ha : acc = [] := List.eq_nil_of_length_eq_zero (by omega)
                rw [hm, ha, if_pos (by rfl)] at g4
                rw [← g4]
                exact end_rowt rfl rfl ⟨rfl, rfl⟩
              · have hm : moreB pre = true := by
                  obtain ⟨x, p, rfl⟩ := hb0 b1
                  have : x = 32 := UInt8.toNat_inj.1 (by have : bt (x :: p) 0 = (x.toNat : Int) := rfl; show x.toNat = 32; omega)
                  subst this; rfl
                have hne : acc ≠ [] := fun q => by rw [q] at b3; simp at b3
                have ha : acc.isEmpty = false := by cases acc with
                  | nil => simp at b3
                  | cons => rfl
                rw [hm, ha, if_neg (by simp), if_pos rfl] at g4
                have hla := last_len g6
                have hsl := set_last (acc.getLastD [] ++ pre.tail) [] acc hne
                intro w hw w2 hw2
                rw [wrap_i64 (by omega) (by omega)] at hw hw2
                have hw : w = ((acc.length - 1 : Nat) : Int) := by omega
                have hw2 : w2 = ((acc.length - 1 : Nat) : Int) := by omega
                subst hw; subst hw2
                refine ⟨by omega, by omega, ?_⟩
                rw [Int.toNat_natCast]
                refine optP_at [] (by omega) ?_
                simp only [sv, List.getElem?_cons_zero, ↓gos, gop, Nat.reduceBEq, Nat.reduceAdd, Nat.reduceSub, Nat.reduceLeDiff, Nat.reduceMul, Int.reduceLE, Int.reduceLT, Int.reduceNe, Int.reduceToNat]
                rw [tail_all, hsl.2]
                have hp0 : 0 < pre.length := List.length_pos_iff.2 b1
                refine ⟨by omega, by rw [List.length_tail]; omega, by omega, optP_at [] (by omega) fun w3 hw3 => ?_⟩
                rw [wrap_i64 (by omega) (by omega)] at hw3
                have hw3 : w3 = ((i + 1 + 1 : Nat) : Int) := by omega
                subst hw3
                have hst : (List.map sv acc).set (acc.length - 1) [DV.str (acc.getLastD [] ++ pre.tail)] = List.map sv (acc.dropLast ++ [acc.getLastD [] ++ pre.tail]) := by
                  rw [← hsl.1, List.map_set]; rfl
                rw [hst]
                have hln : (acc.dropLast ++ [acc.getLastD [] ++ pre.tail]).length = acc.length := by
                  have := List.length_pos_iff.2 hne
                  simp; omega
                refine rnd_s (acc.dropLast ++ [acc.getLastD [] ++ pre.tail], i + 1 + 1, i + 1 + 1) rfl (by simp) ⟨rfl, rfl, by simp only [hln]; rfl, rfl, rfl, rfl, trivial⟩ ⟨by simp only; omega, by simp only; omega, by simp only; rw [Nat.sub_self]; simp, g4, by simp only [hln]; omega, fun a ha2 => ?_⟩ (by simp only; omega)
                rcases List.mem_append.1 ha2 with ha2 | ha2
                · have := g6 a (List.dropLast_subset _ ha2); simp only; omega
                · rw [List.mem_singleton.1 ha2, List.length_append, List.length_tail]; simp only; omega
              · have hm : moreB pre = true := by
                  obtain ⟨x, p, rfl⟩ := hb0 b1
                  have : x = 9 := UInt8.toNat_inj.1 (by have : bt (x :: p) 0 = (x.toNat : Int) := rfl; show x.toNat = 9; omega)
                  subst this; rfl
                have ha : acc = [] := List.eq_nil_of_length_eq_zero (by omega)
                rw [hm, ha, if_pos (by rfl)] at g4
                rw [← g4]
                exact end_rowt rfl rfl ⟨rfl, rfl⟩
              · have hm : moreB pre = true := by
                  obtain ⟨x, p, rfl⟩ := hb0 b1
                  have : x = 9 := UInt8.toNat_inj.1 (by have : bt (x :: p) 0 = (x.toNat : Int) := rfl; show x.toNat = 9; omega)
                  subst this; rfl
                have hne : acc ≠ [] := fun q => by rw [q] at b3; simp at b3
                have ha : acc.isEmpty = false := by cases acc with
                  | nil => simp at b3
                  | cons => rfl
                rw [hm, ha, if_neg (by simp), if_pos rfl] at g4
                have hla := last_len g6
                have hsl := set_last (acc.getLastD [] ++ pre.tail) [] acc hne
                intro w hw w2 hw2
                rw [wrap_i64 (by omega) (by omega)] at hw hw2
                have hw : w = ((acc.length - 1 : Nat) : Int) := by omega
                have hw2 : w2 = ((acc.length - 1 : Nat) : Int) := by omega
                subst hw; subst hw2
                refine ⟨by omega, by omega, ?_⟩
                rw [Int.toNat_natCast]
                refine optP_at [] (by omega) ?_
                simp only [sv, List.getElem?_cons_zero, ↓gos, gop, Nat.reduceBEq, Nat.reduceAdd, Nat.reduceSub, Nat.reduceLeDiff, Nat.reduceMul, Int.reduceLE, Int.reduceLT, Int.reduceNe, Int.reduceToNat]
                rw [tail_all, hsl.2]
                have hp0 : 0 < pre.length := List.length_pos_iff.2 b1
                refine ⟨by omega, by rw [List.length_tail]; omega, by omega, optP_at [] (by omega) fun w3 hw3 => ?_⟩
                rw [wrap_i64 (by omega) (by omega)] at hw3
                have hw3 : w3 = ((i + 1 + 1 : Nat) : Int) := by omega
                subst hw3
                have hst : (List.map sv acc).set (acc.length - 1) [DV.str (acc.getLastD [] ++ pre.tail)] = List.map sv (acc.dropLast ++ [acc.getLastD [] ++ pre.tail]) := by
                  rw [← hsl.1, List.map_set]; rfl
                rw [hst]
                have hln : (acc.dropLast ++ [acc.getLastD [] ++ pre.tail]).length = acc.length := by
                  have := List.length_pos_iff.2 hne
                  simp; omega
                refine rnd_s (acc.dropLast ++ [acc.getLastD [] ++ pre.tail], i + 1 + 1, i + 1 + 1) rfl (by simp) ⟨rfl, rfl, by simp only [hln]; rfl, rfl, rfl, rfl, trivial⟩ ⟨by simp only; omega, by simp only; omega, by simp only; rw [Nat.sub_self]; simp, g4, by simp only [hln]; omega, fun a ha2 => ?_⟩ (by simp only; omega)
                rcases List.mem_append.1 ha2 with ha2 | ha2
                · have := g6 a (List.dropLast_subset _ ha2); simp only; omega
                · rw [List.mem_singleton.1 ha2, List.length_append, List.length_tail]; simp only; omega
              · have hm : moreB pre = false := by
                  obtain ⟨x, p, rfl⟩ := hb0 b1
                  have hx : bt (x :: p) 0 = (x.toNat : Int) := rfl
                  unfold moreB
                  rw [List.head?_cons, decide_eq_false (fun q => by injection q with q; subst q; exact b2 hx), decide_eq_false (fun q => by injection q with q; subst q; exact b4 hx)]
                  rfl
                rw [hm] at g4
                simp only [Bool.false_and, Bool.false_eq_true, if_false] at g4
                refine ⟨by omega, by omega, fun w3 hw3 => ?_⟩
                rw [wrap_i64 (by omega) (by omega)] at hw3
                have hw3 : w3 = ((i + 1 + 1 : Nat) : Int) := by omega
                subst hw3
                refine rnd_d 2 (acc ++ [pre], i + 1 + 1, i + 1 + 1) ?_ (by simp) ⟨rfl, rfl, rfl, rfl, by simp only [List.length_append, List.length_singleton]; rfl, rfl, rfl, rfl, rfl, rfl, rfl, rfl, trivial⟩ rfl ⟨by simp only; omega, by simp only; omega, by simp only; rw [Nat.sub_self]; simp, g4, by simp only [List.length_append, List.length_singleton]; omega, fun a ha2 => ?_⟩ (by simp only; omega)
                · simp only [List.map_append, List.map_cons, List.map_nil]; rfl
                · rcases List.mem_append.1 ha2 with ha2 | ha2
                  · have := g6 a ha2; simp only; omega
                  · rw [List.mem_singleton.1 ha2]; simp only; omega
              · have hm : moreB pre = false := by rw [b1]; rfl
                rw [hm] at g4
                simp only [Bool.false_and, Bool.false_eq_true, if_false] at g4
                refine ⟨by omega, by omega, fun w3 hw3 => ?_⟩
                rw [wrap_i64 (by omega) (by omega)] at hw3
                have hw3 : w3 = ((i + 1 + 1 : Nat) : Int) := by omega
                subst hw3
                refine rnd_d 2 (acc ++ [pre], i + 1 + 1, i + 1 + 1) ?_ (by simp) ⟨rfl, rfl, rfl, rfl, by simp only [List.length_append, List.length_singleton]; rfl, rfl, rfl, rfl, rfl, rfl, rfl, rfl, trivial⟩ rfl ⟨by simp only; omega, by simp only; omega, by simp only; rw [Nat.sub_self]; simp, g4, by simp only [List.length_append, List.length_singleton]; omega, fun a ha2 => ?_⟩ (by simp only; omega)
                · simp only [List.map_append, List.map_cons, List.map_nil]; rfl
                · rcases List.mem_append.1 ha2 with ha2 | ha2
                  · have := g6 a ha2; simp only; omega
                  · rw [List.mem_singleton.1 ha2]; simp only; omega
        · obtain rfl := hnx v hv
          refine rnd_s (acc, f, i + 1) rfl (by simp) ⟨rfl, rfl, rfl, rfl, rfl, rfl, trivial⟩ ⟨by simp only; omega, by simp only; omega, ?_, g4, g5, g6⟩ (by simp only; omega)
          simp only
          rw [hmo]
          intro x hx
          rcases List.mem_append.1 hx with hx | hx
          · exact g3 x hx
          · rw [List.mem_singleton.1 hx]
            exact ⟨fun q => c2 (by rw [hbt, q]; rfl), fun q => c1 (by rw [hbt, q]; rfl)⟩
      · have : i = s.length := by omega
        subst this
        refine ⟨fun a2 => ?_, fun a2 => ?_⟩
        · have hn : unfA [] s = none := by
            rw [← g4]
            have hl : (s.drop f).length = s.length - f := by simp
            rw [List.take_of_length_le (by omega)] at g3
            exact unf_cutoff acc _ (fun q => by rw [q] at hl; simp at hl; omega) g3
          rw [hn]
          exact end_rowt rfl rfl ⟨rfl, rfl⟩
        · have : f = s.length := by omega
          subst this
          rw [List.drop_length, unfA_nil] at g4
          rw [← g4]
          exact end_rowt rfl rfl ⟨rfl, rfl⟩
end Go.Proofs.Ut
