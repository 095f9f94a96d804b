/- The document's Value, Plain and Split. -/
import Derived.Test.YtbnmhlienklfpaaGreatDoorZT
import Derived.Test.YtbnmhlienklfpaaGreatDoorZFunsB
import Derived.Test.YtbnmhlienklfpaaGreatDoorZE2
import Derived.Test.YtbnmhlienklfpaaGreatDoorZFoE
set_option linter.all false
namespace Go.Proofs.Ut
open Go.Ai
set_option maxRecDepth 100000
set_option linter.all false
theorem cut_one (s : List UInt8) (j : Nat) (h : j < s.length) : (s.drop j).take (j + 1 - j) = [s.getD j 0] := by
  rw [drop_next s j h, Nat.add_sub_cancel_left]; rfl
theorem value15 (s : List UInt8) (hs : s.length < 1000000000) : DRet 15 [.str s] (.str (valF s)) := by
  refine acalls_go c15 (by simp [f15]) ?_
  simp only [f15, ↓gos, gop, Nat.reduceBEq, Nat.reduceAdd, Nat.reduceSub, Nat.reduceLeDiff, Nat.reduceMul, Int.reduceLE, Int.reduceLT, Int.reduceNe, Int.reduceToNat]
  have hvl := valF_len s
  refine goN_lp (γ := Nat) (fun j => [(4, .int .i64 j), (3, .str (valF (s.take j))), (0, .str s)]) (fun _ => []) (fun j => j ≤ s.length) (fun j => s.length - j) 0
    (wks rfl (by decide) ⟨rfl, rfl, rfl, trivial⟩) (by omega) fun j hj => ?_
  simp only [f15l0, ↓gos, gop, Nat.reduceBEq, Nat.reduceAdd, Nat.reduceSub, Nat.reduceLeDiff, Nat.reduceMul, Int.reduceLE, Int.reduceLT, Int.reduceNe, Int.reduceToNat]
  refine ⟨fun a2 => ?_, fun a2 => ?_⟩
  · have hj : j < s.length := by omega
    have hv := value_next s j hj
    have hp := value_part s (j + 1)
    have hp0 := value_part s j
    have hb : bt s j = ((s.getD j 0).toNat : Int) := rfl
    have hone := cut_one s j hj
    have hw : IntKind.i64.wrap ((j : Int) + 1) = ((j + 1 : Nat) : Int) := by rw [wrap_i64 (by omega) (by omega)]; rfl
    have hpl := congrArg List.length hv
    rw [List.length_append] at hpl
    rcases esc_cases (s.getD j 0) with hc | ⟨n1, n2, k1, k2, k3, k4, k5⟩
    · rcases hc with hc | hc | hc | hc | hc
      all_goals
        rw [hc] at hb hv hone
        simp only [hb, a2, u92, u44, u59, u10, u13, hw, hone, forall_eq, Int.reduceEq, reduceIte, ↓gos, gop, Nat.reduceBEq, Nat.reduceAdd, Nat.reduceSub, Nat.reduceLeDiff, Nat.reduceMul, Int.reduceLE, Int.reduceLT, Int.reduceNe, Int.reduceToNat]
        repeat (refine chk_i (by first | omega | (simp only [List.length_append, List.length_cons, List.length_nil]; omega)) ?_)
        exact rnd_s (j + 1) rfl (by decide) ⟨rfl, by show DV.str _ = DV.str _; rw [hv]; simp [escB], rfl, trivial⟩ hj (by omega)
    · rw [n2] at hv
      have q1 : ¬ (((s.getD j 0).toNat : Nat) : Int) = 92 := by omega
      have q2 : ¬ (((s.getD j 0).toNat : Nat) : Int) = 44 := by omega
      have q3 : ¬ (((s.getD j 0).toNat : Nat) : Int) = 59 := by omega
      have q4 : ¬ (((s.getD j 0).toNat : Nat) : Int) = 10 := by omega
      have q5 : ¬ (((s.getD j 0).toNat : Nat) : Int) = 13 := by omega
      simp only [hb, a2, q1, q2, q3, q4, q5, hw, hone, forall_eq, Int.reduceEq, reduceIte, ↓gos, gop, Nat.reduceBEq, Nat.reduceAdd, Nat.reduceSub, Nat.reduceLeDiff, Nat.reduceMul, Int.reduceLE, Int.reduceLT, Int.reduceNe, Int.reduceToNat]
      repeat (refine chk_i (by first | omega | (simp only [List.length_append, List.length_cons, List.length_nil]; omega)) ?_)
      exact rnd_s (j + 1) rfl (by decide) ⟨rfl, by show DV.str _ = DV.str _; rw [hv], rfl, trivial⟩ hj (by omega)
  · have hj : j = s.length := by omega
    subst hj
    exact ends (by rw [List.take_length])
theorem plain_esc (c : UInt8) (t : List UInt8) : plainF (92 :: c :: t) = (escC c).bind fun y => (plainF t).map (y :: ·) := by simp [plainF]
theorem map_more (o : Option (List UInt8)) (out : List UInt8) (y : UInt8) : (o.map (y :: ·)).map (out ++ ·) = o.map ((out ++ [y]) ++ ·) := by cases o <;> simp
theorem escC_cases (b : UInt8) : (b = 92 ∨ b = 44 ∨ b = 59 ∨ b = 110 ∨ b = 78) ∨ (escC b = none ∧ b.toNat ≠ 92 ∧ b.toNat ≠ 44 ∧ b.toNat ≠ 59 ∧ b.toNat ≠ 110 ∧ b.toNat ≠ 78) := by
  by_cases h1 : b = 92
  · exact .inl (.inl h1)
  by_cases h2 : b = 44
  · exact .inl (.inr (.inl h2))
  by_cases h3 : b = 59
  · exact .inl (.inr (.inr (.inl h3)))
  by_cases h4 : b = 110
  · exact .inl (.inr (.inr (.inr (.inl h4))))
  by_cases h5 : b = 78
  · exact .inl (.inr (.inr (.inr (.inr h5))))
  · have k : ∀ c : UInt8, b ≠ c → b.toNat ≠ c.toNat := fun c h e => h (UInt8.toNat_inj.1 e)
    exact .inr ⟨by simp [escC, h1, h2, h3, h4, h5], k 92 h1, k 44 h2, k 59 h3, k 110 h4, k 78 h5⟩
theorem u110 : (((110 : UInt8).toNat : Nat) : Int) = 110 := rfl
theorem u78 : (((78 : UInt8).toNat : Nat) : Int) = 78 := rfl
theorem plain10 (s : List UInt8) (hs : s.length < 1000000000) : DRet 10 [.str s] (.tup [.str ((plainF s).getD []), .int .i64 (if (plainF s).isSome then 0 else 18)]) := by
  refine acalls_go c10 (by simp [f10]) ?_
  simp only [f10, ↓gos, gop, Nat.reduceBEq, Nat.reduceAdd, Nat.reduceSub, Nat.reduceLeDiff, Nat.reduceMul, Int.reduceLE, Int.reduceLT, Int.reduceNe, Int.reduceToNat]
  refine goN_lp (γ := Nat × List UInt8) (fun g => [(5, .int .i64 g.1), (4, .str g.2), (0, .str s)]) (fun _ => []) (fun g => g.1 ≤ s.length ∧ g.2.length ≤ g.1 ∧ plainF s = (plainF (s.drop g.1)).map (g.2 ++ ·)) (fun g => s.length - g.1) (0, [])
    (wks rfl (by decide) ⟨rfl, rfl, rfl, trivial⟩) ⟨Nat.zero_le _, Nat.zero_le _, by simp⟩ fun ⟨j, out⟩ ⟨hj, ho, hP⟩ => ?_
  have ho : out.length ≤ j := ho
  have hP : plainF s = (plainF (s.drop j)).map (out ++ ·) := hP
  simp only [f10l0, ↓gos, gop, Nat.reduceBEq, Nat.reduceAdd, Nat.reduceSub, Nat.reduceLeDiff, Nat.reduceMul, Int.reduceLE, Int.reduceLT, Int.reduceNe, Int.reduceToNat]
  refine ⟨fun a2 => ?_, fun a2 => ?_⟩
  · have hj : j < s.length := by omega
    have hb : bt s j = ((s.getD j 0).toNat : Int) := rfl
    have hone := cut_one s j hj
    have hd := drop_next s j hj
    have hw : IntKind.i64.wrap ((j : Int) + 1) = ((j + 1 : Nat) : Int) := by rw [wrap_i64 (by omega) (by omega)]; rfl
    have hw2 : IntKind.i64.wrap (((j + 1 : Nat) : Int) + 1) = ((j + 2 : Nat) : Int) := by rw [wrap_i64 (by omega) (by omega)]; rfl
    rw [hd] at hP
    by_cases hx : s.getD j 0 = 92
    · rw [hx] at hb hP
      by_cases hl : j + 1 < s.length
      · have hb1 : bt s (j + 1) = ((s.getD (j + 1) 0).toNat : Int) := rfl
        have hone2 : (s.drop (j + 1)).take (j + 2 - (j + 1)) = [s.getD (j + 1) 0] := cut_one s (j + 1) hl
        have hd2 : s.drop (j + 1) = s.getD (j + 1) 0 :: s.drop (j + 2) := drop_next s (j + 1) hl
        have hlt : ¬ (s.length : Int) ≤ ((j + 1 : Nat) : Int) := by omega
        have hlt2 : ((j + 1 : Nat) : Int) < (s.length : Int) := by omega
        rw [hd2] at hP
        rcases escC_cases (s.getD (j + 1) 0) with hc | ⟨n1, k1, k2, k3, k4, k5⟩
        · rcases hc with hc | hc | hc | hc | hc
          all_goals
            rw [hc] at hb1 hone2 hP
            simp only [hb, hb1, hlt, hlt2, u92, u44, u59, u110, u78, a2, hw, hw2, hone2, forall_eq, Int.reduceEq, reduceIte, ↓gos, gop, Nat.reduceBEq, Nat.reduceAdd, Nat.reduceSub, Nat.reduceLeDiff, Nat.reduceMul, Int.reduceLE, Int.reduceLT, Int.reduceNe, Int.reduceToNat]
            repeat (refine chk_i (by first | omega | (simp only [List.length_append, List.length_cons, List.length_nil]; omega)) ?_)
            refine rnd_s (j + 2, _) rfl (by decide) ⟨rfl, rfl, rfl, trivial⟩ ⟨by omega, by simp only [List.length_append, List.length_cons, List.length_nil]; omega, ?_⟩ (by simp only; omega)
            exact hP.trans (map_more _ _ _)
        · have q1 : ¬ (((s.getD (j + 1) 0).toNat : Nat) : Int) = 92 := by omega
          have q2 : ¬ (((s.getD (j + 1) 0).toNat : Nat) : Int) = 44 := by omega
          have q3 : ¬ (((s.getD (j + 1) 0).toNat : Nat) : Int) = 59 := by omega
          have q4 : ¬ (((s.getD (j + 1) 0).toNat : Nat) : Int) = 110 := by omega
          have q5 : ¬ (((s.getD (j + 1) 0).toNat : Nat) : Int) = 78 := by omega
          have hn : plainF s = none := hP.trans (by rw [plain_esc, n1]; rfl)
          simp only [hb, hb1, hlt, hlt2, u92, a2, q1, q2, q3, q4, q5, hw, hw2, forall_eq, Int.reduceEq, reduceIte, ↓gos, gop, Nat.reduceBEq, Nat.reduceAdd, Nat.reduceSub, Nat.reduceLeDiff, Nat.reduceMul, Int.reduceLE, Int.reduceLT, Int.reduceNe, Int.reduceToNat]
          exact finE_closed rfl ⟨rfl, by rw [hn]; rfl⟩
      · have hlt : (s.length : Int) ≤ ((j + 1 : Nat) : Int) := by omega
        have hd2 : s.drop (j + 1) = [] := List.drop_of_length_le (by omega)
        rw [hd2] at hP
        have hn : plainF s = none := hP.trans (by simp [plainF])
        simp only [hb, hlt, u92, a2, hw, forall_eq, Int.reduceEq, reduceIte, ↓gos, gop, Nat.reduceBEq, Nat.reduceAdd, Nat.reduceSub, Nat.reduceLeDiff, Nat.reduceMul, Int.reduceLE, Int.reduceLT, Int.reduceNe, Int.reduceToNat]
        exact finE_closed rfl ⟨rfl, by rw [hn]; rfl⟩
    · have q : ¬ (((s.getD j 0).toNat : Nat) : Int) = 92 := fun e => by
        have e1 : (s.getD j 0).toNat = 92 := by omega
        exact hx (UInt8.toNat_inj.1 e1)
      simp only [hb, q, a2, hw, hone, forall_eq, Int.reduceEq, reduceIte, ↓gos, gop, Nat.reduceBEq, Nat.reduceAdd, Nat.reduceSub, Nat.reduceLeDiff, Nat.reduceMul, Int.reduceLE, Int.reduceLT, Int.reduceNe, Int.reduceToNat]
      repeat (refine chk_i (by first | omega | (simp only [List.length_append, List.length_cons, List.length_nil]; omega)) ?_)
      refine rnd_s (j + 1, _) rfl (by decide) ⟨rfl, rfl, rfl, trivial⟩ ⟨hj, by simp only [List.length_append, List.length_cons, List.length_nil]; omega, ?_⟩ (by simp only; omega)
      have e : plainF (s.getD j 0 :: s.drop (j + 1)) = (plainF (s.drop (j + 1))).map (s.getD j 0 :: ·) := by rw [plainF.eq_def]; simp only; rw [if_neg hx]
      rw [e] at hP
      exact hP.trans (map_more _ _ _)
  · have hj : j = s.length := by omega
    subst hj
    rw [List.drop_length] at hP
    refine finE_closed rfl ⟨rfl, ?_⟩
    rw [hP]; simp [plainF, rvd]
theorem rsplit17 (s : List UInt8) (sep : UInt8) (hs : s.length < 100000000) : ACalls ED 17 [] [.str s, .int .u8 sep.toNat] (fun h d => h = [.arr 1 ((splitF sep false [] s).map sv)] ∧ d = .osl 1 0 0 (splitF sep false [] s).length none) := by
  refine acalls_go c17 (by simp [f17]) ?_
  simp only [f17, ↓gos, gop, Nat.reduceBEq, Nat.reduceAdd, Nat.reduceSub, Nat.reduceLeDiff, Nat.reduceMul, Int.reduceLE, Int.reduceLT, Int.reduceNe, Int.reduceToNat]
  refine goN_lp (γ := List (List UInt8) × Nat × Nat × Bool) (fun g => [(0, .str s), (1, .int .u8 sep.toNat), (5, .osl 1 1 0 g.1.length none), (6, .int .i64 (g.2.1 : Nat)), (7, .bool g.2.2.2), (8, .int .i64 (g.2.2.1 : Nat))])
    (fun g => [.arr 1 [], .arr 1 (g.1.map sv)])
    (fun g => g.2.1 ≤ g.2.2.1 ∧ g.2.2.1 ≤ s.length ∧ g.1.length ≤ g.2.1 ∧ g.1 ++ splitF sep g.2.2.2 ((s.drop g.2.1).take (g.2.2.1 - g.2.1)) (s.drop g.2.2.1) = splitF sep false [] s) (fun g => s.length - g.2.2.1) ([], 0, 0, false)
    (wks rfl (by simp) ⟨rfl, rfl, rfl, rfl, rfl, rfl, trivial⟩) ⟨by simp, by simp, by simp, rfl⟩ fun g hg => ?_
  obtain ⟨acc, fr, i, e⟩ := g
  obtain ⟨p1, p2, p3, p4⟩ := hg
  simp only at p1 p2 p3 p4
  by_cases hi : i < s.length
  · have a2 : (i : Int) < (s.length : Int) := by omega
    have hbt : bt s i = ((s.getD i 0).toNat : Int) := rfl
    have hq : ∀ c : UInt8, (bt s i = (c.toNat : Int)) = (s.getD i 0 = c) := fun c => by
      rw [hbt]
      exact propext ⟨fun q => UInt8.toNat_inj.1 (by omega), fun q => by rw [q]⟩
    have hq92 : (bt s i = 92) = (s.getD i 0 = 92) := hq 92
    have hpl : (List.take (i - fr) (List.drop fr s)).length ≤ s.length := by simp; omega
    have htn := take_next s fr i p1 hi
    have hw : IntKind.i64.wrap ((i : Int) + 1) = ((i + 1 : Nat) : Int) := by rw [wrap_i64 (by omega) (by omega)]; rfl
    rw [drop_next s i hi, splitF] at p4
    generalize s.getD i 0 = x at p4 hq hq92 hbt htn
    obtain ⟨b1, h1⟩ : ∃ b, b = decide (x = sep) := ⟨_, rfl⟩
    obtain ⟨b2, h2⟩ : ∃ b, b = decide (x = 92) := ⟨_, rfl⟩
    have hqs : (bt s i = (sep.toNat : Int)) = (b1 = true) := by rw [hq, h1]; simp
    have hq2 : (bt s i = 92) = (b2 = true) := by rw [hq92, h2]; simp
    simp only [escN, ← h1, ← h2] at p4
    clear hq hq92
    cases b1 <;> cases b2 <;> cases e
    all_goals
      simp only [Bool.not_true, Bool.not_false, Bool.and_true, Bool.and_false, Bool.and_self, Bool.false_and, Bool.true_and, if_true, if_false, Bool.false_eq_true] at p4
      simp only [f17l0, a2, hqs, hq2, hw, forall_eq, eq_self, ↓gos, gop, Nat.reduceBEq, Nat.reduceAdd, Nat.reduceSub, Nat.reduceLeDiff, Nat.reduceMul, Int.reduceLE, Int.reduceLT, Int.reduceNe, Int.reduceToNat]
      first
        | (repeat (refine chk_i (by omega) ?_)
           refine rnd_d 2 (acc ++ [List.take (i - fr) (List.drop fr s)], i + 1, i + 1, _) ?_ (by simp) ⟨rfl, rfl, rfl, rfl, ?_, rfl, rfl, rfl, rfl, rfl, rfl, rfl, trivial⟩ rfl ⟨Nat.le_refl _, hi, by simp only [List.length_append, List.length_cons, List.length_nil]; omega, ?_⟩ (by simp only; omega)
           · simp [sv]
           · simp [slots]
           · rw [← p4]; simp)
        | (refine rnd_s (acc, fr, i + 1, _) rfl (by simp) ⟨rfl, rfl, rfl, rfl, rfl, rfl, trivial⟩ ⟨by simp only; omega, hi, p3, ?_⟩ (by simp only; omega)
           rw [← p4]
           simp only [htn])
  · have e0 : i = s.length := by omega
    subst e0
    rw [List.drop_length, splitF] at p4
    have hacc : acc.length < 100000000 := by omega
    have a2 : ¬ (s.length : Int) < (s.length : Int) := by omega
    simp only [f17l0, a2, ↓gos, gop, Nat.reduceBEq, Nat.reduceAdd, Nat.reduceSub, Nat.reduceLeDiff, Nat.reduceMul, Int.reduceLE, Int.reduceLT, Int.reduceNe, Int.reduceToNat]
    refine chk_i (by omega) (chk_i (by omega) (chk_i (by omega) (end_row rfl ?_ ?_)))
    · rw [← p4]; simp [sv]
    · rw [← p4]; simp
end Go.Proofs.Ut
