/- ContactParts. -/
import Derived.Test.YtgamnnfndidclaaGreatDoorYU
import Derived.Test.YtgamnnfndidclaaGreatDoorAiEnd
import Derived.Carry
import Derived.Test.YtgamnnfndidclaaGreatDoorYFoUtF
import Derived.Test.YtgamnnfndidclaaGreatDoorRows
import Derived.Lib.LaidIn
import Derived.Lib.LaidTab
import Derived.Lib.LaidU8T
import Derived.PinnedBridge
import Derived.ProofKit
import Derived.LaidMore
import Derived.Lay
import Derived.Stop.Joined
import Derived.Handed
import Derived.Shelf.Vars
open Nat renaming reduceBEq → qA, reduceAdd → qB, reduceSub → qC, reduceLeDiff → qD, reduceMul → qE
open Int renaming reduceLE → qF, reduceLT → qG, reduceNe → qH, reduceToNat → qI
set_option linter.all false
namespace Go.Proofs.Ut
open Go.Ai
set_option maxRecDepth 100000
set_option linter.all false
theorem mod_inP (y : Int) (n : Nat) (hn : 0 < n) (h9 : n < 1000) : ∃ a : Nat, a < n ∧ IntKind.i64.wrap ((IntKind.u64.wrap y).tmod n) = a := by
  have h0 : 0 ≤ IntKind.u64.wrap y := by
    simp only [IntKind.wrap, IntKind.bits, IntKind.signed]
    exact Int.emod_nonneg _ (by decide)
  obtain ⟨m, hm⟩ := Int.eq_ofNat_of_zero_le h0
  refine ⟨m % n, Nat.mod_lt _ hn, ?_⟩
  rw [hm]
  have h1 : ((m : Int).tmod n) = ((m % n : Nat) : Int) := by
    rw [Int.tmod_eq_emod_of_nonneg (by omega)]; simp
  have := Nat.mod_lt m hn
  rw [h1, wrap_i64 (by omega) (by omega)]
set_option maxHeartbeats 8000000 in
theorem parts9 (a b : List UInt8) (x y : Int) (ha : a.length < 100000000) (hb : b.length < 100000000) : DRet 9 [.str a, .str b, .int .i64 x, .int .i64 y] (.bool true) := by
  refine acalls_goF c9 (by simp [f9]) ?_
  simp only [f9, finF_e, finF_en, ↓gos, gop, qA, qB, qC, qD, qE, qF, qG, qH, qI]
  refine call_ret (line25 a 30 (by omega) (by decide)) rfl rfl ?_
  simp only [finF_e, finF_en, ↓gos, gop, qA, qB, qC, qD, qE, qF, qG, qH, qI]
  refine call_ret (line25 b 30 (by omega) (by decide)) rfl rfl ?_
  simp only [finF_e, finF_en, ↓gos, gop, qA, qB, qC, qD, qE, qF, qG, qH, qI]
  intro v1 h1 v2 h2 v3 h3 v4 h4 v5 h5 v6 h6
  obtain ⟨n, hn, en⟩ := mod_inP x 8 (by decide) (by decide)
  obtain ⟨k, hk, ek⟩ := mod_inP y 5 (by decide) (by decide)
  have e3 : v3 = n := by rw [h3, h2, h1]; exact en
  have e6 : v6 = k := by rw [h6, h5, h4]; exact ek
  clear h1 h2 h3 h4 h5 h6
  subst e3 e6
  have la := line_len a 30
  have lb := line_len b 30
  have va := valF_le2 (lineP a 30)
  have vb := valF_le2 (lineP b 30)
  refine call_ret (value15 (lineP a 30) (by omega)) rfl rfl ?_
  simp only [finF_e, finF_en, ↓gos, gop, qA, qB, qC, qD, qE, qF, qG, qH, qI]
  refine chk_i (by first | omega | (simp only [List.length_append, List.length_cons, List.length_nil]; omega)) ?_
  refine call_ret (value15 (lineP b 30) (by omega)) rfl rfl ?_
  simp only [finF_e, finF_en, ↓gos, gop, qA, qB, qC, qD, qE, qF, qG, qH, qI]
  refine chk_i (by first | omega | (simp only [List.length_append, List.length_cons, List.length_nil]; omega)) ?_
  refine goN_lp (γ := Nat) (fun i => [(10, .int .i64 (i + 2 : Nat)), (9, .str (sAB (lineP a 30) (lineP b 30) i)), (8, .bool false), (3, .int .i64 k), (2, .int .i64 n), (1, .str (lineP b 30)), (0, .str (lineP a 30))]) (fun _ => []) (fun i => i + 2 ≤ n ∨ i = 0) (fun i => n - i) 0
    (wks rfl (by simp) ⟨rfl, ?_, rfl, rfl, rfl, rfl, rfl, trivial⟩) (.inr rfl) fun i hi => ?_
  · simp [slots, sAB]
  simp only [f9l0, finF_e, finF_en, ↓gos, gop, qA, qB, qC, qD, qE, qF, qG, qH, qI]
  refine ⟨fun h7 => ?_, fun h7 => ?_⟩
  · refine chk_i (by simp only [sAB, List.length_append, List.length_cons, List.length_replicate]; omega) ?_
    intro v hv
    rw [wrap_i64 (by omega) (by omega)] at hv
    have e : v = ((i + 1 + 2 : Nat) : Int) := by rw [hv]; omega
    subst e
    refine rnd_s (i + 1) rfl (by simp) ⟨rfl, ?_, rfl, rfl, rfl, rfl, rfl, trivial⟩ (by omega) (by omega)
    show DV.str (sAB (lineP a 30) (lineP b 30) i ++ [59]) = .str (sAB (lineP a 30) (lineP b 30) (i + 1))
    simp [sAB, List.replicate_succ']
  · have hrd := read_AB a b i (by omega)
    have hof := of_AB a b i
    refine call_frz [0] rfl ?_
    simp only [finF_e, finF_en, ↓gos, gop, qA, qB, qC, qD, qE, qF, qG, qH, qI]
    generalize ofR (l2 (sAB (lineP a 30) (lineP b 30) i)) = o at *
    obtain ⟨c, e⟩ := o
    refine call_clo hrd rfl rfl ?_
    simp only [ocP_ctv, ctv_one, finF_e, finF_en, ↓gos, gop, qA, qB, qC, qD, qE, qF, qG, qH, qI]
    refine chk_i rfl (chk_i (by omega) ?_)
    have hq := of27N (of27B (sk_ok k hk)) (fun p hp => by
      simp only [l2, List.mem_cons, List.not_mem_nil, or_false] at hp
      rcases hp with rfl | rfl <;> rfl)
    have hqi := sk_is k hk
    have hge := of27N (of27B se_ok) (by decide)
    have hgi := se_is
    generalize hq0 : ofR (l2 (sk k)) = q at *
    obtain ⟨d, f⟩ := q
    generalize ofR (l2 [92, 120, 59, 59]) = g at *
    obtain ⟨g1, g2⟩ := g
    simp only at hqi hgi
    obtain rfl | rfl | rfl | rfl | rfl : k = 0 ∨ k = 1 ∨ k = 2 ∨ k = 3 ∨ k = 4 := by omega
    · refine optP_in [.str []] rfl (chk_i (by decide) ?_)
      simp only [List.set, List.drop, List.set_cons_zero, List.set_cons_succ, finF_e, finF_en, ↓gos, gop, qA, qB, qC, qD, qE, qF, qG, qH, qI]
      refine goN_two [(15, .int .i64 f), (14, .ptr 5 0), (13, .osl 1 4 0 5 none), (12, .int .i64 e), (11, .ptr 3 0), (8, .bool false), (3, .int .i64 0), (2, .int .i64 n), (1, .str (lineP b 30)), (0, .str (lineP a 30))]
        [.dead, .arr 1 [], .arr 4 [], .box (ctv c), .arr 1 [[.str [120]], [.str []], [.str []], [.str []], [.str []]], .box (ctv d)] ?_ (fun hk2 => ?_) (fun hk2 => ?_)
      · simp only [finF_e, finF_en, ↓gos, gop, qA, qB, qC, qD, qE, qF, qG, qH, qI]
        have hmx : (if (2 : Int) > (n : Int) then (2 : Int) else (n : Int)) = ((i + 2 : Nat) : Int) := by split <;> omega
        have hq3 : (f, d.family, d.given) = (0, [120], []) := hqi
        simp only [Prod.mk.injEq] at hq3
        obtain ⟨rfl, hd1, hd2⟩ := hq3
        subst hgi
        refine call_frz [6] rfl ?_
        simp only [finF_e, finF_en, ↓gos, gop, qA, qB, qC, qD, qE, qF, qG, qH, qI]
        refine call_clo hge rfl rfl ?_
        simp only [ocP_ctv, ctv_one, finF_e, finF_en, ↓gos, gop, qA, qB, qC, qD, qE, qF, qG, qH, qI]
        refine chk_i rfl ?_
        refine call_clo awake28 rfl rfl ?_
        by_cases h3 : i = 3
        · rw [if_pos h3] at hof
          obtain ⟨rfl, rfl⟩ := Prod.mk.inj hof
          simp only [hmx, h3, forall_eq, ctv, Cn, C0, hd1, hd2, List.map_nil, finF_e, finF_en, ↓gos, gop, qA, qB, qC, qD, qE, qF, qG, qH, qI]
          exact end_fc [] rfl rfl ⟨rfl, rfl⟩
        · rw [if_neg h3] at hof
          obtain ⟨rfl, rfl⟩ := Prod.mk.inj hof
          simp only [hmx, forall_eq, ctv, C0, hd1, hd2, List.map_nil, finF_e, finF_en, ↓gos, gop, qA, qB, qC, qD, qE, qF, qG, qH, qI]
          exact ⟨fun h => absurd h (by omega), fun _ => ⟨fun _ => end_fc [] rfl rfl ⟨rfl, rfl⟩, fun h => absurd h (by omega)⟩⟩
      · rw [goN_wk]
        simp only [finF_e, finF_en, ↓gos, gop, qA, qB, qC, qD, qE, qF, qG, qH, qI]
        first | refine call_frz [8] rfl ?_ | refine call_frz [5] rfl ?_
        simp only [finF_e, finF_en, ↓gos, gop, qA, qB, qC, qD, qE, qF, qG, qH, qI]
        refine call_clo hq rfl rfl ?_
        simp only [ocP_ctv, ctv_one, finF_e, finF_en, ↓gos, gop, qA, qB, qC, qD, qE, qF, qG, qH, qI]
        try refine chk_i rfl ?_
        refine goK_wkf ?_ hk2
        first
          | exact wkp [0, 1, 2, 3, 4, 8] (by decide) (by simp) (fun i h => by omega) (by simp) rfl (by
              intro l hl
              simp only [List.mem_cons, List.not_mem_nil, or_false] at hl
              rcases hl with rfl | rfl | rfl | rfl | rfl | rfl <;> rfl) ⟨rfl, rfl, rfl, rfl, rfl, rfl, rfl, rfl, rfl, rfl, rfl, rfl, rfl, rfl, rfl, rfl, rfl, rfl, rfl, rfl, trivial⟩
          | exact wkp [0, 1, 2, 3, 4, 7] (by decide) (by simp) (fun i h => by omega) (by simp) rfl (by
              intro l hl
              simp only [List.mem_cons, List.not_mem_nil, or_false] at hl
              rcases hl with rfl | rfl | rfl | rfl | rfl | rfl <;> rfl) ⟨rfl, rfl, rfl, rfl, rfl, rfl, rfl, rfl, rfl, rfl, rfl, rfl, rfl, rfl, rfl, rfl, rfl, rfl, rfl, rfl, trivial⟩
      · repeat' refine goN_both ?_ ?_
        all_goals
          rw [goN_wk]
          simp only [finF_e, finF_en, ↓gos, gop, qA, qB, qC, qD, qE, qF, qG, qH, qI]
          first | refine call_frz [8] rfl ?_ | refine call_frz [5] rfl ?_
          simp only [finF_e, finF_en, ↓gos, gop, qA, qB, qC, qD, qE, qF, qG, qH, qI]
          refine call_clo hq rfl rfl ?_
          simp only [ocP_ctv, ctv_one, finF_e, finF_en, ↓gos, gop, qA, qB, qC, qD, qE, qF, qG, qH, qI]
          try refine chk_i rfl ?_
          refine goK_wkf ?_ hk2
          first
            | exact wkp [0, 1, 2, 3, 4, 8] (by decide) (by simp) (fun i h => by omega) (by simp) rfl (by
                intro l hl
                simp only [List.mem_cons, List.not_mem_nil, or_false] at hl
                rcases hl with rfl | rfl | rfl | rfl | rfl | rfl <;> rfl) ⟨rfl, rfl, rfl, rfl, rfl, rfl, rfl, rfl, rfl, rfl, rfl, rfl, rfl, rfl, rfl, rfl, rfl, rfl, rfl, rfl, trivial⟩
            | exact wkp [0, 1, 2, 3, 4, 7] (by decide) (by simp) (fun i h => by omega) (by simp) rfl (by
                intro l hl
                simp only [List.mem_cons, List.not_mem_nil, or_false] at hl
                rcases hl with rfl | rfl | rfl | rfl | rfl | rfl <;> rfl) ⟨rfl, rfl, rfl, rfl, rfl, rfl, rfl, rfl, rfl, rfl, rfl, rfl, rfl, rfl, rfl, rfl, rfl, rfl, rfl, rfl, trivial⟩
    · refine optP_in [.str []] rfl (chk_i (by decide) ?_)
      simp only [List.set, List.drop, List.set_cons_zero, List.set_cons_succ, finF_e, finF_en, ↓gos, gop, qA, qB, qC, qD, qE, qF, qG, qH, qI]
      refine goN_two [(15, .int .i64 f), (14, .ptr 5 0), (13, .osl 1 4 0 5 none), (12, .int .i64 e), (11, .ptr 3 0), (8, .bool false), (3, .int .i64 1), (2, .int .i64 n), (1, .str (lineP b 30)), (0, .str (lineP a 30))]
        [.dead, .arr 1 [], .arr 4 [], .box (ctv c), .arr 1 [[.str []], [.str [120]], [.str []], [.str []], [.str []]], .box (ctv d)] ?_ (fun hk2 => ?_) (fun hk2 => ?_)
      · simp only [finF_e, finF_en, ↓gos, gop, qA, qB, qC, qD, qE, qF, qG, qH, qI]
        have hmx : (if (2 : Int) > (n : Int) then (2 : Int) else (n : Int)) = ((i + 2 : Nat) : Int) := by split <;> omega
        have hq3 : (f, d.family, d.given) = (0, [], [120]) := hqi
        simp only [Prod.mk.injEq] at hq3
        obtain ⟨rfl, hd1, hd2⟩ := hq3
        subst hgi
        refine call_frz [6] rfl ?_
        simp only [finF_e, finF_en, ↓gos, gop, qA, qB, qC, qD, qE, qF, qG, qH, qI]
        refine call_clo hge rfl rfl ?_
        simp only [ocP_ctv, ctv_one, finF_e, finF_en, ↓gos, gop, qA, qB, qC, qD, qE, qF, qG, qH, qI]
        refine chk_i rfl ?_
        refine call_clo awake28 rfl rfl ?_
        by_cases h3 : i = 3
        · rw [if_pos h3] at hof
          obtain ⟨rfl, rfl⟩ := Prod.mk.inj hof
          simp only [hmx, h3, forall_eq, ctv, Cn, C0, hd1, hd2, List.map_nil, finF_e, finF_en, ↓gos, gop, qA, qB, qC, qD, qE, qF, qG, qH, qI]
          exact end_fc [] rfl rfl ⟨rfl, rfl⟩
        · rw [if_neg h3] at hof
          obtain ⟨rfl, rfl⟩ := Prod.mk.inj hof
          simp only [hmx, forall_eq, ctv, C0, hd1, hd2, List.map_nil, finF_e, finF_en, ↓gos, gop, qA, qB, qC, qD, qE, qF, qG, qH, qI]
          exact ⟨fun h => absurd h (by omega), fun _ => ⟨fun _ => end_fc [] rfl rfl ⟨rfl, rfl⟩, fun h => absurd h (by omega)⟩⟩
      · rw [goN_wk]
        simp only [finF_e, finF_en, ↓gos, gop, qA, qB, qC, qD, qE, qF, qG, qH, qI]
        first | refine call_frz [8] rfl ?_ | refine call_frz [5] rfl ?_
        simp only [finF_e, finF_en, ↓gos, gop, qA, qB, qC, qD, qE, qF, qG, qH, qI]
        refine call_clo hq rfl rfl ?_
        simp only [ocP_ctv, ctv_one, finF_e, finF_en, ↓gos, gop, qA, qB, qC, qD, qE, qF, qG, qH, qI]
        try refine chk_i rfl ?_
        refine goK_wkf ?_ hk2
        first
          | exact wkp [0, 1, 2, 3, 4, 8] (by decide) (by simp) (fun i h => by omega) (by simp) rfl (by
              intro l hl
              simp only [List.mem_cons, List.not_mem_nil, or_false] at hl
              rcases hl with rfl | rfl | rfl | rfl | rfl | rfl <;> rfl) ⟨rfl, rfl, rfl, rfl, rfl, rfl, rfl, rfl, rfl, rfl, rfl, rfl, rfl, rfl, rfl, rfl, rfl, rfl, rfl, rfl, trivial⟩
          | exact wkp [0, 1, 2, 3, 4, 7] (by decide) (by simp) (fun i h => by omega) (by simp) rfl (by
              intro l hl
              simp only [List.mem_cons, List.not_mem_nil, or_false] at hl
              rcases hl with rfl | rfl | rfl | rfl | rfl | rfl <;> rfl) ⟨rfl, rfl, rfl, rfl, rfl, rfl, rfl, rfl, rfl, rfl, rfl, rfl, rfl, rfl, rfl, rfl, rfl, rfl, rfl, rfl, trivial⟩
      · repeat' refine goN_both ?_ ?_
        all_goals
          rw [goN_wk]
          simp only [finF_e, finF_en, ↓gos, gop, qA, qB, qC, qD, qE, qF, qG, qH, qI]
          first | refine call_frz [8] rfl ?_ | refine call_frz [5] rfl ?_
          simp only [finF_e, finF_en, ↓gos, gop, qA, qB, qC, qD, qE, qF, qG, qH, qI]
          refine call_clo hq rfl rfl ?_
          simp only [ocP_ctv, ctv_one, finF_e, finF_en, ↓gos, gop, qA, qB, qC, qD, qE, qF, qG, qH, qI]
          try refine chk_i rfl ?_
          refine goK_wkf ?_ hk2
          first
            | exact wkp [0, 1, 2, 3, 4, 8] (by decide) (by simp) (fun i h => by omega) (by simp) rfl (by
                intro l hl
                simp only [List.mem_cons, List.not_mem_nil, or_false] at hl
                rcases hl with rfl | rfl | rfl | rfl | rfl | rfl <;> rfl) ⟨rfl, rfl, rfl, rfl, rfl, rfl, rfl, rfl, rfl, rfl, rfl, rfl, rfl, rfl, rfl, rfl, rfl, rfl, rfl, rfl, trivial⟩
            | exact wkp [0, 1, 2, 3, 4, 7] (by decide) (by simp) (fun i h => by omega) (by simp) rfl (by
                intro l hl
                simp only [List.mem_cons, List.not_mem_nil, or_false] at hl
                rcases hl with rfl | rfl | rfl | rfl | rfl | rfl <;> rfl) ⟨rfl, rfl, rfl, rfl, rfl, rfl, rfl, rfl, rfl, rfl, rfl, rfl, rfl, rfl, rfl, rfl, rfl, rfl, rfl, rfl, trivial⟩
    · refine optP_in [.str []] rfl (chk_i (by decide) ?_)
      simp only [List.set, List.drop, List.set_cons_zero, List.set_cons_succ, finF_e, finF_en, ↓gos, gop, qA, qB, qC, qD, qE, qF, qG, qH, qI]
      refine goN_two [(15, .int .i64 f), (14, .ptr 5 0), (13, .osl 1 4 0 5 none), (12, .int .i64 e), (11, .ptr 3 0), (8, .bool false), (3, .int .i64 2), (2, .int .i64 n), (1, .str (lineP b 30)), (0, .str (lineP a 30))]
        [.dead, .arr 1 [], .arr 4 [], .box (ctv c), .arr 1 [[.str []], [.str []], [.str [120]], [.str []], [.str []]], .box (ctv d)] ?_ (fun hk2 => ?_) (fun hk2 => ?_)
      · simp only [finF_e, finF_en, ↓gos, gop, qA, qB, qC, qD, qE, qF, qG, qH, qI]
        have hmx : (if (2 : Int) > (n : Int) then (2 : Int) else (n : Int)) = ((i + 2 : Nat) : Int) := by split <;> omega
        have hq3 : (f, d.family, d.given) = (12, [], []) := hqi
        simp only [Prod.mk.injEq] at hq3
        obtain ⟨rfl, hd1, hd2⟩ := hq3
        subst hgi
        refine call_frz [6] rfl ?_
        simp only [finF_e, finF_en, ↓gos, gop, qA, qB, qC, qD, qE, qF, qG, qH, qI]
        refine call_clo hge rfl rfl ?_
        simp only [ocP_ctv, ctv_one, finF_e, finF_en, ↓gos, gop, qA, qB, qC, qD, qE, qF, qG, qH, qI]
        refine chk_i rfl ?_
        refine call_clo awake28 rfl rfl ?_
        by_cases h3 : i = 3
        · rw [if_pos h3] at hof
          obtain ⟨rfl, rfl⟩ := Prod.mk.inj hof
          simp only [hmx, h3, forall_eq, ctv, Cn, C0, hd1, hd2, List.map_nil, finF_e, finF_en, ↓gos, gop, qA, qB, qC, qD, qE, qF, qG, qH, qI]
          exact end_fc [] rfl rfl ⟨rfl, rfl⟩
        · rw [if_neg h3] at hof
          obtain ⟨rfl, rfl⟩ := Prod.mk.inj hof
          simp only [hmx, forall_eq, ctv, C0, hd1, hd2, List.map_nil, finF_e, finF_en, ↓gos, gop, qA, qB, qC, qD, qE, qF, qG, qH, qI]
          exact ⟨fun h => absurd h (by omega), fun _ => ⟨fun _ => end_fc [] rfl rfl ⟨rfl, rfl⟩, fun h => absurd h (by omega)⟩⟩
      · rw [goN_wk]
        simp only [finF_e, finF_en, ↓gos, gop, qA, qB, qC, qD, qE, qF, qG, qH, qI]
        first | refine call_frz [8] rfl ?_ | refine call_frz [5] rfl ?_
        simp only [finF_e, finF_en, ↓gos, gop, qA, qB, qC, qD, qE, qF, qG, qH, qI]
        refine call_clo hq rfl rfl ?_
        simp only [ocP_ctv, ctv_one, finF_e, finF_en, ↓gos, gop, qA, qB, qC, qD, qE, qF, qG, qH, qI]
        try refine chk_i rfl ?_
        refine goK_wkf ?_ hk2
        first
          | exact wkp [0, 1, 2, 3, 4, 8] (by decide) (by simp) (fun i h => by omega) (by simp) rfl (by
              intro l hl
              simp only [List.mem_cons, List.not_mem_nil, or_false] at hl
              rcases hl with rfl | rfl | rfl | rfl | rfl | rfl <;> rfl) ⟨rfl, rfl, rfl, rfl, rfl, rfl, rfl, rfl, rfl, rfl, rfl, rfl, rfl, rfl, rfl, rfl, rfl, rfl, rfl, rfl, trivial⟩
          | exact wkp [0, 1, 2, 3, 4, 7] (by decide) (by simp) (fun i h => by omega) (by simp) rfl (by
              intro l hl
              simp only [List.mem_cons, List.not_mem_nil, or_false] at hl
              rcases hl with rfl | rfl | rfl | rfl | rfl | rfl <;> rfl) ⟨rfl, rfl, rfl, rfl, rfl, rfl, rfl, rfl, rfl, rfl, rfl, rfl, rfl, rfl, rfl, rfl, rfl, rfl, rfl, rfl, trivial⟩
      · repeat' refine goN_both ?_ ?_
        all_goals
          rw [goN_wk]
          simp only [finF_e, finF_en, ↓gos, gop, qA, qB, qC, qD, qE, qF, qG, qH, qI]
          first | refine call_frz [8] rfl ?_ | refine call_frz [5] rfl ?_
          simp only [finF_e, finF_en, ↓gos, gop, qA, qB, qC, qD, qE, qF, qG, qH, qI]
          refine call_clo hq rfl rfl ?_
          simp only [ocP_ctv, ctv_one, finF_e, finF_en, ↓gos, gop, qA, qB, qC, qD, qE, qF, qG, qH, qI]
          try refine chk_i rfl ?_
          refine goK_wkf ?_ hk2
          first
            | exact wkp [0, 1, 2, 3, 4, 8] (by decide) (by simp) (fun i h => by omega) (by simp) rfl (by
                intro l hl
                simp only [List.mem_cons, List.not_mem_nil, or_false] at hl
                rcases hl with rfl | rfl | rfl | rfl | rfl | rfl <;> rfl) ⟨rfl, rfl, rfl, rfl, rfl, rfl, rfl, rfl, rfl, rfl, rfl, rfl, rfl, rfl, rfl, rfl, rfl, rfl, rfl, rfl, trivial⟩
            | exact wkp [0, 1, 2, 3, 4, 7] (by decide) (by simp) (fun i h => by omega) (by simp) rfl (by
                intro l hl
                simp only [List.mem_cons, List.not_mem_nil, or_false] at hl
                rcases hl with rfl | rfl | rfl | rfl | rfl | rfl <;> rfl) ⟨rfl, rfl, rfl, rfl, rfl, rfl, rfl, rfl, rfl, rfl, rfl, rfl, rfl, rfl, rfl, rfl, rfl, rfl, rfl, rfl, trivial⟩
    · refine optP_in [.str []] rfl (chk_i (by decide) ?_)
      simp only [List.set, List.drop, List.set_cons_zero, List.set_cons_succ, finF_e, finF_en, ↓gos, gop, qA, qB, qC, qD, qE, qF, qG, qH, qI]
      refine goN_two [(15, .int .i64 f), (14, .ptr 5 0), (13, .osl 1 4 0 5 none), (12, .int .i64 e), (11, .ptr 3 0), (8, .bool false), (3, .int .i64 3), (2, .int .i64 n), (1, .str (lineP b 30)), (0, .str (lineP a 30))]
        [.dead, .arr 1 [], .arr 4 [], .box (ctv c), .arr 1 [[.str []], [.str []], [.str []], [.str [120]], [.str []]], .box (ctv d)] ?_ (fun hk2 => ?_) (fun hk2 => ?_)
      · simp only [finF_e, finF_en, ↓gos, gop, qA, qB, qC, qD, qE, qF, qG, qH, qI]
        have hmx : (if (2 : Int) > (n : Int) then (2 : Int) else (n : Int)) = ((i + 2 : Nat) : Int) := by split <;> omega
        have hq3 : (f, d.family, d.given) = (12, [], []) := hqi
        simp only [Prod.mk.injEq] at hq3
        obtain ⟨rfl, hd1, hd2⟩ := hq3
        subst hgi
        refine call_frz [6] rfl ?_
        simp only [finF_e, finF_en, ↓gos, gop, qA, qB, qC, qD, qE, qF, qG, qH, qI]
        refine call_clo hge rfl rfl ?_
        simp only [ocP_ctv, ctv_one, finF_e, finF_en, ↓gos, gop, qA, qB, qC, qD, qE, qF, qG, qH, qI]
        refine chk_i rfl ?_
        refine call_clo awake28 rfl rfl ?_
        by_cases h3 : i = 3
        · rw [if_pos h3] at hof
          obtain ⟨rfl, rfl⟩ := Prod.mk.inj hof
          simp only [hmx, h3, forall_eq, ctv, Cn, C0, hd1, hd2, List.map_nil, finF_e, finF_en, ↓gos, gop, qA, qB, qC, qD, qE, qF, qG, qH, qI]
          exact end_fc [] rfl rfl ⟨rfl, rfl⟩
        · rw [if_neg h3] at hof
          obtain ⟨rfl, rfl⟩ := Prod.mk.inj hof
          simp only [hmx, forall_eq, ctv, C0, hd1, hd2, List.map_nil, finF_e, finF_en, ↓gos, gop, qA, qB, qC, qD, qE, qF, qG, qH, qI]
          exact ⟨fun h => absurd h (by omega), fun _ => ⟨fun _ => end_fc [] rfl rfl ⟨rfl, rfl⟩, fun h => absurd h (by omega)⟩⟩
      · rw [goN_wk]
        simp only [finF_e, finF_en, ↓gos, gop, qA, qB, qC, qD, qE, qF, qG, qH, qI]
        first | refine call_frz [8] rfl ?_ | refine call_frz [5] rfl ?_
        simp only [finF_e, finF_en, ↓gos, gop, qA, qB, qC, qD, qE, qF, qG, qH, qI]
        refine call_clo hq rfl rfl ?_
        simp only [ocP_ctv, ctv_one, finF_e, finF_en, ↓gos, gop, qA, qB, qC, qD, qE, qF, qG, qH, qI]
        try refine chk_i rfl ?_
        refine goK_wkf ?_ hk2
        first
          | exact wkp [0, 1, 2, 3, 4, 8] (by decide) (by simp) (fun i h => by omega) (by simp) rfl (by
              intro l hl
              simp only [List.mem_cons, List.not_mem_nil, or_false] at hl
              rcases hl with rfl | rfl | rfl | rfl | rfl | rfl <;> rfl) ⟨rfl, rfl, rfl, rfl, rfl, rfl, rfl, rfl, rfl, rfl, rfl, rfl, rfl, rfl, rfl, rfl, rfl, rfl, rfl, rfl, trivial⟩
          | exact wkp [0, 1, 2, 3, 4, 7] (by decide) (by simp) (fun i h => by omega) (by simp) rfl (by
              intro l hl
              simp only [List.mem_cons, List.not_mem_nil, or_false] at hl
              rcases hl with rfl | rfl | rfl | rfl | rfl | rfl <;> rfl) ⟨rfl, rfl, rfl, rfl, rfl, rfl, rfl, rfl, rfl, rfl, rfl, rfl, rfl, rfl, rfl, rfl, rfl, rfl, rfl, rfl, trivial⟩
      · repeat' refine goN_both ?_ ?_
        all_goals
          rw [goN_wk]
          simp only [finF_e, finF_en, ↓gos, gop, qA, qB, qC, qD, qE, qF, qG, qH, qI]
          first | refine call_frz [8] rfl ?_ | refine call_frz [5] rfl ?_
          simp only [finF_e, finF_en, ↓gos, gop, qA, qB, qC, qD, qE, qF, qG, qH, qI]
          refine call_clo hq rfl rfl ?_
          simp only [ocP_ctv, ctv_one, finF_e, finF_en, ↓gos, gop, qA, qB, qC, qD, qE, qF, qG, qH, qI]
          try refine chk_i rfl ?_
          refine goK_wkf ?_ hk2
          first
            | exact wkp [0, 1, 2, 3, 4, 8] (by decide) (by simp) (fun i h => by omega) (by simp) rfl (by
                intro l hl
                simp only [List.mem_cons, List.not_mem_nil, or_false] at hl
                rcases hl with rfl | rfl | rfl | rfl | rfl | rfl <;> rfl) ⟨rfl, rfl, rfl, rfl, rfl, rfl, rfl, rfl, rfl, rfl, rfl, rfl, rfl, rfl, rfl, rfl, rfl, rfl, rfl, rfl, trivial⟩
            | exact wkp [0, 1, 2, 3, 4, 7] (by decide) (by simp) (fun i h => by omega) (by simp) rfl (by
                intro l hl
                simp only [List.mem_cons, List.not_mem_nil, or_false] at hl
                rcases hl with rfl | rfl | rfl | rfl | rfl | rfl <;> rfl) ⟨rfl, rfl, rfl, rfl, rfl, rfl, rfl, rfl, rfl, rfl, rfl, rfl, rfl, rfl, rfl, rfl, rfl, rfl, rfl, rfl, trivial⟩
    · refine optP_in [.str []] rfl (chk_i (by decide) ?_)
      simp only [List.set, List.drop, List.set_cons_zero, List.set_cons_succ, finF_e, finF_en, ↓gos, gop, qA, qB, qC, qD, qE, qF, qG, qH, qI]
      refine goN_two [(15, .int .i64 f), (14, .ptr 5 0), (13, .osl 1 4 0 5 none), (12, .int .i64 e), (11, .ptr 3 0), (8, .bool false), (3, .int .i64 4), (2, .int .i64 n), (1, .str (lineP b 30)), (0, .str (lineP a 30))]
        [.dead, .arr 1 [], .arr 4 [], .box (ctv c), .arr 1 [[.str []], [.str []], [.str []], [.str []], [.str [120]]], .box (ctv d)] ?_ (fun hk2 => ?_) (fun hk2 => ?_)
      · simp only [finF_e, finF_en, ↓gos, gop, qA, qB, qC, qD, qE, qF, qG, qH, qI]
        have hmx : (if (2 : Int) > (n : Int) then (2 : Int) else (n : Int)) = ((i + 2 : Nat) : Int) := by split <;> omega
        have hq3 : (f, d.family, d.given) = (12, [], []) := hqi
        simp only [Prod.mk.injEq] at hq3
        obtain ⟨rfl, hd1, hd2⟩ := hq3
        subst hgi
        refine call_frz [6] rfl ?_
        simp only [finF_e, finF_en, ↓gos, gop, qA, qB, qC, qD, qE, qF, qG, qH, qI]
        refine call_clo hge rfl rfl ?_
        simp only [ocP_ctv, ctv_one, finF_e, finF_en, ↓gos, gop, qA, qB, qC, qD, qE, qF, qG, qH, qI]
        refine chk_i rfl ?_
        refine call_clo awake28 rfl rfl ?_
        by_cases h3 : i = 3
        · rw [if_pos h3] at hof
          obtain ⟨rfl, rfl⟩ := Prod.mk.inj hof
          simp only [hmx, h3, forall_eq, ctv, Cn, C0, hd1, hd2, List.map_nil, finF_e, finF_en, ↓gos, gop, qA, qB, qC, qD, qE, qF, qG, qH, qI]
          exact end_fc [] rfl rfl ⟨rfl, rfl⟩
        · rw [if_neg h3] at hof
          obtain ⟨rfl, rfl⟩ := Prod.mk.inj hof
          simp only [hmx, forall_eq, ctv, C0, hd1, hd2, List.map_nil, finF_e, finF_en, ↓gos, gop, qA, qB, qC, qD, qE, qF, qG, qH, qI]
          exact ⟨fun h => absurd h (by omega), fun _ => ⟨fun _ => end_fc [] rfl rfl ⟨rfl, rfl⟩, fun h => absurd h (by omega)⟩⟩
      · rw [goN_wk]
        simp only [finF_e, finF_en, ↓gos, gop, qA, qB, qC, qD, qE, qF, qG, qH, qI]
        first | refine call_frz [8] rfl ?_ | refine call_frz [5] rfl ?_
        simp only [finF_e, finF_en, ↓gos, gop, qA, qB, qC, qD, qE, qF, qG, qH, qI]
        refine call_clo hq rfl rfl ?_
        simp only [ocP_ctv, ctv_one, finF_e, finF_en, ↓gos, gop, qA, qB, qC, qD, qE, qF, qG, qH, qI]
        try refine chk_i rfl ?_
        refine goK_wkf ?_ hk2
        first
          | exact wkp [0, 1, 2, 3, 4, 8] (by decide) (by simp) (fun i h => by omega) (by simp) rfl (by
              intro l hl
              simp only [List.mem_cons, List.not_mem_nil, or_false] at hl
              rcases hl with rfl | rfl | rfl | rfl | rfl | rfl <;> rfl) ⟨rfl, rfl, rfl, rfl, rfl, rfl, rfl, rfl, rfl, rfl, rfl, rfl, rfl, rfl, rfl, rfl, rfl, rfl, rfl, rfl, trivial⟩
          | exact wkp [0, 1, 2, 3, 4, 7] (by decide) (by simp) (fun i h => by omega) (by simp) rfl (by
              intro l hl
              simp only [List.mem_cons, List.not_mem_nil, or_false] at hl
              rcases hl with rfl | rfl | rfl | rfl | rfl | rfl <;> rfl) ⟨rfl, rfl, rfl, rfl, rfl, rfl, rfl, rfl, rfl, rfl, rfl, rfl, rfl, rfl, rfl, rfl, rfl, rfl, rfl, rfl, trivial⟩
      · repeat' refine goN_both ?_ ?_
        all_goals
          rw [goN_wk]
          simp only [finF_e, finF_en, ↓gos, gop, qA, qB, qC, qD, qE, qF, qG, qH, qI]
          first | refine call_frz [8] rfl ?_ | refine call_frz [5] rfl ?_
          simp only [finF_e, finF_en, ↓gos, gop, qA, qB, qC, qD, qE, qF, qG, qH, qI]
          refine call_clo hq rfl rfl ?_
          simp only [ocP_ctv, ctv_one, finF_e, finF_en, ↓gos, gop, qA, qB, qC, qD, qE, qF, qG, qH, qI]
          try refine chk_i rfl ?_
          refine goK_wkf ?_ hk2
          first
            | exact wkp [0, 1, 2, 3, 4, 8] (by decide) (by simp) (fun i h => by omega) (by simp) rfl (by
                intro l hl
                simp only [List.mem_cons, List.not_mem_nil, or_false] at hl
                rcases hl with rfl | rfl | rfl | rfl | rfl | rfl <;> rfl) ⟨rfl, rfl, rfl, rfl, rfl, rfl, rfl, rfl, rfl, rfl, rfl, rfl, rfl, rfl, rfl, rfl, rfl, rfl, rfl, rfl, trivial⟩
            | exact wkp [0, 1, 2, 3, 4, 7] (by decide) (by simp) (fun i h => by omega) (by simp) rfl (by
                intro l hl
                simp only [List.mem_cons, List.not_mem_nil, or_false] at hl
                rcases hl with rfl | rfl | rfl | rfl | rfl | rfl <;> rfl) ⟨rfl, rfl, rfl, rfl, rfl, rfl, rfl, rfl, rfl, rfl, rfl, rfl, rfl, rfl, rfl, rfl, rfl, rfl, rfl, rfl, trivial⟩
end Go.Proofs.Ut

/- From a contract to a row: a law's call, in a world that came in. -/
namespace Go.Ai
open Go.RowKit
theorem row_walk {E : Env} {f : Nat} {args : List DV} (hc : ACalls E f [] args fun h d => h = [] ∧ d = .bool true) (W : World) (hg : E.G W) (hn : E.N ≤ W.heap.size) (vs : List Value) (hl : vs.length = args.length)
    (hv : ∀ (i : Nat) v d, vs[i]? = some v → args[i]? = some d → Rep W (fun b => b < W.heap.size) noLoc v d) : Calls E.P f vs.toArray W fun e W' => e = .returned (.bool true) ∧ Below W.heap.size W W' := by
  refine (hc.2 W (fun b => b < W.heap.size) noLoc vs hg hn ⟨fun _ _ => rfl, fun l l' b o o' h => by simp [noLoc] at h, fun l b o h => by simp [noLoc] at h, fun l b o h => by simp [noLoc] at h, fun _ h => h, fun l o h => by simp at h⟩ hl hv).mono ?_
  rintro e W' ⟨v, ok', β', h', d, rfl, ⟨_, rfl⟩, _, hev, _, hr, _⟩
  refine ⟨by rw [hr.bool_in], ⟨hev.os, hev.tape, hev.output, hev.size, fun k hk => hev.same k hk fun l x h => by simp [noLoc] at h⟩⟩
end Go.Ai

/- From what a row lists to where the variables lie; the witness; the world's shape kept. -/
namespace Go.Proofs.Ut
open Go.Shelf Go.Lib Go.RowKit
open Go.Proofs.YtgamnnfndidclaaGreatDoor Go.Ai
noncomputable abbrev laidL : List (String × DataW Unit) := [("unicode/utf8.acceptRanges", Rows.laid_unicode_utf8_acceptRanges), ("unicode.asciiFold", Rows.laid_unicode_asciiFold), ("unicode.caseOrbit", Rows.laid_unicode_caseOrbit), ("unicode.CaseRanges", Rows.laid_unicode_CaseRanges), ("unicode/utf8.first", Rows.laid_unicode_utf8_first)]
theorem accept_eq : (Rows.laid_unicode_utf8_acceptRanges : DataW Unit) = acceptData := by kernel_rfl
theorem first_eq : Rows.laid_unicode_utf8_first = firstData := by kernel_rfl
def foldZ : List Int := (List.range 128).map foldC
theorem fold_eq : (Rows.laid_unicode_asciiFold : DataW Unit) = tabData .u16 foldZ := by kernel_rfl
theorem tab_of_read {P : Program} {W : World} {name : String} {k : IntKind} {zs : List Int} {g : Nat} {t e : TypeId} {n : Nat}
    (hg : P.globalNamed name = some g) (hty : (P.globals[g]?).map (·.type) = some t) (ht : P.underlying t = some (.array n e)) (he : P.underlying e = some (.int k)) (hce : P.cellsOf e = 1) (hct : P.cellsOf t = n)
    (h : VarReads P W name (tabData k zs)) : TabIs P W name k zs := by
  obtain ⟨g', t', cs, fuel, p, hg', ht', hvar, hd⟩ := h
  obtain rfl := Option.some.inj (hg.symm.trans hg')
  obtain rfl := Option.some.inj (hty.symm.trans ht')
  unfold TabIs
  rw [hvar, ← cells_of_tab ht he hce hct hd]
theorem laid_of {W : World} (h : laidMetH Tryz.prog laidL W) (hsh : W.ShapedOpen Tryz.prog) : Laid W := by
  rw [MakeChecks.laidMetH_plain _ _ _ (by kernel_rfl)] at h
  have h3 := Lib.laidMet.reads h (.tail _ (.tail _ (.tail _ (.tail _ (.head _)))))
  have h4 := Lib.laidMet.reads h (.head _)
  have h0 := Lib.laidMet.reads h (.tail _ (.head _))
  rw [first_eq] at h3
  rw [accept_eq] at h4
  rw [fold_eq] at h0
  refine ⟨utf8Tabs_of_readsT (U8Types.of196 Tryz.laysValid) ⟨by kernel_rfl, by kernel_rfl, by kernel_rfl, by kernel_rfl, by kernel_rfl, by kernel_rfl, by kernel_rfl⟩ h3 h4, ?_, fun i hi => ?_⟩
  · exact cell_of_shapedOpen_int (t := 3) (zero := #[.int .i64 0]) hsh (of_decide_eq_true (by kernel_rfl)) (by kernel_rfl) (by kernel_rfl) (by kernel_rfl) (by kernel_rfl) (by kernel_rfl)
  · have ht := tab_of_read (P := Tryz.prog) (g := 3) (t := 259) (e := 258) (n := 128) (by kernel_rfl) (by kernel_rfl) (by kernel_rfl) (by kernel_rfl) (by kernel_rfl) (by kernel_rfl) h0
    have := ht.cell (g := 3) (by kernel_rfl) i (by simpa [foldZ] using hi)
    rw [this]
    simp [foldZ, hi]
theorem laid_size {W : World} (h : Laid W) : 4 ≤ W.heap.size := by
  have hm := h.fold 0 (by omega)
  rcases Nat.lt_or_ge 3 W.heap.size with h1 | h1
  · exact h1
  · simp [World.cell?, Array.getElem?_eq_none h1] at hm
theorem door_walk {f : Nat} {args : List DV} (hc : Ai.ACalls ED f [] args fun h d => h = [] ∧ d = .bool true) (W : World) (hT : Laid W) (vs : List Value) (hl : vs.length = args.length)
    (hv : ∀ (i : Nat) v d, vs[i]? = some v → args[i]? = some d → Ai.Rep W (fun b => b < W.heap.size) Ai.noLoc v d) : Calls Tryz.prog f vs.toArray W fun e W' => e = .returned (.bool true) ∧ Below W.heap.size W W' :=
  Ai.row_walk hc W hT (laid_size hT) vs hl hv
end Go.Proofs.Ut
