/- play.Contact. -/
import Derived.Test.YtgamnnfndidclaaGreatDoorYY6
import Derived.Test.YtgamnnfndidclaaGreatDoorYX11
import Derived.Test.YtgamnnfndidclaaGreatDoorLawJid
import Derived.Carry
import Derived.Test.YtgamnnfndidclaaGreatDoorYFoUtF
import Derived.Test.YtgamnnfndidclaaGreatDoorRows
import Derived.Lib.LaidIn
import Derived.Lib.LaidTab
import Derived.Lib.LaidU8T
import Derived.PinnedBridge
import Derived.ProofKit
import Derived.LaidMore
import Derived.Lay
import Derived.Stop.Joined
import Derived.Handed
import Derived.Shelf.Vars
open Nat renaming reduceBEq → qA, reduceAdd → qB, reduceSub → qC, reduceLeDiff → qD, reduceMul → qE
open Int renaming reduceLE → qF, reduceLT → qG, reduceNe → qH, reduceToNat → qI
open Int renaming reduceEq → rA, reduceAdd → rB, reduceSub → rC, reduceMul → rD, reduceMod → rE, reduceDiv → rF, reduceTDiv → rG, reducePow → rH
open Nat renaming reducePow → rI
set_option linter.all false
namespace Go.Proofs.Ut
open Go.Ai
set_option maxRecDepth 100000
theorem mod103 (k : Nat) (hk : k < 1000000000) : DRet 103 [.int .i64 k, .int .i64 5] (.int .i64 ((k % 5 : Nat) : Int)) := by
 refine acalls_goF c103 (by simp [f103]) ?_
 have w1 : IntKind.u64.wrap (k : Int) = k := wrap_u64 (by omega) (by omega)
 have w2 : IntKind.u64.wrap 5 = 5 := by decide
 have w3 : (k : Int).tmod 5 = ((k % 5 : Nat) : Int) := rfl
 have w4 : IntKind.i64.wrap ((k % 5 : Nat) : Int) = ((k % 5 : Nat) : Int) := wrap_i64 (by omega) (by omega)
 simp only [f103, w1, w2, w3, w4, forall_eq, finF_e, finF_en, ↓gos, gop, qA, qB, qC, qD, qE, qF, qG, qH, qI]
 exact end_fc [] rfl rfl ⟨rfl, rfl⟩
theorem jid54 (s : List UInt8) (k : Nat) (hs : s.length < 100000000) (hk : k < 1000000000) : DRet 54 [.str s, .int .i64 k] (.str (jidQ s k)) := by
 have hb := rbare102 s hs
 unfold jidQ
 refine acalls_goF c54 (by simp [f54]) ?_
 simp only [f54, finF_e, finF_en, ↓gos, gop, qA, qB, qC, qD, qE, qF, qG, qH, qI]
 refine call_clo hb rfl rfl ?_
 generalize bareR s = x at *
 obtain ⟨t, e⟩ := x
 simp only [finF_e, finF_en, ↓gos, gop, qA, qB, qC, qD, qE, qF, qG, qH, qI]
 refine ⟨fun h => ?_, fun h => ?_⟩
 ·rw [if_pos h]
  exact end_fc [] rfl rfl ⟨rfl, rfl⟩
 ·rw [if_neg (by simpa using h)]
  refine call_ret (mod103 k hk) rfl rfl ?_
  have h5 : k % 5 < 5 := Nat.mod_lt _ (by decide)
  generalize k % 5 = m at *
  simp only [finF_e, finF_en, ↓gos, gop, qA, qB, qC, qD, qE, qF, qG, qH, qI]
  refine chk_i (by omega) ?_
  obtain rfl | rfl | rfl | rfl | rfl : m = 0 ∨ m = 1 ∨ m = 2 ∨ m = 3 ∨ m = 4 := by omega
  all_goals
   refine optP_in _ rfl ?_
   simp only [finF_e, finF_en, ↓gos, gop, qA, qB, qC, qD, qE, qF, qG, qH, qI]
   exact end_fc [] rfl rfl ⟨rfl, rfl⟩
def gP (c : CT) (i : Nat) : List (List UInt8) := (c.groups.take i).map fun s => lineP s 30
theorem gP_next (c : CT) {i : Nat} (h : i < c.groups.length) : gP c (i + 1) = gP c i ++ [lineP (c.groups.getD i []) 30] := by
 unfold gP
 rw [takeC h [], List.map_append]; rfl
theorem tail24 (c : CT) (hs : smS c) (nm jv : List UInt8) (hn : nm = (contactP c).name) (hj : jv = (contactP c).jid) (L : List (Nat × DV)) (h5 : slots L 5 = .int .i64 0) (h4 : slots L 4 = .osl 1 9 0 0 none) (h3 : slots L 3 = .ptr 6 0) (h2 : slots L 2 = .ptr 3 0) (h1 : slots L 1 = .ptr 0 0) :
    goN ED 0 (finF 0 [RV.cell 2 (some 11)] fun h d => h = [] ∧ d = .agg (ctv (contactP c)))
      [Fr.block 0, Fr.seq ((ACode.region false [⟨some 65, .mov (.t 4), none⟩, ⟨some 66, .call true 30 [.t 65], none⟩, ⟨some 67, .faddr 9 (.t 3), none⟩, ⟨none, .store true 1 (.t 67) (.t 66), none⟩]).seq ((ACode.region false [⟨some 68, .load (some 11) (.t 3), none⟩, ⟨none, .store true 11 (.t 2) (.t 68), none⟩]).seq .ret))]
      f24l0.loop L
      [.box (ctv c), .arr 1 [], .arr 4 [], .box [.str [], .str [], .str [], .str [], .str [], .str [], .str [], .str [], .str [], .osl 1 1 0 0 none, .osl 4 2 0 0 none], .arr 1 [], .arr 4 [],
        .box [.str nm, .str (lineP c.family 50), .str (lineP c.given 50), .str (lineP c.nick 50), .str jv, .str (lineP c.email 50), .str (lineP c.tel 50), .str (lineP c.note 200), .str (lineP c.uid 50), .osl 1 7 0 0 none, .osl 4 8 0 0 none], .arr 1 [], .arr 4 [], .arr 1 []] := by
  have ht := hs.t
  have hg := textsN_len c.groups
  refine goN_lp (γ := Nat) (fun i => [(5, .int .i64 i), (4, .osl 1 9 0 i none), (3, .ptr 6 0), (2, .ptr 3 0), (1, .ptr 0 0)])
    (fun i => [.box (ctv c), .arr 1 [], .arr 4 [], .box [.str [], .str [], .str [], .str [], .str [], .str [], .str [], .str [], .str [], .osl 1 1 0 0 none, .osl 4 2 0 0 none], .arr 1 [], .arr 4 [],
        .box [.str nm, .str (lineP c.family 50), .str (lineP c.given 50), .str (lineP c.nick 50), .str jv, .str (lineP c.email 50), .str (lineP c.tel 50), .str (lineP c.note 200), .str (lineP c.uid 50), .osl 1 7 0 0 none, .osl 4 8 0 0 none], .arr 1 [], .arr 4 [], .arr 1 ((gP c i).map sv)])
    (fun i => i ≤ c.groups.length ∧ i ≤ 4) (fun i => 4 - i) 0
    (wks rfl (by simp) ⟨h5, h4, h3, h2, h1, trivial⟩) ⟨by omega, by omega⟩ fun i ⟨hi, hi4⟩ => ?_
  have hone : IntKind.i64.wrap ((i : Int) + 1) = ((i + 1 : Nat) : Int) := by rw [wrap_i64 (by omega) (by omega)]; rfl
  have hgl : (gP c i).length = i := by unfold gP; simp; omega
  simp only [f24l0, ctv, hone, forall_eq, finF_e, finF_en, ↓gos, gop, qA, qB, qC, qD, qE, qF, qG, qH, qI]
  refine ⟨fun q1 => ⟨fun q2 => ?_, fun q2 => ?_⟩, fun q1 => ?_⟩
  · have hlt : i < c.groups.length := by omega
    have hli : c.groups[i]? = some (c.groups.getD i []) := by rw [List.getD_eq_getElem?_getD, List.getElem?_eq_getElem hlt]; rfl
    have hm : c.groups.getD i [] ∈ c.groups := by rw [List.getD_eq_getElem?_getD, List.getElem?_eq_getElem hlt]; exact List.getElem_mem hlt
    have hml := textsN_mem hm
    have hnx := gP_next c hlt
    have n4 := line25 (c.groups.getD i []) 30 (by omega) (by omega)
    generalize c.groups.getD i [] = s at *
    simp only [hli, sv, finF_e, finF_en, ↓gos, gop, qA, qB, qC, qD, qE, qF, qG, qH, qI]
    refine call_ret n4 rfl rfl ?_
    simp only [hone, forall_eq, finF_e, finF_en, ↓gos, gop, qA, qB, qC, qD, qE, qF, qG, qH, qI]
    have htk : List.take i (List.map sv (gP c i)) = List.map sv (gP c i) := List.take_of_length_le (by simp [hgl])
    refine chk_i (by omega) (chk_i (by omega) (chk_i (by omega) ?_))
    refine rnd_d 10 (i + 1) ?_ (by simp) ⟨rfl, rfl, rfl, rfl, rfl, rfl, rfl, rfl, rfl, rfl, trivial⟩ rfl ⟨by omega, by omega⟩ (by omega)
    rw [hnx, htk, List.map_append]; rfl
  · have e : gP c i = (c.groups.take 4).map fun s => lineP s 30 := by unfold gP; rw [show i = 4 by omega]
    have h30 := rgroups30 (gP c i) (by omega)
    have hgr : groupsF (gP c i) = (contactP c).groups := by rw [e]; rfl
    have e1 : decide (i ≤ (gP c i).length) = true := decide_eq_true (by omega)
    have htk : List.take i (List.map sv (gP c i)) = List.map sv (gP c i) := List.take_of_length_le (by simp [hgl])
    rw [hgr] at h30
    refine call_frz [9] rfl ?_
    simp only [e1, htk, sel_true, finF_e, finF_en, ↓gos, gop, qA, qB, qC, qD, qE, qF, qG, qH, qI]
    refine call_clo h30 rfl rfl ?_
    simp only [finF_e, finF_en, ↓gos, gop, qA, qB, qC, qD, qE, qF, qG, qH, qI]
    refine end_fc [8] ?_ rfl ⟨rfl, rfl⟩
    subst hn hj
    rfl
  · have e : gP c i = (c.groups.take 4).map fun s => lineP s 30 := by
      unfold gP
      rw [List.take_of_length_le (by omega), List.take_of_length_le (by omega)]
    have h30 := rgroups30 (gP c i) (by omega)
    have hgr : groupsF (gP c i) = (contactP c).groups := by rw [e]; rfl
    have e1 : decide (i ≤ (gP c i).length) = true := decide_eq_true (by omega)
    have htk : List.take i (List.map sv (gP c i)) = List.map sv (gP c i) := List.take_of_length_le (by simp [hgl])
    rw [hgr] at h30
    refine call_frz [9] rfl ?_
    simp only [e1, htk, sel_true, finF_e, finF_en, ↓gos, gop, qA, qB, qC, qD, qE, qF, qG, qH, qI]
    refine call_clo h30 rfl rfl ?_
    simp only [finF_e, finF_en, ↓gos, gop, qA, qB, qC, qD, qE, qF, qG, qH, qI]
    refine end_fc [8] ?_ rfl ⟨rfl, rfl⟩
    subst hn hj
    rfl
theorem contact24 (c : CT) (hs : smS c) : DRet 24 [.agg (ctv c)] (.agg (ctv (contactP c))) := by
  have ht := hs.t
  have hg := textsN_len c.groups
  refine acalls_goF c24 (by simp [f24]) ?_
  simp only [f24, ctv, finF_e, finF_en, ↓gos, gop, qA, qB, qC, qD, qE, qF, qG, qH, qI]
  have n1 := line25 c.name 100 (by omega) (by omega)
  have n2 := fun s (h : s.length < 100000000000) => line25 s 50 h (by omega)
  have n3 := line25 c.note 200 (by omega) (by omega)
  refine goN_two [(3, .ptr 6 0), (2, .ptr 3 0), (1, .ptr 0 0)]
    [.box (ctv c), .arr 1 [], .arr 4 [], .box [.str [], .str [], .str [], .str [], .str [], .str [], .str [], .str [], .str [], .osl 1 1 0 0 none, .osl 4 2 0 0 none], .arr 1 [], .arr 4 [],
      .box [.str (lineP c.name 100), .str (lineP c.family 50), .str (lineP c.given 50), .str (lineP c.nick 50), .str [], .str (lineP c.email 50), .str (lineP c.tel 50), .str (lineP c.note 200), .str (lineP c.uid 50), .osl 1 7 0 0 none, .osl 4 8 0 0 none], .arr 1 [], .arr 4 []] ?_ (fun hk => ?_) (fun hk => ?_)
  · simp only [ctv, finF_e, finF_en, ↓gos, gop, qA, qB, qC, qD, qE, qF, qG, qH, qI]
    refine ⟨fun h1 => ⟨fun h2 => ?_, fun h2 => ?_⟩, fun h1 => ⟨fun h2 => ?_, fun h2 => ?_⟩⟩
    · refine call_ret (jid54 c.jid c.jid.length (by omega) (by omega)) rfl rfl ?_
      simp only [finF_e, finF_en, ↓gos, gop, qA, qB, qC, qD, qE, qF, qG, qH, qI]
      exact tail24 c hs _ _ (if_pos h1).symm (if_neg h2).symm _ rfl rfl rfl rfl rfl
    · exact tail24 c hs _ _ (if_pos h1).symm (if_pos h2).symm _ rfl rfl rfl rfl rfl
    · refine call_ret (jid54 c.jid c.jid.length (by omega) (by omega)) rfl rfl ?_
      simp only [finF_e, finF_en, ↓gos, gop, qA, qB, qC, qD, qE, qF, qG, qH, qI]
      exact tail24 c hs _ _ (if_neg h1).symm (if_neg h2).symm _ rfl rfl rfl rfl rfl
    · exact tail24 c hs _ _ (if_neg h1).symm (if_pos h2).symm _ rfl rfl rfl rfl rfl
  · rw [goN_wk]
    simp only [finF_e, finF_en, ↓gos, gop, qA, qB, qC, qD, qE, qF, qG, qH, qI]
    repeat (first | refine call_ret n1 rfl rfl ?_ | refine call_ret n3 rfl rfl ?_ | refine call_ret (n2 _ (by omega)) rfl rfl ?_
                  | simp only [finF_e, finF_en, ↓gos, gop, qA, qB, qC, qD, qE, qF, qG, qH, qI])
    refine goK_wkf ?_ hk
    exact wks rfl (by simp) ⟨rfl, rfl, rfl, trivial⟩
  · repeat' refine goN_both ?_ ?_
    all_goals
      rw [goN_wk]
      simp only [finF_e, finF_en, ↓gos, gop, qA, qB, qC, qD, qE, qF, qG, qH, qI]
      repeat (first | refine call_ret n1 rfl rfl ?_ | refine call_ret n3 rfl rfl ?_ | refine call_ret (n2 _ (by omega)) rfl rfl ?_
                    | simp only [finF_e, finF_en, ↓gos, gop, qA, qB, qC, qD, qE, qF, qG, qH, qI])
      refine goK_wkf ?_ hk
      exact wks rfl (by simp) ⟨rfl, rfl, rfl, trivial⟩
def lng (i : Nat) : List UInt8 := (List.replicate i [195, 169]).flatten
theorem lng_next (i : Nat) : lng (i + 1) = lng i ++ [195, 169] := by
 unfold lng
 rw [List.replicate_succ', List.flatten_append]; rfl
theorem lng_is : ∀ i : Nat, lng i = (List.replicate i (233 : Int)).flatMap en
 | 0 => rfl
 | i + 1 => by
  have e : en 233 = [195, 169] := by decide +kernel
  rw [lng_next, lng_is i, List.replicate_succ', List.flatMap_append, List.flatMap_cons, List.flatMap_nil, List.append_nil, e]
theorem lng_rs (i : Nat) : runAt mayB (lng i) 0 = true ∧ rs (lng i) = List.replicate i 233 := by
 rw [lng_is]
 refine rs_written (fun x hx => ?_) (fun x hx => ?_)
 ·rw [List.eq_of_mem_replicate hx]; exact ⟨233, rfl, by unfold okC; omega⟩
 ·rw [List.eq_of_mem_replicate hx]; decide
theorem lng_no : lineB (lng 101) = false := by
 unfold lineB
 rw [(lng_rs 101).2, decide_eq_false (by simp)]; simp
theorem lng_line : ((rs (lng 101)).all (fun c => decide (32 ≤ c)) && (runAt mayB (lng 101) 0 && decide (((rs (lng 101)).length : Int) ≤ 100))) = false := by
 rw [(lng_rs 101).2, decide_eq_false (by simp)]; simp
theorem lng_len (i : Nat) : (lng i).length = 2 * i := by
 induction i with
 | zero => rfl
 | succ i ih => rw [lng_next, List.length_append, ih]; simp; omega
def badC (c : CT) : Nat → CT
 | 0 => { c with name := [] }
 | 1 => { c with nick := lng 101 }
 | 2 => { c with tel := [97, 10, 98] }
 | 3 => { c with note := [97, 13, 98] }
 | 4 => { c with jid := [65, 64, 98] }
 | 5 => { c with jid := [97, 64, 98, 47, 99] }
 | 6 => { c with groups := [[98], [97]] }
 | 7 => { c with groups := [[]] }
 | 8 => { c with other := [⟨[], [120], [], []⟩] }
 | _ => { c with uid := [255] }
theorem bad_right (c : CT) : ∀ k, rightC (badC c k) = false
 | 0 => by simp [rightC, badC]
 | 1 => by simp [rightC, badC, shortB, lng_no]
 | 2 => by
  have h : lineB [97, 10, 98] = false := by decide +kernel
  simp [rightC, badC, shortB, h]
 | 3 => by
  have h : noteB [97, 13, 98] = false := by decide +kernel
  simp [rightC, badC, h]
 | 4 => by
  have h : jidOk [65, 64, 98] = false := by decide +kernel
  simp [rightC, badC, h]
 | 5 => by
  have h : jidOk [97, 64, 98, 47, 99] = false := by decide +kernel
  simp [rightC, badC, h]
 | 6 => by
  have h : groupsB [[98], [97]] = false := by decide +kernel
  simp [rightC, badC, h]
 | 7 => by
  have h : groupsB [[]] = false := by decide +kernel
  simp [rightC, badC, h]
 | 8 => by
  have h : decide ((writeL [[(⟨[], [120], [], []⟩ : PR)]]).2 = 0) = false := by decide +kernel
  unfold rightC badC
  simp only [h, Bool.and_false, Bool.false_and]
 | n + 9 => by
  have h : lineB [255] = false := by decide +kernel
  simp [rightC, badC, shortB, h]
theorem bad_ok {c : CT} (h : okS c) : ∀ k, okS (badC c k)
  | 0 => ⟨by simp [badC], h.2, h.3, h.4, h.5, h.6, h.7, h.8, h.9, h.10, h.11, h.12, h.13⟩
  | 1 => ⟨h.1, h.2, h.3, by have := lng_len 101; show (lng 101).length < _; omega, h.5, h.6, h.7, h.8, h.9, h.10, h.11, h.12, h.13⟩
  | 2 => ⟨h.1, h.2, h.3, h.4, h.5, h.6, by simp [badC], h.8, h.9, h.10, h.11, h.12, h.13⟩
  | 3 => ⟨h.1, h.2, h.3, h.4, h.5, h.6, h.7, by simp [badC], h.9, h.10, h.11, h.12, h.13⟩
  | 4 => ⟨h.1, h.2, h.3, h.4, by simp [badC], h.6, h.7, h.8, h.9, h.10, h.11, h.12, h.13⟩
  | 5 => ⟨h.1, h.2, h.3, h.4, by simp [badC], h.6, h.7, h.8, h.9, h.10, h.11, h.12, h.13⟩
  | 6 => ⟨h.1, h.2, h.3, h.4, h.5, h.6, h.7, h.8, h.9, by simp [badC], by simp [badC], h.12, h.13⟩
  | 7 => ⟨h.1, h.2, h.3, h.4, h.5, h.6, h.7, h.8, h.9, by simp [badC], by simp [badC], h.12, h.13⟩
  | 8 => ⟨h.1, h.2, h.3, h.4, h.5, h.6, h.7, h.8, h.9, h.10, h.11, by simp [badC], by
      intro p hp
      obtain rfl : p = ⟨[], [120], [], []⟩ := by simpa [badC] using hp
      decide⟩
  | n + 9 => ⟨h.1, h.2, h.3, h.4, h.5, h.6, h.7, h.8, by simp [badC], h.10, h.11, h.12, h.13⟩
theorem props33f (c : CT) (hc : okS c) (hn : rightC c = false) : DRet 33 [.agg (ctv c)] (.tup [.sl 4 [], .int .i64 12]) := by
 have h35 := right35 c hc
 rw [hn] at h35
 refine acalls_goF c33 (by simp [f33]) ?_
 simp only [f33, ctv, finF_e, finF_en, ↓gos, gop, qA, qB, qC, qD, qE, qF, qG, qH, qI]
 refine call_clo h35 rfl rfl ?_
 simp only [finF_e, finF_en, ↓gos, gop, qA, qB, qC, qD, qE, qF, qG, qH, qI]
 exact end_fc [2] rfl rfl ⟨rfl, rfl⟩
theorem bad8_le (p : CT) : LeL [.agg [.str p.name, .str p.family, .str p.given, .str p.nick, .str p.jid, .str p.email, .str p.tel, .str p.note, .str p.uid, .sl 1 (p.groups.map sv), .sl 4 [[.str [], .str [120], .nils 2, .str []]]]] [.agg (ctv (badC p 8))] := by
 have h : Le (.sl 4 ([(⟨[], [120], [], []⟩ : PR)].map pvn)) (.sl 4 ([(⟨[], [120], [], []⟩ : PR)].map pv)) :=
  le_sl rfl (fun e he => by obtain ⟨q, _, rfl⟩ := List.mem_map.1 he; rfl) (pvn_le _ (by simp))
 exact .cons (le_agg (.cons (.refl _) (.cons (.refl _) (.cons (.refl _) (.cons (.refl _) (.cons (.refl _) (.cons (.refl _) (.cons (.refl _) (.cons (.refl _) (.cons (.refl _) (.cons (.refl _) (.cons h .nil)))))))))))) .nil
theorem needs13 (c : CT) (what : Int) (hs : smS c) :
  DRet 13 [.agg (ctv c), .int .i64 what] (.bool true) := by
 have h17 := small17 c hs
 have h24 := contact24 c hs
 have h40 := rline23 (E := ED) rfl (lng 101) 100 (by rw [lng_len]; omega)
 rw [lng_line] at h40
 obtain ⟨a, ha, hwr⟩ : ∃ a : Nat, a < 10 ∧ (IntKind.u64.wrap what).tmod 10 = a := by
  have h0 : 0 ≤ IntKind.u64.wrap what := by simp only [IntKind.wrap, IntKind.bits, IntKind.signed]; exact Int.emod_nonneg _ (by decide)
  refine ⟨((IntKind.u64.wrap what).tmod 10).toNat, ?_, ?_⟩
  ·have := Int.tmod_lt_of_pos (IntKind.u64.wrap what) (show (0 : Int) < 10 by decide); omega
  ·have := Int.tmod_nonneg 10 h0; omega
 refine acalls_goF c13 (by simp [f13]) ?_
 simp only [f13, ctv, finF_e, finF_en, ↓gos, gop, qA, qB, qC, qD, qE, qF, qG, qH, qI]
 refine call_clo h17 rfl rfl ?_
 cases smallC c
 ·simp only [finF_e, finF_en, ↓gos, gop, qA, qB, qC, qD, qE, qF, qG, qH, qI]
  refine call_clo awake28 rfl rfl ?_
  simp only [finF_e, finF_en, ↓gos, gop, qA, qB, qC, qD, qE, qF, qG, qH, qI]
  exact end_fc [] rfl rfl ⟨rfl, rfl⟩
 have hok := contact_ok c
 have hri := contact_right c
 generalize contactP c = p at *
 have h35 := right35 p hok
 rw [hri] at h35
 simp only [finF_e, finF_en, ↓gos, gop, qA, qB, qC, qD, qE, qF, qG, qH, qI]
 refine call_clo h24 rfl rfl ?_
 simp only [ctv, ocP_ctv, ctv_one, finF_e, finF_en, ↓gos, gop, qA, qB, qC, qD, qE, qF, qG, qH, qI]
 refine goN_lp (γ := Nat) (fun i => [(6, .int .i64 i), (5, .str (lng i)), (4, .bool false), (2, .ptr 0 0), (1, .int .i64 what)]) (fun _ => [.box (ctv p)]) (fun i => i ≤ 101) (fun i => 101 - i) 0
  (wks rfl (by simp) ⟨rfl, rfl, rfl, rfl, rfl, trivial⟩) (by omega) fun i hi => ?_
 have hone : IntKind.i64.wrap ((i : Int) + 1) = ((i + 1 : Nat) : Int) := by rw [wrap_i64 (by omega) (by omega)]; rfl
 have hll := lng_len i
 simp only [f13l0, ctv, hone, forall_eq, finF_e, finF_en, ↓gos, gop, qA, qB, qC, qD, qE, qF, qG, qH, qI]
 refine ⟨fun h => ?_, fun h => ?_⟩
 ·refine chk_i (by omega) (rnd_s (i + 1) rfl (by simp) ⟨rfl, ?_, rfl, rfl, rfl, trivial⟩ (by omega) (by omega))
  show DV.str (lng i ++ [195, 169]) = DV.str (lng (i + 1))
  rw [lng_next]
 ·obtain rfl : i = 101 := by omega
  refine call_clo awake28 rfl rfl ?_
  simp only [finF_e, finF_en, ↓gos, gop, qA, qB, qC, qD, qE, qF, qG, qH, qI]
  refine call_clo h35 rfl rfl ?_
  have l33 := fun k => props33f (badC p k) (bad_ok hok k) (bad_right p k)
  have l35 := fun k => right35 (badC p k) (bad_ok hok k)
  simp only [bad_right p] at l35
  simp only [hwr, forall_eq, finF_e, finF_en, ↓gos, gop, qA, qB, qC, qD, qE, qF, qG, qH, qI]
  obtain rfl | rfl | rfl | rfl | rfl | rfl | rfl | rfl | rfl | rfl : a = 0 ∨ a = 1 ∨ a = 2 ∨ a = 3 ∨ a = 4 ∨ a = 5 ∨ a = 6 ∨ a = 7 ∨ a = 8 ∨ a = 9 := by omega
  ·simp only [forall_eq, IntKind.wrap, IntKind.bits, IntKind.signed, rA, rB, rC, rD, rE, rF, rG, rH, rI, Int.reduceNeg, reduceIte, reduceCtorEq, ge_iff_le, Nat.reduceEqDiff, finF_e, finF_en, ↓gos, gop, qA, qB, qC, qD, qE, qF, qG, qH, qI]
   refine call_clo (l33 0) rfl rfl ?_
   simp only [finF_e, finF_en, ↓gos, gop, qA, qB, qC, qD, qE, qF, qG, qH, qI]
   refine call_clo (l35 0) rfl rfl ?_
   simp only [forall_eq, IntKind.wrap, IntKind.bits, IntKind.signed, rA, rB, rC, rD, rE, rF, rG, rH, rI, Int.reduceNeg, reduceIte, reduceCtorEq, ge_iff_le, Nat.reduceEqDiff, finF_e, finF_en, ↓gos, gop, qA, qB, qC, qD, qE, qF, qG, qH, qI]
   refine call_clo h40 rfl rfl ?_
   simp only [finF_e, finF_en, ↓gos, gop, qA, qB, qC, qD, qE, qF, qG, qH, qI]
   exact end_fc [] rfl rfl ⟨rfl, rfl⟩
  ·simp only [forall_eq, IntKind.wrap, IntKind.bits, IntKind.signed, rA, rB, rC, rD, rE, rF, rG, rH, rI, Int.reduceNeg, reduceIte, reduceCtorEq, ge_iff_le, Nat.reduceEqDiff, finF_e, finF_en, ↓gos, gop, qA, qB, qC, qD, qE, qF, qG, qH, qI]
   refine call_clo (l33 1) rfl rfl ?_
   simp only [finF_e, finF_en, ↓gos, gop, qA, qB, qC, qD, qE, qF, qG, qH, qI]
   refine call_clo (l35 1) rfl rfl ?_
   simp only [forall_eq, IntKind.wrap, IntKind.bits, IntKind.signed, rA, rB, rC, rD, rE, rF, rG, rH, rI, Int.reduceNeg, reduceIte, reduceCtorEq, ge_iff_le, Nat.reduceEqDiff, finF_e, finF_en, ↓gos, gop, qA, qB, qC, qD, qE, qF, qG, qH, qI]
   refine call_clo h40 rfl rfl ?_
   simp only [finF_e, finF_en, ↓gos, gop, qA, qB, qC, qD, qE, qF, qG, qH, qI]
   exact end_fc [] rfl rfl ⟨rfl, rfl⟩
  ·simp only [forall_eq, IntKind.wrap, IntKind.bits, IntKind.signed, rA, rB, rC, rD, rE, rF, rG, rH, rI, Int.reduceNeg, reduceIte, reduceCtorEq, ge_iff_le, Nat.reduceEqDiff, finF_e, finF_en, ↓gos, gop, qA, qB, qC, qD, qE, qF, qG, qH, qI]
   refine call_clo (l33 2) rfl rfl ?_
   simp only [finF_e, finF_en, ↓gos, gop, qA, qB, qC, qD, qE, qF, qG, qH, qI]
   refine call_clo (l35 2) rfl rfl ?_
   simp only [forall_eq, IntKind.wrap, IntKind.bits, IntKind.signed, rA, rB, rC, rD, rE, rF, rG, rH, rI, Int.reduceNeg, reduceIte, reduceCtorEq, ge_iff_le, Nat.reduceEqDiff, finF_e, finF_en, ↓gos, gop, qA, qB, qC, qD, qE, qF, qG, qH, qI]
   refine call_clo h40 rfl rfl ?_
   simp only [finF_e, finF_en, ↓gos, gop, qA, qB, qC, qD, qE, qF, qG, qH, qI]
   exact end_fc [] rfl rfl ⟨rfl, rfl⟩
  ·simp only [forall_eq, IntKind.wrap, IntKind.bits, IntKind.signed, rA, rB, rC, rD, rE, rF, rG, rH, rI, Int.reduceNeg, reduceIte, reduceCtorEq, ge_iff_le, Nat.reduceEqDiff, finF_e, finF_en, ↓gos, gop, qA, qB, qC, qD, qE, qF, qG, qH, qI]
   refine call_clo (l33 3) rfl rfl ?_
   simp only [finF_e, finF_en, ↓gos, gop, qA, qB, qC, qD, qE, qF, qG, qH, qI]
   refine call_clo (l35 3) rfl rfl ?_
   simp only [forall_eq, IntKind.wrap, IntKind.bits, IntKind.signed, rA, rB, rC, rD, rE, rF, rG, rH, rI, Int.reduceNeg, reduceIte, reduceCtorEq, ge_iff_le, Nat.reduceEqDiff, finF_e, finF_en, ↓gos, gop, qA, qB, qC, qD, qE, qF, qG, qH, qI]
   refine call_clo h40 rfl rfl ?_
   simp only [finF_e, finF_en, ↓gos, gop, qA, qB, qC, qD, qE, qF, qG, qH, qI]
   exact end_fc [] rfl rfl ⟨rfl, rfl⟩
  ·simp only [forall_eq, IntKind.wrap, IntKind.bits, IntKind.signed, rA, rB, rC, rD, rE, rF, rG, rH, rI, Int.reduceNeg, reduceIte, reduceCtorEq, ge_iff_le, Nat.reduceEqDiff, finF_e, finF_en, ↓gos, gop, qA, qB, qC, qD, qE, qF, qG, qH, qI]
   refine call_clo (l33 4) rfl rfl ?_
   simp only [finF_e, finF_en, ↓gos, gop, qA, qB, qC, qD, qE, qF, qG, qH, qI]
   refine call_clo (l35 4) rfl rfl ?_
   simp only [forall_eq, IntKind.wrap, IntKind.bits, IntKind.signed, rA, rB, rC, rD, rE, rF, rG, rH, rI, Int.reduceNeg, reduceIte, reduceCtorEq, ge_iff_le, Nat.reduceEqDiff, finF_e, finF_en, ↓gos, gop, qA, qB, qC, qD, qE, qF, qG, qH, qI]
   refine call_clo h40 rfl rfl ?_
   simp only [finF_e, finF_en, ↓gos, gop, qA, qB, qC, qD, qE, qF, qG, qH, qI]
   exact end_fc [] rfl rfl ⟨rfl, rfl⟩
  ·simp only [forall_eq, IntKind.wrap, IntKind.bits, IntKind.signed, rA, rB, rC, rD, rE, rF, rG, rH, rI, Int.reduceNeg, reduceIte, reduceCtorEq, ge_iff_le, Nat.reduceEqDiff, finF_e, finF_en, ↓gos, gop, qA, qB, qC, qD, qE, qF, qG, qH, qI]
   refine call_clo (l33 5) rfl rfl ?_
   simp only [finF_e, finF_en, ↓gos, gop, qA, qB, qC, qD, qE, qF, qG, qH, qI]
   refine call_clo (l35 5) rfl rfl ?_
   simp only [forall_eq, IntKind.wrap, IntKind.bits, IntKind.signed, rA, rB, rC, rD, rE, rF, rG, rH, rI, Int.reduceNeg, reduceIte, reduceCtorEq, ge_iff_le, Nat.reduceEqDiff, finF_e, finF_en, ↓gos, gop, qA, qB, qC, qD, qE, qF, qG, qH, qI]
   refine call_clo h40 rfl rfl ?_
   simp only [finF_e, finF_en, ↓gos, gop, qA, qB, qC, qD, qE, qF, qG, qH, qI]
   exact end_fc [] rfl rfl ⟨rfl, rfl⟩
  ·simp only [forall_eq, IntKind.wrap, IntKind.bits, IntKind.signed, rA, rB, rC, rD, rE, rF, rG, rH, rI, Int.reduceNeg, reduceIte, reduceCtorEq, ge_iff_le, Nat.reduceEqDiff, finF_e, finF_en, ↓gos, gop, qA, qB, qC, qD, qE, qF, qG, qH, qI]
   refine call_frz [1] rfl ?_
   simp only [List.map_nil, List.map_cons, finF_e, finF_en, ↓gos, gop, qA, qB, qC, qD, qE, qF, qG, qH, qI]
   refine call_clo (l33 6) rfl rfl ?_
   simp only [finF_e, finF_en, ↓gos, gop, qA, qB, qC, qD, qE, qF, qG, qH, qI]
   refine call_clo (l35 6) rfl rfl ?_
   simp only [forall_eq, IntKind.wrap, IntKind.bits, IntKind.signed, rA, rB, rC, rD, rE, rF, rG, rH, rI, Int.reduceNeg, reduceIte, reduceCtorEq, ge_iff_le, Nat.reduceEqDiff, finF_e, finF_en, ↓gos, gop, qA, qB, qC, qD, qE, qF, qG, qH, qI]
   refine call_clo h40 rfl rfl ?_
   simp only [finF_e, finF_en, ↓gos, gop, qA, qB, qC, qD, qE, qF, qG, qH, qI]
   exact end_fc [] rfl rfl ⟨rfl, rfl⟩
  ·simp only [forall_eq, IntKind.wrap, IntKind.bits, IntKind.signed, rA, rB, rC, rD, rE, rF, rG, rH, rI, Int.reduceNeg, reduceIte, reduceCtorEq, ge_iff_le, Nat.reduceEqDiff, finF_e, finF_en, ↓gos, gop, qA, qB, qC, qD, qE, qF, qG, qH, qI]
   refine call_frz [1] rfl ?_
   simp only [List.map_nil, List.map_cons, finF_e, finF_en, ↓gos, gop, qA, qB, qC, qD, qE, qF, qG, qH, qI]
   refine call_clo (l33 7) rfl rfl ?_
   simp only [finF_e, finF_en, ↓gos, gop, qA, qB, qC, qD, qE, qF, qG, qH, qI]
   refine call_clo (l35 7) rfl rfl ?_
   simp only [forall_eq, IntKind.wrap, IntKind.bits, IntKind.signed, rA, rB, rC, rD, rE, rF, rG, rH, rI, Int.reduceNeg, reduceIte, reduceCtorEq, ge_iff_le, Nat.reduceEqDiff, finF_e, finF_en, ↓gos, gop, qA, qB, qC, qD, qE, qF, qG, qH, qI]
   refine call_clo h40 rfl rfl ?_
   simp only [finF_e, finF_en, ↓gos, gop, qA, qB, qC, qD, qE, qF, qG, qH, qI]
   exact end_fc [] rfl rfl ⟨rfl, rfl⟩
  ·simp only [forall_eq, IntKind.wrap, IntKind.bits, IntKind.signed, rA, rB, rC, rD, rE, rF, rG, rH, rI, Int.reduceNeg, reduceIte, reduceCtorEq, ge_iff_le, Nat.reduceEqDiff, finF_e, finF_en, ↓gos, gop, qA, qB, qC, qD, qE, qF, qG, qH, qI]
   refine call_frz [1] rfl ?_
   simp only [List.map_nil, List.map_cons, finF_e, finF_en, ↓gos, gop, qA, qB, qC, qD, qE, qF, qG, qH, qI]
   refine call_clo ((l33 8).le (bad8_le p)) rfl rfl ?_
   simp only [finF_e, finF_en, ↓gos, gop, qA, qB, qC, qD, qE, qF, qG, qH, qI]
   refine call_clo ((l35 8).le (bad8_le p)) rfl rfl ?_
   simp only [forall_eq, IntKind.wrap, IntKind.bits, IntKind.signed, rA, rB, rC, rD, rE, rF, rG, rH, rI, Int.reduceNeg, reduceIte, reduceCtorEq, ge_iff_le, Nat.reduceEqDiff, finF_e, finF_en, ↓gos, gop, qA, qB, qC, qD, qE, qF, qG, qH, qI]
   refine call_clo h40 rfl rfl ?_
   simp only [finF_e, finF_en, ↓gos, gop, qA, qB, qC, qD, qE, qF, qG, qH, qI]
   exact end_fc [] rfl rfl ⟨rfl, rfl⟩
  ·simp only [forall_eq, IntKind.wrap, IntKind.bits, IntKind.signed, rA, rB, rC, rD, rE, rF, rG, rH, rI, Int.reduceNeg, reduceIte, reduceCtorEq, ge_iff_le, Nat.reduceEqDiff, finF_e, finF_en, ↓gos, gop, qA, qB, qC, qD, qE, qF, qG, qH, qI]
   refine .inr ⟨_, rfl, by decide, [255], rfl, ?_⟩
   refine call_clo (l33 9) rfl rfl ?_
   simp only [finF_e, finF_en, ↓gos, gop, qA, qB, qC, qD, qE, qF, qG, qH, qI]
   refine call_clo (l35 9) rfl rfl ?_
   simp only [forall_eq, IntKind.wrap, IntKind.bits, IntKind.signed, rA, rB, rC, rD, rE, rF, rG, rH, rI, Int.reduceNeg, reduceIte, reduceCtorEq, ge_iff_le, Nat.reduceEqDiff, finF_e, finF_en, ↓gos, gop, qA, qB, qC, qD, qE, qF, qG, qH, qI]
   refine call_clo h40 rfl rfl ?_
   simp only [finF_e, finF_en, ↓gos, gop, qA, qB, qC, qD, qE, qF, qG, qH, qI]
   exact end_fc [] rfl rfl ⟨rfl, rfl⟩
end Go.Proofs.Ut

namespace Go.Ai
open Go.RowKit
theorem row_walk {E : Env} {f : Nat} {args : List DV} (hc : ACalls E f [] args fun h d => h = [] ∧ d = .bool true) (W : World) (hg : E.G W) (hn : E.N ≤ W.heap.size) (vs : List Value) (hl : vs.length = args.length)
  (hv : ∀ (i : Nat) v d, vs[i]? = some v → args[i]? = some d → Rep W (fun b => b < W.heap.size) noLoc v d) : Calls E.P f vs.toArray W fun e W' => e = .returned (.bool true) ∧ Below W.heap.size W W' := by
 refine (hc.2 W (fun b => b < W.heap.size) noLoc vs hg hn ⟨fun _ _ => rfl, fun l l' b o o' h => by simp [noLoc] at h, fun l b o h => by simp [noLoc] at h, fun l b o h => by simp [noLoc] at h, fun _ h => h, fun l o h => by simp at h⟩ hl hv).mono ?_
 rintro e W' ⟨v, ok', β', h', d, rfl, ⟨_, rfl⟩, _, hev, _, hr, _⟩
 refine ⟨by rw [hr.bool_in], ⟨hev.os, hev.tape, hev.output, hev.size, fun k hk => hev.same k hk fun l x h => by simp [noLoc] at h⟩⟩
end Go.Ai

namespace Go.Proofs.Ut
open Go.Shelf Go.Lib Go.RowKit
open Go.Proofs.YtgamnnfndidclaaGreatDoor Go.Ai
noncomputable abbrev laidL : List (String × DataW Unit) := [("unicode/utf8.acceptRanges", Rows.laid_unicode_utf8_acceptRanges), ("unicode.asciiFold", Rows.laid_unicode_asciiFold), ("unicode.caseOrbit", Rows.laid_unicode_caseOrbit), ("unicode.CaseRanges", Rows.laid_unicode_CaseRanges), ("unicode/utf8.first", Rows.laid_unicode_utf8_first)]
theorem accept_eq : (Rows.laid_unicode_utf8_acceptRanges : DataW Unit) = acceptData := by kernel_rfl
theorem first_eq : Rows.laid_unicode_utf8_first = firstData := by kernel_rfl
def foldZ : List Int := (List.range 128).map foldC
theorem fold_eq : (Rows.laid_unicode_asciiFold : DataW Unit) = tabData .u16 foldZ := by kernel_rfl
theorem tab_of_read {P : Program} {W : World} {name : String} {k : IntKind} {zs : List Int} {g : Nat} {t e : TypeId} {n : Nat}
  (hg : P.globalNamed name = some g) (hty : (P.globals[g]?).map (·.type) = some t) (ht : P.underlying t = some (.array n e)) (he : P.underlying e = some (.int k)) (hce : P.cellsOf e = 1) (hct : P.cellsOf t = n)
  (h : VarReads P W name (tabData k zs)) : TabIs P W name k zs := by
 obtain ⟨g', t', cs, fuel, p, hg', ht', hvar, hd⟩ := h
 obtain rfl := Option.some.inj (hg.symm.trans hg')
 obtain rfl := Option.some.inj (hty.symm.trans ht')
 unfold TabIs
 rw [hvar, ← cells_of_tab ht he hce hct hd]
theorem laid_of {W : World} (h : laidMetH Tryz.prog laidL W) (hsh : W.ShapedOpen Tryz.prog) : Laid W := by
 rw [MakeChecks.laidMetH_plain _ _ _ (by kernel_rfl)] at h
 have h3 := Lib.laidMet.reads h (.tail _ (.tail _ (.tail _ (.tail _ (.head _)))))
 have h4 := Lib.laidMet.reads h (.head _)
 have h0 := Lib.laidMet.reads h (.tail _ (.head _))
 rw [first_eq] at h3
 rw [accept_eq] at h4
 rw [fold_eq] at h0
 refine ⟨utf8Tabs_of_readsT (U8Types.of196 Tryz.laysValid) ⟨by kernel_rfl, by kernel_rfl, by kernel_rfl, by kernel_rfl, by kernel_rfl, by kernel_rfl, by kernel_rfl⟩ h3 h4, ?_, fun i hi => ?_⟩
 ·exact cell_of_shapedOpen_int (t := 3) (zero := #[.int .i64 0]) hsh (of_decide_eq_true (by kernel_rfl)) (by kernel_rfl) (by kernel_rfl) (by kernel_rfl) (by kernel_rfl) (by kernel_rfl)
 ·have ht := tab_of_read (P := Tryz.prog) (g := 3) (t := 259) (e := 258) (n := 128) (by kernel_rfl) (by kernel_rfl) (by kernel_rfl) (by kernel_rfl) (by kernel_rfl) (by kernel_rfl) h0
  have := ht.cell (g := 3) (by kernel_rfl) i (by simpa [foldZ] using hi)
  rw [this]
  simp [foldZ, hi]
theorem laid_size {W : World} (h : Laid W) : 4 ≤ W.heap.size := by
 have hm := h.fold 0 (by omega)
 rcases Nat.lt_or_ge 3 W.heap.size with h1 | h1
 ·exact h1
 ·simp [World.cell?, Array.getElem?_eq_none h1] at hm
theorem door_walk {f : Nat} {args : List DV} (hc : Ai.ACalls ED f [] args fun h d => h = [] ∧ d = .bool true) (W : World) (hT : Laid W) (vs : List Value) (hl : vs.length = args.length)
  (hv : ∀ (i : Nat) v d, vs[i]? = some v → args[i]? = some d → Ai.Rep W (fun b => b < W.heap.size) Ai.noLoc v d) : Calls Tryz.prog f vs.toArray W fun e W' => e = .returned (.bool true) ∧ Below W.heap.size W W' :=
 Ai.row_walk hc W hT (laid_size hT) vs hl hv
end Go.Proofs.Ut
