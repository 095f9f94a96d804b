/- contact.Of itself. -/
import Derived.Test.YtgamnnfndidclaaGreatDoorYX6
import Derived.Test.YtgamnnfndidclaaGreatDoorLawJid
open Nat renaming reduceBEq → qA, reduceAdd → qB, reduceSub → qC, reduceLeDiff → qD, reduceMul → qE
open Int renaming reduceLE → qF, reduceLT → qG, reduceNe → qH, reduceToNat → qI
set_option linter.all false
namespace Go.Proofs.Ut
open Go.Ai
set_option maxRecDepth 100000
def wasE (ns : List (List UInt8)) : List (List UInt8 × PV) := ns.map fun n => (n, .int .i64 1)
def ofStep (c : CT) (ns : List (List UInt8)) (p : PR) : CT × List (List UInt8) × Int :=
 if 0 ≤ knI p.n 9 ∧ p.g = [] ∧ p.ps = [] ∧ p.n ∉ ns then
  (if (takeP c p.v (knI p.n 9).toNat).2.2 = 0 then
   (if (takeP c p.v (knI p.n 9).toNat).2.1 = true then ((takeP c p.v (knI p.n 9).toNat).1, ns ++ [p.n], 0)
   else ({ (takeP c p.v (knI p.n 9).toNat).1 with other := (takeP c p.v (knI p.n 9).toNat).1.other ++ [p] }, ns, 0))
  else (C0, ns, (takeP c p.v (knI p.n 9).toNat).2.2))
 else ({ c with other := c.other ++ [p] }, ns, 0)
def ofK (l : List PR) : Nat → CT × List (List UInt8) × Int
 | 0 => (C0, [], 0)
 | i + 1 => if (ofK l i).2.2 = 0 then (match l[i]? with | some p => ofStep (ofK l i).1 (ofK l i).2.1 p | none => ofK l i) else ofK l i
theorem ofK_err {l : List PR} {k : Nat} (h : (ofK l k).2.2 ≠ 0) : ∀ n, ofK l (k + n) = ofK l k
 | 0 => rfl
 | n + 1 => by
  rw [show k + (n + 1) = (k + n) + 1 from rfl, ofK, ofK_err h n, if_neg h]
def ofR (l : List PR) : CT × Int :=
 if (ofK l l.length).2.2 = 0 then (if rightC (ofK l l.length).1 = true then ((ofK l l.length).1, 0) else (C0, 12)) else (C0, (ofK l l.length).2.2)
theorem was_val (s : List UInt8) : ∀ ns, valE s (.int .i64 0) (wasE ns) = .int .i64 (if s ∈ ns then 1 else 0)
 | [] => rfl
 | n :: ns => by
  have := was_val s ns
  simp only [wasE, List.map_cons, valE] at *
  by_cases h : n = s
  ·subst h; simp
  ·rw [if_neg h, this]
   have : s ∈ n :: ns ↔ s ∈ ns := by simp [Ne.symm h]
   simp only [this]
theorem was_has (s : List UInt8) : ∀ ns, hasE s (wasE ns) = decide (s ∈ ns)
 | [] => rfl
 | n :: ns => by
  have := was_has s ns
  simp only [wasE, List.map_cons, hasE] at *
  by_cases h : n = s
  ·subst h; simp
  ·rw [if_neg h, this]
   simp [Ne.symm h]
theorem was_put (s : List UInt8) (ns : List (List UInt8)) (h : s ∉ ns) : putE (wasE ns) s (.int .i64 1) = wasE (ns ++ [s]) := by
 unfold putE
 rw [was_has, decide_eq_false h]
 simp [wasE]
theorem fk_one (nm : List UInt8) : (foundK nm).all DV.one = true := by unfold foundK; split <;> rfl
theorem fk_len (nm : List UInt8) : (foundK nm).length = 3 := by unfold foundK; split <;> rfl
theorem fk_closed (nm : List UInt8) : (DV.agg (foundK nm)).closed = true := by
 have hi := knI_le nm 9
 unfold foundK
 split
 ·exact knv_closed _ (by omega)
 ·rfl
theorem ocP_fk (nm : List UInt8) (h : List AObj) (K : List DV → List AObj → Prop) : ocP (foundK nm) h K = K (foundK nm) h := by
 unfold foundK
 split
 ·simp only [knv, ↓gos, gop, qA, qB, qC, qD, qE, qF, qG, qH, qI]
 ·simp only [↓gos, gop, qA, qB, qC, qD, qE, qF, qG, qH, qI]
def cty (c : CT) : List DV := [.str c.name, .str c.family, .str c.given, .str c.nick, .str c.jid, .str c.email, .str c.tel, .str c.note, .str c.uid, .osl 1 7 0 c.groups.length none, .osl 4 8 0 c.other.length none]
theorem knI_at (nm : List UInt8) : ∀ n, 0 ≤ knI nm n → KNS.getD (knI nm n).toNat [] = nm
 | 0, h => by simp [knI] at h
 | n + 1, h => by
  rw [knI] at h ⊢
  split
  ·rename_i h2; exact knI_at nm n h2
  ·rename_i h2
   rw [if_neg h2] at h
   split
   ·rename_i h3; simpa using h3
   ·rename_i h3; rw [if_neg h3] at h; omega
theorem takeP_other (c : CT) (s : List UInt8) (k : Nat) : (takeP c s k).1.other = c.other := by
 unfold takeP
 split
 case _ => rfl
 case _ =>
  simp only [nameP]
  split
  ·rfl
  ·split
   ·split <;> rfl
   ·rfl
 case _ => rfl
 case _ =>
  simp only [addrP]
  split
  ·split <;> rfl
  ·rfl
 all_goals rfl
theorem of27 (l : List PR) (hl : l.length < 1000000) (hwt : ∀ p ∈ l, p.v.length < 100000000 ∧ p.ps.length < 1000000000) (hcat : ∀ p ∈ l, p.n ≠ KNS.getD 6 []) (hok : (ofK l l.length).2.2 = 0 → okS (ofK l l.length).1) : DRet 27 [.sl 4 (l.map pv)] (.tup [.agg (ctv (ofR l).1), .int .i64 (ofR l).2]) := by
  refine acalls_goF c27 (by simp [f27]) ?_
  simp only [f27, finF_e, finF_en, ↓gos, gop, qA, qB, qC, qD, qE, qF, qG, qH, qI]
  have hC0 : DV.agg (ctv C0) = .agg (ctv C0) := rfl
  refine goN_lp (γ := Nat) (fun i => [(16, .int .i64 i), (15, .int .i64 l.length), (14, .sl 4 (l.map pv)), (5, .mp 3), (4, .ptr 6 0), (3, .int .i64 0), (2, .ptr 2 0)]) (fun i => [.arr 1 [], .arr 4 [], .box [.str [], .str [], .str [], .str [], .str [], .str [], .str [], .str [], .str [], .osl 1 0 0 0 none, .osl 4 1 0 0 none], .mapo (wasE (ofK l i).2.1), .arr 1 [], .arr 4 [], .box (cty (ofK l i).1), .arr 1 ((ofK l i).1.groups.map sv), .arr 4 ((ofK l i).1.other.map pv)])
    (fun i => i ≤ l.length ∧ (ofK l i).2.2 = 0 ∧ (ofK l i).1.other.length ≤ i) (fun i => l.length - i) 0
    (wks rfl (by simp) ⟨rfl, rfl, rfl, rfl, rfl, rfl, rfl, trivial⟩) ⟨by omega, rfl, Nat.le_refl _⟩ fun i ⟨hi, hz, hol⟩ => ?_
  simp only [f27l0, finF_e, finF_en, ↓gos, gop, qA, qB, qC, qD, qE, qF, qG, qH, qI]
  refine ⟨fun h5 => ?_, fun h5 => ?_⟩
  · have h2 : i < l.length := by omega
    have hm : l[i] ∈ l := List.getElem_mem h2
    have hstep : ofK l (i + 1) = ofStep (ofK l i).1 (ofK l i).2.1 l[i] := by rw [ofK, if_pos hz, List.getElem?_eq_getElem h2]
    refine optP_in l[i] (by simp [h2]) ?_
    generalize l[i] = p at *
    generalize ofK l i = o at *
    obtain ⟨c, ns, e⟩ := o
    simp only at hz hstep hol
    simp only [pv, cty, finF_e, finF_en, ↓gos, gop, qA, qB, qC, qD, qE, qF, qG, qH, qI]
    refine goN_two [(9, .bool (decide (0 ≤ knI p.n 9))), (8, .ptr 11 0), (7, .ptr 10 0), (16, .int .i64 i), (15, .int .i64 l.length), (14, .sl 4 (l.map pv)), (5, .mp 3), (4, .ptr 6 0), (3, .int .i64 0), (2, .ptr 2 0)]
      [.arr 1 [], .arr 4 [], .box [.str [], .str [], .str [], .str [], .str [], .str [], .str [], .str [], .str [], .osl 1 0 0 0 none, .osl 4 1 0 0 none], .mapo (wasE ns), .arr 1 [], .arr 4 [], .box (cty c), .arr 1 (c.groups.map sv), .arr 4 (c.other.map pv), .arr 2 [], .box (pv p), .box (foundK p.n)] ?_ (fun hk => ?_) (fun hk => ?_)
    · have hi9 := knI_le p.n 9
      by_cases hf : 0 ≤ knI p.n 9 ∧ p.g = [] ∧ p.ps = [] ∧ p.n ∉ ns
      · obtain ⟨h0, hg, hps, hns⟩ := hf
        have hk9 : (knI p.n 9).toNat < 9 := by omega
        have hfk : foundK p.n = knv (knI p.n 9).toNat := if_pos h0
        have hv0 : valE p.n (.int .i64 0) (wasE ns) = .int .i64 0 := by rw [was_val, if_neg hns]
        simp only [pv, cty, hfk, knv, hg, hps, hv0, decide_eq_true h0, lookD, PV.dv, List.map_nil, List.length_nil, finF_e, finF_en, ↓gos, gop, qA, qB, qC, qD, qE, qF, qG, qH, qI]
        have hcc := kc_closed _ hk9
        have htk := takes_at c p.v (hwt p hm).1 (knI p.n 9).toNat hk9 (fun h => hcat p hm (by have := knI_at p.n 9 h0; rw [h] at this; exact this.symm))
        refine call_h (DR := .tup [.bool (takeP c p.v (knI p.n 9).toNat).2.1, .int .i64 (takeP c p.v (knI p.n 9).toNat).2.2]) (h1 := HX c) (ds1 := .ptr 0 0 :: .str p.v :: kc (knI p.n 9).toNat) [6, 8, 7] [8, 7] (by decide) (by simp) rfl rfl (by
          simp only [List.map_cons]
          rw [map_same fun d hd => (show DV.dn _ _ d = d from closed_low (List.all_eq_true.1 hcc d hd))]
          rfl) (by
          simp only [List.all_cons, Bool.and_eq_true]
          exact ⟨⟨rfl, rfl, List.all_eq_true.2 fun d hd => closed_inL (List.all_eq_true.1 hcc d hd)⟩, rfl, rfl, rfl, rfl⟩) htk rfl ?_
        have hs : ofStep c ns p = if (takeP c p.v (knI p.n 9).toNat).2.2 = 0 then
            (if (takeP c p.v (knI p.n 9).toNat).2.1 = true then ((takeP c p.v (knI p.n 9).toNat).1, ns ++ [p.n], 0)
            else ({ (takeP c p.v (knI p.n 9).toNat).1 with other := (takeP c p.v (knI p.n 9).toNat).1.other ++ [p] }, ns, 0))
            else (C0, ns, (takeP c p.v (knI p.n 9).toNat).2.2) := if_pos ⟨h0, hg, hps, hns⟩
        rw [hs] at hstep
        clear hs htk
        have hto := takeP_other c p.v (knI p.n 9).toNat
        generalize takeP c p.v (knI p.n 9).toNat = o at *
        obtain ⟨c', t, e'⟩ := o
        simp only at hstep hto
        rw [← hto] at hol
        have herr : e' ≠ 0 → ofR l = (C0, e') := fun he => by
          rw [if_neg he] at hstep
          have h := ofK_err (l := l) (k := i + 1) (by rw [hstep]; exact he) (l.length - (i + 1))
          rw [show i + 1 + (l.length - (i + 1)) = l.length by omega, hstep] at h
          unfold ofR
          rw [h, if_neg he]
        have w1 : IntKind.i64.wrap ((i : Int) + 1) = ((i + 1 : Nat) : Int) := by rw [wrap_i64 (by omega) (by omega)]; rfl
        cases t
        · simp only [HX, ctx, List.foldl, setAll, renO, DV.ren, upL, finF_e, finF_en, ↓gos, gop, qA, qB, qC, qD, qE, qF, qG, qH, qI]
          refine ⟨fun he => ?_, fun he => ?_⟩
          · rw [herr he]
            exact end_fc [12, 13] rfl rfl ⟨rfl, rfl⟩
          · subst he
            rw [if_pos rfl, if_neg (by simp)] at hstep
            have hown := own57 p (hwt p hm).2
            simp only [pv, hg, hps, List.map_nil] at hown
            refine call_clo hown rfl rfl ?_
            simp only [w1, forall_eq, finF_e, finF_en, ↓gos, gop, qA, qB, qC, qD, qE, qF, qG, qH, qI]
            refine chk_i (by omega) (chk_i (by omega) ?_)
            refine rnd_d 9 (i + 1) ?_ (by simp) ⟨rfl, rfl, rfl, rfl, rfl, rfl, rfl, rfl, rfl, rfl, rfl, rfl, rfl, rfl, trivial⟩ ?_ ⟨by omega, by rw [hstep], by rw [hstep]; simp; omega⟩ (by omega)
            · rw [hstep]
              simp only [List.map_append, List.map_cons, List.map_nil, cty, List.length_append, List.length_cons, List.length_nil, Nat.zero_add, pv, hg, hps]
              rfl
            · rfl
        · simp only [HX, ctx, hv0, lookD, PV.dv, w1, forall_eq, List.foldl, setAll, renO, DV.ren, upL, finF_e, finF_en, ↓gos, gop, qA, qB, qC, qD, qE, qF, qG, qH, qI]
          refine ⟨fun he => ?_, fun he => ?_⟩
          · rw [herr he]
            exact end_fc [12, 13] rfl rfl ⟨rfl, rfl⟩
          · subst he
            rw [if_pos rfl, if_pos rfl] at hstep
            have hw0 : IntKind.i64.wrap (0 + 1) = 1 := by decide
            refine rnd_d 9 (i + 1) ?_ (by simp) ⟨rfl, rfl, rfl, rfl, rfl, rfl, rfl, rfl, rfl, rfl, rfl, rfl, rfl, rfl, trivial⟩ ?_ ⟨by omega, by rw [hstep], by rw [hstep]; simp only; omega⟩ (by omega)
            · rw [hstep, hw0, was_put _ _ hns]
              rfl
            · rfl
      · have hs : ofStep c ns p = ({ c with other := c.other ++ [p] }, ns, 0) := if_neg hf
        rw [hs] at hstep
        have w1 : IntKind.i64.wrap ((i : Int) + 1) = ((i + 1 : Nat) : Int) := by rw [wrap_i64 (by omega) (by omega)]; rfl
        by_cases h0 : 0 ≤ knI p.n 9
        · by_cases hg : p.g = []
          · by_cases hps : p.ps = []
            · have hns : p.n ∈ ns := Classical.byContradiction fun h => hf ⟨h0, hg, hps, h⟩
              have hv0 : valE p.n (.int .i64 0) (wasE ns) = .int .i64 1 := by rw [was_val, if_pos hns]
              simp only [pv, cty, hg, hps, hv0, decide_eq_true h0, lookD, PV.dv, List.map_nil, List.length_nil, finF_e, finF_en, ↓gos, gop, qA, qB, qC, qD, qE, qF, qG, qH, qI]
              refine ⟨fun h => absurd h (by decide), fun _ => ?_⟩
              have hown := own57 p (hwt p hm).2
              simp only [pv, hg, hps, List.map_nil] at hown
              refine call_clo hown rfl rfl ?_
              simp only [w1, forall_eq, finF_e, finF_en, ↓gos, gop, qA, qB, qC, qD, qE, qF, qG, qH, qI]
              refine chk_i (by omega) (chk_i (by omega) ?_)
              refine rnd_d 9 (i + 1) ?_ (by simp) ⟨rfl, rfl, rfl, rfl, rfl, rfl, rfl, rfl, rfl, rfl, rfl, rfl, rfl, rfl, trivial⟩ ?_ ⟨by omega, by rw [hstep], by rw [hstep]; simp; omega⟩ (by omega)
              · rw [hstep]
                simp only [List.map_append, List.map_cons, List.map_nil, cty, List.length_append, List.length_cons, List.length_nil, Nat.zero_add, pv, hg, hps, List.map_nil]
                rfl
              · rfl
            · simp only [pv, cty, hg, decide_eq_true h0, List.length_map, finF_e, finF_en, ↓gos, gop, qA, qB, qC, qD, qE, qF, qG, qH, qI]
              refine ⟨fun h => absurd (List.eq_nil_of_length_eq_zero (by omega)) hps, fun _ => ?_⟩
              have hown := own57 p (hwt p hm).2
              simp only [pv, hg] at hown
              refine call_clo hown rfl rfl ?_
              simp only [w1, forall_eq, finF_e, finF_en, ↓gos, gop, qA, qB, qC, qD, qE, qF, qG, qH, qI]
              refine chk_i (by omega) (chk_i (by omega) ?_)
              refine rnd_d 9 (i + 1) ?_ (by simp) ⟨rfl, rfl, rfl, rfl, rfl, rfl, rfl, rfl, rfl, rfl, rfl, rfl, rfl, rfl, trivial⟩ ?_ ⟨by omega, by rw [hstep], by rw [hstep]; simp; omega⟩ (by omega)
              · rw [hstep]
                simp only [List.map_append, List.map_cons, List.map_nil, cty, List.length_append, List.length_cons, List.length_nil, Nat.zero_add, pv, hg]
                rfl
              · rfl
          · simp only [pv, cty, decide_eq_true h0, finF_e, finF_en, ↓gos, gop, qA, qB, qC, qD, qE, qF, qG, qH, qI]
            refine ⟨fun h => absurd h hg, fun _ => ?_⟩
            refine call_clo (own57 p (hwt p hm).2) rfl rfl ?_
            simp only [pv, w1, forall_eq, finF_e, finF_en, ↓gos, gop, qA, qB, qC, qD, qE, qF, qG, qH, qI]
            refine chk_i (by omega) (chk_i (by omega) ?_)
            refine rnd_d 9 (i + 1) ?_ (by simp) ⟨rfl, rfl, rfl, rfl, rfl, rfl, rfl, rfl, rfl, rfl, rfl, rfl, rfl, rfl, trivial⟩ ?_ ⟨by omega, by rw [hstep], by rw [hstep]; simp; omega⟩ (by omega)
            · rw [hstep]
              simp only [List.map_append, List.map_cons, List.map_nil, cty, List.length_append, List.length_cons, List.length_nil, Nat.zero_add]
              rfl
            · rfl
        · simp only [pv, cty, decide_eq_false h0, finF_e, finF_en, ↓gos, gop, qA, qB, qC, qD, qE, qF, qG, qH, qI]
          refine call_clo (own57 p (hwt p hm).2) rfl rfl ?_
          simp only [pv, w1, forall_eq, finF_e, finF_en, ↓gos, gop, qA, qB, qC, qD, qE, qF, qG, qH, qI]
          refine chk_i (by omega) (chk_i (by omega) ?_)
          refine rnd_d 9 (i + 1) ?_ (by simp) ⟨rfl, rfl, rfl, rfl, rfl, rfl, rfl, rfl, rfl, rfl, rfl, rfl, rfl, rfl, trivial⟩ ?_ ⟨by omega, by rw [hstep], by rw [hstep]; simp; omega⟩ (by omega)
          · rw [hstep]
            simp only [List.map_append, List.map_cons, List.map_nil, cty, List.length_append, List.length_cons, List.length_nil, Nat.zero_add]
            rfl
          · rfl
    · rw [goN_wk]
      simp only [finF_e, finF_en, ↓gos, gop, qA, qB, qC, qD, qE, qF, qG, qH, qI]
      refine call_clo all56 rfl rfl ?_
      simp only [finF_e, finF_en, ↓gos, gop, qA, qB, qC, qD, qE, qF, qG, qH, qI]
      refine call_clo (find55 p.n) rfl (by show ((DV.agg (foundK p.n)).closed && _) = true; rw [fk_closed]; rfl) ?_
      simp only [fk_one, fk_len, ocP_fk, finF_e, finF_en, ↓gos, gop, qA, qB, qC, qD, qE, qF, qG, qH, qI]
      refine goK_wkf ?_ hk
      exact wks rfl (by simp) ⟨rfl, rfl, rfl, rfl, rfl, rfl, rfl, rfl, rfl, rfl, trivial⟩
    · repeat' refine goN_both ?_ ?_
      all_goals
        rw [goN_wk]
        simp only [finF_e, finF_en, ↓gos, gop, qA, qB, qC, qD, qE, qF, qG, qH, qI]
        refine call_clo all56 rfl rfl ?_
        simp only [finF_e, finF_en, ↓gos, gop, qA, qB, qC, qD, qE, qF, qG, qH, qI]
        refine call_clo (find55 p.n) rfl (by show ((DV.agg (foundK p.n)).closed && _) = true; rw [fk_closed]; rfl) ?_
        simp only [fk_one, fk_len, ocP_fk, finF_e, finF_en, ↓gos, gop, qA, qB, qC, qD, qE, qF, qG, qH, qI]
        refine goK_wkf ?_ hk
        exact wks rfl (by simp) ⟨rfl, rfl, rfl, rfl, rfl, rfl, rfl, rfl, rfl, rfl, trivial⟩
  · have h2 : i = l.length := by omega
    subst h2
    have hfin : ofR l = if rightC (ofK l l.length).1 = true then ((ofK l l.length).1, 0) else (C0, 12) := by unfold ofR; rw [if_pos hz]
    have hokS := hok hz
    rw [hfin]
    generalize ofK l l.length = o at *
    obtain ⟨c, ns, e⟩ := o
    simp only at hz hol hokS
    simp only [cty, finF_e, finF_en, ↓gos, gop, qA, qB, qC, qD, qE, qF, qG, qH, qI]
    refine call_frz [7, 8] rfl ?_
    have e1 : List.take c.groups.length (List.map sv c.groups) = List.map sv c.groups := List.take_of_length_le (by simp)
    have e2 : List.take c.other.length (List.map pv c.other) = List.map pv c.other := List.take_of_length_le (by simp)
    simp only [e1, e2, List.length_map, Nat.le_refl, decide_true, finF_e, finF_en, ↓gos, gop, qA, qB, qC, qD, qE, qF, qG, qH, qI]
    refine call_clo (right35 c hokS) rfl rfl ?_
    cases rightC c
    · simp only [Bool.false_eq_true, reduceIte, finF_e, finF_en, ↓gos, gop, qA, qB, qC, qD, qE, qF, qG, qH, qI]
      exact end_fc [9, 10] rfl rfl ⟨rfl, rfl⟩
    · simp only [reduceIte, finF_e, finF_en, ↓gos, gop, qA, qB, qC, qD, qE, qF, qG, qH, qI]
      exact end_fc [] rfl rfl ⟨rfl, rfl⟩
def lineOK (s : List UInt8) (m : Nat) : Bool := (rs s).all (fun c => decide (32 ≤ c)) && (runAt mayB s 0 && decide ((rs s).length ≤ m))
def keepL (m : Nat) : List UInt8 → List UInt8 → List UInt8
 | out, [] => out
 | out, x :: s => if out.length < m then keepL m (if 32 ≤ x.toNat ∧ x.toNat < 127 then out ++ [x] else out) s else out
theorem keepL_snoc (m : Nat) : ∀ (s out : List UInt8) (x : UInt8), keepL m out (s ++ [x]) = if (keepL m out s).length < m then (if 32 ≤ x.toNat ∧ x.toNat < 127 then keepL m out s ++ [x] else keepL m out s) else keepL m out s
 | [], out, x => by simp only [List.nil_append, keepL]; rfl
 | y :: s, out, x => by
  simp only [List.cons_append, keepL]
  split
  ·exact keepL_snoc m s _ x
  ·rfl
theorem keepL_len (m : Nat) : ∀ (s out : List UInt8), out.length ≤ m → (keepL m out s).length ≤ m
 | [], out, h => h
 | y :: s, out, h => by
  unfold keepL
  split
  ·refine keepL_len m s _ ?_
   split
   ·simp; omega
   ·exact h
  ·exact h
theorem keepL_full (m : Nat) {s : List UInt8} {i : Nat} (h : m ≤ (keepL m [] (s.take i)).length) : ∀ n, keepL m [] (s.take (i + n)) = keepL m [] (s.take i)
 | 0 => rfl
 | n + 1 => by
  have ih := keepL_full m h n
  rcases Nat.lt_or_ge (i + n) s.length with h2 | h2
  ·rw [show i + (n + 1) = (i + n) + 1 from rfl, take_getD h2 0, keepL_snoc, ih, if_neg (by omega)]
  ·rw [List.take_of_length_le (by omega)]
   rwa [List.take_of_length_le h2] at ih
def lineP (s : List UInt8) (m : Nat) : List UInt8 := if lineOK s m = true then s else keepL m [] s
theorem line25 (s : List UInt8) (m : Nat) (hs : s.length < 100000000000) (hm : m < 1000000) : DRet 25 [.str s, .int .i64 m] (.str (lineP s m)) := by
 have h40 := rline23 (E := ED) rfl s m hs
 refine acalls_go c25 (by simp [f25]) ?_
 simp only [f25, ↓gos, gop, qA, qB, qC, qD, qE, qF, qG, qH, qI]
 refine call_ret h40 rfl rfl ?_
 unfold lineP
 have ho : ((rs s).all (fun c => decide (32 ≤ c)) && (runAt mayB s 0 && decide (((rs s).length : Int) ≤ (m : Int)))) = lineOK s m := by
  unfold lineOK
  have : decide (((rs s).length : Int) ≤ (m : Int)) = decide ((rs s).length ≤ m) := by simp
  rw [this]
 rw [ho]
 cases lineOK s m
 ·simp only [Bool.false_eq_true, reduceIte, ↓gos, gop, qA, qB, qC, qD, qE, qF, qG, qH, qI]
  refine goN_lp (γ := Nat) (fun i => [(6, .int .i64 i), (5, .str (keepL m [] (s.take i))), (0, .str s), (1, .int .i64 m)]) (fun _ => []) (fun i => i ≤ s.length) (fun i => s.length - i) 0
   (wks rfl (by simp) ⟨rfl, rfl, rfl, rfl, trivial⟩) (by omega) fun i hi => ?_
  have hk := keepL_len m (s.take i) [] (by simp)
  simp only [f25l0, ↓gos, gop, qA, qB, qC, qD, qE, qF, qG, qH, qI]
  refine ⟨fun h => ?_, fun h => ?_⟩
  ·have h2 : i < s.length := by omega
   have htk := take_getD h2 0
   have hsn := keepL_snoc m (s.take i) [] (s.getD i 0)
   have hbt : bt s i = ((s.getD i 0).toNat : Int) := rfl
   have hcut : List.take (i + 1 - i) (List.drop i s) = [s.getD i 0] := by
    rw [show i + 1 - i = 1 by omega, List.getD_eq_getElem?_getD, List.getElem?_eq_getElem h2, List.drop_eq_getElem_cons h2]; rfl
   refine ⟨fun h3 => ?_, fun h3 => ?_⟩
   ·have h3 : (keepL m [] (s.take i)).length < m := by omega
    rw [if_pos h3] at hsn
    refine chk_i (by omega) ⟨fun h4 => chk_i (by omega) ⟨fun h5 => ?_, fun h5 => ?_⟩, fun h4 => ?_⟩
    ·rw [hbt] at h4 h5
     rw [if_pos ⟨by omega, by omega⟩] at hsn
     intro v hv
     rw [wrap_i64 (by omega) (by omega)] at hv
     have e : v = ((i + 1 : Nat) : Int) := by rw [hv]; rfl
     subst e
     rw [show ((i + 1 : Nat) : Int).toNat = i + 1 from rfl, hcut]
     refine chk_i (by omega) (chk_i (by omega) (chk_i (by simp only [List.length_cons, List.length_nil]; omega) ?_))
     intro v hv
     rw [wrap_i64 (by omega) (by omega)] at hv
     have e : v = ((i + 1 : Nat) : Int) := by rw [hv]; rfl
     subst e
     refine rnd_s (i + 1) rfl (by simp) ⟨rfl, ?_, rfl, rfl, trivial⟩ (by omega) (by omega)
     rw [htk, hsn]; rfl
    ·rw [hbt] at h4 h5
     rw [if_neg (by omega)] at hsn
     intro v hv
     rw [wrap_i64 (by omega) (by omega)] at hv
     have e : v = ((i + 1 : Nat) : Int) := by rw [hv]; rfl
     subst e
     refine rnd_s (i + 1) rfl (by simp) ⟨rfl, ?_, rfl, rfl, trivial⟩ (by omega) (by omega)
     rw [htk, hsn]; rfl
    ·rw [hbt] at h4
     rw [if_neg (by omega)] at hsn
     intro v hv
     rw [wrap_i64 (by omega) (by omega)] at hv
     have e : v = ((i + 1 : Nat) : Int) := by rw [hv]; rfl
     subst e
     refine rnd_s (i + 1) rfl (by simp) ⟨rfl, ?_, rfl, rfl, trivial⟩ (by omega) (by omega)
     rw [htk, hsn]; rfl
   ·refine ends ?_
    have hf := keepL_full m (s := s) (i := i) (by omega) (s.length - i)
    rw [show i + (s.length - i) = s.length by omega, List.take_length] at hf
    exact hf.symm
  ·have h2 : i = s.length := by omega
   subst h2
   rw [List.take_length]
   exact ends rfl
 ·simp only [reduceIte, ↓gos, gop, qA, qB, qC, qD, qE, qF, qG, qH, qI]
  exact ends rfl
end Go.Proofs.Ut

namespace Go.Ai
def Le (d' d : DV) : Prop := ∀ (w : World) (ok : Nat → Prop) (β : Loc) (v : Value), Rep w ok β v d' → Rep w ok β v d
theorem Le.refl (d : DV) : Le d d := fun _ _ _ _ h => h
theorem le_nils {sz : Nat} : Le (.nils sz) (.sl sz []) := fun w ok β v h => by
 cases h with
 | nils sz hz => exact .sl none 0 0 sz [] 0 0 (fun _ => .int .i64 0) rfl (Nat.le_refl _) hz (by simp) (fun h => absurd h (Nat.lt_irrefl _)) (fun k h => by simp at h) (fun k h => by simp at h) (fun k d h => by simp at h)
def LeL (a b : List DV) : Prop := a.length = b.length ∧ ∀ (k : Nat) d' d, a[k]? = some d' → b[k]? = some d → Le d' d
theorem LeL.nil : LeL [] [] := ⟨rfl, fun k d' d h => by simp at h⟩
theorem LeL.cons {x y : DV} {a b : List DV} (h : Le x y) (hs : LeL a b) : LeL (x :: a) (y :: b) := ⟨by simp [hs.1], fun k d' d h1 h2 => by
 cases k with
 | zero => simp at h1 h2; subst h1 h2; exact h
 | succ k => exact hs.2 k _ _ (by simpa using h1) (by simpa using h2)⟩
theorem LeL.refl : ∀ a, LeL a a
 | [] => .nil
 | x :: a => .cons (Le.refl x) (.refl a)
theorem LeL.append {a b : List DV} : ∀ {c d : List DV}, LeL a b → LeL c d → LeL (a ++ c) (b ++ d) := by
 induction a generalizing b with
 | nil => intro c d h h2; obtain rfl : b = [] := List.eq_nil_of_length_eq_zero h.1.symm; exact h2
 | cons x a ih =>
  intro c d h h2
  match b, h with
  | [], h => have := h.1; simp at this
  | y :: b, h => exact .cons (h.2 0 _ _ rfl rfl) (ih ⟨by have := h.1; simpa using this, fun k d' d q1 q2 => h.2 (k + 1) _ _ (by simpa using q1) (by simpa using q2)⟩ h2)
theorem le_sl {sz : Nat} {es' es : List (List DV)} (hl : es'.length = es.length) (hs : ∀ e ∈ es, e.length = sz) (hp : LeL es'.flatten es.flatten) : Le (.sl sz es') (.sl sz es) := fun w ok β v h => by
 cases h with
 | sl A n c sz es0 b x vs hn hnc hsz hes hA hc h1 h =>
  refine .sl A n c sz es b x vs (hn.trans hl) hnc hsz hs hA hc h1 fun k d hd => ?_
  have hk : k < es'.flatten.length := by rw [hp.1]; exact (List.getElem?_eq_some_iff.1 hd).1
  exact hp.2 k _ _ (List.getElem?_eq_getElem hk) hd _ _ _ _ (h k _ (List.getElem?_eq_getElem hk))
theorem LeL.replicate {a b : List DV} (h : LeL a b) : ∀ n, LeL (List.replicate n a).flatten (List.replicate n b).flatten
 | 0 => .nil
 | n + 1 => by
  simp only [List.replicate_succ, List.flatten_cons]
  exact h.append (.replicate h n)
theorem ACalls.le {E : Env} {f : Nat} {h : List AObj} {args' args : List DV} {post : List AObj → DV → Prop} (hc : ACalls E f h args post) (hl : LeL args' args) : ACalls E f h args' post :=
 ⟨hc.1, fun w ok β vs hG hN hH hlen hv => hc.2 w ok β vs hG hN hH (hlen.trans hl.1) fun i v d h1 h2 => by
  have hi : i < args'.length := by rw [hl.1]; exact (List.getElem?_eq_some_iff.1 h2).1
  exact hl.2 i _ _ (List.getElem?_eq_getElem hi) h2 _ _ _ _ (hv i v _ h1 (List.getElem?_eq_getElem hi))⟩
end Go.Ai

namespace Go.Proofs.Ut
open Go.Ai
set_option maxRecDepth 100000
def okSC (c : CT) : Bool := [c.name, c.family, c.given, c.nick, c.jid, c.email, c.tel, c.note, c.uid].all (fun s => decide (s.length < 10000)) && decide (c.groups.length < 10000) && c.groups.all (fun s => decide (s.length < 10000)) && decide (c.other.length < 10000) && c.other.all fun p => decide (wtP p ≤ 50000)
theorem okSC_of {c : CT} (h : okSC c = true) : okS c := by
 simp only [okSC, Bool.and_eq_true, List.all_cons, List.all_nil, decide_eq_true_eq, Bool.and_true] at h
 obtain ⟨⟨⟨⟨⟨h1, h2, h3, h4, h5, h6, h7, h8, h9⟩, h10⟩, h11⟩, h12⟩, h13⟩ := h
 refine ⟨by omega, by omega, by omega, by omega, by omega, by omega, by omega, by omega, by omega, by omega, fun s hs => ?_, by omega, fun p hp => ?_⟩
 ·have := List.all_eq_true.1 h11 s hs
  simp only [decide_eq_true_eq] at this
  omega
 ·have := List.all_eq_true.1 h13 p hp
  simpa using this
def okPB (l : List PR) : Bool := decide (l.length < 1000000) && l.all (fun p => decide (p.v.length < 10000) && decide (p.ps.length < 10000) && !decide (p.n = KNS.getD 6 [])) && okSC (ofK l l.length).1
theorem of27B {l : List PR} (h : okPB l = true) : DRet 27 [.sl 4 (l.map pv)] (.tup [.agg (ctv (ofR l).1), .int .i64 (ofR l).2]) := by
 simp only [okPB, Bool.and_eq_true, decide_eq_true_eq] at h
 obtain ⟨⟨h1, h2⟩, h3⟩ := h
 refine of27 l h1 (fun p hp => ?_) (fun p hp => ?_) fun _ => okSC_of h3
 ·have := List.all_eq_true.1 h2 p hp
  simp only [Bool.and_eq_true, decide_eq_true_eq] at this
  exact ⟨by omega, by omega⟩
 ·have := List.all_eq_true.1 h2 p hp
  simp only [Bool.and_eq_true, decide_eq_true_eq, Bool.not_eq_true', decide_eq_false_iff_not] at this
  exact this.2
def pvn (p : PR) : List DV := [.str p.g, .str p.n, .nils 2, .str p.v]
theorem pvn_le : ∀ (l : List PR), (∀ p ∈ l, p.ps = []) → LeL (l.map pvn).flatten (l.map pv).flatten
 | [], _ => .nil
 | p :: l, h => by
  simp only [List.map_cons, List.flatten_cons]
  refine LeL.append ?_ (pvn_le l fun q hq => h q (List.mem_cons_of_mem _ hq))
  have hp := h p (List.mem_cons_self ..)
  unfold pvn pv
  rw [hp]
  exact .cons (.refl _) (.cons (.refl _) (.cons le_nils (.cons (.refl _) .nil)))
theorem of27N {l : List PR} {D : DV} (hc : DRet 27 [.sl 4 (l.map pv)] D) (h : ∀ p ∈ l, p.ps = []) : DRet 27 [.sl 4 (l.map pvn)] D :=
 hc.le (.cons (le_sl (by simp) (fun e he => by obtain ⟨p, _, rfl⟩ := List.mem_map.1 he; rfl) (pvn_le l h)) .nil)
def awP : List PR := [⟨[], [70, 78], [], [97, 92, 44, 98]⟩, ⟨[], [73, 77, 80, 80], [], [120, 109, 112, 112, 58, 65, 64, 72]⟩, ⟨[], [88], [], [121]⟩]
def awC : CT := { C0 with name := [97, 44, 98], jid := [97, 64, 104], other := [⟨[], [88], [], [121]⟩] }
theorem awP_is : ofR awP = (awC, 0) := by kernel_rfl
theorem awP_ok : okPB awP = true := by decide +kernel
theorem awC_right : rightC awC = true := by decide +kernel
theorem awC_ok : okS awC := okSC_of (by decide +kernel)
theorem awake28 : DRet 28 [] (.bool true) := by
 have h27 := of27B awP_ok
 rw [awP_is] at h27
 have h27 := of27N h27 (by decide)
 have h35 := right35 awC awC_ok
 rw [awC_right] at h35
 refine acalls_goF c28 (by simp [f28]) ?_
 simp only [f28, finF_e, finF_en, ↓gos, gop, qA, qB, qC, qD, qE, qF, qG, qH, qI]
 refine call_frz [0] rfl ?_
 simp only [finF_e, finF_en, ↓gos, gop, qA, qB, qC, qD, qE, qF, qG, qH, qI]
 refine call_clo h27 rfl rfl ?_
 simp only [ctv, awC, C0, List.map_nil, List.map_cons, pv, finF_e, finF_en, ↓gos, gop, qA, qB, qC, qD, qE, qF, qG, qH, qI]
 refine call_clo h35 rfl rfl ?_
 simp only [finF_e, finF_en, ↓gos, gop, qA, qB, qC, qD, qE, qF, qG, qH, qI]
 exact end_fc [] rfl rfl ⟨rfl, rfl⟩
theorem flat_rep : ∀ m : Nat, (List.replicate m ([] : List UInt8)).flatten = []
 | 0 => rfl
 | m + 1 => by rw [List.replicate_succ, List.flatten_cons, flat_rep m]; rfl
def l2 (s : List UInt8) : List PR := [⟨[], [70, 78], [], [110]⟩, ⟨[], [78], [], s⟩]
theorem keepL_mem (m : Nat) : ∀ (s out : List UInt8), (∀ x ∈ out, 32 ≤ x.toNat ∧ x.toNat < 127) → ∀ x ∈ keepL m out s, 32 ≤ x.toNat ∧ x.toNat < 127
 | [], out, h => h
 | y :: s, out, h => by
  unfold keepL
  split
  ·refine keepL_mem m s _ ?_
   split
   ·rename_i hy
    intro x hx
    rcases List.mem_append.1 hx with hx | hx
    ·exact h x hx
    ·obtain rfl : x = y := by simpa using hx
     exact hy
   ·exact h
  ·exact h
theorem may_low (n : Nat) (h1 : 32 ≤ n) (h2 : n < 127) : mayB (n : Int) = true := by
 have h3 : (32 : Int) ≤ n := by omega
 have h4 : (n : Int) ≤ 65533 := by omega
 simp [mayB, shownB, h3, h4]
theorem line_line (s : List UInt8) (m : Nat) : runAt shownB (lineP s m) 0 = true ∧ (rs (lineP s m)).length ≤ m := by
 unfold lineP
 split
 ·rename_i h
  simp only [lineOK, Bool.and_eq_true, decide_eq_true_eq] at h
  exact ⟨by rw [run_shown, h.2.1, Bool.true_and]; exact h.1, h.2.2⟩
 ·have hk := keepL_mem m s [] (by simp)
  have hl := keepL_len m s [] (by simp)
  generalize keepL m [] s = t at *
  have ha : ∀ b ∈ t, b.toNat < 128 := fun b hb => by have := hk b hb; omega
  have hm : t.all (fun b => mayB b.toNat) = true := List.all_eq_true.2 fun b hb => may_low _ (hk b hb).1 (hk b hb).2
  refine ⟨?_, ?_⟩
  ·rw [(run_ascii shownB t ha).1]
   refine List.all_eq_true.2 fun b hb => ?_
   rw [shown_may, may_low _ (hk b hb).1 (hk b hb).2]
   have := (hk b hb).1
   simp; omega
  ·rw [rs_ascii t ha hm]; simpa using hl
theorem shown_no13 {s : List UInt8} (h : runAt shownB s 0 = true) : ∀ x ∈ s, x ≠ 13 := by
 obtain ⟨cs, rfl, hcs⟩ := wr_of shownB s.length s (Nat.le_refl _) h
 intro x hx
 simp only [wr, List.mem_flatMap] at hx
 obtain ⟨c, hc, hx⟩ := hx
 have h2 := hcs c hc
 rw [shown_may, Bool.and_eq_true, decide_eq_true_eq] at h2
 exact (en_low h2.1 (by omega) x hx).1
theorem line_len (s : List UInt8) (m : Nat) : (lineP s m).length ≤ 4 * m := by
 have h := line_line s m
 generalize lineP s m = t at *
 obtain ⟨h1, h2⟩ := h
 have hm : runAt mayB t 0 = true := by rw [run_shown, Bool.and_eq_true] at h1; exact h1.1
 obtain ⟨cs, rfl, hcs⟩ := wr_of shownB _ _ (Nat.le_refl _) h1
 have hr := rl_ens [] cs fun c hc => (hcs c hc).1
 rw [List.append_nil] at hr
 have hl : (rs (wr cs)).length = cs.length := by
  unfold rs
  rw [if_pos hm, show wr cs = cs.flatMap (fun c : Nat => en c) from rfl, hr]
  simp [rl_nil]
 rw [hl] at h2
 have : ∀ l : List Nat, (wr l).length ≤ 4 * l.length := fun l => by
  induction l with
  | nil => simp [wr]
  | cons c l ih =>
   rw [wr_cons, List.length_append, List.length_cons]
   have := en_len4 (c : Int)
   omega
 have := this cs
 omega
end Go.Proofs.Ut
