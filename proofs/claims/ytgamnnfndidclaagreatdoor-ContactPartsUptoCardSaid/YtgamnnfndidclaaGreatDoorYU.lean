/- The statements of contact: what holds of properties that are given, and awake. -/
import Derived.Test.YtgamnnfndidclaaGreatDoorAiLe
import Derived.Test.YtgamnnfndidclaaGreatDoorYO3
import Derived.Test.YtgamnnfndidclaaGreatDoorYFoC
import Derived.Test.YtgamnnfndidclaaGreatDoorYW7
import Derived.Test.YtgamnnfndidclaaGreatDoorYFoUtD
import Derived.Test.YtgamnnfndidclaaGreatDoorYFoF
open Nat renaming reduceBEq → qA, reduceAdd → qB, reduceSub → qC, reduceLeDiff → qD, reduceMul → qE
open Int renaming reduceLE → qF, reduceLT → qG, reduceNe → qH, reduceToNat → qI
set_option linter.all false
namespace Go.Proofs.Ut
open Go.Ai
set_option maxRecDepth 100000
set_option linter.all false
def okSC (c : CT) : Bool := [c.name, c.family, c.given, c.nick, c.jid, c.email, c.tel, c.note, c.uid].all (fun s => decide (s.length < 10000)) && decide (c.groups.length < 10000) && c.groups.all (fun s => decide (s.length < 10000)) && decide (c.other.length < 10000) && c.other.all fun p => decide (wtP p ≤ 50000)
theorem okSC_of {c : CT} (h : okSC c = true) : okS c := by
  simp only [okSC, Bool.and_eq_true, List.all_cons, List.all_nil, decide_eq_true_eq, Bool.and_true] at h
  obtain ⟨⟨⟨⟨⟨h1, h2, h3, h4, h5, h6, h7, h8, h9⟩, h10⟩, h11⟩, h12⟩, h13⟩ := h
  refine ⟨by omega, by omega, by omega, by omega, by omega, by omega, by omega, by omega, by omega, by omega, fun s hs => ?_, by omega, fun p hp => ?_⟩
  · have := List.all_eq_true.1 h11 s hs
    simp only [decide_eq_true_eq] at this
    omega
  · have := List.all_eq_true.1 h13 p hp
    simpa using this
def okPB (l : List PR) : Bool := decide (l.length < 1000000) && l.all (fun p => decide (p.v.length < 10000) && decide (p.ps.length < 10000) && !decide (p.n = KNS.getD 6 [])) && okSC (ofK l l.length).1
theorem of27B {l : List PR} (h : okPB l = true) : DRet 27 [.sl 4 (l.map pv)] (.tup [.agg (ctv (ofR l).1), .int .i64 (ofR l).2]) := by
  simp only [okPB, Bool.and_eq_true, decide_eq_true_eq] at h
  obtain ⟨⟨h1, h2⟩, h3⟩ := h
  refine of27 l h1 (fun p hp => ?_) (fun p hp => ?_) fun _ => okSC_of h3
  · have := List.all_eq_true.1 h2 p hp
    simp only [Bool.and_eq_true, decide_eq_true_eq] at this
    exact ⟨by omega, by omega⟩
  · have := List.all_eq_true.1 h2 p hp
    simp only [Bool.and_eq_true, decide_eq_true_eq, Bool.not_eq_true', decide_eq_false_iff_not] at this
    exact this.2
def pvn (p : PR) : List DV := [.str p.g, .str p.n, .nils 2, .str p.v]
theorem pvn_le : ∀ (l : List PR), (∀ p ∈ l, p.ps = []) → LeL (l.map pvn).flatten (l.map pv).flatten
  | [], _ => .nil
  | p :: l, h => by
    simp only [List.map_cons, List.flatten_cons]
    refine LeL.append ?_ (pvn_le l fun q hq => h q (List.mem_cons_of_mem _ hq))
    have hp := h p (List.mem_cons_self ..)
    unfold pvn pv
    rw [hp]
    exact .cons (.refl _) (.cons (.refl _) (.cons le_nils (.cons (.refl _) .nil)))
theorem of27N {l : List PR} {D : DV} (hc : DRet 27 [.sl 4 (l.map pv)] D) (h : ∀ p ∈ l, p.ps = []) : DRet 27 [.sl 4 (l.map pvn)] D :=
  hc.le (.cons (le_sl (by simp) (fun e he => by obtain ⟨p, _, rfl⟩ := List.mem_map.1 he; rfl) (pvn_le l h)) .nil)
def awP : List PR := [⟨[], [70, 78], [], [97, 92, 44, 98]⟩, ⟨[], [73, 77, 80, 80], [], [120, 109, 112, 112, 58, 65, 64, 72]⟩, ⟨[], [88], [], [121]⟩]
def awC : CT := { C0 with name := [97, 44, 98], jid := [97, 64, 104], other := [⟨[], [88], [], [121]⟩] }
theorem awP_is : ofR awP = (awC, 0) := by kernel_rfl
theorem awP_ok : okPB awP = true := by decide +kernel
theorem awC_right : rightC awC = true := by decide +kernel
theorem awC_ok : okS awC := okSC_of (by decide +kernel)
theorem awake28 : DRet 28 [] (.bool true) := by
  have h27 := of27B awP_ok
  rw [awP_is] at h27
  have h27 := of27N h27 (by decide)
  have h35 := right35 awC awC_ok
  rw [awC_right] at h35
  refine acalls_goF c28 (by simp [f28]) ?_
  simp only [f28, finF_e, finF_en, ↓gos, gop, qA, qB, qC, qD, qE, qF, qG, qH, qI]
  refine call_frz [0] rfl ?_
  simp only [finF_e, finF_en, ↓gos, gop, qA, qB, qC, qD, qE, qF, qG, qH, qI]
  refine call_clo h27 rfl rfl ?_
  simp only [ctv, awC, C0, List.map_nil, List.map_cons, pv, finF_e, finF_en, ↓gos, gop, qA, qB, qC, qD, qE, qF, qG, qH, qI]
  refine call_clo h35 rfl rfl ?_
  simp only [finF_e, finF_en, ↓gos, gop, qA, qB, qC, qD, qE, qF, qG, qH, qI]
  exact end_fc [] rfl rfl ⟨rfl, rfl⟩
end Go.Proofs.Ut

/- ContactParts: an FN and an N. -/
namespace Go.Proofs.Ut
open Go.Ai
set_option maxRecDepth 100000
set_option linter.all false
def bareF (x : List UInt8) : List UInt8 := x.filter fun b => !decide (b = 13)
theorem plain_val : ∀ s : List UInt8, plainF (valF s) = some (bareF s)
  | [] => rfl
  | b :: s => by
    have ih := plain_val s
    have e : valF (b :: s) = escB b ++ valF s := by simp [valF]
    rw [e]
    rcases esc_cases b with hb | ⟨_, e2, k1, k2, k3, k4, k5⟩
    · rcases hb with rfl | rfl | rfl | rfl | rfl
      all_goals simp [escB, plainF, escC, ih, bareF]
    · rw [e2]
      have h1 : b ≠ 92 := fun e => k1 (by rw [e]; rfl)
      have h5 : b ≠ 13 := fun e => k5 (by rw [e]; rfl)
      show plainF (b :: valF s) = _
      rw [plainF.eq_def]
      simp only
      rw [if_neg h1, ih]
      simp [bareF, h5]
theorem split_val (sep : UInt8) (hsep : sep = 44 ∨ sep = 59) : ∀ (s cur rest : List UInt8), splitF sep false cur (valF s ++ rest) = splitF sep false (cur ++ valF s) rest
  | [], cur, rest => by simp [valF]
  | b :: s, cur, rest => by
    have ih := fun c => split_val sep hsep s c rest
    have e : valF (b :: s) = escB b ++ valF s := by simp [valF]
    rw [e, List.append_assoc]
    rcases esc_cases b with hb | ⟨_, e2, k1, k2, k3, k4, k5⟩
    · rcases hb with rfl | rfl | rfl | rfl | rfl <;> rcases hsep with rfl | rfl
      all_goals simp [escB, splitF, escN, ih]
    · rw [e2]
      have h1 : b ≠ 92 := fun e => k1 (by rw [e]; rfl)
      have h2 : b ≠ sep := fun e => by
        rcases hsep with rfl | rfl
        · exact k2 (by rw [e]; rfl)
        · exact k3 (by rw [e]; rfl)
      show splitF sep false cur (b :: (valF s ++ rest)) = _
      rw [splitF, if_neg (by simp [h2])]
      have e3 : escN false b = false := by simp [escN, h1]
      rw [e3, ih]
      simp
def sAB (a b : List UInt8) (m : Nat) : List UInt8 := valF a ++ 59 :: (valF b ++ List.replicate m 59)
theorem split_ends : ∀ (m : Nat) (cur : List UInt8), splitF 59 false cur (List.replicate m 59) = cur :: List.replicate m []
  | 0, cur => rfl
  | m + 1, cur => by
    rw [List.replicate_succ, splitF, if_pos (by simp), show escN false 59 = false from rfl, split_ends m []]
    rfl
theorem split_AB (a b : List UInt8) (m : Nat) : splitF 59 false [] (sAB a b m) = valF a :: valF b :: List.replicate m [] := by
  unfold sAB
  rw [split_val 59 (.inr rfl), splitF, if_pos (by simp), show escN false 59 = false from rfl, split_val 59 (.inr rfl), split_ends]
  rfl
theorem plains_rep : ∀ m : Nat, plains (List.replicate m []) = some (List.replicate m [])
  | 0 => rfl
  | m + 1 => by
    rw [List.replicate_succ, plains, plains_rep m]; rfl
theorem plains_AB (a b : List UInt8) (m : Nat) : plains (valF a :: valF b :: List.replicate m []) = some (bareF a :: bareF b :: List.replicate m []) := by
  simp only [plains, plain_val, plains_rep]
  rfl
theorem flat_rep : ∀ m : Nat, (List.replicate m ([] : List UInt8)).flatten = []
  | 0 => rfl
  | m + 1 => by rw [List.replicate_succ, List.flatten_cons, flat_rep m]; rfl
theorem name_AB (c : CT) (a b : List UInt8) (m : Nat) : nameP c (sAB a b m) = if m = 3 then ({ c with family := bareF a, given := bareF b }, 0) else (c, 12) := by
  unfold nameP
  rw [split_AB, plains_AB]
  simp only [List.length_cons, List.length_replicate, List.drop_succ_cons, List.drop_zero, flat_rep, List.getD_cons_zero, List.getD_cons_succ]
  by_cases h : m = 3
  · rw [if_pos (by omega), if_pos h]; rfl
  · rw [if_neg (by omega), if_neg h]
def l2 (s : List UInt8) : List PR := [⟨[], [70, 78], [], [110]⟩, ⟨[], [78], [], s⟩]
def Cn : CT := { C0 with name := [110] }
theorem of2K (s : List UInt8) : ofK (l2 s) 2 = if (nameP Cn s).2 = 0 then ((nameP Cn s).1, [[70, 78], [78]], 0) else (C0, [[70, 78]], (nameP Cn s).2) := by
  have k0 : knI [70, 78] 9 = 0 := by decide +kernel
  have k1 : knI [78] 9 = 1 := by decide +kernel
  have p0 : plE [110] = 0 := by decide +kernel
  have p1 : plS [110] = [110] := by decide +kernel
  have h1 : ofK (l2 s) 1 = (Cn, [[70, 78]], 0) := by
    show (if (0 : Int) = 0 then ofStep C0 [] ⟨[], [70, 78], [], [110]⟩ else _) = _
    rw [if_pos rfl, ofStep]
    simp only [k0]
    simp [takeP, p0, p1, Cn]
  show (if (ofK (l2 s) 1).2.2 = 0 then ofStep (ofK (l2 s) 1).1 (ofK (l2 s) 1).2.1 ⟨[], [78], [], s⟩ else _) = _
  rw [h1, if_pos rfl, ofStep]
  simp only [k1]
  simp [takeP]
theorem of2 (s : List UInt8) : ofR (l2 s) = if (nameP Cn s).2 = 0 then (if rightC (nameP Cn s).1 = true then ((nameP Cn s).1, 0) else (C0, 12)) else (C0, (nameP Cn s).2) := by
  unfold ofR
  rw [show (l2 s).length = 2 from rfl, of2K]
  by_cases h : (nameP Cn s).2 = 0
  · rw [if_pos h, if_pos h]; simp
  · rw [if_neg h, if_neg h]; simp [h]
def sk (k : Nat) : List UInt8 := joinF 59 (((List.replicate 5 []).set k [120]))
theorem sk_is : ∀ k, k < 5 → ((ofR (l2 (sk k))).2, (ofR (l2 (sk k))).1.family, (ofR (l2 (sk k))).1.given) = if k < 2 then (0, if k = 0 then [120] else [], if k = 1 then [120] else []) else (12, [], []) := by decide +kernel
theorem sk_ok : ∀ k, k < 5 → okPB (l2 (sk k)) = true := by decide +kernel
theorem se_is : ((ofR (l2 [92, 120, 59, 59])).2) = 18 := by decide +kernel
theorem se_ok : okPB (l2 [92, 120, 59, 59]) = true := by decide +kernel
end Go.Proofs.Ut

/- What play.Line hands back is a line. -/
namespace Go.Proofs.Ut
open Go.Ai
set_option maxRecDepth 100000
set_option linter.all false
theorem keepL_mem (m : Nat) : ∀ (s out : List UInt8), (∀ x ∈ out, 32 ≤ x.toNat ∧ x.toNat < 127) → ∀ x ∈ keepL m out s, 32 ≤ x.toNat ∧ x.toNat < 127
  | [], out, h => h
  | y :: s, out, h => by
    unfold keepL
    split
    · refine keepL_mem m s _ ?_
      split
      · rename_i hy
        intro x hx
        rcases List.mem_append.1 hx with hx | hx
        · exact h x hx
        · obtain rfl : x = y := by simpa using hx
          exact hy
      · exact h
    · exact h
theorem may_low (n : Nat) (h1 : 32 ≤ n) (h2 : n < 127) : mayB (n : Int) = true := by
  have h3 : (32 : Int) ≤ n := by omega
  have h4 : (n : Int) ≤ 65533 := by omega
  simp [mayB, shownB, h3, h4]
theorem line_line (s : List UInt8) (m : Nat) : runAt shownB (lineP s m) 0 = true ∧ (rs (lineP s m)).length ≤ m := by
  unfold lineP
  split
  · rename_i h
    simp only [lineOK, Bool.and_eq_true, decide_eq_true_eq] at h
    exact ⟨by rw [run_shown, h.2.1, Bool.true_and]; exact h.1, h.2.2⟩
  · have hk := keepL_mem m s [] (by simp)
    have hl := keepL_len m s [] (by simp)
    generalize keepL m [] s = t at *
    have ha : ∀ b ∈ t, b.toNat < 128 := fun b hb => by have := hk b hb; omega
    have hm : t.all (fun b => mayB b.toNat) = true := List.all_eq_true.2 fun b hb => may_low _ (hk b hb).1 (hk b hb).2
    refine ⟨?_, ?_⟩
    · rw [(run_ascii shownB t ha).1]
      refine List.all_eq_true.2 fun b hb => ?_
      rw [shown_may, may_low _ (hk b hb).1 (hk b hb).2]
      have := (hk b hb).1
      simp; omega
    · rw [rs_ascii t ha hm]; simpa using hl
theorem shown_no13 {s : List UInt8} (h : runAt shownB s 0 = true) : ∀ x ∈ s, x ≠ 13 := by
  obtain ⟨cs, rfl, hcs⟩ := wr_of shownB s.length s (Nat.le_refl _) h
  intro x hx
  simp only [wr, List.mem_flatMap] at hx
  obtain ⟨c, hc, hx⟩ := hx
  have h2 := hcs c hc
  rw [shown_may, Bool.and_eq_true, decide_eq_true_eq] at h2
  exact (en_low h2.1 (by omega) x hx).1
theorem line_bare (s : List UInt8) (m : Nat) : bareF (lineP s m) = lineP s m := by
  unfold bareF
  rw [List.filter_eq_self]
  intro x hx
  have := shown_no13 (line_line s m).1 x hx
  simpa using this
theorem line_len (s : List UInt8) (m : Nat) : (lineP s m).length ≤ 4 * m := by
  have h := line_line s m
  generalize lineP s m = t at *
  obtain ⟨h1, h2⟩ := h
  have hm : runAt mayB t 0 = true := by rw [run_shown, Bool.and_eq_true] at h1; exact h1.1
  obtain ⟨cs, rfl, hcs⟩ := wr_of shownB _ _ (Nat.le_refl _) h1
  have hr := rl_ens [] cs fun c hc => (hcs c hc).1
  rw [List.append_nil] at hr
  have hl : (rs (wr cs)).length = cs.length := by
    unfold rs
    rw [if_pos hm, show wr cs = cs.flatMap (fun c : Nat => en c) from rfl, hr]
    simp [rl_nil]
  rw [hl] at h2
  have : ∀ l : List Nat, (wr l).length ≤ 4 * l.length := fun l => by
    induction l with
    | nil => simp [wr]
    | cons c l ih =>
      rw [wr_cons, List.length_append, List.length_cons]
      have := en_len4 (c : Int)
      omega
  have := this cs
  omega
theorem line_lineB (s : List UInt8) : lineB (lineP s 30) = true := by
  have h := line_line s 30
  unfold lineB
  rw [h.1, Bool.true_and]
  exact decide_eq_true (by have := h.2; omega)
theorem right_AB (a b : List UInt8) (ha : lineB a = true) (hb : lineB b = true) : rightC { Cn with family := a, given := b } = true := by
  have h1 : rightC Cn = true := by decide +kernel
  unfold rightC shortB at *
  simp only [Cn, C0, List.all_cons, List.all_nil, ha, hb, Bool.and_true, Bool.true_and] at *
  rw [Bool.and_eq_true] at h1 ⊢
  refine ⟨h1.1, ?_⟩
  have h2 := h1.2
  revert h2
  cases lineB [110] <;> cases lineB [] <;> simp
theorem of_AB (a b : List UInt8) (m : Nat) : ofR (l2 (sAB (lineP a 30) (lineP b 30) m)) = if m = 3 then ({ Cn with family := lineP a 30, given := lineP b 30 }, 0) else (C0, 12) := by
  rw [of2, name_AB, line_bare, line_bare]
  by_cases h : m = 3
  · rw [if_pos h, if_pos h, if_pos rfl, if_pos (right_AB _ _ (line_lineB a) (line_lineB b))]
  · rw [if_neg h, if_neg h, if_neg (by decide)]
theorem okC_small {c : CT} (h1 : c.name.length < 1000) (h2 : c.family.length < 1000) (h3 : c.given.length < 1000) (h : c = { Cn with name := c.name, family := c.family, given := c.given }) : okS c := by
  obtain ⟨n, f, g, _, _, _, _, _, _, _, _⟩ := c
  simp only [CT.mk.injEq, Cn, C0] at h
  obtain ⟨-, -, -, rfl, rfl, rfl, rfl, rfl, rfl, rfl, rfl⟩ := h
  simp only at h1 h2 h3
  exact ⟨by simp only; omega, by simp only; omega, by simp only; omega, by simp, by simp, by simp, by simp, by simp, by simp, by simp, by simp, by simp, fun p hp => by simp at hp⟩
theorem valF_le2 (s : List UInt8) : (valF s).length ≤ 2 * s.length := by
  induction s with
  | nil => simp [valF]
  | cons x s ih =>
    have e : valF (x :: s) = escB x ++ valF s := by simp [valF]
    rw [e, List.length_append, List.length_cons]
    have : (escB x).length ≤ 2 := by unfold escB; repeat' split
                                     all_goals simp
    omega
theorem read_AB (a b : List UInt8) (m : Nat) (hm : m < 1000) : DRet 27 [.sl 4 ((l2 (sAB (lineP a 30) (lineP b 30) m)).map pvn)] (.tup [.agg (ctv (ofR (l2 (sAB (lineP a 30) (lineP b 30) m))).1), .int .i64 (ofR (l2 (sAB (lineP a 30) (lineP b 30) m))).2]) := by
  have h1 := line_len a 30
  have h2 := line_len b 30
  refine of27N (of27 _ (by simp [l2]) (fun p hp => ?_) (fun p hp => ?_) fun h => ?_) (fun p hp => ?_)
  · simp only [l2, List.mem_cons, List.not_mem_nil, or_false] at hp
    rcases hp with rfl | rfl
    · exact ⟨by decide, by decide⟩
    · refine ⟨?_, by show (0 : Nat) < 1000000000; decide⟩
      have := valF_le2 (lineP a 30)
      have := valF_le2 (lineP b 30)
      simp only [sAB, List.length_append, List.length_cons, List.length_replicate]
      omega
  · simp only [l2, List.mem_cons, List.not_mem_nil, or_false] at hp
    rcases hp with rfl | rfl
    · decide
    · show ([78] : List UInt8) ≠ KNS.getD 6 []
      decide
  · rw [show (l2 (sAB (lineP a 30) (lineP b 30) m)).length = 2 from rfl, of2K, name_AB, line_bare, line_bare] at h ⊢
    by_cases hm3 : m = 3
    · rw [if_pos hm3, if_pos rfl]
      exact okC_small (by show (1 : Nat) < 1000; decide) (by show (lineP a 30).length < 1000; omega) (by show (lineP b 30).length < 1000; omega) rfl
    · rw [if_neg hm3, if_neg (by decide)] at h
      exact absurd h (by decide)
  · simp only [l2, List.mem_cons, List.not_mem_nil, or_false] at hp
    rcases hp with rfl | rfl <;> rfl
end Go.Proofs.Ut

/- The document's Unfold. -/
namespace Go.Proofs.Ut
open Go.Ai Go.Shelf Go.RowKit
set_option linter.unusedSimpArgs false
set_option linter.unusedVariables false
set_option maxHeartbeats 1000000
set_option maxRecDepth 100000
end Go.Proofs.Ut

/- The document's Fold. -/
namespace Go.Proofs.Ut
open Go.Ai Go.Shelf Go.RowKit
set_option linter.unusedSimpArgs false
set_option linter.unusedVariables false
set_option maxHeartbeats 1000000
set_option maxRecDepth 100000
end Go.Proofs.Ut

/- The document's Value, Plain and Split. -/
namespace Go.Proofs.Ut
open Go.Ai
set_option maxRecDepth 100000
set_option linter.all false
theorem cut_one (s : List UInt8) (j : Nat) (h : j < s.length) : (s.drop j).take (j + 1 - j) = [s.getD j 0] := by
  rw [drop_next s j h, Nat.add_sub_cancel_left]; rfl
theorem value15 (s : List UInt8) (hs : s.length < 1000000000) : DRet 26 [.str s] (.str (valF s)) := by
  refine acalls_go c26 (by simp [f26]) ?_
  simp only [f26, ↓gos, gop, qA, qB, qC, qD, qE, qF, qG, qH, qI]
  have hvl := valF_len s
  refine goN_lp (γ := Nat) (fun j => [(4, .int .i64 j), (3, .str (valF (s.take j))), (0, .str s)]) (fun _ => []) (fun j => j ≤ s.length) (fun j => s.length - j) 0
    (wks rfl (by decide) ⟨rfl, rfl, rfl, trivial⟩) (by omega) fun j hj => ?_
  simp only [f26l0, ↓gos, gop, qA, qB, qC, qD, qE, qF, qG, qH, qI]
  refine ⟨fun a2 => ?_, fun a2 => ?_⟩
  · have hj : j < s.length := by omega
    have hv := value_next s j hj
    have hp := value_part s (j + 1)
    have hp0 := value_part s j
    have hb : bt s j = ((s.getD j 0).toNat : Int) := rfl
    have hone := cut_one s j hj
    have hw : IntKind.i64.wrap ((j : Int) + 1) = ((j + 1 : Nat) : Int) := by rw [wrap_i64 (by omega) (by omega)]; rfl
    have hpl := congrArg List.length hv
    rw [List.length_append] at hpl
    rcases esc_cases (s.getD j 0) with hc | ⟨n1, n2, k1, k2, k3, k4, k5⟩
    · rcases hc with hc | hc | hc | hc | hc
      all_goals
        rw [hc] at hb hv hone
        simp only [hb, a2, u92, u44, u59, u10, u13, hw, hone, forall_eq, Int.reduceEq, reduceIte, ↓gos, gop, qA, qB, qC, qD, qE, qF, qG, qH, qI]
        repeat (refine chk_i (by first | omega | (simp only [List.length_append, List.length_cons, List.length_nil]; omega)) ?_)
        exact rnd_s (j + 1) rfl (by decide) ⟨rfl, by show DV.str _ = DV.str _; rw [hv]; simp [escB], rfl, trivial⟩ hj (by omega)
    · rw [n2] at hv
      have q1 : ¬ (((s.getD j 0).toNat : Nat) : Int) = 92 := by omega
      have q2 : ¬ (((s.getD j 0).toNat : Nat) : Int) = 44 := by omega
      have q3 : ¬ (((s.getD j 0).toNat : Nat) : Int) = 59 := by omega
      have q4 : ¬ (((s.getD j 0).toNat : Nat) : Int) = 10 := by omega
      have q5 : ¬ (((s.getD j 0).toNat : Nat) : Int) = 13 := by omega
      simp only [hb, a2, q1, q2, q3, q4, q5, hw, hone, forall_eq, Int.reduceEq, reduceIte, ↓gos, gop, qA, qB, qC, qD, qE, qF, qG, qH, qI]
      repeat (refine chk_i (by first | omega | (simp only [List.length_append, List.length_cons, List.length_nil]; omega)) ?_)
      exact rnd_s (j + 1) rfl (by decide) ⟨rfl, by show DV.str _ = DV.str _; rw [hv], rfl, trivial⟩ hj (by omega)
  · have hj : j = s.length := by omega
    subst hj
    exact ends (by rw [List.take_length])
end Go.Proofs.Ut
