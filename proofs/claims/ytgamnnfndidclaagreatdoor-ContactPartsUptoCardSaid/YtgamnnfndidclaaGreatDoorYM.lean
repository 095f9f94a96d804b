/- Contacts: contact.lines, rising, Right. -/
import Derived.Test.YtgamnnfndidclaaGreatDoorYFoF
import Derived.Test.YtgamnnfndidclaaGreatDoorYVcE
import Derived.Test.YtgamnnfndidclaaGreatDoorYO3
open Nat renaming reduceBEq → qA, reduceAdd → qB, reduceSub → qC, reduceLeDiff → qD, reduceMul → qE
open Int renaming reduceLE → qF, reduceLT → qG, reduceNe → qH, reduceToNat → qI
set_option linter.all false
namespace Go.Proofs.Ut
open Go.Ai
set_option maxRecDepth 100000
set_option linter.all false
def lineB (s : List UInt8) : Bool := runAt shownB s 0 && decide (((rs s).length : Int) ≤ 100)
theorem line134 (s : List UInt8) (hs : s.length < 100000000) : DRet 134 [.str s] (.bool (!lineB s)) := by
  refine acalls_go c134 (by simp [f134]) ?_
  simp only [f134, ↓gos, gop, qA, qB, qC, qD, qE, qF, qG, qH, qI]
  refine call_ret (line22 rfl vED s 100 (by omega)) rfl rfl ?_
  show _
  unfold lineB
  cases (runAt shownB s 0 && decide (((rs s).length : Int) ≤ 100)) <;> simp only [↓gos, gop, qA, qB, qC, qD, qE, qF, qG, qH, qI] <;> exact endb rfl
theorem index176 (l : List (List UInt8)) (hl : l.length < 1000000000) (hw : ∀ s ∈ l, s.length < 100000000) : ACalls ED 176 [] [.sl 1 (l.map sv), .fn 134 []] (fun h d => h = [] ∧ ∃ n : Int, d = .int .i64 n ∧ (decide (0 ≤ n)) = !l.all lineB) := by
  refine acalls_go c176 (by simp [f176]) ?_
  simp only [f176, ↓gos, gop, qA, qB, qC, qD, qE, qF, qG, qH, qI]
  refine goN_lp (γ := Nat) (fun i => [(8, .int .i64 i), (7, .int .i64 l.length), (0, .sl 1 (l.map sv)), (1, .fn 134 [])]) (fun _ => []) (fun i => i ≤ l.length ∧ (l.take i).all lineB = true) (fun i => l.length - i) 0
    (wks rfl (by simp) ⟨rfl, rfl, rfl, rfl, trivial⟩) ⟨by omega, by simp⟩ fun i hi => ?_
  obtain ⟨hi, ht⟩ := hi
  simp only [f176l0, ↓gos, gop, qA, qB, qC, qD, qE, qF, qG, qH, qI]
  refine ⟨fun h => ?_, fun h => ?_⟩
  · have h2 : i < l.length := by omega
    refine optP_at [] (by simpa using h2) ?_
    have htk := take_getD' h2 []
    have hm : l.getD i [] ∈ l := by rw [List.getD_eq_getElem?_getD, List.getElem?_eq_getElem h2]; exact List.getElem_mem h2
    generalize l.getD i [] = s at *
    simp only [sv, ↓gos, gop, qA, qB, qC, qD, qE, qF, qG, qH, qI]
    refine call_ret (line134 s (hw s hm)) rfl rfl ?_
    cases hk : lineB s
    · simp only [↓gos, gop, qA, qB, qC, qD, qE, qF, qG, qH, qI]
      refine finE_closed rfl ⟨rfl, _, rfl, ?_⟩
      rw [show l.all lineB = false by rw [List.all_eq_false]; exact ⟨s, hm, by simp [hk]⟩]; simp
    · simp only [↓gos, gop, qA, qB, qC, qD, qE, qF, qG, qH, qI]
      intro v hv
      rw [wrap_i64 (by omega) (by omega)] at hv
      subst hv
      refine rnd_s (i + 1) rfl (by simp) ⟨rfl, rfl, rfl, rfl, trivial⟩ ⟨by omega, ?_⟩ (by omega)
      rw [htk, List.all_append, ht]; simp [hk]
  · have h2 : i = l.length := by omega
    subst h2
    rw [List.take_length] at ht
    refine finE_closed rfl ⟨rfl, _, rfl, ?_⟩
    rw [ht]; rfl
theorem lines69 (l : List (List UInt8)) (hl : l.length < 1000000000) (hw : ∀ s ∈ l, s.length < 100000000) : DRet 69 [.sl 1 (l.map sv)] (.bool (l.all lineB)) := by
  have c133' : DRet 133 [.sl 1 (l.map sv), .fn 134 []] (.bool (!l.all lineB)) := by
    refine acalls_go c133 (by simp [f133]) ?_
    simp only [f133, ↓gos, gop, qA, qB, qC, qD, qE, qF, qG, qH, qI]
    refine call_any (index176 l hl hw) rfl ⟨_, if l.all lineB = true then -1 else 0, rfl, by split <;> simp_all⟩ ?_
    rintro d ⟨n, rfl, hn⟩
    refine ⟨rfl, ?_⟩
    rw [← hn]
    simp only [↓gos, gop, qA, qB, qC, qD, qE, qF, qG, qH, qI]
    refine ⟨fun h => endb ?_, fun h => endb ?_⟩
    · rw [decide_eq_true h]
    · rw [decide_eq_false h]
  refine acalls_go c69 (by simp [f69]) ?_
  simp only [f69, ↓gos, gop, qA, qB, qC, qD, qE, qF, qG, qH, qI]
  refine call_ret c133' rfl rfl ?_
  cases l.all lineB <;> simp only [Bool.not_true, Bool.not_false, ↓gos, gop, qA, qB, qC, qD, qE, qF, qG, qH, qI] <;> exact endb rfl
def risI (l : List (List UInt8)) (i : Nat) : Bool := !decide (l.getD i [] = []) && (decide (i = 0) || !(Op.bytesLess (l.getD i []) (l.getD (i - 1) []) || decide (l.getD i [] = l.getD (i - 1) [])))
def risB (l : List (List UInt8)) : Bool := (List.range l.length).all (risI l)
def groupsB (l : List (List UInt8)) : Bool := risB l && decide (l.length ≤ 8) && l.all lineB
theorem rising68 (l : List (List UInt8)) (hl : l.length < 1000000000) (hw : ∀ s ∈ l, s.length < 100000000) : DRet 68 [.sl 1 (l.map sv)] (.bool (groupsB l)) := by
  refine acalls_go c68 (by simp [f68]) ?_
  simp only [f68, ↓gos, gop, qA, qB, qC, qD, qE, qF, qG, qH, qI]
  refine goN_lp (γ := Nat) (fun i => [(7, .int .i64 i), (6, .int .i64 l.length), (5, .sl 1 (l.map sv)), (0, .sl 1 (l.map sv))]) (fun _ => []) (fun i => i ≤ l.length ∧ (List.range i).all (risI l) = true) (fun i => l.length - i) 0
    (wks rfl (by simp) ⟨rfl, rfl, rfl, rfl, trivial⟩) ⟨by omega, by simp⟩ fun i hi => ?_
  obtain ⟨hi, ht⟩ := hi
  simp only [f68l0, ↓gos, gop, qA, qB, qC, qD, qE, qF, qG, qH, qI]
  refine ⟨fun h => ?_, fun h => ?_⟩
  · have h2 : i < l.length := by omega
    have hr : (List.range (i + 1)).all (risI l) = risI l i := by rw [List.range_succ, List.all_append, ht]; simp
    have bad : risI l i = false → groupsB l = false := fun h => by
      unfold groupsB risB
      rw [show (List.range l.length).all (risI l) = false by rw [List.all_eq_false]; exact ⟨i, by simpa using h2, by simp [h]⟩]; rfl
    refine optP_at [] (by simpa using h2) ?_
    rw [show risI l i = (!decide (l.getD i [] = []) && (decide (i = 0) || !(Op.bytesLess (l.getD i []) (l.getD (i - 1) []) || decide (l.getD i [] = l.getD (i - 1) [])))) from rfl] at hr bad
    generalize l.getD i [] = s at *
    simp only [sv, ↓gos, gop, qA, qB, qC, qD, qE, qF, qG, qH, qI]
    refine ⟨fun q => ?_, fun q => ⟨fun q2 v hv => ?_, fun q2 v hv => ?_⟩⟩
    · rw [bad (by rw [decide_eq_true q]; rfl)]
      exact finE_closed rfl ⟨rfl, rfl⟩
    · rw [wrap_i64 (by omega) (by omega)] at hv
      have hv' : v.toNat = i - 1 := by omega
      rw [hv']
      refine chk_i (by omega) (optP_at [] (by omega) ?_)
      rw [decide_eq_false q, decide_eq_false (show ¬ i = 0 by omega), Bool.false_or, Bool.not_false, Bool.true_and] at hr bad
      refine ⟨fun q3 => ?_, fun q3 w hw' => ?_⟩
      · rw [bad (by rw [q3]; rfl)]
        exact finE_closed rfl ⟨rfl, rfl⟩
      · rw [q3] at hr
        rw [wrap_i64 (by omega) (by omega)] at hw'
        subst hw'
        exact rnd_s (i + 1) rfl (by simp) ⟨rfl, rfl, rfl, rfl, trivial⟩ ⟨by omega, hr⟩ (by omega)
    · rw [decide_eq_false q, decide_eq_true (show i = 0 by omega)] at hr
      rw [wrap_i64 (by omega) (by omega)] at hv
      subst hv
      exact rnd_s (i + 1) rfl (by simp) ⟨rfl, rfl, rfl, rfl, trivial⟩ ⟨by omega, hr⟩ (by omega)
  · have h2 : i = l.length := by omega
    subst h2
    refine ⟨fun q => ?_, fun q => ?_⟩
    · refine call_ret (lines69 l hl hw) rfl rfl ?_
      simp only [↓gos, gop, qA, qB, qC, qD, qE, qF, qG, qH, qI]
      refine endb ?_
      unfold groupsB risB
      rw [ht, decide_eq_true (by omega)]; rfl
    · refine endb ?_
      unfold groupsB
      rw [decide_eq_false (by omega)]; simp
theorem prep_len (m : Int → List Int) (p : Int → Bool) (hm : ∀ c, (m c).length ≤ 2) (s : List UInt8) : (prepR m p s).1.length ≤ 8 * s.length := by
  have h1 := rs_len s
  have h2 : ∀ l : List Int, (l.flatMap m).length ≤ 2 * l.length := fun l => by
    induction l with
    | nil => simp
    | cons x l ih => have := hm x; simp only [List.flatMap_cons, List.length_append, List.length_cons]; omega
  have h3 : ∀ l : List Int, (l.flatMap en).length ≤ 4 * l.length := fun l => by
    induction l with
    | nil => simp
    | cons x l ih => have := en_len4 x; simp only [List.flatMap_cons, List.length_append, List.length_cons]; omega
  have h4 := h2 (rs s)
  have h5 := h3 ((rs s).flatMap m)
  unfold prepR
  split
  · split
    · simp
    · split
      · show (((rs s).flatMap m).flatMap en).length ≤ _; omega
      · simp
  · simp
theorem okJ_of {s : List UInt8} (hs : s.length < 100000000) : okJ s := fun x hx => by
  have h1 := prep_len smallL nodeB small_len x
  have h2 := prep_len smallL hostB small_len x
  have h3 := prep_len keptL (fun c => !banB c) kept_len x
  refine ⟨?_, ?_, ?_⟩
  · unfold nodeR; omega
  · unfold hostR; omega
  · unfold resR; omega
theorem bare_c (s : List UInt8) (hs : s.length < 100000000) : SE 63 [.str s] (bareR s) := bare63 s hs (okJ_of hs)
structure CT where
  name : List UInt8
  family : List UInt8
  given : List UInt8
  nick : List UInt8
  jid : List UInt8
  email : List UInt8
  tel : List UInt8
  note : List UInt8
  uid : List UInt8
  groups : List (List UInt8)
  other : List PR
def ctv (c : CT) : List DV := [.str c.name, .str c.family, .str c.given, .str c.nick, .str c.jid, .str c.email, .str c.tel, .str c.note, .str c.uid, .sl 1 (c.groups.map sv), .sl 4 (c.other.map pv)]
structure okS (c : CT) : Prop where
  name : c.name.length < 100000000
  family : c.family.length < 100000000
  given : c.given.length < 100000000
  nick : c.nick.length < 100000000
  jid : c.jid.length < 100000000
  email : c.email.length < 100000000
  tel : c.tel.length < 100000000
  note : c.note.length < 100000000
  uid : c.uid.length < 100000000
  gl : c.groups.length < 1000000000
  gs : ∀ s ∈ c.groups, s.length < 100000000
  ol : c.other.length < 1000000000
  ow : wtC c.other
def jidOk (s : List UInt8) : Bool := decide (s = []) || (decide ((bareR s).2 = 0) && decide ((bareR s).1 = s))
def noteB (s : List UInt8) : Bool := runAt mayB s 0 && !s.contains 13 && decide ((rs s).length ≤ 500)
def shortB (c : CT) : Bool := [c.name, c.family, c.given, c.nick, c.email, c.tel, c.uid].all lineB
def rightC (c : CT) : Bool := !decide (c.name = []) && jidOk c.jid && decide (c.other.length ≤ 40) && noteB c.note && decide ((writeL [c.other]).2 = 0) && groupsB c.groups && shortB c
theorem contains13 (s : List UInt8) (hs : s.length < 1000000000) : DRet 65 [.str s, .str [13]] (.bool (s.contains 13)) := by
  refine acalls_go c65 (by simp [f65]) ?_
  simp only [f65, ↓gos, gop, qA, qB, qC, qD, qE, qF, qG, qH, qI]
  refine call_ret (index59 s [13] hs) rfl rfl ?_
  rw [Lib.index_one]
  simp only [↓gos, gop, qA, qB, qC, qD, qE, qF, qG, qH, qI]
  have h := Lib.indexByte_ge s 13
  rcases index_cut 13 s with ⟨h1, h2⟩ | ⟨n, h1, h2, h3⟩
  · refine ⟨fun q => absurd q (by omega), fun q => endb ?_⟩
    have hno : 13 ∉ s := fun hm => by
      obtain ⟨x, r, rfl, hx⟩ := List.eq_append_cons_of_mem hm
      rw [index_app 13 r x hx] at h1
      omega
    simp [hno]
  · refine ⟨fun q => endb ?_, fun q => absurd h1 (by omega)⟩
    have := (cut_yes 13 s (by rw [h3])).1
    rw [this]; simp
theorem right35 (c : CT) (hc : okS c) : DRet 35 [.agg (ctv c)] (.bool (rightC c)) := by
  refine acalls_go c35 (by simp [f35]) ?_
  simp only [f35, ctv, ↓gos, gop, qA, qB, qC, qD, qE, qF, qG, qH, qI]
  refine call_ret (bare_c c.jid hc.jid) rfl rfl ?_
  have no : ∀ h, rightC c = false → finE 0 (fun h d => h = [] ∧ d = DV.bool (rightC c)) (some [DV.bool false]) h := fun h e => by rw [e]; exact finE_closed rfl ⟨rfl, rfl⟩
  have hnote := hc.note
  simp only [↓gos, gop, qA, qB, qC, qD, qE, qF, qG, qH, qI]
  refine ⟨fun q => no _ (by unfold rightC; simp [q]), fun q1 => ⟨fun q2 => ⟨fun q3 => no _ (by unfold rightC jidOk; simp [q2, q3]), fun q3 => ⟨fun q4 => no _ (by unfold rightC jidOk; simp [q2, q4]), fun q4 =>
    have hJ : jidOk c.jid = true := by unfold jidOk; simp [q3, q4]
    ⟨fun q5 => no _ (by unfold rightC; rw [decide_eq_false (show ¬ c.other.length ≤ 40 by omega)]; simp), fun q5 => ?_⟩⟩⟩,
    fun q2 => have hJ : jidOk c.jid = true := by unfold jidOk; simp [q2]
    ⟨fun q5 => no _ (by unfold rightC; rw [decide_eq_false (show ¬ c.other.length ≤ 40 by omega)]; simp), fun q5 => ?_⟩⟩⟩
  all_goals
    have hR : rightC c = (noteB c.note && decide ((writeL [c.other]).2 = 0) && groupsB c.groups && shortB c) := by
      unfold rightC; rw [decide_eq_false q1, hJ, decide_eq_true (show c.other.length ≤ 40 by omega)]; simp
    refine call_ret (valid_c c.note (by omega)) rfl rfl ?_
    cases hv : runAt mayB c.note 0
    · simp only [↓gos, gop, qA, qB, qC, qD, qE, qF, qG, qH, qI]
      exact no _ (by rw [hR]; unfold noteB; simp [hv])
    · simp only [↓gos, gop, qA, qB, qC, qD, qE, qF, qG, qH, qI]
      refine call_ret (contains13 c.note (by omega)) rfl rfl ?_
      cases h13 : c.note.contains 13
      · simp only [↓gos, gop, qA, qB, qC, qD, qE, qF, qG, qH, qI]
        refine call_ret (count21 rfl vED c.note (by omega)) rfl rfl ?_
        simp only [↓gos, gop, qA, qB, qC, qD, qE, qF, qG, qH, qI]
        refine ⟨fun q => no _ (by rw [hR]; unfold noteB; rw [decide_eq_false (show ¬ (rs c.note).length ≤ 500 by omega)]; simp), fun q => ?_⟩
        have hN : noteB c.note = true := by unfold noteB; rw [hv, h13, decide_eq_true (show (rs c.note).length ≤ 500 by omega)]; rfl
        refine call_ret (write24 [c.other] (by simp) (by simpa using ⟨hc.ol, hc.ow⟩)) rfl rfl ?_
        simp only [↓gos, gop, qA, qB, qC, qD, qE, qF, qG, qH, qI]
        refine ⟨fun q6 => ?_, fun q6 => ?_⟩
        · refine call_ret (rising68 c.groups hc.gl hc.gs) rfl rfl ?_
          cases hg : groupsB c.groups
          · simp only [↓gos, gop, qA, qB, qC, qD, qE, qF, qG, qH, qI]
            exact no _ (by rw [hR, hg]; simp)
          · simp only [↓gos, gop, qA, qB, qC, qD, qE, qF, qG, qH, qI]
            refine call_ret (lines69 [c.name, c.family, c.given, c.nick, c.email, c.tel, c.uid] (by simp) (by simpa using ⟨hc.name, hc.family, hc.given, hc.nick, hc.email, hc.tel, hc.uid⟩)) rfl rfl ?_
            simp only [↓gos, gop, qA, qB, qC, qD, qE, qF, qG, qH, qI]
            rw [hR, hN, hg, decide_eq_true (by simpa using q6)]
            exact finE_closed rfl ⟨rfl, by unfold shortB; simp [rvd]⟩
        · exact no _ (by rw [hR, decide_eq_false (by simpa using q6)]; simp)
      · simp only [↓gos, gop, qA, qB, qC, qD, qE, qF, qG, qH, qI]
        exact no _ (by rw [hR]; unfold noteB; rw [h13]; simp)
end Go.Proofs.Ut

/- sheet.columns: what hands back closures. -/
namespace Go.Proofs.Ut
open Go.Ai
set_option maxRecDepth 100000
set_option linter.all false
end Go.Proofs.Ut

/- sheet.header. -/
namespace Go.Proofs.Ut
open Go.Ai
set_option maxRecDepth 100000
set_option linter.all false
end Go.Proofs.Ut
