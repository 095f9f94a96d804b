/- Contacts: contact.lines, rising, Right. -/
import Derived.Test.YtgamnnfndidclaaGreatDoorYFoF
import Derived.Test.YtgamnnfndidclaaGreatDoorYVcE
import Derived.Test.YtgamnnfndidclaaGreatDoorYO3
open Nat renaming reduceBEq → qA, reduceAdd → qB, reduceSub → qC, reduceLeDiff → qD, reduceMul → qE
open Int renaming reduceLE → qF, reduceLT → qG, reduceNe → qH, reduceToNat → qI
open Int renaming reduceEq → rA, reduceAdd → rB, reduceSub → rC, reduceMul → rD, reduceMod → rE, reduceDiv → rF, reduceTDiv → rG, reducePow → rH
open Nat renaming reducePow → rI
set_option linter.all false
namespace Go.Proofs.Ut
open Go.Ai
set_option maxRecDepth 100000
set_option linter.all false
def lineB (s : List UInt8) : Bool := runAt shownB s 0 && decide (((rs s).length : Int) ≤ 100)
theorem line134 (s : List UInt8) (hs : s.length < 100000000) : DRet 134 [.str s] (.bool (!lineB s)) := by
  refine acalls_go c134 (by simp [f134]) ?_
  simp only [f134, ↓gos, gop, qA, qB, qC, qD, qE, qF, qG, qH, qI]
  refine call_ret (line22 rfl vED s 100 (by omega)) rfl rfl ?_
  show _
  unfold lineB
  cases (runAt shownB s 0 && decide (((rs s).length : Int) ≤ 100)) <;> simp only [↓gos, gop, qA, qB, qC, qD, qE, qF, qG, qH, qI] <;> exact endb rfl
theorem index176 (l : List (List UInt8)) (hl : l.length < 1000000000) (hw : ∀ s ∈ l, s.length < 100000000) : ACalls ED 176 [] [.sl 1 (l.map sv), .fn 134 []] (fun h d => h = [] ∧ ∃ n : Int, d = .int .i64 n ∧ (decide (0 ≤ n)) = !l.all lineB) := by
  refine acalls_go c176 (by simp [f176]) ?_
  simp only [f176, ↓gos, gop, qA, qB, qC, qD, qE, qF, qG, qH, qI]
  refine goN_lp (γ := Nat) (fun i => [(8, .int .i64 i), (7, .int .i64 l.length), (0, .sl 1 (l.map sv)), (1, .fn 134 [])]) (fun _ => []) (fun i => i ≤ l.length ∧ (l.take i).all lineB = true) (fun i => l.length - i) 0
    (wks rfl (by simp) ⟨rfl, rfl, rfl, rfl, trivial⟩) ⟨by omega, by simp⟩ fun i hi => ?_
  obtain ⟨hi, ht⟩ := hi
  simp only [f176l0, ↓gos, gop, qA, qB, qC, qD, qE, qF, qG, qH, qI]
  refine ⟨fun h => ?_, fun h => ?_⟩
  · have h2 : i < l.length := by omega
    refine optP_at [] (by simpa using h2) ?_
    have htk := take_getD' h2 []
    have hm : l.getD i [] ∈ l := by rw [List.getD_eq_getElem?_getD, List.getElem?_eq_getElem h2]; exact List.getElem_mem h2
    generalize l.getD i [] = s at *
    simp only [sv, ↓gos, gop, qA, qB, qC, qD, qE, qF, qG, qH, qI]
    refine call_ret (line134 s (hw s hm)) rfl rfl ?_
    cases hk : lineB s
    · simp only [↓gos, gop, qA, qB, qC, qD, qE, qF, qG, qH, qI]
      refine finE_closed rfl ⟨rfl, _, rfl, ?_⟩
      rw [show l.all lineB = false by rw [List.all_eq_false]; exact ⟨s, hm, by simp [hk]⟩]; simp
    · simp only [↓gos, gop, qA, qB, qC, qD, qE, qF, qG, qH, qI]
      intro v hv
      rw [wrap_i64 (by omega) (by omega)] at hv
      subst hv
      refine rnd_s (i + 1) rfl (by simp) ⟨rfl, rfl, rfl, rfl, trivial⟩ ⟨by omega, ?_⟩ (by omega)
      rw [htk, List.all_append, ht]; simp [hk]
  · have h2 : i = l.length := by omega
    subst h2
    rw [List.take_length] at ht
    refine finE_closed rfl ⟨rfl, _, rfl, ?_⟩
    rw [ht]; rfl
theorem lines69 (l : List (List UInt8)) (hl : l.length < 1000000000) (hw : ∀ s ∈ l, s.length < 100000000) : DRet 69 [.sl 1 (l.map sv)] (.bool (l.all lineB)) := by
  have c133' : DRet 133 [.sl 1 (l.map sv), .fn 134 []] (.bool (!l.all lineB)) := by
    refine acalls_go c133 (by simp [f133]) ?_
    simp only [f133, ↓gos, gop, qA, qB, qC, qD, qE, qF, qG, qH, qI]
    refine call_any (index176 l hl hw) rfl ⟨_, if l.all lineB = true then -1 else 0, rfl, by split <;> simp_all⟩ ?_
    rintro d ⟨n, rfl, hn⟩
    refine ⟨rfl, ?_⟩
    rw [← hn]
    simp only [↓gos, gop, qA, qB, qC, qD, qE, qF, qG, qH, qI]
    refine ⟨fun h => endb ?_, fun h => endb ?_⟩
    · rw [decide_eq_true h]
    · rw [decide_eq_false h]
  refine acalls_go c69 (by simp [f69]) ?_
  simp only [f69, ↓gos, gop, qA, qB, qC, qD, qE, qF, qG, qH, qI]
  refine call_ret c133' rfl rfl ?_
  cases l.all lineB <;> simp only [Bool.not_true, Bool.not_false, ↓gos, gop, qA, qB, qC, qD, qE, qF, qG, qH, qI] <;> exact endb rfl
def risI (l : List (List UInt8)) (i : Nat) : Bool := !decide (l.getD i [] = []) && (decide (i = 0) || !(Op.bytesLess (l.getD i []) (l.getD (i - 1) []) || decide (l.getD i [] = l.getD (i - 1) [])))
def risB (l : List (List UInt8)) : Bool := (List.range l.length).all (risI l)
def groupsB (l : List (List UInt8)) : Bool := risB l && decide (l.length ≤ 8) && l.all lineB
theorem rising68 (l : List (List UInt8)) (hl : l.length < 1000000000) (hw : ∀ s ∈ l, s.length < 100000000) : DRet 68 [.sl 1 (l.map sv)] (.bool (groupsB l)) := by
  refine acalls_go c68 (by simp [f68]) ?_
  simp only [f68, ↓gos, gop, qA, qB, qC, qD, qE, qF, qG, qH, qI]
  refine goN_lp (γ := Nat) (fun i => [(7, .int .i64 i), (6, .int .i64 l.length), (5, .sl 1 (l.map sv)), (0, .sl 1 (l.map sv))]) (fun _ => []) (fun i => i ≤ l.length ∧ (List.range i).all (risI l) = true) (fun i => l.length - i) 0
    (wks rfl (by simp) ⟨rfl, rfl, rfl, rfl, trivial⟩) ⟨by omega, by simp⟩ fun i hi => ?_
  obtain ⟨hi, ht⟩ := hi
  simp only [f68l0, ↓gos, gop, qA, qB, qC, qD, qE, qF, qG, qH, qI]
  refine ⟨fun h => ?_, fun h => ?_⟩
  · have h2 : i < l.length := by omega
    have hr : (List.range (i + 1)).all (risI l) = risI l i := by rw [List.range_succ, List.all_append, ht]; simp
    have bad : risI l i = false → groupsB l = false := fun h => by
      unfold groupsB risB
      rw [show (List.range l.length).all (risI l) = false by rw [List.all_eq_false]; exact ⟨i, by simpa using h2, by simp [h]⟩]; rfl
    refine optP_at [] (by simpa using h2) ?_
    rw [show risI l i = (!decide (l.getD i [] = []) && (decide (i = 0) || !(Op.bytesLess (l.getD i []) (l.getD (i - 1) []) || decide (l.getD i [] = l.getD (i - 1) [])))) from rfl] at hr bad
    generalize l.getD i [] = s at *
    simp only [sv, ↓gos, gop, qA, qB, qC, qD, qE, qF, qG, qH, qI]
    refine ⟨fun q => ?_, fun q => ⟨fun q2 v hv => ?_, fun q2 v hv => ?_⟩⟩
    · rw [bad (by rw [decide_eq_true q]; rfl)]
      exact finE_closed rfl ⟨rfl, rfl⟩
    · rw [wrap_i64 (by omega) (by omega)] at hv
      have hv' : v.toNat = i - 1 := by omega
      rw [hv']
      refine chk_i (by omega) (optP_at [] (by omega) ?_)
      rw [decide_eq_false q, decide_eq_false (show ¬ i = 0 by omega), Bool.false_or, Bool.not_false, Bool.true_and] at hr bad
      refine ⟨fun q3 => ?_, fun q3 w hw' => ?_⟩
      · rw [bad (by rw [q3]; rfl)]
        exact finE_closed rfl ⟨rfl, rfl⟩
      · rw [q3] at hr
        rw [wrap_i64 (by omega) (by omega)] at hw'
        subst hw'
        exact rnd_s (i + 1) rfl (by simp) ⟨rfl, rfl, rfl, rfl, trivial⟩ ⟨by omega, hr⟩ (by omega)
    · rw [decide_eq_false q, decide_eq_true (show i = 0 by omega)] at hr
      rw [wrap_i64 (by omega) (by omega)] at hv
      subst hv
      exact rnd_s (i + 1) rfl (by simp) ⟨rfl, rfl, rfl, rfl, trivial⟩ ⟨by omega, hr⟩ (by omega)
  · have h2 : i = l.length := by omega
    subst h2
    refine ⟨fun q => ?_, fun q => ?_⟩
    · refine call_ret (lines69 l hl hw) rfl rfl ?_
      simp only [↓gos, gop, qA, qB, qC, qD, qE, qF, qG, qH, qI]
      refine endb ?_
      unfold groupsB risB
      rw [ht, decide_eq_true (by omega)]; rfl
    · refine endb ?_
      unfold groupsB
      rw [decide_eq_false (by omega)]; simp
theorem prep_len (m : Int → List Int) (p : Int → Bool) (hm : ∀ c, (m c).length ≤ 2) (s : List UInt8) : (prepR m p s).1.length ≤ 8 * s.length := by
  have h1 := rs_len s
  have h2 : ∀ l : List Int, (l.flatMap m).length ≤ 2 * l.length := fun l => by
    induction l with
    | nil => simp
    | cons x l ih => have := hm x; simp only [List.flatMap_cons, List.length_append, List.length_cons]; omega
  have h3 : ∀ l : List Int, (l.flatMap en).length ≤ 4 * l.length := fun l => by
    induction l with
    | nil => simp
    | cons x l ih => have := en_len4 x; simp only [List.flatMap_cons, List.length_append, List.length_cons]; omega
  have h4 := h2 (rs s)
  have h5 := h3 ((rs s).flatMap m)
  unfold prepR
  split
  · split
    · simp
    · split
      · show (((rs s).flatMap m).flatMap en).length ≤ _; omega
      · simp
  · simp
theorem okJ_of {s : List UInt8} (hs : s.length < 100000000) : okJ s := fun x hx => by
  have h1 := prep_len smallL nodeB small_len x
  have h2 := prep_len smallL hostB small_len x
  have h3 := prep_len keptL (fun c => !banB c) kept_len x
  refine ⟨?_, ?_, ?_⟩
  · unfold nodeR; omega
  · unfold hostR; omega
  · unfold resR; omega
theorem bare_c (s : List UInt8) (hs : s.length < 100000000) : SE 63 [.str s] (bareR s) := bare63 s hs (okJ_of hs)
structure CT where
  name : List UInt8
  family : List UInt8
  given : List UInt8
  nick : List UInt8
  jid : List UInt8
  email : List UInt8
  tel : List UInt8
  note : List UInt8
  uid : List UInt8
  groups : List (List UInt8)
  other : List PR
def ctv (c : CT) : List DV := [.str c.name, .str c.family, .str c.given, .str c.nick, .str c.jid, .str c.email, .str c.tel, .str c.note, .str c.uid, .sl 1 (c.groups.map sv), .sl 4 (c.other.map pv)]
structure okS (c : CT) : Prop where
  name : c.name.length < 100000000
  family : c.family.length < 100000000
  given : c.given.length < 100000000
  nick : c.nick.length < 100000000
  jid : c.jid.length < 100000000
  email : c.email.length < 100000000
  tel : c.tel.length < 100000000
  note : c.note.length < 100000000
  uid : c.uid.length < 100000000
  gl : c.groups.length < 1000000000
  gs : ∀ s ∈ c.groups, s.length < 100000000
  ol : c.other.length < 1000000000
  ow : wtC c.other
def jidOk (s : List UInt8) : Bool := decide (s = []) || (decide ((bareR s).2 = 0) && decide ((bareR s).1 = s))
def noteB (s : List UInt8) : Bool := runAt mayB s 0 && !s.contains 13 && decide ((rs s).length ≤ 500)
def shortB (c : CT) : Bool := [c.name, c.family, c.given, c.nick, c.email, c.tel, c.uid].all lineB
def rightC (c : CT) : Bool := !decide (c.name = []) && jidOk c.jid && decide (c.other.length ≤ 40) && noteB c.note && decide ((writeL [c.other]).2 = 0) && groupsB c.groups && shortB c
theorem contains13 (s : List UInt8) (hs : s.length < 1000000000) : DRet 65 [.str s, .str [13]] (.bool (s.contains 13)) := by
  refine acalls_go c65 (by simp [f65]) ?_
  simp only [f65, ↓gos, gop, qA, qB, qC, qD, qE, qF, qG, qH, qI]
  refine call_ret (index59 s [13] hs) rfl rfl ?_
  rw [Lib.index_one]
  simp only [↓gos, gop, qA, qB, qC, qD, qE, qF, qG, qH, qI]
  have h := Lib.indexByte_ge s 13
  rcases index_cut 13 s with ⟨h1, h2⟩ | ⟨n, h1, h2, h3⟩
  · refine ⟨fun q => absurd q (by omega), fun q => endb ?_⟩
    have hno : 13 ∉ s := fun hm => by
      obtain ⟨x, r, rfl, hx⟩ := List.eq_append_cons_of_mem hm
      rw [index_app 13 r x hx] at h1
      omega
    simp [hno]
  · refine ⟨fun q => endb ?_, fun q => absurd h1 (by omega)⟩
    have := (cut_yes 13 s (by rw [h3])).1
    rw [this]; simp
theorem right35 (c : CT) (hc : okS c) : DRet 35 [.agg (ctv c)] (.bool (rightC c)) := by
  refine acalls_go c35 (by simp [f35]) ?_
  simp only [f35, ctv, ↓gos, gop, qA, qB, qC, qD, qE, qF, qG, qH, qI]
  refine call_ret (bare_c c.jid hc.jid) rfl rfl ?_
  have no : ∀ h, rightC c = false → finE 0 (fun h d => h = [] ∧ d = DV.bool (rightC c)) (some [DV.bool false]) h := fun h e => by rw [e]; exact finE_closed rfl ⟨rfl, rfl⟩
  have hnote := hc.note
  simp only [↓gos, gop, qA, qB, qC, qD, qE, qF, qG, qH, qI]
  refine ⟨fun q => no _ (by unfold rightC; simp [q]), fun q1 => ⟨fun q2 => ⟨fun q3 => no _ (by unfold rightC jidOk; simp [q2, q3]), fun q3 => ⟨fun q4 => no _ (by unfold rightC jidOk; simp [q2, q4]), fun q4 =>
    have hJ : jidOk c.jid = true := by unfold jidOk; simp [q3, q4]
    ⟨fun q5 => no _ (by unfold rightC; rw [decide_eq_false (show ¬ c.other.length ≤ 40 by omega)]; simp), fun q5 => ?_⟩⟩⟩,
    fun q2 => have hJ : jidOk c.jid = true := by unfold jidOk; simp [q2]
    ⟨fun q5 => no _ (by unfold rightC; rw [decide_eq_false (show ¬ c.other.length ≤ 40 by omega)]; simp), fun q5 => ?_⟩⟩⟩
  all_goals
    have hR : rightC c = (noteB c.note && decide ((writeL [c.other]).2 = 0) && groupsB c.groups && shortB c) := by
      unfold rightC; rw [decide_eq_false q1, hJ, decide_eq_true (show c.other.length ≤ 40 by omega)]; simp
    refine call_ret (valid_c c.note (by omega)) rfl rfl ?_
    cases hv : runAt mayB c.note 0
    · simp only [↓gos, gop, qA, qB, qC, qD, qE, qF, qG, qH, qI]
      exact no _ (by rw [hR]; unfold noteB; simp [hv])
    · simp only [↓gos, gop, qA, qB, qC, qD, qE, qF, qG, qH, qI]
      refine call_ret (contains13 c.note (by omega)) rfl rfl ?_
      cases h13 : c.note.contains 13
      · simp only [↓gos, gop, qA, qB, qC, qD, qE, qF, qG, qH, qI]
        refine call_ret (count21 rfl vED c.note (by omega)) rfl rfl ?_
        simp only [↓gos, gop, qA, qB, qC, qD, qE, qF, qG, qH, qI]
        refine ⟨fun q => no _ (by rw [hR]; unfold noteB; rw [decide_eq_false (show ¬ (rs c.note).length ≤ 500 by omega)]; simp), fun q => ?_⟩
        have hN : noteB c.note = true := by unfold noteB; rw [hv, h13, decide_eq_true (show (rs c.note).length ≤ 500 by omega)]; rfl
        refine call_ret (write24 [c.other] (by simp) (by simpa using ⟨hc.ol, hc.ow⟩)) rfl rfl ?_
        simp only [↓gos, gop, qA, qB, qC, qD, qE, qF, qG, qH, qI]
        refine ⟨fun q6 => ?_, fun q6 => ?_⟩
        · refine call_ret (rising68 c.groups hc.gl hc.gs) rfl rfl ?_
          cases hg : groupsB c.groups
          · simp only [↓gos, gop, qA, qB, qC, qD, qE, qF, qG, qH, qI]
            exact no _ (by rw [hR, hg]; simp)
          · simp only [↓gos, gop, qA, qB, qC, qD, qE, qF, qG, qH, qI]
            refine call_ret (lines69 [c.name, c.family, c.given, c.nick, c.email, c.tel, c.uid] (by simp) (by simpa using ⟨hc.name, hc.family, hc.given, hc.nick, hc.email, hc.tel, hc.uid⟩)) rfl rfl ?_
            simp only [↓gos, gop, qA, qB, qC, qD, qE, qF, qG, qH, qI]
            rw [hR, hN, hg, decide_eq_true (by simpa using q6)]
            exact finE_closed rfl ⟨rfl, by unfold shortB; simp [rvd]⟩
        · exact no _ (by rw [hR, decide_eq_false (by simpa using q6)]; simp)
      · simp only [↓gos, gop, qA, qB, qC, qD, qE, qF, qG, qH, qI]
        exact no _ (by rw [hR]; unfold noteB; rw [h13]; simp)
end Go.Proofs.Ut

/- sheet.columns: what hands back closures. -/
namespace Go.Proofs.Ut
open Go.Ai
set_option maxRecDepth 100000
set_option linter.all false
def col (name : List UInt8) (g : Nat) : List DV := [.str name, .fn 143 [.eptr [.fn g []] 0], .fn 144 [.eptr [.fn g []] 0]]
theorem text89 (name : List UInt8) (g : Nat) : DRet 89 [.str name, .fn g []] (.agg (col name g)) := by
  refine acalls_goF c89 (by simp [f89]) ?_
  simp only [f89, finF_e, finF_en, ↓gos, gop, qA, qB, qC, qD, qE, qF, qG, qH, qI]
  exact end_fc [0] rfl rfl ⟨rfl, rfl⟩
def NAME : List UInt8 := [110, 97, 109, 101]
def FAMILY : List UInt8 := [102, 97, 109, 105, 108, 121]
def GIVEN : List UInt8 := [103, 105, 118, 101, 110]
def NICK : List UInt8 := [110, 105, 99, 107]
def JID : List UInt8 := [106, 105, 100]
def EMAIL : List UInt8 := [101, 109, 97, 105, 108]
def TEL : List UInt8 := [116, 101, 108]
def NOTE : List UInt8 := [110, 111, 116, 101]
def UID : List UInt8 := [117, 105, 100]
def GROUPS : List UInt8 := [103, 114, 111, 117, 112, 115]
def COLS : List (List UInt8) := [NAME, FAMILY, GIVEN, NICK, JID, EMAIL, TEL, NOTE, UID, GROUPS]
def cols : List (List DV) := [col NAME 90, col FAMILY 91, col GIVEN 92, col NICK 93, [.str JID, .fn 94 [], .fn 95 []], col EMAIL 96, col TEL 97, col NOTE 98, col UID 99, [.str GROUPS, .fn 100 [], .fn 101 []]]
theorem columns48 : DRet 48 [] (.sl 3 cols) := by
  refine acalls_goF c48 (by simp [f48]) ?_
  simp only [f48, finF_e, finF_en, ↓gos, gop, qA, qB, qC, qD, qE, qF, qG, qH, qI]
  refine call_clo (text89 NAME 90) rfl rfl ?_
  simp only [finF_e, finF_en, ↓gos, gop, qA, qB, qC, qD, qE, qF, qG, qH, qI]
  refine call_clo (text89 FAMILY 91) rfl rfl ?_
  simp only [finF_e, finF_en, ↓gos, gop, qA, qB, qC, qD, qE, qF, qG, qH, qI]
  refine call_clo (text89 GIVEN 92) rfl rfl ?_
  simp only [finF_e, finF_en, ↓gos, gop, qA, qB, qC, qD, qE, qF, qG, qH, qI]
  refine call_clo (text89 NICK 93) rfl rfl ?_
  simp only [finF_e, finF_en, ↓gos, gop, qA, qB, qC, qD, qE, qF, qG, qH, qI]
  refine call_clo (text89 EMAIL 96) rfl rfl ?_
  simp only [finF_e, finF_en, ↓gos, gop, qA, qB, qC, qD, qE, qF, qG, qH, qI]
  refine call_clo (text89 TEL 97) rfl rfl ?_
  simp only [finF_e, finF_en, ↓gos, gop, qA, qB, qC, qD, qE, qF, qG, qH, qI]
  refine call_clo (text89 NOTE 98) rfl rfl ?_
  simp only [finF_e, finF_en, ↓gos, gop, qA, qB, qC, qD, qE, qF, qG, qH, qI]
  refine call_clo (text89 UID 99) rfl rfl ?_
  simp only [col, finF_e, finF_en, ↓gos, gop, qA, qB, qC, qD, qE, qF, qG, qH, qI]
  exact end_fc [1] rfl rfl ⟨rfl, rfl⟩
def lowB (b : UInt8) : UInt8 := if 65 ≤ b.toNat ∧ b.toNat ≤ 90 then b + 32 else b
def lowL (s : List UInt8) : List UInt8 := s.map lowB
def idxI (l : List (List UInt8)) (x : List UInt8) : Int := if l.contains x then (l.idxOf x : Nat) else -1
theorem index84 (l : List (List UInt8)) (x : List UInt8) (hl : l.length < 1000000000) : DRet 84 [.sl 1 (l.map sv), .str x] (.int .i64 (idxI l x)) := by
  refine acalls_go c84 (by simp [f84]) ?_
  simp only [f84, ↓gos, gop, qA, qB, qC, qD, qE, qF, qG, qH, qI]
  refine goN_lp (γ := Nat) (fun i => [(8, .int .i64 i), (7, .int .i64 l.length), (0, .sl 1 (l.map sv)), (1, .str x)]) (fun _ => []) (fun i => i ≤ l.length ∧ x ∉ l.take i) (fun i => l.length - i) 0
    (wks rfl (by simp) ⟨rfl, rfl, rfl, rfl, trivial⟩) ⟨by omega, by simp⟩ fun i hi => ?_
  obtain ⟨hi, ht⟩ := hi
  simp only [f84l0, ↓gos, gop, qA, qB, qC, qD, qE, qF, qG, qH, qI]
  refine ⟨fun h => ?_, fun h => ?_⟩
  · have h2 : i < l.length := by omega
    refine optP_at [] (by simpa using h2) ?_
    have htk := take_getD' h2 []
    have hdr : l = l.take i ++ l.getD i [] :: l.drop (i + 1) := by
      rw [List.getD_eq_getElem?_getD, List.getElem?_eq_getElem h2]; simp
    have hti : (l.take i).length = i := by simp; omega
    generalize l.getD i [] = s at *
    simp only [sv, ↓gos, gop, qA, qB, qC, qD, qE, qF, qG, qH, qI]
    refine ⟨fun q => ?_, fun q => ?_⟩
    · subst q
      refine finE_closed rfl ⟨rfl, ?_⟩
      have hm : l.contains x = true := by rw [hdr]; simp
      have he : l.idxOf x = i := by rw [hdr, List.idxOf_append, if_neg ht, List.idxOf_cons_self, hti, Nat.zero_add]
      unfold idxI
      rw [hm, he]; rfl
    · intro v hv
      rw [wrap_i64 (by omega) (by omega)] at hv
      subst hv
      refine rnd_s (i + 1) rfl (by simp) ⟨rfl, rfl, rfl, rfl, trivial⟩ ⟨by omega, ?_⟩ (by omega)
      rw [htk]; simp [ht, q]
  · have h2 : i = l.length := by omega
    subst h2
    rw [List.take_length] at ht
    refine finE_closed rfl ⟨rfl, ?_⟩
    unfold idxI
    rw [if_neg (by simpa using ht)]; rfl
theorem contains83 (l : List (List UInt8)) (x : List UInt8) (hl : l.length < 1000000000) : DRet 83 [.sl 1 (l.map sv), .str x] (.bool (l.contains x)) := by
  refine acalls_go c83 (by simp [f83]) ?_
  simp only [f83, ↓gos, gop, qA, qB, qC, qD, qE, qF, qG, qH, qI]
  refine call_ret (index84 l x hl) rfl rfl ?_
  have hx : (0 ≤ idxI l x) ↔ l.contains x = true := by
    unfold idxI; split <;> rename_i h
    · simp only [h, iff_true]; exact Int.natCast_nonneg _
    · simp only [h]; simp
  simp only [↓gos, gop, qA, qB, qC, qD, qE, qF, qG, qH, qI]
  refine ⟨fun h => endb ?_, fun h => endb ?_⟩
  · rw [hx.1 h]
  · symm; simpa using fun e => h (hx.2 (by simpa using e))
def loT (n : List UInt8) (j : Nat) : List UInt8 := lowL (n.take j) ++ n.drop j
theorem loT_len (n : List UInt8) (j : Nat) : (loT n j).length = n.length := by simp [loT, lowL]; omega
theorem drop_by' (n : List UInt8) (j : Nat) (h : j < n.length) : n.drop j = n.getD j 0 :: n.drop (j + 1) := by
  rw [List.getD_eq_getElem?_getD, List.getElem?_eq_getElem h]; exact List.drop_eq_getElem_cons h
theorem loT_get (n : List UInt8) (j : Nat) (h : j < n.length) : (loT n j).getD j 0 = n.getD j 0 := by
  unfold loT
  have hl : (lowL (n.take j)).length = j := by simp [lowL]; omega
  rw [List.getD_eq_getElem?_getD, List.getD_eq_getElem?_getD, List.getElem?_append_right (by omega), hl, Nat.sub_self, List.getElem?_drop, Nat.add_zero]
theorem loT_set (n : List UInt8) (j : Nat) (h : j < n.length) : (loT n j).set j (lowB (n.getD j 0)) = loT n (j + 1) := by
  unfold loT
  have hl : (lowL (n.take j)).length = j := by simp [lowL]; omega
  rw [List.set_append_right _ _ (by omega), hl, Nat.sub_self, drop_by' n j h, List.set_cons_zero, take_getD' h 0]
  simp [lowL]
theorem loT_skip (n : List UInt8) (j : Nat) (h : j < n.length) (hu : lowB (n.getD j 0) = n.getD j 0) : loT n j = loT n (j + 1) := by
  unfold loT
  rw [take_getD' h 0, drop_by' n j h]
  generalize n.getD j 0 = c at *
  simp [lowL, hu]
theorem optG' {bs : List UInt8} {i : Nat} {K : List DV → Prop} (h : i < bs.length) (hk : K [.int .u8 (bs.getD i 0).toNat]) : optP (byv bs)[i]? K := by
  unfold byv
  rw [optP_map]
  exact optP_at 0 h hk
theorem low_nat (c : UInt8) : (lowB c).toNat = if 65 ≤ c.toNat ∧ c.toNat ≤ 90 then c.toNat + 32 else c.toNat := by
  unfold lowB
  split
  · rw [UInt8.toNat_add]; simp; omega
  · rfl
theorem small82 (s : List UInt8) (hs : s.length < 100000000) : DRet 82 [.str s] (.str (lowL s)) := by
  refine acalls_go c82 (by simp [f82]) ?_
  simp only [f82, ↓gos, gop, qA, qB, qC, qD, qE, qF, qG, qH, qI]
  refine s2b_osl ?_
  simp only [↓gos, gop, qA, qB, qC, qD, qE, qF, qG, qH, qI]
  refine goN_lp (γ := Nat) (fun j => [(10, .int .i64 j), (9, .int .i64 s.length), (8, .osl 1 0 0 s.length none), (3, .osl 1 0 0 s.length none)]) (fun j => [.arr 1 (byv (loT s j))]) (fun j => j ≤ s.length) (fun j => s.length - j) 0
    (wks rfl (by simp) ⟨rfl, rfl, rfl, rfl, trivial⟩) (by omega) fun j hj => ?_
  have hul := loT_len s j
  simp only [f82l0, ↓gos, gop, qA, qB, qC, qD, qE, qF, qG, qH, qI]
  refine ⟨fun a1 => ?_, fun a1 => ?_⟩
  · have hj : j < s.length := by omega
    have hge := loT_get s j hj
    have hup := low_nat (s.getD j 0)
    have hset := loT_set s j hj
    have hskip := loT_skip s j hj
    have hci : (s.getD j 0).toNat < 256 := UInt8.toNat_lt _
    generalize s.getD j 0 = c at hge hup hset hskip hci
    refine chk_i (by omega) (optG' (by omega) ?_)
    rw [hge]
    simp only [List.getElem?_cons_zero, ↓gos, gop, qA, qB, qC, qD, qE, qF, qG, qH, qI]
    refine ⟨fun c1 => ⟨fun c2 => ?_, fun c2 => ?_⟩, fun c1 => ?_⟩
    · have w1 : IntKind.u8.wrap ((c.toNat : Int) - 65) = ((c.toNat - 65 : Nat) : Int) := by rw [Go.Ai.wrap_u8 (by omega) (by omega)]; omega
      have w2 : IntKind.u8.wrap (((c.toNat - 65 : Nat) : Int) + 97) = ((lowB c).toNat : Int) := by rw [hup, if_pos ⟨by omega, by omega⟩, Go.Ai.wrap_u8 (by omega) (by omega)]; omega
      simp only [w1, w2, forall_eq]
      refine chk_i (by omega) (optG' (by omega) ?_)
      refine chk_i (by simp) ?_
      rw [show IntKind.i64.wrap ((j : Int) + 1) = (j + 1 : Nat) by rw [wrap_i64 (by omega) (by omega)]; rfl]
      simp only [List.drop_succ_cons, List.drop_zero]
      rw [byv_set _ j (lowB c) _ rfl, hset]
      exact rnd_s (j + 1) rfl (by simp) ⟨rfl, rfl, rfl, rfl, trivial⟩ (by omega) (by omega)
    · intro v hv
      rw [wrap_i64 (by omega) (by omega)] at hv
      subst hv
      rw [hskip (UInt8.toNat_inj.1 (by rw [hup, if_neg (by omega)]))]
      exact rnd_s (j + 1) rfl (by simp) ⟨rfl, rfl, rfl, rfl, trivial⟩ (by omega) (by omega)
    · intro v hv
      rw [wrap_i64 (by omega) (by omega)] at hv
      subst hv
      rw [hskip (UInt8.toNat_inj.1 (by rw [hup, if_neg (by omega)]))]
      exact rnd_s (j + 1) rfl (by simp) ⟨rfl, rfl, rfl, rfl, trivial⟩ (by omega) (by omega)
  · have hje : j = s.length := by omega
    subst hje
    have hun : loT s s.length = lowL s := by simp [loT]
    rw [hun]
    have hul2 : (lowL s).length = s.length := by simp [lowL]
    refine .inr ⟨_, rfl, by simp [byv, lowL], lowL s, by rw [List.take_of_length_le (by simp [byv, lowL])]; rfl, ?_⟩
    exact ends rfl
theorem each81 (l : List (List UInt8)) (hl : l.length < 1000000000) (hw : ∀ s ∈ l, s.length < 100000000) : DRet 81 [.sl 1 (l.map sv), .fn 82 []] (.sl 1 ((l.map lowL).map sv)) := by
  refine acalls_goF c81 (by simp [f81]) ?_
  simp only [f81, finF_e, finF_en, ↓gos, gop, qA, qB, qC, qD, qE, qF, qG, qH, qI]
  refine goN_lp (γ := Nat) (fun i => [(10, .int .i64 i), (9, .int .i64 l.length), (8, .sl 1 (l.map sv)), (1, .fn 82 []), (5, .osl 1 1 0 i none)]) (fun i => [.arr 1 [], .arr 1 (((l.take i).map lowL).map sv)]) (fun i => i ≤ l.length) (fun i => l.length - i) 0
    (wks rfl (by simp) ⟨rfl, rfl, rfl, rfl, rfl, trivial⟩) (by omega) fun i hi => ?_
  simp only [f81l0, finF_e, finF_en, ↓gos, gop, qA, qB, qC, qD, qE, qF, qG, qH, qI]
  refine ⟨fun h => ?_, fun h => ?_⟩
  · have h2 : i < l.length := by omega
    refine optP_at [] (by simpa using h2) ?_
    have htk := take_getD' h2 []
    have hm : l.getD i [] ∈ l := by rw [List.getD_eq_getElem?_getD, List.getElem?_eq_getElem h2]; exact List.getElem_mem h2
    generalize l.getD i [] = s at *
    simp only [sv, ↓gos, gop, qA, qB, qC, qD, qE, qF, qG, qH, qI]
    refine call_ret (small82 s (hw s hm)) rfl rfl ?_
    simp only [↓gos, gop, qA, qB, qC, qD, qE, qF, qG, qH, qI]
    have hti : (l.take i).length = i := by simp; omega
    refine chk_i (by omega) (chk_i (by omega) (chk_i (by omega) ?_))
    intro v hv
    rw [wrap_i64 (by omega) (by omega)] at hv
    subst hv
    refine rnd_d 2 (i + 1) ?_ (Nat.zero_le _) ⟨rfl, rfl, rfl, rfl, rfl, rfl, rfl, rfl, rfl, rfl, trivial⟩ rfl (by omega) (by omega)
    have e : List.take i (List.map sv (List.map lowL (List.take i l))) = List.map sv (List.map lowL (List.take i l)) := List.take_of_length_le (by rw [List.length_map, List.length_map, hti]; exact Nat.le_refl _)
    rw [e, htk]
    simp [sv]
  · have h2 : i = l.length := by omega
    subst h2
    rw [List.take_length]
    exact end_fc [1] (frz_row rfl (by simp) rfl) rfl ⟨rfl, rfl⟩
theorem name80 (n : List UInt8) (g : Nat) : DRet 80 [.agg (col n g)] (.str n) := by
  refine acalls_go c80 (by simp [f80]) ?_
  simp only [f80, col, ↓gos, gop, qA, qB, qC, qD, qE, qF, qG, qH, qI]
  exact ends rfl
theorem name80' (n : List UInt8) (f g : Nat) : DRet 80 [.agg [.str n, .fn f [], .fn g []]] (.str n) := by
  refine acalls_go c80 (by simp [f80]) ?_
  simp only [f80, ↓gos, gop, qA, qB, qC, qD, qE, qF, qG, qH, qI]
  exact ends rfl
theorem names47 : DRet 47 [.sl 3 cols, .fn 80 []] (.sl 1 (COLS.map sv)) := by
  refine acalls_goF c47 (by simp [f47]) ?_
  simp only [f47, finF_e, finF_en, cols, col, List.length_cons, List.length_nil, ↓gos, gop, qA, qB, qC, qD, qE, qF, qG, qH, qI]
  refine goN_un 11 ?_
  simp only [f47l0, finF_e, finF_en, ↓gos, gop, qA, qB, qC, qD, qE, qF, qG, qH, qI, forall_eq, IntKind.wrap, IntKind.bits, IntKind.signed, rA, rB, rC, rD, rE, rF, rG, rH, rI, Int.reduceNeg, reduceIte, reduceCtorEq, ge_iff_le, Nat.reduceEqDiff]
  refine call_ret (name80 NAME 90) rfl rfl ?_
  simp only [finF_e, finF_en, ↓gos, gop, qA, qB, qC, qD, qE, qF, qG, qH, qI, forall_eq, IntKind.wrap, IntKind.bits, IntKind.signed, rA, rB, rC, rD, rE, rF, rG, rH, rI, Int.reduceNeg, reduceIte, reduceCtorEq, ge_iff_le, Nat.reduceEqDiff]
  refine un_go ?_
  simp only [f47l0, finF_e, finF_en, ↓gos, gop, qA, qB, qC, qD, qE, qF, qG, qH, qI, forall_eq, IntKind.wrap, IntKind.bits, IntKind.signed, rA, rB, rC, rD, rE, rF, rG, rH, rI, Int.reduceNeg, reduceIte, reduceCtorEq, ge_iff_le, Nat.reduceEqDiff]
  refine call_ret (name80 FAMILY 91) rfl rfl ?_
  simp only [finF_e, finF_en, ↓gos, gop, qA, qB, qC, qD, qE, qF, qG, qH, qI, forall_eq, IntKind.wrap, IntKind.bits, IntKind.signed, rA, rB, rC, rD, rE, rF, rG, rH, rI, Int.reduceNeg, reduceIte, reduceCtorEq, ge_iff_le, Nat.reduceEqDiff]
  refine un_go ?_
  simp only [f47l0, finF_e, finF_en, ↓gos, gop, qA, qB, qC, qD, qE, qF, qG, qH, qI, forall_eq, IntKind.wrap, IntKind.bits, IntKind.signed, rA, rB, rC, rD, rE, rF, rG, rH, rI, Int.reduceNeg, reduceIte, reduceCtorEq, ge_iff_le, Nat.reduceEqDiff]
  refine call_ret (name80 GIVEN 92) rfl rfl ?_
  simp only [finF_e, finF_en, ↓gos, gop, qA, qB, qC, qD, qE, qF, qG, qH, qI, forall_eq, IntKind.wrap, IntKind.bits, IntKind.signed, rA, rB, rC, rD, rE, rF, rG, rH, rI, Int.reduceNeg, reduceIte, reduceCtorEq, ge_iff_le, Nat.reduceEqDiff]
  refine un_go ?_
  simp only [f47l0, finF_e, finF_en, ↓gos, gop, qA, qB, qC, qD, qE, qF, qG, qH, qI, forall_eq, IntKind.wrap, IntKind.bits, IntKind.signed, rA, rB, rC, rD, rE, rF, rG, rH, rI, Int.reduceNeg, reduceIte, reduceCtorEq, ge_iff_le, Nat.reduceEqDiff]
  refine call_ret (name80 NICK 93) rfl rfl ?_
  simp only [finF_e, finF_en, ↓gos, gop, qA, qB, qC, qD, qE, qF, qG, qH, qI, forall_eq, IntKind.wrap, IntKind.bits, IntKind.signed, rA, rB, rC, rD, rE, rF, rG, rH, rI, Int.reduceNeg, reduceIte, reduceCtorEq, ge_iff_le, Nat.reduceEqDiff]
  refine un_go ?_
  simp only [f47l0, finF_e, finF_en, ↓gos, gop, qA, qB, qC, qD, qE, qF, qG, qH, qI, forall_eq, IntKind.wrap, IntKind.bits, IntKind.signed, rA, rB, rC, rD, rE, rF, rG, rH, rI, Int.reduceNeg, reduceIte, reduceCtorEq, ge_iff_le, Nat.reduceEqDiff]
  refine call_ret (name80' JID 94 95) rfl rfl ?_
  simp only [finF_e, finF_en, ↓gos, gop, qA, qB, qC, qD, qE, qF, qG, qH, qI, forall_eq, IntKind.wrap, IntKind.bits, IntKind.signed, rA, rB, rC, rD, rE, rF, rG, rH, rI, Int.reduceNeg, reduceIte, reduceCtorEq, ge_iff_le, Nat.reduceEqDiff]
  refine un_go ?_
  simp only [f47l0, finF_e, finF_en, ↓gos, gop, qA, qB, qC, qD, qE, qF, qG, qH, qI, forall_eq, IntKind.wrap, IntKind.bits, IntKind.signed, rA, rB, rC, rD, rE, rF, rG, rH, rI, Int.reduceNeg, reduceIte, reduceCtorEq, ge_iff_le, Nat.reduceEqDiff]
  refine call_ret (name80 EMAIL 96) rfl rfl ?_
  simp only [finF_e, finF_en, ↓gos, gop, qA, qB, qC, qD, qE, qF, qG, qH, qI, forall_eq, IntKind.wrap, IntKind.bits, IntKind.signed, rA, rB, rC, rD, rE, rF, rG, rH, rI, Int.reduceNeg, reduceIte, reduceCtorEq, ge_iff_le, Nat.reduceEqDiff]
  refine un_go ?_
  simp only [f47l0, finF_e, finF_en, ↓gos, gop, qA, qB, qC, qD, qE, qF, qG, qH, qI, forall_eq, IntKind.wrap, IntKind.bits, IntKind.signed, rA, rB, rC, rD, rE, rF, rG, rH, rI, Int.reduceNeg, reduceIte, reduceCtorEq, ge_iff_le, Nat.reduceEqDiff]
  refine call_ret (name80 TEL 97) rfl rfl ?_
  simp only [finF_e, finF_en, ↓gos, gop, qA, qB, qC, qD, qE, qF, qG, qH, qI, forall_eq, IntKind.wrap, IntKind.bits, IntKind.signed, rA, rB, rC, rD, rE, rF, rG, rH, rI, Int.reduceNeg, reduceIte, reduceCtorEq, ge_iff_le, Nat.reduceEqDiff]
  refine un_go ?_
  simp only [f47l0, finF_e, finF_en, ↓gos, gop, qA, qB, qC, qD, qE, qF, qG, qH, qI, forall_eq, IntKind.wrap, IntKind.bits, IntKind.signed, rA, rB, rC, rD, rE, rF, rG, rH, rI, Int.reduceNeg, reduceIte, reduceCtorEq, ge_iff_le, Nat.reduceEqDiff]
  refine call_ret (name80 NOTE 98) rfl rfl ?_
  simp only [finF_e, finF_en, ↓gos, gop, qA, qB, qC, qD, qE, qF, qG, qH, qI, forall_eq, IntKind.wrap, IntKind.bits, IntKind.signed, rA, rB, rC, rD, rE, rF, rG, rH, rI, Int.reduceNeg, reduceIte, reduceCtorEq, ge_iff_le, Nat.reduceEqDiff]
  refine un_go ?_
  simp only [f47l0, finF_e, finF_en, ↓gos, gop, qA, qB, qC, qD, qE, qF, qG, qH, qI, forall_eq, IntKind.wrap, IntKind.bits, IntKind.signed, rA, rB, rC, rD, rE, rF, rG, rH, rI, Int.reduceNeg, reduceIte, reduceCtorEq, ge_iff_le, Nat.reduceEqDiff]
  refine call_ret (name80 UID 99) rfl rfl ?_
  simp only [finF_e, finF_en, ↓gos, gop, qA, qB, qC, qD, qE, qF, qG, qH, qI, forall_eq, IntKind.wrap, IntKind.bits, IntKind.signed, rA, rB, rC, rD, rE, rF, rG, rH, rI, Int.reduceNeg, reduceIte, reduceCtorEq, ge_iff_le, Nat.reduceEqDiff]
  refine un_go ?_
  simp only [f47l0, finF_e, finF_en, ↓gos, gop, qA, qB, qC, qD, qE, qF, qG, qH, qI, forall_eq, IntKind.wrap, IntKind.bits, IntKind.signed, rA, rB, rC, rD, rE, rF, rG, rH, rI, Int.reduceNeg, reduceIte, reduceCtorEq, ge_iff_le, Nat.reduceEqDiff]
  refine call_ret (name80' GROUPS 100 101) rfl rfl ?_
  simp only [finF_e, finF_en, ↓gos, gop, qA, qB, qC, qD, qE, qF, qG, qH, qI, forall_eq, IntKind.wrap, IntKind.bits, IntKind.signed, rA, rB, rC, rD, rE, rF, rG, rH, rI, Int.reduceNeg, reduceIte, reduceCtorEq, ge_iff_le, Nat.reduceEqDiff]
  refine un_go ?_
  simp only [f47l0, finF_e, finF_en, ↓gos, gop, qA, qB, qC, qD, qE, qF, qG, qH, qI, forall_eq, IntKind.wrap, IntKind.bits, IntKind.signed, rA, rB, rC, rD, rE, rF, rG, rH, rI, Int.reduceNeg, reduceIte, reduceCtorEq, ge_iff_le, Nat.reduceEqDiff]
  exact end_fc [1] rfl rfl ⟨rfl, rfl⟩
end Go.Proofs.Ut

/- sheet.header. -/
namespace Go.Proofs.Ut
open Go.Ai
set_option maxRecDepth 100000
set_option linter.all false
def headI (l : List (List UInt8)) (i : Nat) : Bool := COLS.contains (l.getD i []) && !(l.take i).contains (l.getD i [])
def headR (row : List (List UInt8)) : List (List UInt8) × Bool := if (List.range row.length).all (headI (row.map lowL)) = true then (row.map lowL, (row.map lowL).contains NAME) else ([], false)
theorem header41 (row : List (List UInt8)) (hl : row.length < 1000000000) (hw : ∀ s ∈ row, s.length < 100000000) : DRet 41 [.sl 1 (row.map sv)] (.tup [.sl 1 ((headR row).1.map sv), .bool (headR row).2]) := by
  refine acalls_goF c41 (by simp [f41]) ?_
  simp only [f41, finF_e, finF_en, ↓gos, gop, qA, qB, qC, qD, qE, qF, qG, qH, qI]
  refine call_clo columns48 rfl rfl ?_
  simp only [finF_e, finF_en, ↓gos, gop, qA, qB, qC, qD, qE, qF, qG, qH, qI]
  refine call_clo names47 rfl rfl ?_
  simp only [finF_e, finF_en, ↓gos, gop, qA, qB, qC, qD, qE, qF, qG, qH, qI]
  refine call_clo (each81 row hl hw) rfl rfl ?_
  unfold headR
  have hlen : (row.map lowL).length = row.length := by simp
  rw [← hlen]
  rw [← hlen] at hl
  generalize row.map lowL = l at *
  simp only [finF_e, finF_en, ↓gos, gop, qA, qB, qC, qD, qE, qF, qG, qH, qI]
  refine goN_lp (γ := Nat) (fun i => [(14, .int .i64 i), (13, .int .i64 l.length), (12, .sl 1 (l.map sv)), (5, .sl 1 (l.map sv)), (4, .sl 1 (COLS.map sv))]) (fun _ => [.arr 1 []]) (fun i => i ≤ l.length ∧ (List.range i).all (headI l) = true) (fun i => l.length - i) 0
    (wks rfl (by simp) ⟨rfl, rfl, rfl, rfl, rfl, trivial⟩) ⟨by omega, by simp⟩ fun i hi => ?_
  obtain ⟨hi, ht⟩ := hi
  simp only [f41l0, finF_e, finF_en, ↓gos, gop, qA, qB, qC, qD, qE, qF, qG, qH, qI]
  refine ⟨fun h => ?_, fun h => ?_⟩
  · have h2 : i < l.length := by omega
    have hr : (List.range (i + 1)).all (headI l) = headI l i := by rw [List.range_succ, List.all_append, ht]; simp
    have bad : headI l i = false → (if (List.range l.length).all (headI l) = true then (l, l.contains NAME) else (([] : List (List UInt8)), false)) = ([], false) := fun h => by
      rw [if_neg]; rw [show (List.range l.length).all (headI l) = false by rw [List.all_eq_false]; exact ⟨i, by simpa using h2, by simp [h]⟩]; simp
    rw [show headI l i = (COLS.contains (l.getD i []) && !(l.take i).contains (l.getD i [])) from rfl] at hr bad
    refine optP_at [] (by simpa using h2) ?_
    generalize l.getD i [] = s at *
    simp only [sv, finF_e, finF_en, ↓gos, gop, qA, qB, qC, qD, qE, qF, qG, qH, qI]
    refine call_ret (contains83 COLS s (by decide)) rfl rfl ?_
    cases hc : COLS.contains s
    · simp only [finF_e, finF_en, ↓gos, gop, qA, qB, qC, qD, qE, qF, qG, qH, qI]
      rw [bad (by rw [hc]; rfl)]
      exact end_fc [1] rfl rfl ⟨rfl, rfl⟩
    · simp only [finF_e, finF_en, ↓gos, gop, qA, qB, qC, qD, qE, qF, qG, qH, qI]
      rw [hc, Bool.true_and] at hr bad
      rw [← List.map_take]
      refine chk_i (by omega) ?_
      refine call_ret (contains83 (l.take i) s (by simp; omega)) rfl rfl ?_
      cases hc2 : (l.take i).contains s
      · rw [hc2] at hr
        simp only [finF_e, finF_en, ↓gos, gop, qA, qB, qC, qD, qE, qF, qG, qH, qI]
        intro v hv
        rw [wrap_i64 (by omega) (by omega)] at hv
        subst hv
        exact rnd_s (i + 1) rfl (by simp) ⟨rfl, rfl, rfl, rfl, rfl, trivial⟩ ⟨by omega, hr⟩ (by omega)
      · simp only [finF_e, finF_en, ↓gos, gop, qA, qB, qC, qD, qE, qF, qG, qH, qI]
        rw [bad (by rw [hc2]; rfl)]
        exact end_fc [1] rfl rfl ⟨rfl, rfl⟩
  · have h2 : i = l.length := by omega
    subst h2
    simp only [List.getElem?_cons_zero, COLS, sv, finF_e, finF_en, ↓gos, gop, qA, qB, qC, qD, qE, qF, qG, qH, qI]
    refine call_ret (contains83 l NAME hl) rfl rfl ?_
    simp only [finF_e, finF_en, ↓gos, gop, qA, qB, qC, qD, qE, qF, qG, qH, qI]
    rw [if_pos ht]
    exact end_fc [] rfl rfl ⟨rfl, rfl⟩
end Go.Proofs.Ut
