/- What the columns of a sheet do to a contact. -/
import Derived.Test.YtgamnnfndidclaaGreatDoorYO3
import Derived.Test.YtgamnnfndidclaaGreatDoorYM
import Derived.Shelf.Strings.Builder2
import Derived.Test.YtgamnnfndidclaaGreatDoorAiHand
open Nat renaming reduceBEq → qA, reduceAdd → qB, reduceSub → qC, reduceLeDiff → qD, reduceMul → qE
open Int renaming reduceLE → qF, reduceLT → qG, reduceNe → qH, reduceToNat → qI
set_option linter.all false
namespace Go.Proofs.Ut
open Go.Ai
set_option maxRecDepth 100000
set_option linter.all false
def At (g k : Nat) : Prop := ∀ cs : List DV, cs.all DV.closed = true → ACalls ED g [.box cs] [.ptr 0 0] fun h d => h = [.box cs] ∧ d = .ptr 0 k
theorem box_end {cs : List DV} {k : Nat} {tl : List AObj} (hcl : cs.all DV.closed = true) : finE 1 (fun h d => h = [AObj.box cs] ∧ d = DV.ptr 0 k) (some [DV.ptr 0 k]) (.box cs :: tl) :=
  end_h [0] (by simp) (Nat.le_refl _) id0 (by simp) (by simp [rvd, DV.inL]) (by
    intro l hl
    simp at hl; subst hl
    exact List.all_eq_true.2 fun d hd => closed_inL (List.all_eq_true.1 hcl d hd)) rfl rfl ⟨by
    simp only [List.map_cons, List.map_nil, List.getD_cons_zero, renO]
    rw [map_same fun d hd => closed_ren (List.all_eq_true.1 hcl d hd)], by simp [rvd, DV.ren]⟩
theorem at90 : At 90 0 := fun cs hcl => by
  refine acalls_go c90 (by simp [f90]) ?_
  simp only [f90, ↓gos, gop, qA, qB, qC, qD, qE, qF, qG, qH, qI]
  exact box_end hcl
theorem at91 : At 91 1 := fun cs hcl => by
  refine acalls_go c91 (by simp [f91]) ?_
  simp only [f91, ↓gos, gop, qA, qB, qC, qD, qE, qF, qG, qH, qI]
  exact box_end hcl
theorem at92 : At 92 2 := fun cs hcl => by
  refine acalls_go c92 (by simp [f92]) ?_
  simp only [f92, ↓gos, gop, qA, qB, qC, qD, qE, qF, qG, qH, qI]
  exact box_end hcl
theorem at93 : At 93 3 := fun cs hcl => by
  refine acalls_go c93 (by simp [f93]) ?_
  simp only [f93, ↓gos, gop, qA, qB, qC, qD, qE, qF, qG, qH, qI]
  exact box_end hcl
theorem at96 : At 96 5 := fun cs hcl => by
  refine acalls_go c96 (by simp [f96]) ?_
  simp only [f96, ↓gos, gop, qA, qB, qC, qD, qE, qF, qG, qH, qI]
  exact box_end hcl
theorem at97 : At 97 6 := fun cs hcl => by
  refine acalls_go c97 (by simp [f97]) ?_
  simp only [f97, ↓gos, gop, qA, qB, qC, qD, qE, qF, qG, qH, qI]
  exact box_end hcl
theorem at98 : At 98 7 := fun cs hcl => by
  refine acalls_go c98 (by simp [f98]) ?_
  simp only [f98, ↓gos, gop, qA, qB, qC, qD, qE, qF, qG, qH, qI]
  exact box_end hcl
theorem at99 : At 99 8 := fun cs hcl => by
  refine acalls_go c99 (by simp [f99]) ?_
  simp only [f99, ↓gos, gop, qA, qB, qC, qD, qE, qF, qG, qH, qI]
  exact box_end hcl
theorem text143 {g k : Nat} (hg : At g k) (cs : List DV) (s : List UInt8) (hcl : cs.all DV.closed = true) (hk : k < cs.length) :
    ACalls ED 143 [.box cs] [.ptr 0 0, .str s, .eptr [.fn g []] 0] fun h d => h = [.box (cs.take k ++ [.str s] ++ cs.drop (k + 1))] ∧ d = .int .i64 0 := by
  refine acalls_go c143 (by simp [f143]) ?_
  simp only [f143, ↓gos, gop, qA, qB, qC, qD, qE, qF, qG, qH, qI]
  refine call_h (h1 := [.box cs]) [0] [] (by simp) (by simp) rfl (by
    simp only [List.map_cons, List.map_nil, List.getD_cons_zero, lowO]
    rw [map_same fun d hd => closed_low (List.all_eq_true.1 hcl d hd)]) rfl (by
    simp only [List.all_cons, List.all_nil, Bool.and_true, Bool.and_eq_true]
    refine ⟨rfl, ?_⟩
    exact List.all_eq_true.2 fun d hd => closed_inL (List.all_eq_true.1 hcl d hd)) (hg cs hcl) rfl ?_
  simp only [List.foldl, setAll, renO, DV.ren, upL, map_same fun d hd => closed_ren (List.all_eq_true.1 hcl d hd), ↓gos, gop, qA, qB, qC, qD, qE, qF, qG, qH, qI]
  refine chk_i (by omega) ?_
  refine end_bx ?_ rfl ⟨by simp, rfl⟩
  refine List.all_eq_true.2 fun d hd => ?_
  rcases List.mem_append.1 hd with hd | hd
  · rcases List.mem_append.1 hd with hd | hd
    · exact List.all_eq_true.1 hcl d (List.mem_of_mem_take hd)
    · obtain rfl : d = .str s := by simpa using hd
      rfl
  · exact List.all_eq_true.1 hcl d (List.mem_of_mem_drop hd)
theorem ctv_closed (c : CT) : (ctv c).all DV.closed = true := rfl
abbrev Tk (f : Nat) (c : CT) (xs : List DV) (c' : CT) (e : Int) : Prop := ACalls ED f [.box (ctv c)] (.ptr 0 0 :: xs) fun h d => h = [.box (ctv c')] ∧ d = .int .i64 e
theorem put0 (c : CT) (s : List UInt8) : Tk 143 c [.str s, .eptr [.fn 90 []] 0] { c with name := s } 0 := text143 at90 (ctv c) s rfl (by simp [ctv])
theorem put1 (c : CT) (s : List UInt8) : Tk 143 c [.str s, .eptr [.fn 91 []] 0] { c with family := s } 0 := text143 at91 (ctv c) s rfl (by simp [ctv])
theorem put2 (c : CT) (s : List UInt8) : Tk 143 c [.str s, .eptr [.fn 92 []] 0] { c with given := s } 0 := text143 at92 (ctv c) s rfl (by simp [ctv])
theorem put3 (c : CT) (s : List UInt8) : Tk 143 c [.str s, .eptr [.fn 93 []] 0] { c with nick := s } 0 := text143 at93 (ctv c) s rfl (by simp [ctv])
theorem put5 (c : CT) (s : List UInt8) : Tk 143 c [.str s, .eptr [.fn 96 []] 0] { c with email := s } 0 := text143 at96 (ctv c) s rfl (by simp [ctv])
theorem put6 (c : CT) (s : List UInt8) : Tk 143 c [.str s, .eptr [.fn 97 []] 0] { c with tel := s } 0 := text143 at97 (ctv c) s rfl (by simp [ctv])
theorem put7 (c : CT) (s : List UInt8) : Tk 143 c [.str s, .eptr [.fn 98 []] 0] { c with note := s } 0 := text143 at98 (ctv c) s rfl (by simp [ctv])
theorem put8 (c : CT) (s : List UInt8) : Tk 143 c [.str s, .eptr [.fn 99 []] 0] { c with uid := s } 0 := text143 at99 (ctv c) s rfl (by simp [ctv])
def jidP (c : CT) (s : List UInt8) : CT × Int := if s = [] then (c, 0) else ({ c with jid := (bareR s).1 }, (bareR s).2)
theorem put4 (c : CT) (s : List UInt8) (hs : s.length < 100000000) : Tk 94 c [.str s] (jidP c s).1 (jidP c s).2 := by
  refine acalls_go c94 (by simp [f94]) ?_
  simp only [f94, ↓gos, gop, qA, qB, qC, qD, qE, qF, qG, qH, qI]
  unfold jidP
  refine ⟨fun h => ?_, fun h => ?_⟩
  · rw [if_pos h]
    exact end_bx rfl rfl ⟨rfl, rfl⟩
  · rw [if_neg h]
    refine call_ret (bare_c s hs) rfl rfl ?_
    simp only [ctv, ↓gos, gop, qA, qB, qC, qD, qE, qF, qG, qH, qI]
    exact end_bx rfl rfl ⟨rfl, rfl⟩
def plains : List (List UInt8) → Option (List (List UInt8))
  | [] => some []
  | x :: l => (plainF x).bind fun y => (plains l).map (y :: ·)
theorem plains_snoc (x : List UInt8) : ∀ l : List (List UInt8), plains (l ++ [x]) = (plains l).bind fun a => (plainF x).map (a ++ [·])
  | [] => by simp only [List.nil_append, plains]; cases plainF x <;> rfl
  | z :: l => by
    simp only [List.cons_append, plains, plains_snoc x l]
    cases plainF z with
    | none => rfl
    | some y =>
      cases plains l with
      | none => rfl
      | some a => cases plainF x <;> rfl
theorem plains_none {x : List UInt8} (hx : plainF x = none) : ∀ (a b : List (List UInt8)), plains (a ++ x :: b) = none
  | [], b => by simp [plains, hx]
  | z :: a, b => by
    simp only [List.cons_append, plains, plains_none hx a b]
    cases plainF z <;> rfl
def groupsP (c : CT) (s : List UInt8) : CT × Int := match plains (splitF 59 false [] s) with
  | none => (c, 18)
  | some l => ({ c with groups := groupsR l }, 0)
theorem splitF_ne (sep : UInt8) : ∀ (s : List UInt8) (e : Bool) (cur : List UInt8), splitF sep e cur s ≠ []
  | [], e, cur => by simp [splitF]
  | x :: s, e, cur => by
    unfold splitF
    split
    · simp
    · exact splitF_ne sep s _ _
theorem splitF_mem (sep : UInt8) : ∀ (s : List UInt8) (e : Bool) (cur : List UInt8), ∀ x ∈ splitF sep e cur s, x.length ≤ cur.length + s.length
  | [], e, cur, x, hx => by simp [splitF] at hx; subst hx; simp
  | y :: s, e, cur, x, hx => by
    unfold splitF at hx
    split at hx
    · rcases List.mem_cons.1 hx with rfl | hx
      · simp
      · have := splitF_mem sep s _ _ x hx
        simp at this; simp; omega
    · have := splitF_mem sep s _ _ x hx
      simp at this; simp; omega
theorem put9 (c : CT) (s : List UInt8) (hs : s.length < 100000000) (h20 : (splitF 59 false [] s).length < 20) : Tk 100 c [.str s] (groupsP c s).1 (groupsP c s).2 := by
  have hne := splitF_ne 59 s false []
  have hmem := splitF_mem 59 s false []
  refine acalls_go c100 (by simp [f100]) ?_
  simp only [f100, ↓gos, gop, qA, qB, qC, qD, qE, qF, qG, qH, qI]
  refine call_new (split26 s 59 hs) (by simp [DV.closed]) ?_
  unfold groupsP
  generalize splitF 59 false [] s = l at *
  simp only [DV.ren, renO, ↓gos, gop, qA, qB, qC, qD, qE, qF, qG, qH, qI]
  refine goN_lp (γ := Nat × List (List UInt8)) (fun g => [(13, .int .i64 g.1), (12, .int .i64 l.length), (11, .osl 1 2 0 l.length none), (5, .osl 1 1 0 g.2.length none), (0, .ptr 0 0)]) (fun g => [.box (ctv c), .arr 1 (g.2.map st1), .arr 1 (l.map st1)])
    (fun g => g.1 ≤ l.length ∧ plains (l.take g.1) = some g.2 ∧ g.2.length = g.1) (fun g => l.length - g.1) (0, [])
    (wks rfl (by simp) ⟨rfl, rfl, rfl, rfl, rfl, trivial⟩) ⟨by omega, by simp [plains], rfl⟩ fun g hg => ?_
  obtain ⟨i, acc⟩ := g
  obtain ⟨hi, hp, ha⟩ := hg
  simp only at hi hp ha
  simp only [f100l0, ↓gos, gop, qA, qB, qC, qD, qE, qF, qG, qH, qI]
  refine ⟨fun h => ?_, fun h => ?_⟩
  · have h2 : i < l.length := by omega
    refine chk_i (by omega) (optP_at [] h2 ?_)
    have htk := take_getDq h2 []
    have hm : l.getD i [] ∈ l := by rw [List.getD_eq_getElem?_getD, List.getElem?_eq_getElem h2]; exact List.getElem_mem h2
    have hdr : l = l.take i ++ l.getD i [] :: l.drop (i + 1) := by
      rw [List.getD_eq_getElem?_getD, List.getElem?_eq_getElem h2]; simp
    generalize l.getD i [] = x at *
    have hx := hmem x hm
    simp only [List.length_nil] at hx
    simp only [st1, ↓gos, gop, qA, qB, qC, qD, qE, qF, qG, qH, qI]
    refine call_ret (plain16 x (by omega)) rfl rfl ?_
    cases hpx : plainF x with
    | none =>
      have hn : plains l = none := by rw [hdr]; exact plains_none hpx _ _
      simp only [hn, Option.isSome_none, Bool.false_eq_true, reduceIte, ↓gos, gop, qA, qB, qC, qD, qE, qF, qG, qH, qI]
      exact ⟨fun _ => end_bx rfl rfl ⟨rfl, rfl⟩, fun q => absurd q (by decide)⟩
    | some y =>
      have w1 : IntKind.i64.wrap ((i : Int) + 1) = ((i + 1 : Nat) : Int) := by rw [wrap_i64 (by omega) (by omega)]; rfl
      simp only [Option.isSome_some, Option.getD_some, reduceIte, w1, forall_eq, ↓gos, gop, qA, qB, qC, qD, qE, qF, qG, qH, qI]
      refine chk_i (by omega) (chk_i (by omega) ?_)
      refine rnd_d 3 (i + 1, acc ++ [y]) ?_ (by simp) ⟨rfl, rfl, rfl, rfl, rfl, rfl, by simp; rfl, rfl, rfl, rfl, trivial⟩ rfl ⟨by simp only; omega, by rw [htk, plains_snoc, hp, hpx]; rfl, by simp [ha]⟩ (by simp only; omega)
      simp only [List.map_append]
      rfl
  · have h2 : i = l.length := by omega
    subst h2
    rw [List.take_length] at hp
    refine call_frz [1] rfl ?_
    simp only [hp, ↓gos, gop, qA, qB, qC, qD, qE, qF, qG, qH, qI]
    refine call_clo (groups147 acc (by omega) (by intro e; subst e; exact hne (List.eq_nil_of_length_eq_zero ha.symm))) rfl rfl ?_
    simp only [ctv, ↓gos, gop, qA, qB, qC, qD, qE, qF, qG, qH, qI]
    exact end_bx rfl rfl ⟨rfl, rfl⟩
end Go.Proofs.Ut

/- sheet.one: the contact of a row. -/
namespace Go.Proofs.Ut
open Go.Ai
set_option maxRecDepth 100000
set_option linter.all false
def tf (k : Nat) : Nat := match k with | 4 => 94 | 9 => 100 | _ => 143
def tc (k : Nat) : List DV := match k with
  | 0 => [.eptr [.fn 90 []] 0] | 1 => [.eptr [.fn 91 []] 0] | 2 => [.eptr [.fn 92 []] 0] | 3 => [.eptr [.fn 93 []] 0] | 5 => [.eptr [.fn 96 []] 0] | 6 => [.eptr [.fn 97 []] 0] | 7 => [.eptr [.fn 98 []] 0] | 8 => [.eptr [.fn 99 []] 0] | _ => []
def uf (k : Nat) : Nat := match k with | 4 => 95 | 9 => 101 | _ => 144
def colv (k : Nat) : List DV := [.str (COLS.getD k []), .fn (tf k) (tc k), .fn (uf k) (tc k)]
theorem ten {p : Nat → Prop} (h0 : p 0) (h1 : p 1) (h2 : p 2) (h3 : p 3) (h4 : p 4) (h5 : p 5) (h6 : p 6) (h7 : p 7) (h8 : p 8) (h9 : p 9) : ∀ k, k < 10 → p k
  | 0, _ => h0 | 1, _ => h1 | 2, _ => h2 | 3, _ => h3 | 4, _ => h4 | 5, _ => h5 | 6, _ => h6 | 7, _ => h7 | 8, _ => h8 | 9, _ => h9
  | k + 10, h => by omega
theorem cols_at : ∀ k, k < 10 → cols[k]? = some (colv k) := ten rfl rfl rfl rfl rfl rfl rfl rfl rfl rfl
theorem tc_closed : ∀ k, k < 10 → (tc k).all DV.closed = true := ten rfl rfl rfl rfl rfl rfl rfl rfl rfl rfl
def putC (k : Nat) (c : CT) (s : List UInt8) : CT × Int := match k with
  | 0 => ({ c with name := s }, 0) | 1 => ({ c with family := s }, 0) | 2 => ({ c with given := s }, 0) | 3 => ({ c with nick := s }, 0) | 4 => jidP c s
  | 5 => ({ c with email := s }, 0) | 6 => ({ c with tel := s }, 0) | 7 => ({ c with note := s }, 0) | 8 => ({ c with uid := s }, 0) | 9 => groupsP c s | _ => (c, 0)
theorem take_at (c : CT) (s : List UInt8) (hs : s.length < 100000000) : ∀ k, k < 10 → (k = 9 → (splitF 59 false [] s).length < 20) → Tk (tf k) c (.str s :: tc k) (putC k c s).1 (putC k c s).2 :=
  ten (fun _ => put0 c s) (fun _ => put1 c s) (fun _ => put2 c s) (fun _ => put3 c s) (fun _ => put4 c s hs) (fun _ => put5 c s) (fun _ => put6 c s) (fun _ => put7 c s) (fun _ => put8 c s) (fun h => put9 c s hs (h rfl))
def C0 : CT := ⟨[], [], [], [], [], [], [], [], [], [], []⟩
def oneF (names row : List (List UInt8)) : Nat → CT × Int
  | 0 => (C0, 0)
  | k + 1 => if (oneF names row k).2 = 0 then (if names.contains (COLS.getD k []) = true then putC k (oneF names row k).1 (row.getD (names.idxOf (COLS.getD k [])) []) else oneF names row k) else oneF names row k
theorem oneF_err {names row : List (List UInt8)} {k : Nat} (h : (oneF names row k).2 ≠ 0) : ∀ n, oneF names row (k + n) = oneF names row k
  | 0 => rfl
  | n + 1 => by
    rw [show k + (n + 1) = (k + n) + 1 from rfl, oneF, oneF_err h n, if_neg h]
def oneR (names row : List (List UInt8)) : CT × Int :=
  if row.length = names.length then (if (oneF names row 10).2 = 0 then (if rightC (oneF names row 10).1 = true then ((oneF names row 10).1, 0) else ((oneF names row 10).1, 12)) else oneF names row 10) else (C0, 12)
theorem one42 (names row : List (List UInt8)) (hl : names.length < 1000000000) (hrl : row.length < 1000000000) (hw : ∀ s ∈ row, s.length < 100000000) (h20 : (splitF 59 false [] (row.getD (names.idxOf GROUPS) [])).length < 20) (hok : okS (oneF names row 10).1) :
    DRet 42 [.sl 1 (names.map sv), .sl 1 (row.map sv)] (.tup [.agg (ctv (oneR names row).1), .int .i64 (oneR names row).2]) := by
  refine acalls_goF c42 (by simp [f42]) ?_
  simp only [f42, finF_e, finF_en, ↓gos, gop, qA, qB, qC, qD, qE, qF, qG, qH, qI]
  unfold oneR
  refine ⟨fun h => ?_, fun h => ?_⟩
  · rw [if_neg (by omega)]
    exact end_fc [6, 7] rfl rfl ⟨rfl, rfl⟩
  · rw [if_pos (by omega)]
    have hlen : row.length = names.length := by omega
    refine call_frz [0, 1, 3, 4, 6, 7] rfl ?_
    simp only [finF_e, finF_en, ↓gos, gop, qA, qB, qC, qD, qE, qF, qG, qH, qI]
    refine call_clo columns48 rfl rfl ?_
    simp only [finF_e, finF_en, ↓gos, gop, qA, qB, qC, qD, qE, qF, qG, qH, qI]
    refine goN_lp (γ := Nat) (fun i => [(20, .int .i64 i), (19, .int .i64 10), (18, .sl 3 cols), (6, .ptr 5 0), (5, .int .i64 0), (4, .ptr 2 0), (0, .sl 1 (names.map sv)), (1, .sl 1 (row.map sv))])
      (fun i => [.dead, .dead, .box (ctv C0), .dead, .dead, .box (ctv (oneF names row i).1), .dead, .dead]) (fun i => i ≤ 10 ∧ (oneF names row i).2 = 0) (fun i => 10 - i) 0
      (wks rfl (by simp) ⟨rfl, rfl, rfl, rfl, rfl, rfl, rfl, rfl, trivial⟩) ⟨by omega, rfl⟩ fun i hi => ?_
    obtain ⟨hi, hz⟩ := hi
    simp only [f42l0, finF_e, finF_en, ↓gos, gop, qA, qB, qC, qD, qE, qF, qG, qH, qI]
    refine ⟨fun h => ?_, fun h => ?_⟩
    · have h10 : i < 10 := by omega
      have hnx : oneF names row (i + 1) = if names.contains (COLS.getD i []) = true then putC i (oneF names row i).1 (row.getD (names.idxOf (COLS.getD i [])) []) else oneF names row i := by
        rw [oneF, if_pos hz]
      have w1 : IntKind.i64.wrap ((i : Int) + 1) = ((i + 1 : Nat) : Int) := by rw [wrap_i64 (by omega) (by omega)]; rfl
      have hcol := cols_at i h10
      simp only [hcol, colv, finF_e, finF_en, ↓gos, gop, qA, qB, qC, qD, qE, qF, qG, qH, qI]
      refine call_ret (index84 names (COLS.getD i []) hl) rfl rfl ?_
      unfold idxI
      by_cases hc : names.contains (COLS.getD i []) = true
      · rw [if_pos hc] at hnx ⊢
        have hlt : names.idxOf (COLS.getD i []) < row.length := by rw [hlen]; exact List.idxOf_lt_length_of_mem (by simpa using hc)
        have hm : row.getD (names.idxOf (COLS.getD i [])) [] ∈ row := by rw [List.getD_eq_getElem?_getD, List.getElem?_eq_getElem hlt]; exact List.getElem_mem hlt
        have h20' : i = 9 → (splitF 59 false [] (row.getD (names.idxOf (COLS.getD i [])) [])).length < 20 := fun e => by subst e; exact h20
        have hx : row[names.idxOf (COLS.getD i [])]? = some (row.getD (names.idxOf (COLS.getD i [])) []) := by
          rw [List.getD_eq_getElem?_getD (l := row), List.getElem?_eq_getElem hlt]; rfl
        generalize row.getD (names.idxOf (COLS.getD i [])) [] = x at *
        generalize names.idxOf (COLS.getD i []) = j at *
        simp only [hx, sv, finF_e, finF_en, ↓gos, gop, qA, qB, qC, qD, qE, qF, qG, qH, qI]
        refine call_bx (i := 5) rfl (ctv_closed _) (ctv_closed _) rfl (by rw [List.all_cons, tc_closed i h10]; rfl) (take_at (oneF names row i).1 x (hw x hm) i h10 h20') ?_
        rw [← hnx]
        by_cases he : (oneF names row (i + 1)).2 = 0
        · simp only [he, w1, forall_eq, finF_e, finF_en, ↓gos, gop, qA, qB, qC, qD, qE, qF, qG, qH, qI]
          refine rnd_d 8 (i + 1) rfl (by simp) ⟨rfl, rfl, rfl, rfl, rfl, rfl, rfl, rfl, rfl, rfl, rfl, rfl, rfl, rfl, rfl, rfl, trivial⟩ rfl ⟨by omega, he⟩ (by omega)
        · have hfin : oneF names row 10 = oneF names row (i + 1) := by
            have := oneF_err (k := i + 1) he (9 - i)
            rwa [show i + 1 + (9 - i) = 10 by omega] at this
          rw [hfin, if_neg he]
          simp only [he, finF_e, finF_en, ctv, ↓gos, gop, qA, qB, qC, qD, qE, qF, qG, qH, qI]
          exact end_fc [] rfl rfl ⟨rfl, rfl⟩
      · rw [if_neg hc] at hnx ⊢
        simp only [w1, forall_eq, finF_e, finF_en, ↓gos, gop, qA, qB, qC, qD, qE, qF, qG, qH, qI]
        refine rnd_d 8 (i + 1) (by rw [hnx]; rfl) (by simp) ⟨rfl, rfl, rfl, rfl, rfl, rfl, rfl, rfl, rfl, rfl, rfl, rfl, rfl, rfl, rfl, rfl, trivial⟩ rfl ⟨by omega, by rw [hnx]; exact hz⟩ (by omega)
    · have h10 : i = 10 := by omega
      subst h10
      rw [if_pos hz]
      have htk : ∀ c : CT, (ctv c).take 11 = ctv c := fun _ => rfl
      refine chk_i (by simp [ctv]) ?_
      rw [htk]
      refine call_ret (right35 _ hok) rfl rfl ?_
      cases hr : rightC (oneF names row 10).1
      · simp only [ctv, finF_e, finF_en, Bool.false_eq_true, reduceIte, ↓gos, gop, qA, qB, qC, qD, qE, qF, qG, qH, qI]
        exact end_fc [] rfl rfl ⟨rfl, rfl⟩
      · simp only [ctv, finF_e, finF_en, reduceIte, ↓gos, gop, qA, qB, qC, qD, qE, qF, qG, qH, qI]
        exact end_fc [] rfl rfl ⟨rfl, rfl⟩
end Go.Proofs.Ut

/- sheet.Read: whom rows are of. -/
namespace Go.Proofs.Ut
open Go.Ai
set_option maxRecDepth 100000
set_option linter.all false
def rwv (r : List (List UInt8)) : List DV := [.sl 1 (r.map sv)]
def readK (names : List (List UInt8)) (tl : List (List (List UInt8))) : Nat → List CT × Int × Int
  | 0 => ([], 0, 0)
  | i + 1 => if (readK names tl i).2.2 = 0 then (if (oneR names (tl.getD i [])).2 = 0 then ((readK names tl i).1 ++ [(oneR names (tl.getD i [])).1], 0, 0) else ([], ((i + 1 : Nat) : Int), (oneR names (tl.getD i [])).2)) else readK names tl i
theorem readK_err {names : List (List UInt8)} {tl : List (List (List UInt8))} {k : Nat} (h : (readK names tl k).2.2 ≠ 0) : ∀ n, readK names tl (k + n) = readK names tl k
  | 0 => rfl
  | n + 1 => by
    rw [show k + (n + 1) = (k + n) + 1 from rfl, readK, readK_err h n, if_neg h]
def readR (rows : List (List (List UInt8))) : List CT × Int × Int := match rows with
  | [] => ([], 0, 0)
  | r :: tl => if (headR r).2 = true then (if tl.length ≤ 60 then readK (headR r).1 tl tl.length else ([], 0, 4)) else ([], 0, 21)
structure okRow (names row : List (List UInt8)) : Prop where
  hrl : row.length < 1000000000
  hw : ∀ s ∈ row, s.length < 100000000
  h20 : (splitF 59 false [] (row.getD (names.idxOf GROUPS) [])).length < 20
  hok : okS (oneF names row 10).1
def okRows (rows : List (List (List UInt8))) : Prop := match rows with
  | [] => True
  | r :: tl => r.length < 1000000000 ∧ (∀ s ∈ r, s.length < 100000000) ∧ ((headR r).2 = true → ∀ row ∈ tl, okRow (headR r).1 row)
theorem read14 (rows : List (List (List UInt8))) (hn : rows.length < 1000000000) (hok : okRows rows) :
    DRet 14 [.sl 1 (rows.map rwv)] (.tup [.sl 11 ((readR rows).1.map ctv), .int .i64 (readR rows).2.1, .int .i64 (readR rows).2.2]) := by
  refine acalls_goF c14 (by simp [f14]) ?_
  simp only [f14, finF_e, finF_en, ↓gos, gop, qA, qB, qC, qD, qE, qF, qG, qH, qI]
  cases rows with
  | nil =>
    simp only [finF_e, finF_en, ↓gos, gop, qA, qB, qC, qD, qE, qF, qG, qH, qI]
    exact end_fc [1] rfl rfl ⟨rfl, rfl⟩
  | cons r tl =>
    obtain ⟨hr1, hr2, hr3⟩ := hok
    have hR : readR (r :: tl) = if (headR r).2 = true then (if tl.length ≤ 60 then readK (headR r).1 tl tl.length else ([], 0, 4)) else ([], 0, 21) := rfl
    rw [hR]
    simp only [List.length_cons] at hn
    simp only [rwv, finF_e, finF_en, ↓gos, gop, qA, qB, qC, qD, qE, qF, qG, qH, qI]
    refine call_clo (header41 r hr1 hr2) rfl rfl ?_
    cases hh : (headR r).2
    · simp only [Bool.false_eq_true, reduceIte, finF_e, finF_en, ↓gos, gop, qA, qB, qC, qD, qE, qF, qG, qH, qI]
      exact end_fc [1] rfl rfl ⟨rfl, rfl⟩
    · have hr3 := hr3 hh
      have w0 : IntKind.i64.wrap (((tl.length + 1 : Nat) : Int) - 1) = (tl.length : Int) := by rw [wrap_i64 (by omega) (by omega)]; omega
      simp only [w0, forall_eq, reduceIte, finF_e, finF_en, ↓gos, gop, qA, qB, qC, qD, qE, qF, qG, qH, qI]
      refine ⟨fun h => ?_, fun h => ?_⟩
      · rw [if_neg (by omega)]
        exact end_fc [1] rfl rfl ⟨rfl, rfl⟩
      · rw [if_pos (by omega)]
        have hnl : (headR r).1.length ≤ r.length := by unfold headR; split <;> simp
        generalize (headR r).1 = names at *
        have htk : List.take (tl.length + 1 - 1) (tl.map rwv) = tl.map rwv := List.take_of_length_le (by simp)
        rw [htk]
        refine chk_i (by omega) ?_
        refine goN_lp (γ := Nat) (fun i => [(33, .int .i64 i), (32, .int .i64 tl.length), (31, .sl 1 (tl.map rwv)), (7, .osl 11 1 0 i none), (5, .sl 1 (names.map sv))])
          (fun i => [.arr 11 [], .arr 11 ((readK names tl i).1.map ctv)]) (fun i => i ≤ tl.length ∧ (readK names tl i).2 = (0, 0) ∧ (readK names tl i).1.length = i) (fun i => tl.length - i) 0
          (wks rfl (by simp) ⟨rfl, by simp [slots], rfl, rfl, rfl, trivial⟩) ⟨by omega, rfl, rfl⟩ fun i hi => ?_
        obtain ⟨hi, hz, hil⟩ := hi
        simp only [f14l0, finF_e, finF_en, ↓gos, gop, qA, qB, qC, qD, qE, qF, qG, qH, qI]
        refine ⟨fun h5 => ?_, fun h5 => ?_⟩
        · have h2 : i < tl.length := by omega
          refine optP_at [] h2 ?_
          have hm : tl.getD i [] ∈ tl := by rw [List.getD_eq_getElem?_getD, List.getElem?_eq_getElem h2]; exact List.getElem_mem h2
          have hok := hr3 _ hm
          have hnx : readK names tl (i + 1) = if (oneR names (tl.getD i [])).2 = 0 then ((readK names tl i).1 ++ [(oneR names (tl.getD i [])).1], 0, 0) else ([], ((i + 1 : Nat) : Int), (oneR names (tl.getD i [])).2) := by
            rw [readK, if_pos (by rw [hz])]
          have w1 : IntKind.i64.wrap ((i : Int) + 1) = ((i + 1 : Nat) : Int) := by rw [wrap_i64 (by omega) (by omega)]; rfl
          generalize tl.getD i [] = row at *
          simp only [rwv, finF_e, finF_en, ↓gos, gop, qA, qB, qC, qD, qE, qF, qG, qH, qI]
          refine call_clo (one42 names row (by omega) hok.hrl hok.hw hok.h20 hok.hok) rfl rfl ?_
          generalize oneR names row = o at *
          obtain ⟨c, e⟩ := o
          simp only at hnx
          simp only [ctv, w1, forall_eq, finF_e, finF_en, ↓gos, gop, qA, qB, qC, qD, qE, qF, qG, qH, qI]
          refine ⟨fun he => ?_, fun he => ?_⟩
          · rw [if_neg he] at hnx
            have hfin : readK names tl tl.length = readK names tl (i + 1) := by
              have := readK_err (k := i + 1) (by rw [hnx]; exact he) (tl.length - (i + 1))
              rwa [show i + 1 + (tl.length - (i + 1)) = tl.length by omega] at this
            rw [hfin, hnx]
            exact end_fc [5] rfl rfl ⟨rfl, rfl⟩
          · subst he
            rw [if_pos rfl] at hnx
            refine chk_i (by omega) (chk_i (by omega) (chk_i (by omega) ?_))
            refine rnd_d 2 (i + 1) ?_ (by simp) ⟨rfl, rfl, rfl, rfl, rfl, rfl, rfl, rfl, rfl, rfl, trivial⟩ (by rw [hnx]; rfl) ⟨by omega, by rw [hnx], by rw [hnx]; simp [hil]⟩ (by omega)
            have ht2 : List.take i (List.map ctv (readK names tl i).1) = List.map ctv (readK names tl i).1 := List.take_of_length_le (by simp [hil])
            rw [hnx, ht2]
            simp only [List.map_append]
            rfl
        · have h2 : i = tl.length := by omega
          subst h2
          rw [hz]
          have e : frzD [1] [.arr 11 [], .arr 11 ((readK names tl tl.length).1.map ctv)] (.osl 11 1 0 tl.length none) = .sl 11 ((readK names tl tl.length).1.map ctv) :=
            frz_row (F := [1]) (h := [.arr 11 [], .arr 11 ((readK names tl tl.length).1.map ctv)]) (sz := 11) (i := 1) (n := tl.length) (c := none) rfl (by simp [hil]) rfl
          refine end_fc [1] (D := .tup [.sl 11 ((readK names tl tl.length).1.map ctv), .int .i64 0, .int .i64 0]) ?_ rfl ⟨rfl, rfl⟩
          show DV.tup [frzD _ _ _, _, _] = _
          rw [e]; rfl
end Go.Proofs.Ut

/- (*strings.Builder).Grow at a builder that holds nothing: a row for what will come, and nothing else is turned. -/
namespace Go.Ai
open Go.Proofs Go.Shelf Go.RowKit
variable {P : Program} {ρ : Ren}

theorem Beside.trans {a b c : World} {x : Nat} (h : Beside a b x none) (k : Beside b c x none) : Beside a c x none :=
  ⟨k.os.trans h.os, k.tape.trans h.tape, k.output.trans h.output, Nat.le_trans h.size k.size, fun i hi hx hr => (k.block i (Nat.lt_of_lt_of_le hi h.size) hx hr).trans (h.block i hi hx hr), fun i hi => (k.shape i (Nat.lt_of_lt_of_le hi h.size)).trans (h.shape i hi)⟩
theorem Beside.drew {w w' : World} {x : Nat} {r : Option Nat} (h : Beside w w' x r) : Beside w w'.drew x r := ⟨h.os, h.tape, h.output, h.size, h.block, h.shape⟩
theorem Hd.drew {w : World} {b T : Nat} {p v : Value} {fz : Nat × Nat} (h : Hd w b T p v fz) : Hd w.drew b T p v fz := h

def Grown (w w' : World) (b : Nat) (T e : Nat) (fz : Nat × Nat) : Prop :=
  ∃ v', Hd w' b T (.pointer (some ⟨b, 0, none⟩)) v' fz ∧ w'.ownsRow 0 e 1 v' 0 [] ∧ Beside w w' b none ∧ (∀ g, v'.ownBlock = some g → w.heap.size ≤ g) ∧ Roomy v'

theorem grown_new {w : World} {b T e : Nat} {fz : Nat × Nat} {cs : Array Value} (h : Hd w b T (.pointer (some ⟨b, 0, none⟩)) (.slice none 0 0) fz) (hm : cs.size ≤ maxLen) (h0 : 0 < cs.size) :
    Grown w ((w.alloc (.cells cs e)).setCell ⟨b, 1, none⟩ (.slice (some ⟨w.heap.size, 0, none⟩) 0 cs.size)) b T e fz := by
  have hlt := h.lt
  have hb2 : (w.alloc (.cells cs e)).heap[b]? = some (.cells #[.pointer (some ⟨b, 0, none⟩), .slice none 0 0] T fz) := (Lib.alloc_old w _ b hlt).trans h.1
  have hb3 : ((w.alloc (.cells cs e)).setCell ⟨b, 1, none⟩ (.slice (some ⟨w.heap.size, 0, none⟩) 0 cs.size)).heap[b]? = some (.cells #[.pointer (some ⟨b, 0, none⟩), .slice (some ⟨w.heap.size, 0, none⟩) 0 cs.size] T fz) := by
    unfold World.setCell
    simp only [Array.getElem?_modify, if_true, hb2, Option.map_some]
    rfl
  have ho : ∀ k, k ≠ b → ((w.alloc (.cells cs e)).setCell ⟨b, 1, none⟩ (.slice (some ⟨w.heap.size, 0, none⟩) 0 cs.size)).heap[k]? = (w.alloc (.cells cs e)).heap[k]? := fun k hk => Below.heap_setCell _ _ _ _ hk
  have hg : ((w.alloc (.cells cs e)).setCell ⟨b, 1, none⟩ (.slice (some ⟨w.heap.size, 0, none⟩) 0 cs.size)).heap[w.heap.size]? = some (.cells cs e (0, 0)) := by
    rw [ho _ (by omega)]; exact push_new w _
  refine ⟨.slice (some ⟨w.heap.size, 0, none⟩) 0 cs.size, ⟨hb3, h.2.1, .inr rfl⟩, ⟨rfl, .inr ⟨w.heap.size, cs.size, cs, rfl, Nat.zero_le _, hg, Nat.zero_le _, hm, by simp, by simp⟩⟩, ⟨rfl, rfl, rfl, ?_, fun k hk hkb _ => ?_, fun k hk => ?_⟩, fun g hq => ?_, fun a m c hv => ?_⟩
  · simp [World.setCell]
  · rw [ho k hkb]; exact Lib.alloc_old w _ k hk
  · by_cases hkb : k = b
    · subst hkb
      rw [shape_cells hb3, shape_cells h.1]; rfl
    · exact shape_eq ((ho k hkb).trans (Lib.alloc_old w _ k hk))
  · simp [Value.ownBlock] at hq; omega
  · simp at hv; omega

set_option maxHeartbeats 2000000 in
set_option maxRecDepth 1000000 in
theorem grow_in (L : Lays.n241 P ρ) (X : Builder.Extra P ρ) {b : Nat} {fz : Nat × Nat} {w : World} (h : Hd w b (ρ.t 72) (.pointer (some ⟨b, 0, none⟩)) (.slice none 0 0) fz) (n : Nat) (h0 : 0 < n) (hn : n ≤ 281474976710656) :
    Calls P (ρ.f 241) #[.pointer (some ⟨b, 0, none⟩), .int .i64 n] w fun e w' => e = .returned (.tuple #[]) ∧ Grown w w' b (ρ.t 72) (ρ.t 5) fz := by
  obtain ⟨cs, hrun, hle, hmax⟩ := Lib.run_makeNoZero (P := P) w.drew #[(ρ.t 3)] (ρ.t 37) (ρ.t 5) L.t37 n hn
  have hlt := h.lt
  have ha : (w.alloc (.cells cs (ρ.t 5))).heap[b]? = some (.cells #[.pointer (some ⟨b, 0, none⟩), .slice none 0 0] (ρ.t 72) fz) := (Lib.alloc_old w _ b hlt).trans h.1
  have hcall : (callFunc (ρ.f 277) #[.int .i64 (IntKind.i64.wrap (IntKind.i64.wrap 0 + (n : Int)))]).run P w.drew = .ok (.value (.slice (some ⟨w.drew.heap.size, 0, none⟩) n cs.size)) (w.drew.drew.drew.alloc (.cells cs (ρ.t 5))) := by
    have hw : IntKind.i64.wrap (IntKind.i64.wrap 0 + (n : Int)) = n := by
      rw [IntKind.wrap_i64, IntKind.wrap_i64]; omega
    rw [hw, run_callFunc_extern L.f277 (by kernel_rfl) (by kernel_rfl) (by kernel_rfl) (e := Extern.BytealgMakeNoZero.makeNoZero #[(ρ.t 3)] #[(ρ.t 37)]) (by kernel_rfl), hrun]
    rfl
  have c1 : w.drew.cell? ⟨b, 1, none⟩ = some (.slice none 0 0) := by
    have : w.drew.heap[b]? = _ := h.1
    rw [Lib.cell_of_heap this]; rfl
  have c2 : (w.alloc (.cells cs (ρ.t 5))).cell? ⟨b, 1, none⟩ = some (.slice none 0 0) := by rw [Lib.cell_of_heap ha]; rfl
  have f2 : (w.alloc (.cells cs (ρ.t 5))).frozen? ⟨b, 1, none⟩ = false := by
    have := h.2.1 1 (by omega)
    simp only [World.frozen?, ha]
    exact this
  have hcopy : ∀ W : World, (Builtin.copy_ #[(ρ.t 37), (ρ.t 37)] (ρ.t 3) #[.slice (some ⟨w.heap.size, 0, none⟩) 0 cs.size, .slice none 0 0]).run P W = .ok (goInt 0) W :=
    fun W => run_copy_none W (ρ.t 37) (ρ.t 37) (ρ.t 3) (ρ.t 5) _ _ 0 cs.size 0 0 L.t37 X.sizeByte rfl
  have hfin : ∀ w', w' = ((w.alloc (.cells cs (ρ.t 5))).setCell ⟨b, 1, none⟩ (.slice (some ⟨w.heap.size, 0, none⟩) 0 cs.size)).drew.drew.drew → Grown w w' b (ρ.t 72) (ρ.t 5) fz := fun w' e => by
    obtain ⟨v', g1, g2, g3, g4, g5⟩ := grown_new (e := ρ.t 5) h (hmax (by unfold maxLen; omega)) (Nat.lt_of_lt_of_le h0 hle)
    subst e
    exact ⟨v', g1, g2, g3.drew.drew.drew, g4, g5⟩
  have mixed := L.mixed
  have t72 := L.t72; have a72 := L.a72; have z72 := L.z72; have v72 := L.v72; have u72 := run_underlying L.t72
  have t70 := L.t70; have a70 := L.a70; have z70 := L.z70; have v70 := L.v70; have u70 := run_underlying L.t70
  have t37 := L.t37; have a37 := L.a37; have z37 := L.z37; have v37 := L.v37; have u37 := run_underlying L.t37
  have t3 := L.t3; have a3 := L.a3; have z3 := L.z3; have v3 := L.v3; have u3 := run_underlying L.t3
  have t5 := X.t5; have a5 := X.a5; have z5 := X.z5; have v5 := X.v5; have u5 := run_underlying X.t5
  clear hlt ha h
  go_enter L.f241, Body.n241_ntmps ρ
  go_wp2
  go_region_o
  all_goals (go_wp2; go_end0; exact ⟨rfl, hfin _ rfl⟩)
end Go.Ai

/- Grow itself. -/
namespace Go.Ai
open Go.Proofs Go.Shelf Go.RowKit
variable {P : Program} {ρ : Ren}

set_option maxHeartbeats 2000000 in
set_option maxRecDepth 1000000 in
theorem grow_walk (L : Lays.n165 P ρ) (X : Builder.Extra P ρ) {b : Nat} {p : Value} {fz : Nat × Nat} {w : World} (h : Hd w b (ρ.t 72) p (.slice none 0 0) fz) (n : Nat) (h0 : 0 < n) (hn : n ≤ 281474976710656) :
    Calls P (ρ.f 165) #[.pointer (some ⟨b, 0, none⟩), .int .i64 n] w fun e w' => e = .returned (.tuple #[]) ∧ Grown w w' b (ρ.t 72) (ρ.t 5) fz := by
  have mixed := L.mixed
  have t72 := L.t72; have a72 := L.a72; have z72 := L.z72; have v72 := L.v72; have u72 := run_underlying L.t72
  have t70 := L.t70; have a70 := L.a70; have z70 := L.z70; have v70 := L.v70; have u70 := run_underlying L.t70
  have t37 := L.t37; have a37 := L.a37; have z37 := L.z37; have v37 := L.v37; have u37 := run_underlying L.t37
  have t3 := L.t3; have a3 := L.a3; have z3 := L.z3; have v3 := L.v3; have u3 := run_underlying L.t3
  have t9 := L.t9; have a9 := L.a9; have z9 := L.z9; have v9 := L.v9; have u9 := run_underlying L.t9
  have t4 := L.t4; have a4 := L.a4; have z4 := L.z4; have v4 := L.v4; have u4 := run_underlying L.t4
  have t164 := L.t164; have a164 := L.a164; have z164 := L.z164; have v164 := L.v164; have u164 := run_underlying L.t164
  have t5 := X.t5; have a5 := X.a5; have z5 := X.z5; have v5 := X.v5; have u5 := run_underlying X.t5
  have e240 : ∀ args w, (callFunc (ρ.f 240) args).run P w = .ok (.enter (ρ.f 240) args) w := enters_of L.f240 (by kernel_rfl) rfl
  have e241 : ∀ args w, (callFunc (ρ.f 241) args).run P w = .ok (.enter (ρ.f 241) args) w := enters_of L.f241 (by kernel_rfl) rfl
  go_enter L.f165, Body.n165_ntmps ρ
  go_wp2_with (go_at_fn (ρ.f 240); refine (check_walk { L with } X.toX72 h).mono ?_; rintro e w1 ⟨rfl, k1, k2⟩)
  have c1 : w1.drew.cell? ⟨b, 1, none⟩ = some (.slice none 0 0) := by
    have : w1.drew.heap[b]? = _ := k1.1
    rw [Lib.cell_of_heap this]; rfl
  have hin := grow_in { L with } X k1.drew n h0 hn
  have hfin : ∀ w', Grown w1.drew w' b (ρ.t 72) (ρ.t 5) fz → Grown w w' b (ρ.t 72) (ρ.t 5) fz := fun w' ⟨v', g1, g2, g3, g4, g5⟩ =>
    ⟨v', g1, g2, (k2.drew).trans g3, fun g hg => Nat.le_trans k2.size (g4 g hg), g5⟩
  clear k1 k2 h
  go_region_o
  all_goals go_wp2_with (go_at_fn (ρ.f 241); refine hin.mono ?_; rintro e w' ⟨rfl, h1⟩)
  all_goals first
    | (go_end0; exact ⟨rfl, hfin _ h1⟩)
    | (exfalso; simp only [IntKind.wrap_i64] at *; omega)

theorem grow_prim {E : Env} {ρ : Ren} (L : Lays.n165 E.P ρ) (X : Builder.Extra E.P ρ) {f : Nat} (hf : ρ.f 165 = f) {T e : Nat} (hT : ρ.t 72 = T) (he : ρ.t 5 = e) (hent : Ent E.P f) (n : Nat) (h0 : 0 < n) (hn : n ≤ 281474976710656) :
    ACalls E f (Bld false T e []) [.ptr 1 0, .int .i64 n] (fun h' d => h' = Bld true T e [] ∧ d = .undef) := by
  subst hf; subst hT; subst he
  refine ⟨hent, fun w ok β vs hG hN hH hl hv => ?_⟩
  match vs, hl with
  | [v0, v1], _ =>
  have r0 := hv 0 v0 _ rfl rfl
  have r1 := hv 1 v1 _ rfl rfl
  obtain ⟨b, p, v, fz, h1, h2, h3, h4, h5, h6⟩ := bld_split hH
  obtain rfl := h6 rfl rfl
  cases r0 with
  | ptr l o b' x hb =>
  rw [h1] at hb; cases hb
  cases r1 with
  | int k m =>
  refine (grow_walk L X h2 n h0 hn).mono ?_
  rintro e w' ⟨rfl, v', k1, k2, k3, k4, k5⟩
  obtain ⟨β', e1, e2, e3, e4⟩ := bld_join (gr' := true) (bs' := []) hN hH h1 h5 k3 k1 k2 k5 (fun g hg => .inr (k4 g hg)) (fun h => by cases h)
  exact ⟨_, ok, β', _, _, rfl, ⟨rfl, rfl⟩, E.stable w w' hG e4, e1, e2, .undef _, fun l cs hl => by
    match l, hl with
    | 0, hl => simp [Bld, Buf] at hl
    | 1, hl => exact ⟨e3, _, rfl⟩, by simp [Bld], fun h => by cases h⟩
end Go.Ai
