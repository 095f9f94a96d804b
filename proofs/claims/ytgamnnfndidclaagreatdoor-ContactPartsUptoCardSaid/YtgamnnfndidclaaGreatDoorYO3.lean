/- The text of a value; its parts. -/
import Derived.Test.YtgamnnfndidclaaGreatDoorYFoC
import Derived.Shelf.Strings.Fold
import Derived.Lib.IndexBytes
import Derived.Test.YtgamnnfndidclaaGreatDoorYN
open Nat renaming reduceBEq → qA, reduceAdd → qB, reduceSub → qC, reduceLeDiff → qD, reduceMul → qE
open Int renaming reduceLE → qF, reduceLT → qG, reduceNe → qH, reduceToNat → qI
set_option linter.all false
namespace Go.Proofs.Ut
open Go.Ai Classical Go.Shelf Go.RowKit
set_option linter.unusedSimpArgs false
set_option linter.unusedVariables false
set_option maxHeartbeats 1000000
set_option maxRecDepth 100000
def escC (c : UInt8) : Option UInt8 := if c = 92 ∨ c = 44 ∨ c = 59 then some c else if c = 110 ∨ c = 78 then some 10 else none
def plainF : List UInt8 → Option (List UInt8)
  | [] => some []
  | x :: s =>
    if x = 92 then (match s with | [] => none | c :: t => (escC c).bind fun y => (plainF t).map (y :: ·))
    else (plainF s).map (x :: ·)
def plainB : List UInt8 → Option (List UInt8)
  | [] => none
  | c :: t => (escC c).bind fun y => (plainF t).map (y :: ·)
theorem plain_cut : ∀ s : List UInt8, plainF s = if (cut 92 s).2.2 = true then (plainB (cut 92 s).2.1).map ((cut 92 s).1 ++ ·) else some s
  | [] => by simp [plainF, cut]
  | x :: s => by
    have ih := plain_cut s
    rw [cut]
    by_cases hx : x = 92
    · rw [if_pos hx]
      subst hx
      cases s with
      | nil => simp [plainF, plainB]
      | cons c t => simp [plainF, plainB]
    · rw [if_neg hx]
      have e : plainF (x :: s) = (plainF s).map (x :: ·) := by rw [plainF.eq_def]; simp only; rw [if_neg hx]
      rw [e, ih]
      simp only
      split
      · cases plainB (cut 92 s).2.1 <;> rfl
      · rfl
theorem cut_lenB (c : UInt8) : ∀ s : List UInt8, (cut c s).1.length + (cut c s).2.1.length ≤ s.length ∧ ((cut c s).2.2 = true → (cut c s).1.length + (cut c s).2.1.length < s.length) ∧ ((cut c s).2.2 = false → (cut c s).1 = s)
  | [] => by simp [cut]
  | x :: s => by
    have ih := cut_lenB c s
    rw [cut]
    split
    · simp
    · simp only [List.length_cons]
      exact ⟨by omega, fun h => by have := ih.2.1 h; omega, fun h => by rw [ih.2.2 h]⟩
theorem index59 (s sub : List UInt8) (hs : s.length < 1000000000) : DRet 126 [.str s, .str sub] (.int .i64 (Lib.index s sub)) := by
  refine acalls_go c126 (by simp [f126]) ?_
  simp only [f126, ↓gos, gop, qA, qB, qC, qD, qE, qF, qG, qH, qI]
  refine call_ret (index73 s sub hs) rfl rfl ?_
  simp only [↓gos, gop, qA, qB, qC, qD, qE, qF, qG, qH, qI]
  exact endi rfl
def EC : List UInt8 := [92, 44, 59, 110, 78]
theorem contains38 (c : UInt8) : DRet 65 [.str [92, 44, 59, 110, 78], .str [c]] (.bool (EC.contains c)) := by
  refine acalls_go c65 (by simp [f65]) ?_
  simp only [f65, ↓gos, gop, qA, qB, qC, qD, qE, qF, qG, qH, qI]
  refine call_ret (index59 [92, 44, 59, 110, 78] [c] (by simp)) rfl rfl ?_
  rw [Lib.index_one]
  simp only [↓gos, gop, qA, qB, qC, qD, qE, qF, qG, qH, qI]
  have := sg_index EC c
  refine ⟨fun h => endb ?_, fun h => endb ?_⟩
  · rw [this.1 h]
  · cases hc : EC.contains c
    · rfl
    · exact absurd (this.2 hc) h
theorem fold39 (s t : List UInt8) (hs : s.length < 1000000000) (h1 : ∀ b ∈ s, b.toNat < 128) (h2 : ∀ b ∈ t, b.toNat < 128) : DRet 171 [.str s, .str t] (.bool (Lib.equalFold s t)) := by
  refine scal ⟨Tryz.f171, Tryz.func171, by kernel_rfl, by kernel_rfl⟩ fun w ok β vs hl hv => ?_
  obtain ⟨u, v, rfl⟩ := two hl
  obtain rfl := of_str (hv 0 u _ rfl rfl)
  obtain rfl := of_str (hv 1 v _ rfl rfl)
  refine ⟨_, fun _ _ _ => .bool _, (Any.strings_EqualFold Tryz.lays164 ⟨s.toArray⟩ ⟨t.toArray⟩ w (by simp [ByteArray.size]; omega) (fun j b hj => h1 b (List.mem_of_getElem? (by simpa using hj))) (fun j b hj => h2 b (List.mem_of_getElem? (by simpa using hj)))).mono ?_⟩
  rintro e w' ⟨rfl, rfl⟩
  exact ⟨by simp, Below.refl _ _⟩
theorem esc_no {c : UInt8} (h : EC.contains c = false) : escC c = none := by
  unfold EC at h
  simp only [List.contains_cons, List.contains_nil, Bool.or_false, Bool.or_eq_false_iff, beq_eq_false_iff_ne, ne_eq] at h
  unfold escC
  rw [if_neg (by simp [h]), if_neg (by simp [h])]
theorem esc_fold {c : UInt8} (h : EC.contains c = true) : c.toNat < 128 ∧ ((Lib.equalFold [c] [110] = false ∧ escC c = some c) ∨ (Lib.equalFold [c] [110] = true ∧ escC c = some 10)) := by
  unfold EC at h
  simp only [List.contains_cons, List.contains_nil, Bool.or_false, Bool.or_eq_true, beq_iff_eq] at h
  rcases h with rfl | rfl | rfl | rfl | rfl
  · exact ⟨by decide, .inl ⟨by decide, by decide⟩⟩
  · exact ⟨by decide, .inl ⟨by decide, by decide⟩⟩
  · exact ⟨by decide, .inl ⟨by decide, by decide⟩⟩
  · exact ⟨by decide, .inr ⟨by decide, by decide⟩⟩
  · exact ⟨by decide, .inr ⟨by decide, by decide⟩⟩
theorem plain16 (s : List UInt8) (hs : s.length < 1000000000) : DRet 146 [.str s] (.tup [.str ((plainF s).getD []), .int .i64 (if (plainF s).isSome then 0 else 18)]) := by
  refine acalls_go c146 (by simp [f146]) ?_
  simp only [f146, ↓gos, gop, qA, qB, qC, qD, qE, qF, qG, qH, qI]
  refine goN_lp (γ := List UInt8 × List UInt8) (fun g => [(0, .str g.2), (4, .ptr 1 0)])
    (fun g => [.buf 5 g.1, .box [.self 1 169 2, .hdr 0 5 g.1.length]])
    (fun g => g.1.length + g.2.length ≤ s.length ∧ (plainF g.2).map (g.1 ++ ·) = plainF s) (fun g => g.2.length) ([], s)
    (wks rfl (by simp) ⟨rfl, rfl, trivial⟩) ⟨by simp, by simp⟩ fun g hg => ?_
  obtain ⟨acc, t⟩ := g
  obtain ⟨p1, p2⟩ := hg
  simp only at p1 p2
  simp only [f146l0, ↓gos, gop, qA, qB, qC, qD, qE, qF, qG, qH, qI]
  have hc := plain_cut t
  have hcl := cut_lenB 92 t
  refine call_ret (cut112 t 92 (by omega)) rfl rfl ?_
  generalize cut 92 t = ct at hc hcl
  obtain ⟨head, rest, is⟩ := ct
  simp only at hc hcl
  simp only [↓gos, gop, qA, qB, qC, qD, qE, qF, qG, qH, qI]
  refine call_bld (gr := false) (gr' := false) (m := 0) (l := 1) rfl rfl rfl (ws58 false acc head (by omega)) ?_
  cases is
  · simp only [Buf, ↓gos, gop, qA, qB, qC, qD, qE, qF, qG, qH, qI]
    refine call_bstr (gr := false) (m := 0) (l := 1) rfl rfl (str60 false _) ?_
    simp only [↓gos, gop, qA, qB, qC, qD, qE, qF, qG, qH, qI]
    simp only [Bool.false_eq_true, if_false] at hc
    rw [hc] at p2
    refine finE_closed rfl ⟨rfl, ?_⟩
    rw [← p2, hcl.2.2 rfl]
    rfl
  · simp only [Buf, ↓gos, gop, qA, qB, qC, qD, qE, qF, qG, qH, qI]
    simp only [if_true] at hc
    have hcl2 := hcl.2.1 rfl
    cases rest with
    | nil =>
      simp only [↓gos, gop, qA, qB, qC, qD, qE, qF, qG, qH, qI]
      have hn : plainF s = none := by rw [← p2, hc]; rfl
      rw [hn]
      exact finE_closed rfl ⟨rfl, rfl⟩
    | cons c r =>
      simp only [↓gos, gop, qA, qB, qC, qD, qE, qF, qG, qH, qI]
      simp only [List.length_cons] at hcl hcl2
      refine ⟨fun h => (by cases h), fun _ => ⟨by omega, call_ret (contains38 c) rfl rfl ?_⟩⟩
      cases he : EC.contains c
      · simp only [↓gos, gop, qA, qB, qC, qD, qE, qF, qG, qH, qI]
        have hn : plainF s = none := by rw [← p2, hc, plainB, esc_no he]; rfl
        rw [hn]
        exact finE_closed rfl ⟨rfl, rfl⟩
      · obtain ⟨h128, hf⟩ := esc_fold he
        simp only [↓gos, gop, qA, qB, qC, qD, qE, qF, qG, qH, qI]
        refine ⟨by omega, call_ret (fold39 [c] [110] (by simp) (by simpa using h128) (by decide)) rfl rfl ?_⟩
        rcases hf with ⟨h1, h2⟩ | ⟨h1, h2⟩
        all_goals
          rw [h1]
          rw [plainB, h2] at hc
          simp only [Option.bind_some] at hc
          simp only [↓gos, gop, qA, qB, qC, qD, qE, qF, qG, qH, qI]
          refine call_bld (gr := false) (gr' := false) (m := 0) (l := 1) rfl rfl rfl (ws58 false (acc ++ head) _ (by simp only [List.length_append, List.length_cons, List.length_nil]; omega)) ?_
          simp only [Buf, ↓gos, gop, qA, qB, qC, qD, qE, qF, qG, qH, qI]
          refine ⟨by omega, ?_⟩
          rw [show List.take (r.length + 1 - 1) r = r from List.take_of_length_le (by omega)]
          refine rnd_s (acc ++ head ++ [_], r) rfl (by simp) ⟨rfl, rfl, trivial⟩ ⟨by simp; omega, ?_⟩ (by simp only; omega)
          rw [← p2, hc, Option.map_map, Option.map_map]
          congr 1
          funext z
          simp
def escN (e : Bool) (x : UInt8) : Bool := decide (x = 92) && !e
def splitF (sep : UInt8) : Bool → List UInt8 → List UInt8 → List (List UInt8)
  | _, cur, [] => [cur]
  | e, cur, x :: s => if (decide (x = sep) && !e) = true then cur :: splitF sep (escN e x) [] s else splitF sep (escN e x) (cur ++ [x]) s
theorem clone51 (l : List (List UInt8)) (hl : l ≠ []) (hb : l.length < 1000000000) : ACalls ED 182 [] [.sl 1 (l.map sv)] (fun h d => h = [.arr 1 (l.map sv)] ∧ d = .osl 1 0 0 l.length none) := by
  refine acalls_go c182 (by simp [f182]) ?_
  simp only [f182, ↓gos, gop, qA, qB, qC, qD, qE, qF, qG, qH, qI]
  exact ⟨by simpa using hl, by omega, by omega, end_row rfl rfl rfl⟩
theorem free_sv (l : List (List UInt8)) (n : Nat) : ((DV.osl 1 0 0 n none).free && [AObj.arr 1 (l.map sv)].all freeO) = true := by simp [DV.free, freeO, sv]
theorem take_next (s : List UInt8) (fr i : Nat) (h : fr ≤ i) (hi : i < s.length) : List.take (i + 1 - fr) (List.drop fr s) = List.take (i - fr) (List.drop fr s) ++ [s.getD i 0] := by
  rw [show i + 1 - fr = (i - fr) + 1 by omega, List.take_add_one]
  congr 1
  rw [List.getElem?_drop, show fr + (i - fr) = i by omega, List.getD_eq_getElem?_getD, List.getElem?_eq_getElem hi]
  rfl
theorem drop_next (s : List UInt8) (i : Nat) (hi : i < s.length) : List.drop i s = s.getD i 0 :: List.drop (i + 1) s := by
  rw [List.getD_eq_getElem?_getD, List.getElem?_eq_getElem hi]
  exact List.drop_eq_getElem_cons hi
theorem split26 (s : List UInt8) (sep : UInt8) (hs : s.length < 100000000) : ACalls ED 145 [] [.str s, .int .u8 sep.toNat] (fun h d => h = [.arr 1 ((splitF sep false [] s).map sv)] ∧ d = .osl 1 0 0 (splitF sep false [] s).length none) := by
  refine acalls_go c145 (by simp [f145]) ?_
  simp only [f145, ↓gos, gop, qA, qB, qC, qD, qE, qF, qG, qH, qI]
  refine goN_lp (γ := List (List UInt8) × Nat × Nat × Bool) (fun g => [(0, .str s), (1, .int .u8 sep.toNat), (5, .ptr 2 0), (6, .int .i64 (g.2.1 : Nat)), (7, .bool g.2.2.2), (12, .int .i64 s.length), (13, .int .i64 (g.2.2.1 : Nat))])
    (fun g => [.arr 1 [], .arr 1 (g.1.map sv), .box [.osl 1 1 0 g.1.length none]])
    (fun g => g.2.1 ≤ g.2.2.1 ∧ g.2.2.1 ≤ s.length ∧ g.1.length ≤ g.2.1 ∧ g.1 ++ splitF sep g.2.2.2 ((s.drop g.2.1).take (g.2.2.1 - g.2.1)) (s.drop g.2.2.1) = splitF sep false [] s) (fun g => s.length - g.2.2.1) ([], 0, 0, false)
    (wks rfl (by simp) ⟨rfl, rfl, rfl, rfl, rfl, rfl, rfl, trivial⟩) ⟨by simp, by simp, by simp, rfl⟩ fun g hg => ?_
  obtain ⟨acc, fr, i, e⟩ := g
  obtain ⟨p1, p2, p3, p4⟩ := hg
  simp only at p1 p2 p3 p4
  by_cases hi : i < s.length
  · have hxb := (s.getD i 0).toNat_lt
    have hbt : bt s i = ((s.getD i 0).toNat : Int) := rfl
    have hq : ∀ c : UInt8, (bt s i = (c.toNat : Int)) ↔ s.getD i 0 = c := fun c => by
      rw [hbt]
      exact ⟨fun q => UInt8.toNat_inj.1 (by omega), fun q => by rw [q]⟩
    have hq92 : (bt s i = 92) ↔ s.getD i 0 = 92 := hq 92
    have hpl : (List.take (i - fr) (List.drop fr s)).length ≤ s.length := by simp; omega
    have htn := take_next s fr i p1 hi
    rw [drop_next s i hi, splitF] at p4
    generalize s.getD i 0 = x at p4 hq hq92 hxb hbt htn
    cases e
    · simp only [f145l0, ↓gos, gop, qA, qB, qC, qD, qE, qF, qG, qH, qI]
      refine ⟨fun _ => ⟨by omega, fun h1 => ?_, fun h1 => ?_⟩, fun h => absurd h (by omega)⟩
      · have hs1 := (hq sep).1 h1
        rw [if_pos (by rw [hs1]; simp)] at p4
        refine ⟨by omega, by omega, ?_⟩
        refine call_l1 (m := 1) (l := 2) (n' := (acc ++ [List.take (i - fr) (List.drop fr s)]).length) (es' := (acc ++ [List.take (i - fr) (List.drop fr s)]).map sv) (xs := [.str (List.take (i - fr) (List.drop fr s))]) (DR := .tup []) rfl rfl rfl (add35 acc _ (by omega)) rfl ?_
        simp only [↓gos, gop, qA, qB, qC, qD, qE, qF, qG, qH, qI]
        intro v hv
        rw [wrap_i64 (by omega) (by omega)] at hv
        have hv : v = ((i + 1 : Nat) : Int) := by omega
        subst hv
        refine ⟨by omega, fun h9 v1 hv1 => ?_, fun h9 v1 hv1 => ?_⟩
        · have h92 := hq92.1 h9
          rw [wrap_i64 (by omega) (by omega)] at hv1
          have hv1 : v1 = ((i + 1 : Nat) : Int) := by omega
          subst hv1
          refine rnd_s (acc ++ [List.take (i - fr) (List.drop fr s)], i + 1, i + 1, true) rfl (by simp) ⟨rfl, rfl, rfl, rfl, rfl, rfl, rfl, trivial⟩ ⟨by first | omega | (simp only; omega), by first | omega | (simp only; omega), by simp; omega, ?_⟩ (by first | omega | (simp only; omega))
          rw [← p4]
          simp [escN, h92]
        · have h92 := mt hq92.2 h9
          rw [wrap_i64 (by omega) (by omega)] at hv1
          have hv1 : v1 = ((i + 1 : Nat) : Int) := by omega
          subst hv1
          refine rnd_s (acc ++ [List.take (i - fr) (List.drop fr s)], i + 1, i + 1, false) rfl (by simp) ⟨rfl, rfl, rfl, rfl, rfl, rfl, rfl, trivial⟩ ⟨by first | omega | (simp only; omega), by first | omega | (simp only; omega), by simp; omega, ?_⟩ (by first | omega | (simp only; omega))
          rw [← p4]
          simp [escN, h92]
      · have hs1 : x ≠ sep := mt (hq sep).2 h1
        rw [if_neg (by simp [hs1])] at p4
        refine ⟨by omega, fun h9 v1 hv1 => ?_, fun h9 v1 hv1 => ?_⟩
        · have h92 := hq92.1 h9
          rw [wrap_i64 (by omega) (by omega)] at hv1
          have hv1 : v1 = ((i + 1 : Nat) : Int) := by omega
          subst hv1
          refine rnd_s (acc, fr, i + 1, true) rfl (by simp) ⟨rfl, rfl, rfl, rfl, rfl, rfl, rfl, trivial⟩ ⟨by first | omega | (simp only; omega), by first | omega | (simp only; omega), by simp; omega, ?_⟩ (by first | omega | (simp only; omega))
          rw [← p4]
          simp only [htn, escN]
          simp [h92]
        · have h92 := mt hq92.2 h9
          rw [wrap_i64 (by omega) (by omega)] at hv1
          have hv1 : v1 = ((i + 1 : Nat) : Int) := by omega
          subst hv1
          refine rnd_s (acc, fr, i + 1, false) rfl (by simp) ⟨rfl, rfl, rfl, rfl, rfl, rfl, rfl, trivial⟩ ⟨by first | omega | (simp only; omega), by first | omega | (simp only; omega), by simp; omega, ?_⟩ (by first | omega | (simp only; omega))
          rw [← p4]
          simp only [htn, escN]
          simp [h92]
    · rw [if_neg (by simp)] at p4
      simp only [f145l0, ↓gos, gop, qA, qB, qC, qD, qE, qF, qG, qH, qI]
      refine ⟨fun _ => ⟨by omega, fun _ => ⟨by omega, fun _ v hv => ?_, fun _ v hv => ?_⟩, fun _ => ⟨by omega, fun _ v hv => ?_, fun _ v hv => ?_⟩⟩, fun h => absurd h (by omega)⟩
      all_goals
        rw [wrap_i64 (by omega) (by omega)] at hv
        have hv : v = ((i + 1 : Nat) : Int) := by omega
        subst hv
        refine rnd_s (acc, fr, i + 1, false) rfl (by simp) ⟨rfl, rfl, rfl, rfl, rfl, rfl, rfl, trivial⟩ ⟨by first | omega | (simp only; omega), by first | omega | (simp only; omega), by first | omega | (simp only; omega), ?_⟩ (by first | omega | (simp only; omega))
        rw [← p4]
        simp only [htn, escN]
        simp
  · have e0 : i = s.length := by omega
    subst e0
    rw [List.drop_length, splitF] at p4
    have hacc : acc.length < 100000000 := by omega
    cases e
    all_goals
      simp only [f145l0, ↓gos, gop, qA, qB, qC, qD, qE, qF, qG, qH, qI]
      refine ⟨fun h => absurd h (by omega), fun _ => ⟨by omega, ?_⟩⟩
      refine call_l1 (m := 1) (l := 2) (n' := (acc ++ [List.take (s.length - fr) (List.drop fr s)]).length) (es' := (acc ++ [List.take (s.length - fr) (List.drop fr s)]).map sv) (xs := [.str (List.take (s.length - fr) (List.drop fr s))]) (DR := .tup []) rfl rfl rfl (add35 acc _ (by omega)) rfl ?_
      simp only [↓gos, gop, qA, qB, qC, qD, qE, qF, qG, qH, qI]
      refine call_lend (clone51 (acc ++ [List.take (s.length - fr) (List.drop fr s)]) (by simp) (by simp; omega)) ?_ ?_ ?_
      · rw [List.map_cons, List.map_nil, dn_osl rfl (by simp)]
      · exact free_sv _ _
      · simp only [DV.ren, renO, ↓gos, gop, qA, qB, qC, qD, qE, qF, qG, qH, qI]
        exact end_row rfl (by rw [p4]) (by rw [p4])
end Go.Proofs.Ut

/- item.Groups, of some twenty at most: the library's stable sort, Compact, DeleteFunc. -/
namespace Go.Ai
end Go.Ai
namespace Go.Proofs.Ut
open Go.Ai
set_option maxRecDepth 100000
set_option linter.all false
end Go.Proofs.Ut

/- The library's Compact of texts. -/
namespace Go.Proofs.Ut
open Go.Ai
set_option maxRecDepth 100000
set_option linter.all false
theorem id0 (i : Nat) (h : i < 1) : [0][i]? = some i := by
  have : i = 0 := by omega
  subst this
  rfl
end Go.Proofs.Ut

/- The library's DeleteFunc of texts; item.Groups. -/
namespace Go.Proofs.Ut
open Go.Ai
set_option maxRecDepth 100000
set_option linter.all false
theorem take_getDq {α : Type} {l : List α} {j : Nat} (h : j < l.length) (d : α) : l.take (j + 1) = l.take j ++ [l.getD j d] := by
  rw [List.getD_eq_getElem?_getD, List.getElem?_eq_getElem h]; simp
def idxE (l : List (List UInt8)) : Int := if [] ∈ l then (l.idxOf [] : Nat) else -1
end Go.Proofs.Ut
