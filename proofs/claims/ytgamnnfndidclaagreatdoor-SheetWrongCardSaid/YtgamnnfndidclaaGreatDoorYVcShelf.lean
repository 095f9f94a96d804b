/- Addresses: plain law. -/
import Derived.Test.YtgamnnfndidclaaGreatDoorLawRepl
import Derived.Test.YtgamnnfndidclaaGreatDoorYFoCsE
import Derived.Test.YtgamnnfndidclaaGreatDoorAiUn
import Derived.Shelf.Strings.Count
import Derived.Shelf.Lays
import Derived.Ground.NamesProg
import Derived.Test.YtgamnnfndidclaaGreatDoorProg
set_option linter.all false
namespace Go.Proofs.Ut
def splitL (c : UInt8) : List UInt8 → List (List UInt8)
  | [] => [[]]
  | b :: s => if b = c then [] :: splitL c s else match splitL c s with
    | [] => [[b]]
    | x :: l => (b :: x) :: l
theorem splitL_no (c : UInt8) : ∀ x : List UInt8, c ∉ x → splitL c x = [x]
  | [], _ => rfl
  | b :: x, h => by
    simp only [List.mem_cons, not_or] at h
    unfold splitL
    rw [if_neg (fun e => h.1 e.symm), splitL_no c x h.2]
theorem splitL_app (c : UInt8) (r : List UInt8) : ∀ x : List UInt8, c ∉ x → splitL c (x ++ c :: r) = x :: splitL c r
  | [], _ => by simp [splitL]
  | b :: x, h => by
    simp only [List.mem_cons, not_or] at h
    rw [List.cons_append]
    conv => lhs; unfold splitL
    rw [if_neg (fun e => h.1 e.symm), splitL_app c r x h.2]
theorem splitL_pos (c : UInt8) (s : List UInt8) : splitL c s ≠ [] := by
  cases s with
  | nil => simp [splitL]
  | cons b s =>
    unfold splitL
    split
    · simp
    · split <;> simp
def okPart (x : List UInt8) : Bool := !decide (x = []) && !decide (x.head? = some 45) && !decide (x.getLast? = some 45)
def dropDot (s : List UInt8) : List UInt8 := if s.getLast? = some 46 then s.dropLast else s
def okDom (d : List UInt8) : Bool := decide (d.length ≤ 100) && (splitL 46 d).all okPart
def domOf (x : List UInt8 × Int) : List UInt8 × Int := if x.2 ≠ 0 then ([], x.2) else if okDom (dropDot x.1) = false then ([], 14) else (dropDot x.1, 0)
def keptOf (x : List UInt8 × Int) (is : Bool) (most : Nat) : List UInt8 × Int := if x.2 ≠ 0 then ([], x.2) else if is = true ∧ (x.1 = [] ∨ most < x.1.length) then ([], 14) else x
/-- What a text is, as an address without a resource. -/
def bareOf (L D R : List UInt8 × Int) : List UInt8 × Int := if D.2 ≠ 0 then ([], D.2) else if L.2 ≠ 0 then ([], L.2) else if R.2 ≠ 0 then ([], R.2) else if R.1 ≠ [] then ([], 14) else (if L.1 = [] then D.1 else L.1 ++ 64 :: D.1, 0)
end Go.Proofs.Ut

/- Addresses: strings.Split at one sign; the parts of a domain. -/
namespace Go.Proofs.Ut
open Go.Ai Go.Shelf Go.RowKit
set_option maxRecDepth 100000
set_option linter.all false
theorem count326 (s : List UInt8) (c : UInt8) : DRet 326 [.str s, .str [c]] (.int .i64 (s.count c : Nat)) := by
  refine scal ⟨Tryz.f326, Tryz.func326, by kernel_rfl, by kernel_rfl⟩ fun w ok β vs hl hv => ?_
  obtain ⟨u, v, rfl⟩ := two hl
  obtain rfl := of_str (hv 0 u _ rfl rfl)
  obtain rfl := of_str (hv 1 v _ rfl rfl)
  refine ⟨_, fun _ _ _ => .int _ _, (Any.strings_Count_one Tryz.lays138 ⟨s.toArray⟩ c w).mono ?_⟩
  rintro e w' ⟨rfl, rfl⟩
  exact ⟨rfl, Below.refl _ _⟩
def spN (l : List (List UInt8)) (n : Nat) : List (List DV) := (l ++ List.replicate (n - l.length) []).map sv
theorem index_app (c : UInt8) (r : List UInt8) : ∀ x : List UInt8, c ∉ x → Lib.indexByte (x ++ c :: r) c = x.length
  | [], _ => by simp [Lib.indexByte]
  | b :: x, h => by
    simp only [List.mem_cons, not_or] at h
    rw [List.cons_append]
    unfold Lib.indexByte
    rw [if_neg (by simpa using fun e => h.1 e.symm), index_app c r x h.2, if_neg (by simp)]
    simp
theorem splitL_len (c : UInt8) : ∀ s : List UInt8, (splitL c s).length = s.count c + 1
  | [] => rfl
  | b :: s => by
    have h := splitL_len c s
    unfold splitL
    by_cases e : b = c
    · subst e; simp [h]
    · rw [if_neg e, List.count_cons, if_neg (by simpa using e)]
      split
      · rename_i h2; exact absurd h2 (splitL_pos c s)
      · rename_i x l h2; rw [h2] at h; simpa using h
theorem spN_set (l : List (List UInt8)) (x : List UInt8) (n : Nat) (h : l.length < n) : (spN l n).set l.length [.str x] = spN (l ++ [x]) n := by
  obtain ⟨k, rfl⟩ : ∃ k, n = l.length + (k + 1) := ⟨n - l.length - 1, by omega⟩
  unfold spN
  rw [show l.length + (k + 1) - l.length = k + 1 by omega, show l.length + (k + 1) - (l ++ [x]).length = k by simp; omega]
  simp [sv, List.replicate_succ, List.set_append_right]
theorem spN_get (l : List (List UInt8)) (n : Nat) (h : l.length < n) : (spN l n)[l.length]? = some [.str []] := by
  unfold spN
  rw [List.getElem?_map, List.getElem?_append_right (Nat.le_refl _), Nat.sub_self]
  obtain ⟨k, hk⟩ : ∃ k, n - l.length = k + 1 := ⟨n - l.length - 1, by omega⟩
  rw [hk]; rfl
theorem spN_all (l : List (List UInt8)) : spN l l.length = l.map sv := by simp [spN]
theorem split294 (s : List UInt8) (c : UInt8) (hs : s.length < 1000000000) : ACalls ED 294 [] [.str s, .str [c], .int .i64 0, .int .i64 (-1)] (fun h d => h = [.arr 1 ((splitL c s).map sv)] ∧ d = .osl 1 0 0 (splitL c s).length (some (splitL c s).length)) := by
  refine acalls_go c294 (by simp [f294]) ?_
  simp only [f294, ↓gos, gop, Nat.reduceBEq, Nat.reduceAdd, Nat.reduceSub, Nat.reduceLeDiff, Nat.reduceMul, Int.reduceLE, Int.reduceLT, Int.reduceNe, Int.reduceToNat, forall_eq, IntKind.wrap, IntKind.bits, IntKind.signed, Int.reduceEq, Int.reduceAdd, Int.reduceSub, Int.reduceMul, Int.reduceMod, Int.reduceDiv, Int.reduceTDiv, Int.reducePow, Nat.reducePow, Int.reduceNeg, reduceIte, reduceCtorEq, ge_iff_le, Nat.reduceEqDiff]
  refine call_ret (count326 s c) rfl rfl ?_
  have hc : s.count c ≤ s.length := List.count_le_length
  have hlen := splitL_len c s
  generalize hk : s.count c = k at hc hlen ⊢
  have hw : IntKind.i64.wrap ((k : Int) + 1) = ((k + 1 : Nat) : Int) := by rw [wrap_i64 (by omega) (by omega)]; rfl
  have hw2 : IntKind.i64.wrap ((s.length : Int) + 1) = ((s.length + 1 : Nat) : Int) := by rw [wrap_i64 (by omega) (by omega)]; rfl
  have hmn : (if ((s.length + 1 : Nat) : Int) < ((k + 1 : Nat) : Int) then ((s.length + 1 : Nat) : Int) else ((k + 1 : Nat) : Int)) = ((k + 1 : Nat) : Int) := if_neg (by omega)
  have hw3 : IntKind.i64.wrap (((k + 1 : Nat) : Int) - 1) = (k : Nat) := by rw [wrap_i64 (by omega) (by omega)]; omega
  simp only [hw, hw2, hmn, hw3, forall_eq, Int.toNat_natCast, ↓gos, gop, Nat.reduceBEq, Nat.reduceAdd, Nat.reduceSub, Nat.reduceLeDiff, Nat.reduceMul, Int.reduceLE, Int.reduceLT, Int.reduceNe, Int.reduceToNat]
  repeat (refine chk_i (by omega) ?_)
  rw [show List.replicate (k + 1) [DV.str []] = spN [] (k + 1) by simp [spN, sv]]
  refine goN_lp (γ := List (List UInt8) × List UInt8) (fun g => [(0, .str g.2), (1, .str [c]), (2, .int .i64 0), (3, .int .i64 (k : Nat)), (9, .osl 1 1 0 (k + 1) (some (k + 1))), (10, .int .i64 (g.1.length : Nat))])
    (fun g => [.arr 1 [], .arr 1 (spN g.1 (k + 1))]) (fun g => g.1 ++ splitL c g.2 = splitL c s ∧ g.1.length + g.2.count c = k ∧ g.2.length ≤ s.length) (fun g => k - g.1.length) ([], s)
    (wks rfl (by simp) ⟨rfl, rfl, rfl, rfl, rfl, rfl, trivial⟩) ⟨rfl, by simpa using hk, Nat.le_refl _⟩ fun g hg => ?_
  obtain ⟨done, rest⟩ := g
  obtain ⟨h1, h2, h3⟩ := hg
  simp only at h1 h2 h3
  simp only [f294l0, ↓gos, gop, Nat.reduceBEq, Nat.reduceAdd, Nat.reduceSub, Nat.reduceLeDiff, Nat.reduceMul, Int.reduceLE, Int.reduceLT, Int.reduceNe, Int.reduceToNat]
  refine ⟨fun q1 => ?_, fun q1 => ?_⟩
  · refine call_ret (index121 rest c) rfl rfl ?_
    have hmem : c ∈ rest := List.count_pos_iff.1 (by omega)
    obtain ⟨x, r, rfl, hx⟩ := List.eq_append_cons_of_mem hmem
    have hxl : x.length + (r.length + 1) ≤ s.length := by simpa using h3
    have w1 : IntKind.i64.wrap ((x.length : Int) + 0) = (x.length : Nat) := by rw [Int.add_zero, wrap_i64 (by omega) (by omega)]
    have w2 : IntKind.i64.wrap ((x.length : Int) + 1) = (x.length + 1 : Nat) := by rw [wrap_i64 (by omega) (by omega)]; rfl
    have w3 : IntKind.i64.wrap ((done.length : Int) + 1) = (done.length + 1 : Nat) := by rw [wrap_i64 (by omega) (by omega)]; rfl
    have hneg : ((x.length : Int) < 0) ↔ False := by simp
    simp only [index_app c r x hx, w1, w2, w3, hneg, List.length_singleton, Int.toNat_natCast, forall_eq, ↓gos, gop, Nat.reduceBEq, Nat.reduceAdd, Nat.reduceSub, Nat.reduceLeDiff, Nat.reduceMul, Int.reduceLE, Int.reduceLT, Int.reduceNe, Int.reduceToNat]
    have e1 : List.take x.length (x ++ c :: r) = x := by simp
    have e2 : List.take ((x ++ c :: r).length - (x.length + 1)) (List.drop (x.length + 1) (x ++ c :: r)) = r := by
      rw [List.take_of_length_le (by simp; omega)]; simp
    have hxr : (x ++ c :: r).length = x.length + (r.length + 1) := by simp
    rw [e1, e2]
    refine chk_i (by omega) (chk_i (by omega) ⟨[.str []], spN_get _ _ (by omega), chk_i (by decide) (chk_i (by omega) ?_)⟩)
    refine rnd_s (done ++ [x], r) ?_ (by simp) ⟨rfl, rfl, rfl, rfl, rfl, ?_, trivial⟩ ⟨?_, ?_, ?_⟩ ?_
    · rw [← spN_set _ _ _ (by omega)]; rfl
    · simp [slots]
    · rw [splitL_app c r x hx] at h1
      simpa using h1
    · have : List.count c (x ++ c :: r) = List.count c r + 1 := by
        rw [List.count_append, List.count_eq_zero.2 hx]; simp
      simp only [List.length_append, List.length_singleton]
      omega
    · simp only; omega
    · simp only [List.length_append, List.length_singleton]; omega
  · have hno : c ∉ rest := List.count_eq_zero.1 (by omega)
    rw [splitL_no c rest hno] at h1
    have hdk : done.length = k := by omega
    refine chk_i (by omega) ⟨[.str []], spN_get _ _ (by omega), chk_i (by decide) ?_⟩
    intro v hv
    rw [wrap_i64 (by omega) (by omega)] at hv
    refine chk_i (by omega) (chk_i (by omega) ?_)
    have hvn : v.toNat = k + 1 := by omega
    have e3 : (spN done (k + 1)).set done.length (DV.str rest :: List.drop 1 [DV.str []]) = (splitL c s).map sv := by
      show (spN done (k + 1)).set done.length [DV.str rest] = _
      rw [spN_set _ _ _ (by omega), h1, ← hlen, spN_all]
    rw [e3, hvn, hlen]
    exact end_rowc rfl rfl rfl rfl
theorem split249 (s : List UInt8) (c : UInt8) (hs : s.length < 1000000000) : ACalls ED 249 [] [.str s, .str [c]] (fun h d => h = [.arr 1 ((splitL c s).map sv)] ∧ d = .osl 1 0 0 (splitL c s).length (some (splitL c s).length)) := by
  refine acalls_go c249 (by simp [f249]) ?_
  simp only [f249, ↓gos, gop, Nat.reduceBEq, Nat.reduceAdd, Nat.reduceSub, Nat.reduceLeDiff, Nat.reduceMul, Int.reduceLE, Int.reduceLT, Int.reduceNe, Int.reduceToNat]
  refine call_new (split294 s c hs) (by simp [DV.closed, DV.closed.closedAll]) ?_
  simp only [DV.ren, renO, ↓gos, gop, Nat.reduceBEq, Nat.reduceAdd, Nat.reduceSub, Nat.reduceLeDiff, Nat.reduceMul, Int.reduceLE, Int.reduceLT, Int.reduceNe, Int.reduceToNat]
  exact end_rowc rfl (by simp [sv]) rfl rfl
theorem suf293 (s : List UInt8) (c : UInt8) (hs : s.length < 1000000000) : DRet 293 [.str s, .str [c]] (.bool (decide (s.getLast? = some c))) := by
  refine acalls_go c293 (by simp [f293]) ?_
  simp only [f293, ↓gos, gop, Nat.reduceBEq, Nat.reduceAdd, Nat.reduceSub, Nat.reduceLeDiff, Nat.reduceMul, Int.reduceLE, Int.reduceLT, Int.reduceNe, Int.reduceToNat]
  refine ⟨fun h1 v hv => ?_, fun h1 => ?_⟩
  · rw [wrap_i64 (by omega) (by omega)] at hv
    have hv' : v.toNat = s.length - 1 := by omega
    have hne : s ≠ [] := fun e => by subst e; simp at h1
    obtain ⟨t, a, rfl⟩ : ∃ t a, s = t ++ [a] := ⟨s.dropLast, s.getLast hne, (List.dropLast_concat_getLast hne).symm⟩
    have e1 : List.take ((t ++ [a]).length - v.toNat) (List.drop v.toNat (t ++ [a])) = [a] := by
      rw [hv']; simp
    rw [e1]
    refine chk_i (by omega) (chk_i (by omega) ⟨fun h => endb ?_, fun h => endb ?_⟩)
    · rw [decide_eq_true]; simpa using h
    · rw [decide_eq_false]; simpa using h
  · have : s = [] := List.eq_nil_of_length_eq_zero (by omega)
    subst this
    exact endb rfl
theorem suf251 (s : List UInt8) (c : UInt8) (hs : s.length < 1000000000) : DRet 251 [.str s, .str [c]] (.bool (decide (s.getLast? = some c))) := by
  refine acalls_go c251 (by simp [f251]) ?_
  simp only [f251, ↓gos, gop, Nat.reduceBEq, Nat.reduceAdd, Nat.reduceSub, Nat.reduceLeDiff, Nat.reduceMul, Int.reduceLE, Int.reduceLT, Int.reduceNe, Int.reduceToNat]
  refine call_ret (suf293 s c hs) rfl rfl ?_
  simp only [↓gos, gop, Nat.reduceBEq, Nat.reduceAdd, Nat.reduceSub, Nat.reduceLeDiff, Nat.reduceMul, Int.reduceLE, Int.reduceLT, Int.reduceNe, Int.reduceToNat]
  exact endb rfl
theorem trim248 (s : List UInt8) (hs : s.length < 1000000000) : DRet 248 [.str s, .str [46]] (.str (dropDot s)) := by
  refine acalls_go c248 (by simp [f248]) ?_
  simp only [f248, ↓gos, gop, Nat.reduceBEq, Nat.reduceAdd, Nat.reduceSub, Nat.reduceLeDiff, Nat.reduceMul, Int.reduceLE, Int.reduceLT, Int.reduceNe, Int.reduceToNat]
  refine call_ret (suf293 s 46 hs) rfl rfl ?_
  unfold dropDot
  by_cases h : s.getLast? = some 46
  · have hl : 0 < s.length := by
      cases s with
      | nil => simp at h
      | cons a l => simp
    rw [decide_eq_true h, if_pos h]
    simp only [↓gos, gop, Nat.reduceBEq, Nat.reduceAdd, Nat.reduceSub, Nat.reduceLeDiff, Nat.reduceMul, Int.reduceLE, Int.reduceLT, Int.reduceNe, Int.reduceToNat]
    intro v hv
    rw [wrap_i64 (by omega) (by omega)] at hv
    have hv' : v.toNat = s.length - 1 := by omega
    refine chk_i (by omega) (chk_i (by omega) ?_)
    rw [hv', ← List.dropLast_eq_take]
    exact ends rfl
  · rw [decide_eq_false h, if_neg h]
    simp only [↓gos, gop, Nat.reduceBEq, Nat.reduceAdd, Nat.reduceSub, Nat.reduceLeDiff, Nat.reduceMul, Int.reduceLE, Int.reduceLT, Int.reduceNe, Int.reduceToNat]
    exact ends rfl
theorem trim199 (s : List UInt8) (hs : s.length < 1000000000) : DRet 199 [.str s, .str [46]] (.str (dropDot s)) := by
  refine acalls_go c199 (by simp [f199]) ?_
  simp only [f199, ↓gos, gop, Nat.reduceBEq, Nat.reduceAdd, Nat.reduceSub, Nat.reduceLeDiff, Nat.reduceMul, Int.reduceLE, Int.reduceLT, Int.reduceNe, Int.reduceToNat]
  refine call_ret (trim248 s hs) rfl rfl ?_
  simp only [↓gos, gop, Nat.reduceBEq, Nat.reduceAdd, Nat.reduceSub, Nat.reduceLeDiff, Nat.reduceMul, Int.reduceLE, Int.reduceLT, Int.reduceNe, Int.reduceToNat]
  exact ends rfl
theorem splitL_le (c : UInt8) : ∀ (s : List UInt8) (x : List UInt8), x ∈ splitL c s → x.length ≤ s.length
  | [], x, h => by simp [splitL] at h; simp [h]
  | b :: s, x, h => by
    have ih := splitL_le c s
    unfold splitL at h
    split at h
    · rcases List.mem_cons.1 h with rfl | h
      · simp
      · have := ih x h; simp; omega
    · split at h
      · rename_i h2; exact absurd h2 (splitL_pos c s)
      · rename_i y l h2
        rw [h2] at ih
        rcases List.mem_cons.1 h with rfl | h
        · have := ih y (by simp); simp; omega
        · have := ih x (by simp [h]); simp; omega
theorem take_getD' {α : Type} {l : List α} {i : Nat} (h : i < l.length) (d : α) : l.take (i + 1) = l.take i ++ [l.getD i d] := by
  rw [List.take_add_one, List.getD_eq_getElem?_getD, List.getElem?_eq_getElem h]; rfl
theorem okPart_eq (x : List UInt8) : okPart x = !(decide (x = []) || (List.isPrefixOf [45] x || decide (x.getLast? = some 45))) := by
  cases x with
  | nil => rfl
  | cons a l =>
    simp only [okPart, List.isPrefixOf, Bool.and_true, List.head?_cons, Option.some.injEq, Bool.not_or, reduceCtorEq, decide_false, Bool.not_false, Bool.true_and]
    by_cases h : a = 45
    · subst h; rfl
    · rw [decide_eq_false h, show (45 == a) = false from by simpa using fun e => h e.symm]
theorem right200 (s : List UInt8) (hs : s.length < 1000000000) : DRet 200 [.str s] (.bool ((splitL 46 s).all okPart)) := by
  refine acalls_go c200 (by simp [f200]) ?_
  simp only [f200, ↓gos, gop, Nat.reduceBEq, Nat.reduceAdd, Nat.reduceSub, Nat.reduceLeDiff, Nat.reduceMul, Int.reduceLE, Int.reduceLT, Int.reduceNe, Int.reduceToNat]
  refine call_new (split249 s 46 hs) (by simp [DV.closed, DV.closed.closedAll]) ?_
  simp only [DV.ren, renO, ↓gos, gop, Nat.reduceBEq, Nat.reduceAdd, Nat.reduceSub, Nat.reduceLeDiff, Nat.reduceMul, Int.reduceLE, Int.reduceLT, Int.reduceNe, Int.reduceToNat]
  have hlen := splitL_len 46 s
  have hc : s.count 46 ≤ s.length := List.count_le_length
  refine goN_lp (γ := Nat) (fun i => [(8, .int .i64 i), (7, .int .i64 (splitL 46 s).length), (6, .osl 1 0 0 (splitL 46 s).length (some (splitL 46 s).length))]) (fun _ => [.arr 1 ((splitL 46 s).map sv)])
    (fun i => i ≤ (splitL 46 s).length ∧ ((splitL 46 s).take i).all okPart = true) (fun i => (splitL 46 s).length - i) 0 (wks rfl (by simp) ⟨rfl, rfl, rfl, trivial⟩) ⟨by omega, by simp⟩ fun i hi => ?_
  obtain ⟨hi, ht⟩ := hi
  simp only [f200l0, ↓gos, gop, Nat.reduceBEq, Nat.reduceAdd, Nat.reduceSub, Nat.reduceLeDiff, Nat.reduceMul, Int.reduceLE, Int.reduceLT, Int.reduceNe, Int.reduceToNat]
  have hpl : ∀ x ∈ splitL 46 s, x.length < 1000000000 := fun x hx => Nat.lt_of_le_of_lt (splitL_le 46 s x hx) hs
  generalize splitL 46 s = l at *
  refine ⟨fun h1 => ?_, fun h1 => ?_⟩
  · have h2 : i < l.length := by omega
    refine chk_i (by omega) (optP_at [] h2 ?_)
    have htk := take_getD' h2 []
    have hm : l.getD i [] ∈ l := by rw [List.getD_eq_getElem?_getD, List.getElem?_eq_getElem h2]; exact List.getElem_mem h2
    generalize l.getD i [] = x at *
    have hx := hpl x hm
    have hok := okPart_eq x
    simp only [sv, ↓gos, gop, Nat.reduceBEq, Nat.reduceAdd, Nat.reduceSub, Nat.reduceLeDiff, Nat.reduceMul, Int.reduceLE, Int.reduceLT, Int.reduceNe, Int.reduceToNat]
    have bad : okPart x = false → l.all okPart = false := fun h => by rw [List.all_eq_false]; exact ⟨x, hm, by simp [h]⟩
    refine ⟨fun q => ?_, fun q => ?_⟩
    · rw [bad (by rw [hok, decide_eq_true q]; rfl)]
      exact finE_closed rfl ⟨rfl, rfl⟩
    · rw [decide_eq_false q, Bool.false_or] at hok
      refine call_ret (pre113 x [45] (by omega) (by simp)) rfl rfl ?_
      cases h3 : [45].isPrefixOf x
      · rw [h3, Bool.false_or] at hok
        simp only [↓gos, gop, Nat.reduceBEq, Nat.reduceAdd, Nat.reduceSub, Nat.reduceLeDiff, Nat.reduceMul, Int.reduceLE, Int.reduceLT, Int.reduceNe, Int.reduceToNat]
        refine call_ret (suf251 x 45 hx) rfl rfl ?_
        by_cases h4 : x.getLast? = some 45
        · rw [decide_eq_true h4] at hok ⊢
          simp only [↓gos, gop, Nat.reduceBEq, Nat.reduceAdd, Nat.reduceSub, Nat.reduceLeDiff, Nat.reduceMul, Int.reduceLE, Int.reduceLT, Int.reduceNe, Int.reduceToNat]
          rw [bad hok]
          exact finE_closed rfl ⟨rfl, rfl⟩
        · rw [decide_eq_false h4] at hok ⊢
          simp only [↓gos, gop, Nat.reduceBEq, Nat.reduceAdd, Nat.reduceSub, Nat.reduceLeDiff, Nat.reduceMul, Int.reduceLE, Int.reduceLT, Int.reduceNe, Int.reduceToNat]
          intro v hv
          rw [wrap_i64 (by omega) (by omega)] at hv
          exact rnd_s (i + 1) rfl (by simp) ⟨by show DV.int .i64 v = _; rw [hv]; rfl, rfl, rfl, trivial⟩ ⟨by omega, by rw [htk, List.all_append, ht]; simp [hok]⟩ (by omega)
      · rw [h3] at hok
        simp only [↓gos, gop, Nat.reduceBEq, Nat.reduceAdd, Nat.reduceSub, Nat.reduceLeDiff, Nat.reduceMul, Int.reduceLE, Int.reduceLT, Int.reduceNe, Int.reduceToNat]
        rw [bad hok]
        exact finE_closed rfl ⟨rfl, rfl⟩
  · have : i = l.length := by omega
    subst this
    rw [List.take_length] at ht
    exact endb ht.symm
end Go.Proofs.Ut

/- Addresses: jid.Domain, Parse, Text, Bare. -/
namespace Go.Proofs.Ut
open Go.Ai
set_option maxRecDepth 100000
set_option linter.all false
/-- The parts of an address. -/
def bareR (s : List UInt8) : List UInt8 × Int :=
  bareOf (keptOf (nodeR (if (cut 64 (cut 47 s).1).2.2 then (cut 64 (cut 47 s).1).1 else [])) (cut 64 (cut 47 s).1).2.2 64) (domOf (hostR (if (cut 64 (cut 47 s).1).2.2 then (cut 64 (cut 47 s).1).2.1 else (cut 47 s).1)))
    (keptOf (resR (cut 47 s).2.1) (cut 47 s).2.2 64)
theorem dropDot_le (s : List UInt8) : (dropDot s).length ≤ s.length := by unfold dropDot; split <;> simp
theorem domain159 (s : List UInt8) (hs : s.length < 100000000) (hr : (hostR s).1.length < 1000000000) : SE 159 [.str s] (domOf (hostR s)) := by
  refine acalls_go c159 (by simp [f159]) ?_
  simp only [f159, ↓gos, gop, Nat.reduceBEq, Nat.reduceAdd, Nat.reduceSub, Nat.reduceLeDiff, Nat.reduceMul, Int.reduceLE, Int.reduceLT, Int.reduceNe, Int.reduceToNat]
  refine call_ret (host28 s hs) rfl rfl ?_
  unfold domOf
  generalize hostR s = x at *
  obtain ⟨t, e⟩ := x
  simp only at hr
  simp only [↓gos, gop, Nat.reduceBEq, Nat.reduceAdd, Nat.reduceSub, Nat.reduceLeDiff, Nat.reduceMul, Int.reduceLE, Int.reduceLT, Int.reduceNe, Int.reduceToNat]
  refine ⟨fun h => ?_, fun h => ?_⟩
  · rw [if_pos h]; exact finE_closed rfl ⟨rfl, rfl⟩
  · rw [if_neg (by simpa using h)]
    refine call_ret (trim199 t hr) rfl rfl ?_
    have hd := dropDot_le t
    generalize dropDot t = d at *
    simp only [↓gos, gop, Nat.reduceBEq, Nat.reduceAdd, Nat.reduceSub, Nat.reduceLeDiff, Nat.reduceMul, Int.reduceLE, Int.reduceLT, Int.reduceNe, Int.reduceToNat]
    unfold okDom
    refine ⟨fun q => ?_, fun q => ?_⟩
    · rw [decide_eq_false (by omega)]; exact finE_closed rfl ⟨rfl, rfl⟩
    · rw [decide_eq_true (by omega), Bool.true_and]
      refine call_ret (right200 d (by omega)) rfl rfl ?_
      cases (splitL 46 d).all okPart
      · simp only [↓gos, gop, Nat.reduceBEq, Nat.reduceAdd, Nat.reduceSub, Nat.reduceLeDiff, Nat.reduceMul, Int.reduceLE, Int.reduceLT, Int.reduceNe, Int.reduceToNat]; exact finE_closed rfl ⟨rfl, rfl⟩
      · simp only [↓gos, gop, Nat.reduceBEq, Nat.reduceAdd, Nat.reduceSub, Nat.reduceLeDiff, Nat.reduceMul, Int.reduceLE, Int.reduceLT, Int.reduceNe, Int.reduceToNat]; exact finE_closed rfl ⟨rfl, rfl⟩
theorem kept160 (f : Nat) (r : List UInt8 × Int) (s : List UInt8) (is : Bool) (most : Nat) (hm : most < 1000) (hr : r.1.length < 1000000000) (hf : SE f [.str s] r) : SE 160 [.agg [.str s, .bool is], .fn f [], .int .i64 most] (keptOf r is most) := by
  refine acalls_go c160 (by simp [f160]) ?_
  simp only [f160, ↓gos, gop, Nat.reduceBEq, Nat.reduceAdd, Nat.reduceSub, Nat.reduceLeDiff, Nat.reduceMul, Int.reduceLE, Int.reduceLT, Int.reduceNe, Int.reduceToNat]
  refine call_ret hf rfl rfl ?_
  obtain ⟨t, e⟩ := r
  simp only at hr
  unfold keptOf
  simp only [↓gos, gop, Nat.reduceBEq, Nat.reduceAdd, Nat.reduceSub, Nat.reduceLeDiff, Nat.reduceMul, Int.reduceLE, Int.reduceLT, Int.reduceNe, Int.reduceToNat]
  refine ⟨fun h => ?_, fun h => ?_⟩
  · rw [if_pos h]; exact finE_closed rfl ⟨rfl, rfl⟩
  · obtain rfl : e = 0 := by simpa using h
    rw [if_neg (by simp)]
    cases is
    · rw [if_neg (by simp)]
      simp only [↓gos, gop, Nat.reduceBEq, Nat.reduceAdd, Nat.reduceSub, Nat.reduceLeDiff, Nat.reduceMul, Int.reduceLE, Int.reduceLT, Int.reduceNe, Int.reduceToNat]
      exact finE_closed rfl ⟨rfl, rfl⟩
    · simp only [↓gos, gop, Nat.reduceBEq, Nat.reduceAdd, Nat.reduceSub, Nat.reduceLeDiff, Nat.reduceMul, Int.reduceLE, Int.reduceLT, Int.reduceNe, Int.reduceToNat]
      refine ⟨fun q => ?_, fun q => ⟨fun q2 => ?_, fun q2 => ?_⟩⟩
      · rw [if_pos (.inl q)]; exact finE_closed rfl ⟨rfl, rfl⟩
      · rw [if_pos (.inr (by omega))]; exact finE_closed rfl ⟨rfl, rfl⟩
      · rw [if_neg (fun h => h.elim q (by omega))]; exact finE_closed rfl ⟨rfl, rfl⟩
theorem text123 (l d : List UInt8) (hl : l.length < 1000000000) (hd : d.length < 1000000000) : DRet 123 [.agg [.str l, .str d, .str []]] (.str (if l = [] then d else l ++ 64 :: d)) := by
  refine acalls_go c123 (by simp [f123]) ?_
  simp only [f123, ↓gos, gop, Nat.reduceBEq, Nat.reduceAdd, Nat.reduceSub, Nat.reduceLeDiff, Nat.reduceMul, Int.reduceLE, Int.reduceLT, Int.reduceNe, Int.reduceToNat]
  refine ⟨fun h => ?_, fun h => ?_⟩
  · rw [if_neg h]
    refine chk_i (by omega) (chk_i (by simp; omega) (ends (by simp)))
  · rw [if_pos (by simpa using h)]
    exact ends rfl
theorem parts158 (s : List UInt8) (hs : s.length < 1000000000) : DRet 158 [.str s] (.tup [.agg [.str (if (cut 64 (cut 47 s).1).2.2 then (cut 64 (cut 47 s).1).1 else []), .bool (cut 64 (cut 47 s).1).2.2],
    .str (if (cut 64 (cut 47 s).1).2.2 then (cut 64 (cut 47 s).1).2.1 else (cut 47 s).1), .agg [.str (cut 47 s).2.1, .bool (cut 47 s).2.2]]) := by
  refine acalls_go c158 (by simp [f158]) ?_
  simp only [f158, ↓gos, gop, Nat.reduceBEq, Nat.reduceAdd, Nat.reduceSub, Nat.reduceLeDiff, Nat.reduceMul, Int.reduceLE, Int.reduceLT, Int.reduceNe, Int.reduceToNat]
  refine call_ret (cut112 s 47 (by omega)) rfl rfl ?_
  have hl := cut_len 47 s
  generalize cut 47 s = x at *
  obtain ⟨head, res, has⟩ := x
  simp only at hl
  simp only [↓gos, gop, Nat.reduceBEq, Nat.reduceAdd, Nat.reduceSub, Nat.reduceLeDiff, Nat.reduceMul, Int.reduceLE, Int.reduceLT, Int.reduceNe, Int.reduceToNat]
  refine call_ret (cut112 head 64 (by omega)) rfl rfl ?_
  generalize cut 64 head = x at *
  obtain ⟨l, d, is⟩ := x
  cases is
  · simp only [↓gos, gop, Nat.reduceBEq, Nat.reduceAdd, Nat.reduceSub, Nat.reduceLeDiff, Nat.reduceMul, Int.reduceLE, Int.reduceLT, Int.reduceNe, Int.reduceToNat]
    exact finE_closed rfl ⟨rfl, by simp [rvd]⟩
  · simp only [↓gos, gop, Nat.reduceBEq, Nat.reduceAdd, Nat.reduceSub, Nat.reduceLeDiff, Nat.reduceMul, Int.reduceLE, Int.reduceLT, Int.reduceNe, Int.reduceToNat]
    exact finE_closed rfl ⟨rfl, by simp [rvd]⟩
structure JP where
  l : List UInt8
  d : List UInt8
  r : List UInt8
  e : Int
def parseOf (L D R : List UInt8 × Int) : JP := if D.2 ≠ 0 then ⟨[], [], [], D.2⟩ else if L.2 ≠ 0 then ⟨[], [], [], L.2⟩ else if R.2 ≠ 0 then ⟨[], [], [], R.2⟩ else ⟨L.1, D.1, R.1, 0⟩
def jidR (s : List UInt8) : JP :=
  parseOf (keptOf (nodeR (if (cut 64 (cut 47 s).1).2.2 then (cut 64 (cut 47 s).1).1 else [])) (cut 64 (cut 47 s).1).2.2 64) (domOf (hostR (if (cut 64 (cut 47 s).1).2.2 then (cut 64 (cut 47 s).1).2.1 else (cut 47 s).1)))
    (keptOf (resR (cut 47 s).2.1) (cut 47 s).2.2 64)
def bareR' (p : JP) : List UInt8 × Int := if p.e ≠ 0 then ([], p.e) else if p.r ≠ [] then ([], 14) else (if p.l = [] then p.d else p.l ++ 64 :: p.d, 0)
theorem bare_jid (s : List UInt8) : bareR s = bareR' (jidR s) := by
  unfold bareR jidR bareOf parseOf bareR'
  generalize domOf _ = D
  generalize keptOf _ _ _ = L
  generalize keptOf _ _ _ = R
  by_cases h1 : D.2 = 0
  · by_cases h2 : L.2 = 0
    · by_cases h3 : R.2 = 0
      · simp [h1, h2, h3]
      · simp [h1, h2, h3]
    · simp [h1, h2]
  · simp [h1]
def okJ (s : List UInt8) : Prop := ∀ x : List UInt8, x.length ≤ s.length → (nodeR x).1.length < 1000000000 ∧ (hostR x).1.length < 1000000000 ∧ (resR x).1.length < 1000000000
theorem parse122 (s : List UInt8) (hs : s.length < 100000000) (hb : okJ s) : DRet 122 [.str s] (.tup [.agg [.str (jidR s).l, .str (jidR s).d, .str (jidR s).r], .int .i64 (jidR s).e]) := by
  have hl := cut_len 47 s
  have hl2 := cut_len 64 (cut 47 s).1
  have hp := parts158 s (by omega)
  unfold jidR
  generalize cut 47 s = x at *
  obtain ⟨head, res, has⟩ := x
  simp only at *
  generalize cut 64 head = x at *
  obtain ⟨l, d, is⟩ := x
  simp only at *
  have hln : (if is = true then l else []).length ≤ s.length := by cases is <;> simp; omega
  have hdn : (if is = true then d else head).length ≤ s.length := by cases is <;> simp <;> omega
  generalize (if is = true then l else []) = l at *
  generalize (if is = true then d else head) = d at *
  have cD := domain159 d (by omega) (hb d hdn).2.1
  have cL := kept160 161 (nodeR l) l is 64 (by omega) (hb l hln).1 (node26 l (by omega))
  have cR := kept160 162 (resR res) res has 64 (by omega) (hb res hl.2).2.2 (res30 res (by omega))
  generalize domOf (hostR d) = D at *
  generalize keptOf (nodeR l) is 64 = L at *
  generalize keptOf (resR res) has 64 = R at *
  obtain ⟨D, eD⟩ := D
  obtain ⟨L, eL⟩ := L
  obtain ⟨R, eR⟩ := R
  refine acalls_go c122 (by simp [f122]) ?_
  simp only [f122, ↓gos, gop, Nat.reduceBEq, Nat.reduceAdd, Nat.reduceSub, Nat.reduceLeDiff, Nat.reduceMul, Int.reduceLE, Int.reduceLT, Int.reduceNe, Int.reduceToNat]
  refine call_ret hp rfl rfl ?_
  simp only [↓gos, gop, Nat.reduceBEq, Nat.reduceAdd, Nat.reduceSub, Nat.reduceLeDiff, Nat.reduceMul, Int.reduceLE, Int.reduceLT, Int.reduceNe, Int.reduceToNat]
  refine call_ret cD rfl rfl ?_
  unfold parseOf
  simp only [↓gos, gop, Nat.reduceBEq, Nat.reduceAdd, Nat.reduceSub, Nat.reduceLeDiff, Nat.reduceMul, Int.reduceLE, Int.reduceLT, Int.reduceNe, Int.reduceToNat]
  refine ⟨fun h => ?_, fun h => ?_⟩
  · rw [if_pos h]; exact finE_closed rfl ⟨rfl, rfl⟩
  · rw [if_neg (by simpa using h)]
    refine call_ret cL rfl rfl ?_
    simp only [↓gos, gop, Nat.reduceBEq, Nat.reduceAdd, Nat.reduceSub, Nat.reduceLeDiff, Nat.reduceMul, Int.reduceLE, Int.reduceLT, Int.reduceNe, Int.reduceToNat]
    refine ⟨fun h => ?_, fun h => ?_⟩
    · rw [if_pos h]; exact finE_closed rfl ⟨rfl, rfl⟩
    · rw [if_neg (by simpa using h)]
      refine call_ret cR rfl rfl ?_
      simp only [↓gos, gop, Nat.reduceBEq, Nat.reduceAdd, Nat.reduceSub, Nat.reduceLeDiff, Nat.reduceMul, Int.reduceLE, Int.reduceLT, Int.reduceNe, Int.reduceToNat]
      refine ⟨fun h => ?_, fun h => ?_⟩
      · rw [if_pos h]; exact finE_closed rfl ⟨rfl, rfl⟩
      · rw [if_neg (by simpa using h)]
        exact finE_closed rfl ⟨rfl, rfl⟩
theorem kept_le (x : List UInt8 × Int) (is : Bool) (n : Nat) : (keptOf x is n).1.length ≤ x.1.length := by
  unfold keptOf; split
  · simp
  · split <;> simp
theorem dom_le (x : List UInt8 × Int) : (domOf x).1.length ≤ x.1.length := by
  have := dropDot_le x.1
  unfold domOf; split
  · simp
  · split <;> simp <;> omega
theorem jid_le (s : List UInt8) (hb : okJ s) : (jidR s).l.length < 1000000000 ∧ (jidR s).d.length < 1000000000 := by
  have hl := cut_len 47 s
  have hl2 := cut_len 64 (cut 47 s).1
  unfold jidR
  generalize cut 47 s = x at *
  obtain ⟨head, res, has⟩ := x
  simp only at *
  generalize cut 64 head = x at *
  obtain ⟨l, d, is⟩ := x
  simp only at *
  have hln : (if is = true then l else []).length ≤ s.length := by cases is <;> simp; omega
  have hdn : (if is = true then d else head).length ≤ s.length := by cases is <;> simp <;> omega
  generalize (if is = true then l else []) = l at *
  generalize (if is = true then d else head) = d at *
  have q1 := (hb l hln).1
  have q2 := (hb d hdn).2.1
  have q3 := kept_le (nodeR l) is 64
  have q4 := dom_le (hostR d)
  unfold parseOf
  repeat' split
  all_goals simp
  all_goals omega
theorem bare63 (s : List UInt8) (hs : s.length < 100000000) (hb : okJ s) : SE 63 [.str s] (bareR s) := by
  have hj := jid_le s hb
  have hp := parse122 s hs hb
  rw [bare_jid]
  refine acalls_go c63 (by simp [f63]) ?_
  simp only [f63, ↓gos, gop, Nat.reduceBEq, Nat.reduceAdd, Nat.reduceSub, Nat.reduceLeDiff, Nat.reduceMul, Int.reduceLE, Int.reduceLT, Int.reduceNe, Int.reduceToNat]
  generalize jidR s = p at *
  obtain ⟨l, d, r, e⟩ := p
  refine call_ret hp rfl rfl ?_
  unfold bareR'
  simp only at *
  simp only [↓gos, gop, Nat.reduceBEq, Nat.reduceAdd, Nat.reduceSub, Nat.reduceLeDiff, Nat.reduceMul, Int.reduceLE, Int.reduceLT, Int.reduceNe, Int.reduceToNat]
  refine ⟨fun h => ?_, fun h => ⟨fun h2 => ?_, fun h2 => ?_⟩⟩
  · rw [if_pos h]; exact finE_closed rfl ⟨rfl, rfl⟩
  · rw [if_neg (by simpa using h), if_pos h2]; exact finE_closed rfl ⟨rfl, rfl⟩
  · rw [if_neg (by simpa using h), if_neg (by simpa using h2)]
    obtain rfl : r = [] := by simpa using h2
    refine call_ret (text123 l d hj.1 hj.2) rfl rfl ?_
    simp only [↓gos, gop, Nat.reduceBEq, Nat.reduceAdd, Nat.reduceSub, Nat.reduceLeDiff, Nat.reduceMul, Int.reduceLE, Int.reduceLT, Int.reduceNe, Int.reduceToNat]
    exact finE_closed rfl ⟨rfl, rfl⟩
end Go.Proofs.Ut

/-
  DERIVED: THE SHELF's CONTRACTS AT THIS DUMP, IN PLAIN WORDS (tools/lay-plain.mjs out of 'YVcShelf.lean', which tools/lay-shelf.mjs wrote): THE SAME DECLARATIONS UNDER THE SAME NAMES: 'import', 'namespace', 'open', 'def', 'theorem' AND NOTHING ELSE: no command of the shelf's: FOR A HAND-IN. Each laying: the table of numbers ('.._ren') and one theorem, a field a fact of the dump's own or the kernel's comparison; each contract: ONE APPLICATION.
-/
namespace Go.Proofs
open Go.Shelf
def Tryz.lays158_ren : Go.Shelf.Ren := ⟨fun | 158 => 218 | 165 => 190 | 166 => 174 | 167 => 263 | 169 => 175 | 230 => 264 | 203 => 265 | 240 => 223 | 241 => 229 | 197 => 220 | 118 => 301 | 168 => 302 | 270 => 303 | 262 => 304 | 276 => 274 | 277 => 279 | 260 => 267 | 242 => 328 | 313 => 329 | 278 => 340 | 274 => 268 | 275 => 269 | n => n, fun | 9 => 9 | 4 => 4 | 3 => 3 | 5 => 5 | 72 => 169 | 0 => 0 | 76 => 172 | 75 => 171 | 107 => 212 | 70 => 167 | 20 => 20 | 37 => 47 | 127 => 213 | 21 => 21 | 105 => 210 | 164 => 272 | 162 => 265 | 203 => 330 | 119 => 197 | 46 => 22 | 139 => 200 | 138 => 199 | 51 => 218 | 160 => 263 | 208 => 303 | 206 => 301 | 80 => 174 | n => n, fun | 13 => 5 | 3 => 0 | 4 => 1 | n => n⟩
theorem Tryz.lays158 : Go.Proofs.Lays.n158 Tryz.prog Tryz.lays158_ren := {
  mixed := by kernel_rfl
  f118 := Tryz.func301.trans (congrArg some (by kernel_rfl))
  f158 := Tryz.func218.trans (congrArg some (by kernel_rfl))
  f165 := Tryz.func190.trans (congrArg some (by kernel_rfl))
  f166 := Tryz.func174.trans (congrArg some (by kernel_rfl))
  f167 := Tryz.func263.trans (congrArg some (by kernel_rfl))
  f168 := Tryz.func302.trans (congrArg some (by kernel_rfl))
  f169 := Tryz.func175.trans (congrArg some (by kernel_rfl))
  f197 := Tryz.func220.trans (congrArg some (by kernel_rfl))
  f203 := Tryz.func265.trans (congrArg some (by kernel_rfl))
  f230 := Tryz.func264.trans (congrArg some (by kernel_rfl))
  f240 := Tryz.func223.trans (congrArg some (by kernel_rfl))
  f241 := Tryz.func229.trans (congrArg some (by kernel_rfl))
  f242 := Tryz.func328.trans (congrArg some (by kernel_rfl))
  f260 := Tryz.func267.trans (congrArg some (by kernel_rfl))
  f262 := Tryz.func304.trans (congrArg some (by kernel_rfl))
  f270 := Tryz.func303.trans (congrArg some (by kernel_rfl))
  f274 := Tryz.func268.trans (congrArg some (by kernel_rfl))
  f275 := Tryz.func269.trans (congrArg some (by kernel_rfl))
  f276 := Tryz.func274.trans (congrArg some (by kernel_rfl))
  f277 := Tryz.func279.trans (congrArg some (by kernel_rfl))
  f278 := Tryz.func340.trans (congrArg some (by kernel_rfl))
  f313 := Tryz.func329.trans (congrArg some (by kernel_rfl))
  t0 := Tryz.underlying0
  a0 := Tryz.isAgg0
  z0 := Tryz.sizeOf0
  v0 := Tryz.zeroValue0
  t3 := Tryz.underlying3
  a3 := Tryz.isAgg3
  z3 := Tryz.sizeOf3
  v3 := Tryz.zeroValue3
  t4 := Tryz.underlying4
  a4 := Tryz.isAgg4
  z4 := Tryz.sizeOf4
  v4 := Tryz.zeroValue4
  t5 := Tryz.underlying5
  a5 := Tryz.isAgg5
  z5 := Tryz.sizeOf5
  v5 := Tryz.zeroValue5
  t9 := Tryz.underlying9
  a9 := Tryz.isAgg9
  z9 := Tryz.sizeOf9
  v9 := Tryz.zeroValue9
  t20 := Tryz.underlying20
  a20 := Tryz.isAgg20
  z20 := Tryz.sizeOf20
  v20 := Tryz.zeroValue20
  t21 := Tryz.underlying21
  a21 := Tryz.isAgg21
  z21 := Tryz.sizeOf21
  v21 := Tryz.zeroValue21
  t37 := Tryz.underlying47
  a37 := Tryz.isAgg47
  z37 := Tryz.sizeOf47
  v37 := Tryz.zeroValue47
  t46 := Tryz.underlying22
  a46 := Tryz.isAgg22
  z46 := Tryz.sizeOf22
  v46 := Tryz.zeroValue22
  t51 := Tryz.underlying218
  a51 := Tryz.isAgg218
  z51 := Tryz.sizeOf218
  v51 := Tryz.zeroValue218
  t70 := Tryz.underlying167
  a70 := Tryz.isAgg167
  z70 := Tryz.sizeOf167
  v70 := Tryz.zeroValue167
  t72 := Tryz.underlying169
  a72 := Tryz.isAgg169
  z72 := Tryz.sizeOf169
  v72 := Tryz.zeroValue169
  t75 := Tryz.underlying171
  a75 := Tryz.isAgg171
  z75 := Tryz.sizeOf171
  v75 := Tryz.zeroValue171
  t76 := Tryz.underlying172
  a76 := Tryz.isAgg172
  z76 := Tryz.sizeOf172
  v76 := Tryz.zeroValue172
  t105 := Tryz.underlying210
  a105 := Tryz.isAgg210
  z105 := Tryz.sizeOf210
  v105 := Tryz.zeroValue210
  t107 := Tryz.underlying212
  a107 := Tryz.isAgg212
  z107 := Tryz.sizeOf212
  v107 := Tryz.zeroValue212
  t119 := Tryz.underlying197
  a119 := Tryz.isAgg197
  z119 := Tryz.sizeOf197
  t127 := Tryz.underlying213
  a127 := Tryz.isAgg213
  z127 := Tryz.sizeOf213
  v127 := Tryz.zeroValue213
  t138 := Tryz.underlying199
  a138 := Tryz.isAgg199
  z138 := Tryz.sizeOf199
  v138 := Tryz.zeroValue199
  t139 := Tryz.underlying200
  a139 := Tryz.isAgg200
  z139 := Tryz.sizeOf200
  v139 := Tryz.zeroValue200
  t160 := Tryz.underlying263
  a160 := Tryz.isAgg263
  z160 := Tryz.sizeOf263
  v160 := Tryz.zeroValue263
  t162 := Tryz.underlying265
  a162 := Tryz.isAgg265
  z162 := Tryz.sizeOf265
  v162 := Tryz.zeroValue265
  t164 := Tryz.underlying272
  a164 := Tryz.isAgg272
  z164 := Tryz.sizeOf272
  v164 := Tryz.zeroValue272
  t203 := Tryz.underlying330
  a203 := Tryz.isAgg330
  z203 := Tryz.sizeOf330
  v203 := Tryz.zeroValue330
  t206 := Tryz.underlying301
  a206 := Tryz.isAgg301
  z206 := Tryz.sizeOf301
  v206 := Tryz.zeroValue301
  t208 := Tryz.underlying303
  a208 := Tryz.isAgg303
  z208 := Tryz.sizeOf303
  v208 := Tryz.zeroValue303
  g3 := by kernel_rfl
  g4 := by kernel_rfl
  g13 := by kernel_rfl }
def Tryz.lays239_ren : Go.Shelf.Ren := ⟨fun | 239 => 221 | 274 => 268 | 275 => 269 | n => n, fun | 21 => 21 | 4 => 4 | 3 => 3 | 156 => 259 | 0 => 0 | 49 => 258 | 157 => 260 | 46 => 22 | 159 => 262 | 162 => 265 | 160 => 263 | 208 => 303 | 51 => 218 | 206 => 301 | n => n, fun | 11 => 3 | 12 => 4 | 13 => 5 | n => n⟩
theorem Tryz.lays239 : Go.Proofs.Lays.n239 Tryz.prog Tryz.lays239_ren := {
  mixed := by kernel_rfl
  f239 := Tryz.func221.trans (congrArg some (by kernel_rfl))
  f274 := Tryz.func268.trans (congrArg some (by kernel_rfl))
  f275 := Tryz.func269.trans (congrArg some (by kernel_rfl))
  t0 := Tryz.underlying0
  a0 := Tryz.isAgg0
  z0 := Tryz.sizeOf0
  v0 := Tryz.zeroValue0
  t3 := Tryz.underlying3
  a3 := Tryz.isAgg3
  z3 := Tryz.sizeOf3
  v3 := Tryz.zeroValue3
  t4 := Tryz.underlying4
  a4 := Tryz.isAgg4
  z4 := Tryz.sizeOf4
  v4 := Tryz.zeroValue4
  t21 := Tryz.underlying21
  a21 := Tryz.isAgg21
  z21 := Tryz.sizeOf21
  v21 := Tryz.zeroValue21
  t46 := Tryz.underlying22
  a46 := Tryz.isAgg22
  z46 := Tryz.sizeOf22
  v46 := Tryz.zeroValue22
  t49 := Tryz.underlying258
  a49 := Tryz.isAgg258
  z49 := Tryz.sizeOf258
  v49 := Tryz.zeroValue258
  t51 := Tryz.underlying218
  a51 := Tryz.isAgg218
  z51 := Tryz.sizeOf218
  v51 := Tryz.zeroValue218
  t156 := Tryz.underlying259
  a156 := Tryz.isAgg259
  z156 := Tryz.sizeOf259
  t157 := Tryz.underlying260
  a157 := Tryz.isAgg260
  z157 := Tryz.sizeOf260
  v157 := Tryz.zeroValue260
  t159 := Tryz.underlying262
  a159 := Tryz.isAgg262
  z159 := Tryz.sizeOf262
  v159 := Tryz.zeroValue262
  t160 := Tryz.underlying263
  a160 := Tryz.isAgg263
  z160 := Tryz.sizeOf263
  v160 := Tryz.zeroValue263
  t162 := Tryz.underlying265
  a162 := Tryz.isAgg265
  z162 := Tryz.sizeOf265
  v162 := Tryz.zeroValue265
  t206 := Tryz.underlying301
  a206 := Tryz.isAgg301
  z206 := Tryz.sizeOf301
  v206 := Tryz.zeroValue301
  t208 := Tryz.underlying303
  a208 := Tryz.isAgg303
  z208 := Tryz.sizeOf303
  v208 := Tryz.zeroValue303
  g11 := by kernel_rfl
  g12 := by kernel_rfl
  g13 := by kernel_rfl }
end Go.Proofs
