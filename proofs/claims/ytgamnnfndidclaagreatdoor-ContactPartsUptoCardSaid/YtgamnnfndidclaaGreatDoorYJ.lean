/- The document's prep; awake. -/
import Derived.Test.YtgamnnfndidclaaGreatDoorYPrD
import Derived.Shelf.Lays
import Derived.Ground.NamesProg
import Derived.Test.YtgamnnfndidclaaGreatDoorProg
import Derived.KernelRfl
import Derived.Test.YtgamnnfndidclaaGreatDoorYFoM
import Derived.Test.YtgamnnfndidclaaGreatDoorAiUn
import Derived.Shelf.Strings.Count
open Nat renaming reduceBEq → qA, reduceAdd → qB, reduceSub → qC, reduceLeDiff → qD, reduceMul → qE
open Int renaming reduceLE → qF, reduceLT → qG, reduceNe → qH, reduceToNat → qI
set_option linter.all false
namespace Go.Proofs.Ut
open Go.Ai Classical
set_option linter.unusedSimpArgs false
set_option maxHeartbeats 1000000
set_option maxRecDepth 100000
end Go.Proofs.Ut

/-
  DERIVED: THE SHELF's CONTRACTS AT THIS DUMP, IN PLAIN WORDS (tools/lay-plain.mjs out of 'YRpShelf.lean', which tools/lay-shelf.mjs wrote): THE SAME DECLARATIONS UNDER THE SAME NAMES: 'import', 'namespace', 'open', 'def', 'theorem' AND NOTHING ELSE: no command of the shelf's: FOR A HAND-IN. Each laying: the table of numbers ('.._ren') and one theorem, a field a fact of the dump's own or the kernel's comparison; each contract: ONE APPLICATION.
-/
namespace Go.Proofs
open Go.Shelf
def Tryz.lays138_ren : Go.Shelf.Ren := ⟨fun | 138 => 326 | 195 => 338 | 218 => 339 | 143 => 126 | 219 => 166 | 217 => 212 | 225 => 213 | 224 => 214 | 267 => 215 | 266 => 260 | 314 => 261 | n => n, fun | 9 => 9 | 3 => 3 | 4 => 4 | 5 => 5 | 0 => 0 | 46 => 22 | 146 => 253 | 51 => 218 | n => n, fun | 1 => 2 | n => n⟩
theorem Tryz.lays138 : Go.Proofs.Lays.n138 Tryz.prog Tryz.lays138_ren := {
  mixed := by kernel_rfl
  f138 := Tryz.func326.trans (congrArg some (by kernel_rfl))
  f143 := Tryz.func126.trans (congrArg some (by kernel_rfl))
  f195 := Tryz.func338.trans (congrArg some (by kernel_rfl))
  f217 := Tryz.func212.trans (congrArg some (by kernel_rfl))
  f218 := Tryz.func339.trans (congrArg some (by kernel_rfl))
  f219 := Tryz.func166.trans (congrArg some (by kernel_rfl))
  f224 := Tryz.func214.trans (congrArg some (by kernel_rfl))
  f225 := Tryz.func213.trans (congrArg some (by kernel_rfl))
  f266 := Tryz.func260.trans (congrArg some (by kernel_rfl))
  f267 := Tryz.func215.trans (congrArg some (by kernel_rfl))
  f314 := Tryz.func261.trans (congrArg some (by kernel_rfl))
  t0 := Tryz.underlying0
  a0 := Tryz.isAgg0
  z0 := Tryz.sizeOf0
  v0 := Tryz.zeroValue0
  t3 := Tryz.underlying3
  a3 := Tryz.isAgg3
  z3 := Tryz.sizeOf3
  v3 := Tryz.zeroValue3
  t4 := Tryz.underlying4
  a4 := Tryz.isAgg4
  z4 := Tryz.sizeOf4
  v4 := Tryz.zeroValue4
  t5 := Tryz.underlying5
  a5 := Tryz.isAgg5
  z5 := Tryz.sizeOf5
  v5 := Tryz.zeroValue5
  t9 := Tryz.underlying9
  a9 := Tryz.isAgg9
  z9 := Tryz.sizeOf9
  v9 := Tryz.zeroValue9
  t46 := Tryz.underlying22
  a46 := Tryz.isAgg22
  z46 := Tryz.sizeOf22
  v46 := Tryz.zeroValue22
  t51 := Tryz.underlying218
  a51 := Tryz.isAgg218
  z51 := Tryz.sizeOf218
  v51 := Tryz.zeroValue218
  t146 := Tryz.underlying253
  a146 := Tryz.isAgg253
  z146 := Tryz.sizeOf253
  v146 := Tryz.zeroValue253
  g1 := by kernel_rfl }
end Go.Proofs

/- A text as a value: plain law. -/
namespace Go.Proofs.Ut
def escB (b : UInt8) : List UInt8 := if b = 92 then [92, 92] else if b = 44 then [92, 44] else if b = 59 then [92, 59] else if b = 10 then [92, 110] else if b = 13 then [] else [b]
def valF (s : List UInt8) : List UInt8 := s.flatMap escB
def spB (b : UInt8) : Bool := decide (b = 92) || decide (b = 44) || decide (b = 59) || decide (b = 10) || decide (b = 13)
theorem esc_cases (b : UInt8) : (b = 92 ∨ b = 44 ∨ b = 59 ∨ b = 10 ∨ b = 13) ∨ (spB b = false ∧ escB b = [b] ∧ b.toNat ≠ 92 ∧ b.toNat ≠ 44 ∧ b.toNat ≠ 59 ∧ b.toNat ≠ 10 ∧ b.toNat ≠ 13) := by
  by_cases h1 : b = 92
  · exact .inl (.inl h1)
  by_cases h2 : b = 44
  · exact .inl (.inr (.inl h2))
  by_cases h3 : b = 59
  · exact .inl (.inr (.inr (.inl h3)))
  by_cases h4 : b = 10
  · exact .inl (.inr (.inr (.inr (.inl h4))))
  by_cases h5 : b = 13
  · exact .inl (.inr (.inr (.inr (.inr h5))))
  · have k : ∀ c : UInt8, b ≠ c → b.toNat ≠ c.toNat := fun c h e => h (UInt8.toNat_inj.1 e)
    exact .inr ⟨by simp [spB, h1, h2, h3, h4, h5], by simp [escB, h1, h2, h3, h4, h5], k 92 h1, k 44 h2, k 59 h3, k 10 h4, k 13 h5⟩
theorem escB_len (b : UInt8) : (escB b).length ≤ 2 := by
  unfold escB; repeat' split
  all_goals simp
theorem valF_len : ∀ s : List UInt8, (valF s).length ≤ 2 * s.length
  | [] => Nat.le_refl _
  | b :: s => by
    have h1 := valF_len s
    have h2 := escB_len b
    simp only [valF, List.flatMap_cons, List.length_append, List.length_cons] at *
    omega
theorem value_app (a b : List UInt8) : valF (a ++ b) = valF a ++ valF b := by simp [valF]
theorem take_one (s : List UInt8) (j : Nat) (h : j < s.length) : s.take (j + 1) = s.take j ++ [s.getD j 0] := by
  rw [List.take_add_one, List.getElem?_eq_getElem h, List.getD_eq_getElem?_getD, List.getElem?_eq_getElem h]; rfl
theorem value_next (s : List UInt8) (j : Nat) (h : j < s.length) : valF (s.take (j + 1)) = valF (s.take j) ++ escB (s.getD j 0) := by
  rw [take_one s j h, value_app]; simp [valF]
theorem value_part (s : List UInt8) (j : Nat) : (valF (s.take j)).length ≤ (valF s).length := by
  have : valF s = valF (s.take j) ++ valF (s.drop j) := by rw [← value_app, List.take_append_drop]
  rw [this]; simp
end Go.Proofs.Ut

/- Addresses: plain law. -/
namespace Go.Proofs.Ut
def splitL (c : UInt8) : List UInt8 → List (List UInt8)
  | [] => [[]]
  | b :: s => if b = c then [] :: splitL c s else match splitL c s with
    | [] => [[b]]
    | x :: l => (b :: x) :: l
theorem splitL_no (c : UInt8) : ∀ x : List UInt8, c ∉ x → splitL c x = [x]
  | [], _ => rfl
  | b :: x, h => by
    simp only [List.mem_cons, not_or] at h
    unfold splitL
    rw [if_neg (fun e => h.1 e.symm), splitL_no c x h.2]
theorem splitL_app (c : UInt8) (r : List UInt8) : ∀ x : List UInt8, c ∉ x → splitL c (x ++ c :: r) = x :: splitL c r
  | [], _ => by simp [splitL]
  | b :: x, h => by
    simp only [List.mem_cons, not_or] at h
    rw [List.cons_append]
    conv => lhs; unfold splitL
    rw [if_neg (fun e => h.1 e.symm), splitL_app c r x h.2]
theorem splitL_pos (c : UInt8) (s : List UInt8) : splitL c s ≠ [] := by
  cases s with
  | nil => simp [splitL]
  | cons b s =>
    unfold splitL
    split
    · simp
    · split <;> simp
def okPart (x : List UInt8) : Bool := !decide (x = []) && !decide (x.head? = some 45) && !decide (x.getLast? = some 45)
def dropDot (s : List UInt8) : List UInt8 := if s.getLast? = some 46 then s.dropLast else s
def okDom (d : List UInt8) : Bool := decide (d.length ≤ 100) && (splitL 46 d).all okPart
def domOf (x : List UInt8 × Int) : List UInt8 × Int := if x.2 ≠ 0 then ([], x.2) else if okDom (dropDot x.1) = false then ([], 14) else (dropDot x.1, 0)
def keptOf (x : List UInt8 × Int) (is : Bool) (most : Nat) : List UInt8 × Int := if x.2 ≠ 0 then ([], x.2) else if is = true ∧ (x.1 = [] ∨ most < x.1.length) then ([], 14) else x
def bareOf (L D R : List UInt8 × Int) : List UInt8 × Int := if D.2 ≠ 0 then ([], D.2) else if L.2 ≠ 0 then ([], L.2) else if R.2 ≠ 0 then ([], R.2) else if R.1 ≠ [] then ([], 14) else (if L.1 = [] then D.1 else L.1 ++ 64 :: D.1, 0)
end Go.Proofs.Ut

/- Addresses: strings.Split at one sign; the parts of a domain. -/
namespace Go.Proofs.Ut
open Go.Ai Go.Shelf Go.RowKit
set_option maxRecDepth 100000
set_option linter.all false
theorem count326 (s : List UInt8) (c : UInt8) : DRet 326 [.str s, .str [c]] (.int .i64 (s.count c : Nat)) := by
  refine scal ⟨Tryz.f326, Tryz.func326, by kernel_rfl, by kernel_rfl⟩ fun w ok β vs hl hv => ?_
  obtain ⟨u, v, rfl⟩ := two hl
  obtain rfl := of_str (hv 0 u _ rfl rfl)
  obtain rfl := of_str (hv 1 v _ rfl rfl)
  refine ⟨_, fun _ _ _ => .int _ _, (Any.strings_Count_one Tryz.lays138 ⟨s.toArray⟩ c w).mono ?_⟩
  rintro e w' ⟨rfl, rfl⟩
  exact ⟨rfl, Below.refl _ _⟩
def spN (l : List (List UInt8)) (n : Nat) : List (List DV) := (l ++ List.replicate (n - l.length) []).map sv
theorem index_app (c : UInt8) (r : List UInt8) : ∀ x : List UInt8, c ∉ x → Lib.indexByte (x ++ c :: r) c = x.length
  | [], _ => by simp [Lib.indexByte]
  | b :: x, h => by
    simp only [List.mem_cons, not_or] at h
    rw [List.cons_append]
    unfold Lib.indexByte
    rw [if_neg (by simpa using fun e => h.1 e.symm), index_app c r x h.2, if_neg (by simp)]
    simp
theorem splitL_len (c : UInt8) : ∀ s : List UInt8, (splitL c s).length = s.count c + 1
  | [] => rfl
  | b :: s => by
    have h := splitL_len c s
    unfold splitL
    by_cases e : b = c
    · subst e; simp [h]
    · rw [if_neg e, List.count_cons, if_neg (by simpa using e)]
      split
      · rename_i h2; exact absurd h2 (splitL_pos c s)
      · rename_i x l h2; rw [h2] at h; simpa using h
theorem spN_set (l : List (List UInt8)) (x : List UInt8) (n : Nat) (h : l.length < n) : (spN l n).set l.length [.str x] = spN (l ++ [x]) n := by
  obtain ⟨k, rfl⟩ : ∃ k, n = l.length + (k + 1) := ⟨n - l.length - 1, by omega⟩
  unfold spN
  rw [show l.length + (k + 1) - l.length = k + 1 by omega, show l.length + (k + 1) - (l ++ [x]).length = k by simp; omega]
  simp [sv, List.replicate_succ, List.set_append_right]
theorem spN_get (l : List (List UInt8)) (n : Nat) (h : l.length < n) : (spN l n)[l.length]? = some [.str []] := by
  unfold spN
  rw [List.getElem?_map, List.getElem?_append_right (Nat.le_refl _), Nat.sub_self]
  obtain ⟨k, hk⟩ : ∃ k, n - l.length = k + 1 := ⟨n - l.length - 1, by omega⟩
  rw [hk]; rfl
theorem spN_all (l : List (List UInt8)) : spN l l.length = l.map sv := by simp [spN]
theorem split294 (s : List UInt8) (c : UInt8) (hs : s.length < 1000000000) : ACalls ED 294 [] [.str s, .str [c], .int .i64 0, .int .i64 (-1)] (fun h d => h = [.arr 1 ((splitL c s).map sv)] ∧ d = .osl 1 0 0 (splitL c s).length (some (splitL c s).length)) := by
  refine acalls_go c294 (by simp [f294]) ?_
  simp only [f294, ↓gos, gop, qA, qB, qC, qD, qE, qF, qG, qH, qI, forall_eq, IntKind.wrap, IntKind.bits, IntKind.signed, Int.reduceEq, Int.reduceAdd, Int.reduceSub, Int.reduceMul, Int.reduceMod, Int.reduceDiv, Int.reduceTDiv, Int.reducePow, Nat.reducePow, Int.reduceNeg, reduceIte, reduceCtorEq, ge_iff_le, Nat.reduceEqDiff]
  refine call_ret (count326 s c) rfl rfl ?_
  have hc : s.count c ≤ s.length := List.count_le_length
  have hlen := splitL_len c s
  generalize hk : s.count c = k at hc hlen ⊢
  have hw : IntKind.i64.wrap ((k : Int) + 1) = ((k + 1 : Nat) : Int) := by rw [wrap_i64 (by omega) (by omega)]; rfl
  have hw2 : IntKind.i64.wrap ((s.length : Int) + 1) = ((s.length + 1 : Nat) : Int) := by rw [wrap_i64 (by omega) (by omega)]; rfl
  have hmn : (if ((s.length + 1 : Nat) : Int) < ((k + 1 : Nat) : Int) then ((s.length + 1 : Nat) : Int) else ((k + 1 : Nat) : Int)) = ((k + 1 : Nat) : Int) := if_neg (by omega)
  have hw3 : IntKind.i64.wrap (((k + 1 : Nat) : Int) - 1) = (k : Nat) := by rw [wrap_i64 (by omega) (by omega)]; omega
  simp only [hw, hw2, hmn, hw3, forall_eq, Int.toNat_natCast, ↓gos, gop, qA, qB, qC, qD, qE, qF, qG, qH, qI]
  repeat (refine chk_i (by omega) ?_)
  rw [show List.replicate (k + 1) [DV.str []] = spN [] (k + 1) by simp [spN, sv]]
  refine goN_lp (γ := List (List UInt8) × List UInt8) (fun g => [(0, .str g.2), (1, .str [c]), (2, .int .i64 0), (3, .int .i64 (k : Nat)), (9, .osl 1 1 0 (k + 1) (some (k + 1))), (10, .int .i64 (g.1.length : Nat))])
    (fun g => [.arr 1 [], .arr 1 (spN g.1 (k + 1))]) (fun g => g.1 ++ splitL c g.2 = splitL c s ∧ g.1.length + g.2.count c = k ∧ g.2.length ≤ s.length) (fun g => k - g.1.length) ([], s)
    (wks rfl (by simp) ⟨rfl, rfl, rfl, rfl, rfl, rfl, trivial⟩) ⟨rfl, by simpa using hk, Nat.le_refl _⟩ fun g hg => ?_
  obtain ⟨done, rest⟩ := g
  obtain ⟨h1, h2, h3⟩ := hg
  simp only at h1 h2 h3
  simp only [f294l0, ↓gos, gop, qA, qB, qC, qD, qE, qF, qG, qH, qI]
  refine ⟨fun q1 => ?_, fun q1 => ?_⟩
  · refine call_ret (index121 rest c) rfl rfl ?_
    have hmem : c ∈ rest := List.count_pos_iff.1 (by omega)
    obtain ⟨x, r, rfl, hx⟩ := List.eq_append_cons_of_mem hmem
    have hxl : x.length + (r.length + 1) ≤ s.length := by simpa using h3
    have w1 : IntKind.i64.wrap ((x.length : Int) + 0) = (x.length : Nat) := by rw [Int.add_zero, wrap_i64 (by omega) (by omega)]
    have w2 : IntKind.i64.wrap ((x.length : Int) + 1) = (x.length + 1 : Nat) := by rw [wrap_i64 (by omega) (by omega)]; rfl
    have w3 : IntKind.i64.wrap ((done.length : Int) + 1) = (done.length + 1 : Nat) := by rw [wrap_i64 (by omega) (by omega)]; rfl
    have hneg : ((x.length : Int) < 0) ↔ False := by simp
    simp only [index_app c r x hx, w1, w2, w3, hneg, List.length_singleton, Int.toNat_natCast, forall_eq, ↓gos, gop, qA, qB, qC, qD, qE, qF, qG, qH, qI]
    have e1 : List.take x.length (x ++ c :: r) = x := by simp
    have e2 : List.take ((x ++ c :: r).length - (x.length + 1)) (List.drop (x.length + 1) (x ++ c :: r)) = r := by
      rw [List.take_of_length_le (by simp; omega)]; simp
    have hxr : (x ++ c :: r).length = x.length + (r.length + 1) := by simp
    rw [e1, e2]
    refine chk_i (by omega) (chk_i (by omega) ⟨[.str []], spN_get _ _ (by omega), chk_i (by decide) (chk_i (by omega) ?_)⟩)
    refine rnd_s (done ++ [x], r) ?_ (by simp) ⟨rfl, rfl, rfl, rfl, rfl, ?_, trivial⟩ ⟨?_, ?_, ?_⟩ ?_
    · rw [← spN_set _ _ _ (by omega)]; rfl
    · simp [slots]
    · rw [splitL_app c r x hx] at h1
      simpa using h1
    · have : List.count c (x ++ c :: r) = List.count c r + 1 := by
        rw [List.count_append, List.count_eq_zero.2 hx]; simp
      simp only [List.length_append, List.length_singleton]
      omega
    · simp only; omega
    · simp only [List.length_append, List.length_singleton]; omega
  · have hno : c ∉ rest := List.count_eq_zero.1 (by omega)
    rw [splitL_no c rest hno] at h1
    have hdk : done.length = k := by omega
    refine chk_i (by omega) ⟨[.str []], spN_get _ _ (by omega), chk_i (by decide) ?_⟩
    intro v hv
    rw [wrap_i64 (by omega) (by omega)] at hv
    refine chk_i (by omega) (chk_i (by omega) ?_)
    have hvn : v.toNat = k + 1 := by omega
    have e3 : (spN done (k + 1)).set done.length (DV.str rest :: List.drop 1 [DV.str []]) = (splitL c s).map sv := by
      show (spN done (k + 1)).set done.length [DV.str rest] = _
      rw [spN_set _ _ _ (by omega), h1, ← hlen, spN_all]
    rw [e3, hvn, hlen]
    exact end_rowc rfl rfl rfl rfl
theorem split249 (s : List UInt8) (c : UInt8) (hs : s.length < 1000000000) : ACalls ED 249 [] [.str s, .str [c]] (fun h d => h = [.arr 1 ((splitL c s).map sv)] ∧ d = .osl 1 0 0 (splitL c s).length (some (splitL c s).length)) := by
  refine acalls_go c249 (by simp [f249]) ?_
  simp only [f249, ↓gos, gop, qA, qB, qC, qD, qE, qF, qG, qH, qI]
  refine call_new (split294 s c hs) (by simp [DV.closed, DV.closed.closedAll]) ?_
  simp only [DV.ren, renO, ↓gos, gop, qA, qB, qC, qD, qE, qF, qG, qH, qI]
  exact end_rowc rfl (by simp [sv]) rfl rfl
theorem suf293 (s : List UInt8) (c : UInt8) (hs : s.length < 1000000000) : DRet 293 [.str s, .str [c]] (.bool (decide (s.getLast? = some c))) := by
  refine acalls_go c293 (by simp [f293]) ?_
  simp only [f293, ↓gos, gop, qA, qB, qC, qD, qE, qF, qG, qH, qI]
  refine ⟨fun h1 v hv => ?_, fun h1 => ?_⟩
  · rw [wrap_i64 (by omega) (by omega)] at hv
    have hv' : v.toNat = s.length - 1 := by omega
    have hne : s ≠ [] := fun e => by subst e; simp at h1
    obtain ⟨t, a, rfl⟩ : ∃ t a, s = t ++ [a] := ⟨s.dropLast, s.getLast hne, (List.dropLast_concat_getLast hne).symm⟩
    have e1 : List.take ((t ++ [a]).length - v.toNat) (List.drop v.toNat (t ++ [a])) = [a] := by
      rw [hv']; simp
    rw [e1]
    refine chk_i (by omega) (chk_i (by omega) ⟨fun h => endb ?_, fun h => endb ?_⟩)
    · rw [decide_eq_true]; simpa using h
    · rw [decide_eq_false]; simpa using h
  · have : s = [] := List.eq_nil_of_length_eq_zero (by omega)
    subst this
    exact endb rfl
theorem suf251 (s : List UInt8) (c : UInt8) (hs : s.length < 1000000000) : DRet 251 [.str s, .str [c]] (.bool (decide (s.getLast? = some c))) := by
  refine acalls_go c251 (by simp [f251]) ?_
  simp only [f251, ↓gos, gop, qA, qB, qC, qD, qE, qF, qG, qH, qI]
  refine call_ret (suf293 s c hs) rfl rfl ?_
  simp only [↓gos, gop, qA, qB, qC, qD, qE, qF, qG, qH, qI]
  exact endb rfl
theorem trim248 (s : List UInt8) (hs : s.length < 1000000000) : DRet 248 [.str s, .str [46]] (.str (dropDot s)) := by
  refine acalls_go c248 (by simp [f248]) ?_
  simp only [f248, ↓gos, gop, qA, qB, qC, qD, qE, qF, qG, qH, qI]
  refine call_ret (suf293 s 46 hs) rfl rfl ?_
  unfold dropDot
  by_cases h : s.getLast? = some 46
  · have hl : 0 < s.length := by
      cases s with
      | nil => simp at h
      | cons a l => simp
    rw [decide_eq_true h, if_pos h]
    simp only [↓gos, gop, qA, qB, qC, qD, qE, qF, qG, qH, qI]
    intro v hv
    rw [wrap_i64 (by omega) (by omega)] at hv
    have hv' : v.toNat = s.length - 1 := by omega
    refine chk_i (by omega) (chk_i (by omega) ?_)
    rw [hv', ← List.dropLast_eq_take]
    exact ends rfl
  · rw [decide_eq_false h, if_neg h]
    simp only [↓gos, gop, qA, qB, qC, qD, qE, qF, qG, qH, qI]
    exact ends rfl
theorem trim199 (s : List UInt8) (hs : s.length < 1000000000) : DRet 199 [.str s, .str [46]] (.str (dropDot s)) := by
  refine acalls_go c199 (by simp [f199]) ?_
  simp only [f199, ↓gos, gop, qA, qB, qC, qD, qE, qF, qG, qH, qI]
  refine call_ret (trim248 s hs) rfl rfl ?_
  simp only [↓gos, gop, qA, qB, qC, qD, qE, qF, qG, qH, qI]
  exact ends rfl
theorem splitL_le (c : UInt8) : ∀ (s : List UInt8) (x : List UInt8), x ∈ splitL c s → x.length ≤ s.length
  | [], x, h => by simp [splitL] at h; simp [h]
  | b :: s, x, h => by
    have ih := splitL_le c s
    unfold splitL at h
    split at h
    · rcases List.mem_cons.1 h with rfl | h
      · simp
      · have := ih x h; simp; omega
    · split at h
      · rename_i h2; exact absurd h2 (splitL_pos c s)
      · rename_i y l h2
        rw [h2] at ih
        rcases List.mem_cons.1 h with rfl | h
        · have := ih y (by simp); simp; omega
        · have := ih x (by simp [h]); simp; omega
theorem take_getD' {α : Type} {l : List α} {i : Nat} (h : i < l.length) (d : α) : l.take (i + 1) = l.take i ++ [l.getD i d] := by
  rw [List.take_add_one, List.getD_eq_getElem?_getD, List.getElem?_eq_getElem h]; rfl
theorem okPart_eq (x : List UInt8) : okPart x = !(decide (x = []) || (List.isPrefixOf [45] x || decide (x.getLast? = some 45))) := by
  cases x with
  | nil => rfl
  | cons a l =>
    simp only [okPart, List.isPrefixOf, Bool.and_true, List.head?_cons, Option.some.injEq, Bool.not_or, reduceCtorEq, decide_false, Bool.not_false, Bool.true_and]
    by_cases h : a = 45
    · subst h; rfl
    · rw [decide_eq_false h, show (45 == a) = false from by simpa using fun e => h e.symm]
theorem right200 (s : List UInt8) (hs : s.length < 1000000000) : DRet 200 [.str s] (.bool ((splitL 46 s).all okPart)) := by
  refine acalls_go c200 (by simp [f200]) ?_
  simp only [f200, ↓gos, gop, qA, qB, qC, qD, qE, qF, qG, qH, qI]
  refine call_new (split249 s 46 hs) (by simp [DV.closed, DV.closed.closedAll]) ?_
  simp only [DV.ren, renO, ↓gos, gop, qA, qB, qC, qD, qE, qF, qG, qH, qI]
  have hlen := splitL_len 46 s
  have hc : s.count 46 ≤ s.length := List.count_le_length
  refine goN_lp (γ := Nat) (fun i => [(8, .int .i64 i), (7, .int .i64 (splitL 46 s).length), (6, .osl 1 0 0 (splitL 46 s).length (some (splitL 46 s).length))]) (fun _ => [.arr 1 ((splitL 46 s).map sv)])
    (fun i => i ≤ (splitL 46 s).length ∧ ((splitL 46 s).take i).all okPart = true) (fun i => (splitL 46 s).length - i) 0 (wks rfl (by simp) ⟨rfl, rfl, rfl, trivial⟩) ⟨by omega, by simp⟩ fun i hi => ?_
  obtain ⟨hi, ht⟩ := hi
  simp only [f200l0, ↓gos, gop, qA, qB, qC, qD, qE, qF, qG, qH, qI]
  have hpl : ∀ x ∈ splitL 46 s, x.length < 1000000000 := fun x hx => Nat.lt_of_le_of_lt (splitL_le 46 s x hx) hs
  generalize splitL 46 s = l at *
  refine ⟨fun h1 => ?_, fun h1 => ?_⟩
  · have h2 : i < l.length := by omega
    refine chk_i (by omega) (optP_at [] h2 ?_)
    have htk := take_getD' h2 []
    have hm : l.getD i [] ∈ l := by rw [List.getD_eq_getElem?_getD, List.getElem?_eq_getElem h2]; exact List.getElem_mem h2
    generalize l.getD i [] = x at *
    have hx := hpl x hm
    have hok := okPart_eq x
    simp only [sv, ↓gos, gop, qA, qB, qC, qD, qE, qF, qG, qH, qI]
    have bad : okPart x = false → l.all okPart = false := fun h => by rw [List.all_eq_false]; exact ⟨x, hm, by simp [h]⟩
    refine ⟨fun q => ?_, fun q => ?_⟩
    · rw [bad (by rw [hok, decide_eq_true q]; rfl)]
      exact finE_closed rfl ⟨rfl, rfl⟩
    · rw [decide_eq_false q, Bool.false_or] at hok
      refine call_ret (pre113 x [45] (by omega) (by simp)) rfl rfl ?_
      cases h3 : [45].isPrefixOf x
      · rw [h3, Bool.false_or] at hok
        simp only [↓gos, gop, qA, qB, qC, qD, qE, qF, qG, qH, qI]
        refine call_ret (suf251 x 45 hx) rfl rfl ?_
        by_cases h4 : x.getLast? = some 45
        · rw [decide_eq_true h4] at hok ⊢
          simp only [↓gos, gop, qA, qB, qC, qD, qE, qF, qG, qH, qI]
          rw [bad hok]
          exact finE_closed rfl ⟨rfl, rfl⟩
        · rw [decide_eq_false h4] at hok ⊢
          simp only [↓gos, gop, qA, qB, qC, qD, qE, qF, qG, qH, qI]
          intro v hv
          rw [wrap_i64 (by omega) (by omega)] at hv
          exact rnd_s (i + 1) rfl (by simp) ⟨by show DV.int .i64 v = _; rw [hv]; rfl, rfl, rfl, trivial⟩ ⟨by omega, by rw [htk, List.all_append, ht]; simp [hok]⟩ (by omega)
      · rw [h3] at hok
        simp only [↓gos, gop, qA, qB, qC, qD, qE, qF, qG, qH, qI]
        rw [bad hok]
        exact finE_closed rfl ⟨rfl, rfl⟩
  · have : i = l.length := by omega
    subst this
    rw [List.take_length] at ht
    exact endb ht.symm
end Go.Proofs.Ut
