/- strings.Replacer as fold.Value lays it: five bytes, each with its replacement. -/
import Derived.Test.YtbnmhlienklfpaaGreatDoorZFunsR
import Derived.Test.YtbnmhlienklfpaaGreatDoorZOnce3
import Derived.Test.YtbnmhlienklfpaaGreatDoorZFoD
import Derived.KernelRfl
set_option linter.all false
namespace Go.Proofs.Ut
open Go.Ai
set_option maxRecDepth 100000
set_option linter.all false
def ON : List (List DV) := [[.str [92]], [.str [92, 92]], [.str [44]], [.str [92, 44]], [.str [59]], [.str [92, 59]], [.str [10]], [.str [92, 110]], [.str [13]], [.str []]]
/-- A table of 256 cells, and one more. -/
def tb (f : Nat → DV) : List DV := (List.range 257).map f
def up1 (f : Nat → DV) (o : Nat) (d : DV) (i : Nat) : DV := if i = o then d else f i
theorem tb_rep (d : DV) : List.replicate 257 d = tb fun _ => d := by
  unfold tb
  rw [List.map_const', List.length_range]
theorem tb_len (f : Nat → DV) : (tb f).length = 257 := by simp [tb]
theorem tb_drop (f : Nat → DV) : (tb f).drop 257 = [] := List.drop_of_length_le (by rw [tb_len]; exact Nat.le_refl _)
theorem tb_get (f : Nat → DV) {i : Nat} (h : i ≤ 256) : (tb f)[i]? = some (f i) := by simp [tb, Nat.lt_succ_iff.2 h]
theorem tb_put (f : Nat → DV) {o : Nat} (d : DV) (h : o ≤ 256) : (tb f).take o ++ [d] ++ (tb f).drop (o + 1) = tb (up1 f o d) := by
  have e : (tb f).set o d = (tb f).take o ++ d :: (tb f).drop (o + 1) := by rw [List.set_eq_take_append_cons_drop, if_pos (by rw [tb_len]; omega)]
  rw [List.append_assoc, List.singleton_append, ← e]
  refine List.ext_getElem? fun i => ?_
  rw [List.getElem?_set, tb_len]
  by_cases e : o = i
  · subst e; rw [if_pos rfl, if_pos (by omega), tb_get _ h]; simp [up1]
  · rw [if_neg e]
    by_cases hi : i ≤ 256
    · rw [tb_get _ hi, tb_get _ hi]; simp [up1, Ne.symm e]
    · rw [List.getElem?_eq_none (by rw [tb_len]; omega), List.getElem?_eq_none (by rw [tb_len]; omega)]
theorem tb_all (p : DV → Bool) (f : Nat → DV) (h : ∀ i, p (f i) = true) : (tb f).all p = true := by simp [tb, h]
def noNil : DV → Bool
  | .nils _ => false
  | _ => true
theorem own_no : ∀ (l : List DV) (h : List AObj), l.all noNil = true → ownCells l h = (l, h)
  | [], h, _ => rfl
  | d :: l, h, ha => by
    simp only [List.all_cons, Bool.and_eq_true] at ha
    have e : ownCell d h = (d, h) := by cases d <;> first | rfl | cases ha.1
    simp only [ownCells, e, own_no l h ha.2]
theorem ocP_tb (f : Nat → DV) (hf : ∀ i, noNil (f i) = true) (h : List AObj) (K : List DV → List AObj → Prop) : ocP (tb f) h K = K (tb f) h := by
  unfold ocP
  rw [own_no _ _ (tb_all noNil f hf)]
theorem b13 : bt [13] 0 = 13 := rfl
theorem b10 : bt [10] 0 = 10 := rfl
theorem b59 : bt [59] 0 = 59 := rfl
theorem b44 : bt [44] 0 = 44 := rfl
theorem b92 : bt [92] 0 = 92 := rfl
def T0 : Nat → DV := fun _ => .emp true 1
def tabG (tr p92 p44 p59 p10 : Nat) (i : Nat) : DV :=
  if i = 256 then .osl 1 tr 0 5 (some 5) else if i = 92 then .osl 1 p92 0 2 none else if i = 44 then .osl 1 p44 0 2 none else if i = 59 then .osl 1 p59 0 2 none
  else if i = 10 then .osl 1 p10 0 2 none else if i = 13 then .emp false 1 else .emp true 1
theorem tb_map (f : Nat → DV) (g : DV → DV) : (tb f).map g = tb fun i => g (f i) := by simp [tb]
theorem tabG_all (p : DV → Bool) (tr p92 p44 p59 p10 : Nat) (h1 : p (.osl 1 tr 0 5 (some 5)) = true) (h2 : p (.osl 1 p92 0 2 none) = true) (h3 : p (.osl 1 p44 0 2 none) = true) (h4 : p (.osl 1 p59 0 2 none) = true)
    (h5 : p (.osl 1 p10 0 2 none) = true) (h6 : p (.emp false 1) = true) (h7 : p (.emp true 1) = true) : (tb (tabG tr p92 p44 p59 p10)).all p = true := by
  refine tb_all _ _ fun i => ?_
  unfold tabG
  repeat' split
  all_goals assumption
theorem tabG_ren (ρ : Nat → Nat) (tr p92 p44 p59 p10 : Nat) : (tb (tabG tr p92 p44 p59 p10)).map (DV.ren ρ) = tb (tabG (ρ tr) (ρ p92) (ρ p44) (ρ p59) (ρ p10)) := by
  rw [tb_map]
  congr 1
  funext i
  unfold tabG
  repeat' split
  all_goals rfl
def byB (bs : List UInt8) : List (List DV) := bs.map fun b => [.int .u8 b.toNat]
/-- The rows that the table's cells lead to. -/
def RR : List AObj := [.arr 1 [[.str [13]], [.str [10]], [.str [59]], [.str [44]], [.str [92]]], .arr 1 (byB [92, 110]), .arr 1 (byB [92, 59]), .arr 1 (byB [92, 44]), .arr 1 (byB [92, 92])]
set_option maxHeartbeats 4000000 in
theorem build94 : ACalls ED 94 [.box [.int .u32 0, .int .i32 1, .int .u32 0, .nili, .osl 1 1 0 10 none], .arr 1 ON] [.ptr 0 0] 
    (fun h' d => h' = .box [.int .u32 0, .int .i32 1, .int .u32 0, .nili, .osl 1 1 0 10 none] :: .arr 1 ON :: .box (tb (tabG 3 7 6 5 4)) :: RR ∧ d = .ifc 179 [.ptr 2 0]) := by
  refine acalls_go c94 (by simp [f94]) ?_
  simp only [f94, forall_eq, IntKind.wrap, IntKind.bits, IntKind.signed, Int.reduceEq, Int.reduceAdd, Int.reduceSub, Int.reduceMul, Int.reduceMod, Int.reduceDiv, Int.reduceTDiv, Int.reducePow, Nat.reducePow, Int.reduceNeg, reduceIte, reduceCtorEq, ge_iff_le, Nat.reduceEqDiff, ↓gos, gop, Nat.reduceBEq, Nat.reduceAdd, Nat.reduceSub, Nat.reduceLeDiff, Nat.reduceMul, Int.reduceLE, Int.reduceLT, Int.reduceNe, Int.reduceToNat]
  refine goN_un 6 ?_
  simp only [f94l0, ON, forall_eq, IntKind.wrap, IntKind.bits, IntKind.signed, Int.reduceEq, Int.reduceAdd, Int.reduceSub, Int.reduceMul, Int.reduceMod, Int.reduceDiv, Int.reduceTDiv, Int.reducePow, Nat.reducePow, Int.reduceNeg, reduceIte, reduceCtorEq, ge_iff_le, Nat.reduceEqDiff, ↓gos, gop, Nat.reduceBEq, Nat.reduceAdd, Nat.reduceSub, Nat.reduceLeDiff, Nat.reduceMul, Int.reduceLE, Int.reduceLT, Int.reduceNe, Int.reduceToNat]
  iterate 5 (refine un_go ?_; simp only [f94l0, forall_eq, IntKind.wrap, IntKind.bits, IntKind.signed, Int.reduceEq, Int.reduceAdd, Int.reduceSub, Int.reduceMul, Int.reduceMod, Int.reduceDiv, Int.reduceTDiv, Int.reducePow, Nat.reducePow, Int.reduceNeg, reduceIte, reduceCtorEq, ge_iff_le, Nat.reduceEqDiff, ↓gos, gop, Nat.reduceBEq, Nat.reduceAdd, Nat.reduceSub, Nat.reduceLeDiff, Nat.reduceMul, Int.reduceLE, Int.reduceLT, Int.reduceNe, Int.reduceToNat])
  have o0 : ∀ h K, ocP (tb T0) h K = K (tb T0) h := fun h K => ocP_tb _ (fun _ => rfl) h K
  have n1 : ∀ i, noNil (up1 T0 256 (.osl 1 2 0 0 (some 5)) i) = true := fun i => by unfold up1; split <;> rfl
  have o1 : ∀ h K, ocP (tb (up1 T0 256 (.osl 1 2 0 0 (some 5)))) h K = K (tb (up1 T0 256 (.osl 1 2 0 0 (some 5)))) h := fun h K => ocP_tb _ n1 h K
  have a1 : (tb (up1 T0 256 (.osl 1 2 0 0 (some 5)))).all DV.one = true := tb_all _ _ fun i => by unfold up1; split <;> rfl
  have r5 : List.replicate 5 [DV.str []] = [[.str []], [.str []], [.str []], [.str []], [.str []]] := rfl
  have e0 : List.replicate 257 (DV.emp true 1) = tb T0 := tb_rep _
  have e1 : (tb T0).take 256 ++ [.osl 1 2 0 0 (some 5)] ++ (tb T0).drop 257 = tb (up1 T0 256 (.osl 1 2 0 0 (some 5))) := tb_put _ _ (by omega)
  rw [tb_drop, List.append_nil] at e1
  simp only [e0, e1, o0, o1, a1, tb_len, tb_drop, forall_eq, IntKind.wrap, IntKind.bits, IntKind.signed, Int.reduceEq, Int.reduceAdd, Int.reduceSub, Int.reduceMul, Int.reduceMod, Int.reduceDiv, Int.reduceTDiv, Int.reducePow, Nat.reducePow, Int.reduceNeg, reduceIte, reduceCtorEq, ge_iff_le, Nat.reduceEqDiff, ↓gos, gop, Nat.reduceBEq, Nat.reduceAdd, Nat.reduceSub, Nat.reduceLeDiff, Nat.reduceMul, Int.reduceLE, Int.reduceLT, Int.reduceNe, Int.reduceToNat]
  refine goN_un 6 ?_
  simp only [f94l3, tb_get, tb_put, tb_len, knm_emp, up1, T0, b13, b10, b59, b44, b92, r5, forall_eq, IntKind.wrap, IntKind.bits, IntKind.signed, Int.reduceEq, Int.reduceAdd, Int.reduceSub, Int.reduceMul, Int.reduceMod, Int.reduceDiv, Int.reduceTDiv, Int.reducePow, Nat.reducePow, Int.reduceNeg, reduceIte, reduceCtorEq, ge_iff_le, Nat.reduceEqDiff, ↓gos, gop, Nat.reduceBEq, Nat.reduceAdd, Nat.reduceSub, Nat.reduceLeDiff, Nat.reduceMul, Int.reduceLE, Int.reduceLT, Int.reduceNe, Int.reduceToNat]
  refine .inr ⟨_, rfl, by simp, [13], rfl, ?_⟩
  refine s2b_emp ?_
  simp only [tb_get, tb_put, tb_len, knm_emp, up1, T0, b13, b10, b59, b44, b92, r5, forall_eq, IntKind.wrap, IntKind.bits, IntKind.signed, Int.reduceEq, Int.reduceAdd, Int.reduceSub, Int.reduceMul, Int.reduceMod, Int.reduceDiv, Int.reduceTDiv, Int.reducePow, Nat.reducePow, Int.reduceNeg, reduceIte, reduceCtorEq, ge_iff_le, Nat.reduceEqDiff, ↓gos, gop, Nat.reduceBEq, Nat.reduceAdd, Nat.reduceSub, Nat.reduceLeDiff, Nat.reduceMul, Int.reduceLE, Int.reduceLT, Int.reduceNe, Int.reduceToNat]
  refine un_go ?_
  simp only [f94l3, tb_get, tb_put, tb_len, knm_emp, up1, T0, b13, b10, b59, b44, b92, r5, forall_eq, IntKind.wrap, IntKind.bits, IntKind.signed, Int.reduceEq, Int.reduceAdd, Int.reduceSub, Int.reduceMul, Int.reduceMod, Int.reduceDiv, Int.reduceTDiv, Int.reducePow, Nat.reducePow, Int.reduceNeg, reduceIte, reduceCtorEq, ge_iff_le, Nat.reduceEqDiff, ↓gos, gop, Nat.reduceBEq, Nat.reduceAdd, Nat.reduceSub, Nat.reduceLeDiff, Nat.reduceMul, Int.reduceLE, Int.reduceLT, Int.reduceNe, Int.reduceToNat]
  refine .inr ⟨_, rfl, by simp, [10], rfl, ?_⟩
  refine s2b_osl ?_
  simp only [tb_get, tb_put, tb_len, knm_emp, up1, T0, b13, b10, b59, b44, b92, r5, forall_eq, IntKind.wrap, IntKind.bits, IntKind.signed, Int.reduceEq, Int.reduceAdd, Int.reduceSub, Int.reduceMul, Int.reduceMod, Int.reduceDiv, Int.reduceTDiv, Int.reducePow, Nat.reducePow, Int.reduceNeg, reduceIte, reduceCtorEq, ge_iff_le, Nat.reduceEqDiff, ↓gos, gop, Nat.reduceBEq, Nat.reduceAdd, Nat.reduceSub, Nat.reduceLeDiff, Nat.reduceMul, Int.reduceLE, Int.reduceLT, Int.reduceNe, Int.reduceToNat]
  refine un_go ?_
  simp only [f94l3, tb_get, tb_put, tb_len, knm_emp, up1, T0, b13, b10, b59, b44, b92, r5, forall_eq, IntKind.wrap, IntKind.bits, IntKind.signed, Int.reduceEq, Int.reduceAdd, Int.reduceSub, Int.reduceMul, Int.reduceMod, Int.reduceDiv, Int.reduceTDiv, Int.reducePow, Nat.reducePow, Int.reduceNeg, reduceIte, reduceCtorEq, ge_iff_le, Nat.reduceEqDiff, ↓gos, gop, Nat.reduceBEq, Nat.reduceAdd, Nat.reduceSub, Nat.reduceLeDiff, Nat.reduceMul, Int.reduceLE, Int.reduceLT, Int.reduceNe, Int.reduceToNat]
  refine .inr ⟨_, rfl, by simp, [59], rfl, ?_⟩
  refine s2b_osl ?_
  simp only [tb_get, tb_put, tb_len, knm_emp, up1, T0, b13, b10, b59, b44, b92, r5, forall_eq, IntKind.wrap, IntKind.bits, IntKind.signed, Int.reduceEq, Int.reduceAdd, Int.reduceSub, Int.reduceMul, Int.reduceMod, Int.reduceDiv, Int.reduceTDiv, Int.reducePow, Nat.reducePow, Int.reduceNeg, reduceIte, reduceCtorEq, ge_iff_le, Nat.reduceEqDiff, ↓gos, gop, Nat.reduceBEq, Nat.reduceAdd, Nat.reduceSub, Nat.reduceLeDiff, Nat.reduceMul, Int.reduceLE, Int.reduceLT, Int.reduceNe, Int.reduceToNat]
  refine un_go ?_
  simp only [f94l3, tb_get, tb_put, tb_len, knm_emp, up1, T0, b13, b10, b59, b44, b92, r5, forall_eq, IntKind.wrap, IntKind.bits, IntKind.signed, Int.reduceEq, Int.reduceAdd, Int.reduceSub, Int.reduceMul, Int.reduceMod, Int.reduceDiv, Int.reduceTDiv, Int.reducePow, Nat.reducePow, Int.reduceNeg, reduceIte, reduceCtorEq, ge_iff_le, Nat.reduceEqDiff, ↓gos, gop, Nat.reduceBEq, Nat.reduceAdd, Nat.reduceSub, Nat.reduceLeDiff, Nat.reduceMul, Int.reduceLE, Int.reduceLT, Int.reduceNe, Int.reduceToNat]
  refine .inr ⟨_, rfl, by simp, [44], rfl, ?_⟩
  refine s2b_osl ?_
  simp only [tb_get, tb_put, tb_len, knm_emp, up1, T0, b13, b10, b59, b44, b92, r5, forall_eq, IntKind.wrap, IntKind.bits, IntKind.signed, Int.reduceEq, Int.reduceAdd, Int.reduceSub, Int.reduceMul, Int.reduceMod, Int.reduceDiv, Int.reduceTDiv, Int.reducePow, Nat.reducePow, Int.reduceNeg, reduceIte, reduceCtorEq, ge_iff_le, Nat.reduceEqDiff, ↓gos, gop, Nat.reduceBEq, Nat.reduceAdd, Nat.reduceSub, Nat.reduceLeDiff, Nat.reduceMul, Int.reduceLE, Int.reduceLT, Int.reduceNe, Int.reduceToNat]
  refine un_go ?_
  simp only [f94l3, tb_get, tb_put, tb_len, knm_emp, up1, T0, b13, b10, b59, b44, b92, r5, forall_eq, IntKind.wrap, IntKind.bits, IntKind.signed, Int.reduceEq, Int.reduceAdd, Int.reduceSub, Int.reduceMul, Int.reduceMod, Int.reduceDiv, Int.reduceTDiv, Int.reducePow, Nat.reducePow, Int.reduceNeg, reduceIte, reduceCtorEq, ge_iff_le, Nat.reduceEqDiff, ↓gos, gop, Nat.reduceBEq, Nat.reduceAdd, Nat.reduceSub, Nat.reduceLeDiff, Nat.reduceMul, Int.reduceLE, Int.reduceLT, Int.reduceNe, Int.reduceToNat]
  refine .inr ⟨_, rfl, by simp, [92], rfl, ?_⟩
  refine s2b_osl ?_
  simp only [tb_get, tb_put, tb_len, knm_emp, up1, T0, b13, b10, b59, b44, b92, r5, forall_eq, IntKind.wrap, IntKind.bits, IntKind.signed, Int.reduceEq, Int.reduceAdd, Int.reduceSub, Int.reduceMul, Int.reduceMod, Int.reduceDiv, Int.reduceTDiv, Int.reducePow, Nat.reducePow, Int.reduceNeg, reduceIte, reduceCtorEq, ge_iff_le, Nat.reduceEqDiff, ↓gos, gop, Nat.reduceBEq, Nat.reduceAdd, Nat.reduceSub, Nat.reduceLeDiff, Nat.reduceMul, Int.reduceLE, Int.reduceLT, Int.reduceNe, Int.reduceToNat]
  refine un_go ?_
  simp only [f94l3, tb_get, tb_put, tb_len, knm_emp, up1, T0, b13, b10, b59, b44, b92, r5, forall_eq, IntKind.wrap, IntKind.bits, IntKind.signed, Int.reduceEq, Int.reduceAdd, Int.reduceSub, Int.reduceMul, Int.reduceMod, Int.reduceDiv, Int.reduceTDiv, Int.reducePow, Nat.reducePow, Int.reduceNeg, reduceIte, reduceCtorEq, ge_iff_le, Nat.reduceEqDiff, ↓gos, gop, Nat.reduceBEq, Nat.reduceAdd, Nat.reduceSub, Nat.reduceLeDiff, Nat.reduceMul, Int.reduceLE, Int.reduceLT, Int.reduceNe, Int.reduceToNat]
  have eF : (up1 (up1 (up1 (up1 (up1 (up1 (up1 (up1 (up1 (up1 (up1 T0 256 (.osl 1 2 0 0 (some 5))) 256 (.osl 1 2 0 1 (some 5))) 13 (.emp false 1)) 256 (.osl 1 2 0 2 (some 5))) 10 (.osl 1 9 0 2 none)) 256 (.osl 1 2 0 3 (some 5))) 59 (.osl 1 12 0 2 none)) 256 (.osl 1 2 0 4 (some 5))) 44 (.osl 1 15 0 2 none)) 256 (.osl 1 2 0 5 (some 5))) 92 (.osl 1 18 0 2 none)) = tabG 2 18 15 12 9 := by
    funext i
    simp only [up1, T0, tabG]
    repeat' split
    all_goals first | rfl | omega
  rw [eF]
  refine end_h [0, 1, 3, 2, 9, 12, 15, 18] (by decide) (by decide) (fun i hi => by match i, hi with | 0, _ => rfl | 1, _ => rfl) (by decide) rfl ?_ ?_ rfl ⟨rfl, rfl⟩
  · intro l hl
    simp only [List.mem_cons, List.not_mem_nil, or_false] at hl
    rcases hl with rfl | rfl | rfl | rfl | rfl | rfl | rfl | rfl
    all_goals first | rfl | exact tabG_all _ _ _ _ _ _ rfl rfl rfl rfl rfl rfl rfl
  · simp only [List.map_cons, List.map_nil, List.getD_cons_zero, List.getD_cons_succ, renO, tabG_ren]
    rfl
end Go.Proofs.Ut

/- A text as a value: plain law. -/
namespace Go.Proofs.Ut
def escB (b : UInt8) : List UInt8 := if b = 92 then [92, 92] else if b = 44 then [92, 44] else if b = 59 then [92, 59] else if b = 10 then [92, 110] else if b = 13 then [] else [b]
def valF (s : List UInt8) : List UInt8 := s.flatMap escB
def spB (b : UInt8) : Bool := decide (b = 92) || decide (b = 44) || decide (b = 59) || decide (b = 10) || decide (b = 13)
theorem esc_cases (b : UInt8) : (b = 92 ∨ b = 44 ∨ b = 59 ∨ b = 10 ∨ b = 13) ∨ (spB b = false ∧ escB b = [b] ∧ b.toNat ≠ 92 ∧ b.toNat ≠ 44 ∧ b.toNat ≠ 59 ∧ b.toNat ≠ 10 ∧ b.toNat ≠ 13) := by
  by_cases h1 : b = 92
  · exact .inl (.inl h1)
  by_cases h2 : b = 44
  · exact .inl (.inr (.inl h2))
  by_cases h3 : b = 59
  · exact .inl (.inr (.inr (.inl h3)))
  by_cases h4 : b = 10
  · exact .inl (.inr (.inr (.inr (.inl h4))))
  by_cases h5 : b = 13
  · exact .inl (.inr (.inr (.inr (.inr h5))))
  · have k : ∀ c : UInt8, b ≠ c → b.toNat ≠ c.toNat := fun c h e => h (UInt8.toNat_inj.1 e)
    exact .inr ⟨by simp [spB, h1, h2, h3, h4, h5], by simp [escB, h1, h2, h3, h4, h5], k 92 h1, k 44 h2, k 59 h3, k 10 h4, k 13 h5⟩
theorem escB_len (b : UInt8) : (escB b).length ≤ 2 := by
  unfold escB; repeat' split
  all_goals simp
theorem valF_len : ∀ s : List UInt8, (valF s).length ≤ 2 * s.length
  | [] => Nat.le_refl _
  | b :: s => by
    have h1 := valF_len s
    have h2 := escB_len b
    simp only [valF, List.flatMap_cons, List.length_append, List.length_cons] at *
    omega
theorem value_none : ∀ s : List UInt8, s.any spB = false → valF s = s
  | [], _ => rfl
  | b :: s, h => by
    simp only [List.any_cons, Bool.or_eq_false_iff] at h
    have h1 := value_none s h.2
    rcases esc_cases b with hb | ⟨_, e, _⟩
    · rcases hb with rfl | rfl | rfl | rfl | rfl <;> simp [spB] at h
    · simp only [valF, List.flatMap_cons] at *
      rw [h1, e]; rfl
theorem value_app (a b : List UInt8) : valF (a ++ b) = valF a ++ valF b := by simp [valF]
theorem take_one (s : List UInt8) (j : Nat) (h : j < s.length) : s.take (j + 1) = s.take j ++ [s.getD j 0] := by
  rw [List.take_add_one, List.getElem?_eq_getElem h, List.getD_eq_getElem?_getD, List.getElem?_eq_getElem h]; rfl
theorem value_next (s : List UInt8) (j : Nat) (h : j < s.length) : valF (s.take (j + 1)) = valF (s.take j) ++ escB (s.getD j 0) := by
  rw [take_one s j h, value_app]; simp [valF]
theorem any_next (s : List UInt8) (j : Nat) (h : j < s.length) : (s.take (j + 1)).any spB = ((s.take j).any spB || spB (s.getD j 0)) := by
  rw [take_one s j h, List.any_append]; simp
theorem value_part (s : List UInt8) (j : Nat) : (valF (s.take j)).length ≤ (valF s).length := by
  have : valF s = valF (s.take j) ++ valF (s.drop j) := by rw [← value_app, List.take_append_drop]
  rw [this]; simp
/-- How long it is, by how often each sign stands in it. -/
theorem value_count : ∀ s : List UInt8, (valF s).length + s.count 13 = s.length + s.count 10 + s.count 59 + s.count 44 + s.count 92
  | [] => rfl
  | b :: s => by
    have h := value_count s
    have e : valF (b :: s) = escB b ++ valF s := by simp [valF]
    rw [e, List.length_append, List.length_cons]
    simp only [List.count_cons]
    rcases esc_cases b with hb | ⟨_, e, k1, k2, k3, k4, k5⟩
    · rcases hb with rfl | rfl | rfl | rfl | rfl
      · simp [escB]; omega
      · simp [escB]; omega
      · simp [escB]; omega
      · simp [escB]; omega
      · simp [escB]; omega
    · have n1 : (b == 92) = false := by simp; intro e; exact k1 (by rw [e]; rfl)
      have n2 : (b == 44) = false := by simp; intro e; exact k2 (by rw [e]; rfl)
      have n3 : (b == 59) = false := by simp; intro e; exact k3 (by rw [e]; rfl)
      have n4 : (b == 10) = false := by simp; intro e; exact k4 (by rw [e]; rfl)
      have n5 : (b == 13) = false := by simp; intro e; exact k5 (by rw [e]; rfl)
      rw [e, n1, n2, n3, n4, n5]
      simp
      omega
theorem any_count (s : List UInt8) : s.any spB = (!decide (s.count 13 = 0) || !decide (s.count 10 = 0) || !decide (s.count 59 = 0) || !decide (s.count 44 = 0) || !decide (s.count 92 = 0)) := by
  rw [Bool.eq_iff_iff]
  simp only [List.any_eq_true, spB, Bool.or_eq_true, decide_eq_true_eq, Bool.not_eq_true', decide_eq_false_iff_not]
  have k : ∀ c : UInt8, ¬ s.count c = 0 ↔ c ∈ s := fun c => by rw [← List.count_pos_iff]; omega
  rw [k, k, k, k, k]
  constructor
  · rintro ⟨b, hb, h⟩
    rcases h with (((rfl | rfl) | rfl) | rfl) | rfl <;> simp [hb]
  · rintro ((((h | h) | h) | h) | h)
    all_goals exact ⟨_, h, by simp⟩
end Go.Proofs.Ut
