/- A text as a value is made plain as it was; values joined are split where they were joined: the law walked. -/
import Derived.Test.YtbnmhlienklfpaaGreatDoorZT
import Derived.Test.YtbnmhlienklfpaaGreatDoorZFoE
import Derived.Test.YtbnmhlienklfpaaGreatDoorZFoRow
import Derived.Test.YtbnmhlienklfpaaGreatDoorAiOpen
set_option linter.all false
namespace Go.Proofs.Ut
open Go.Ai
set_option maxRecDepth 100000
set_option linter.all false
theorem cut_oneX (s : List UInt8) (j : Nat) (h : j < s.length) : (s.drop j).take (j + 1 - j) = [s.getD j 0] := by
  rw [drop_next s j h, Nat.add_sub_cancel_left]; rfl
def bareF (x : List UInt8) : List UInt8 := x.filter fun b => !decide (b = 13)
theorem bare_next (s : List UInt8) (j : Nat) (h : j < s.length) : bareF (s.take (j + 1)) = bareF (s.take j) ++ (if s.getD j 0 = 13 then [] else [s.getD j 0]) := by
  rw [take_one s j h]
  unfold bareF
  rw [List.filter_append]
  congr 1
  by_cases e : s.getD j 0 = 13
  · rw [if_pos e, e]; rfl
  · rw [if_neg e]; simp only [List.filter_cons, List.filter_nil, e, decide_false, Bool.not_false, if_true]
theorem plain_val : ∀ s : List UInt8, plainF (valF s) = some (bareF s)
  | [] => rfl
  | b :: s => by
    have ih := plain_val s
    have e : valF (b :: s) = escB b ++ valF s := by simp [valF]
    rw [e]
    rcases esc_cases b with hb | ⟨_, e2, k1, k2, k3, k4, k5⟩
    · rcases hb with rfl | rfl | rfl | rfl | rfl
      all_goals simp [escB, plainF, escC, ih, bareF]
    · rw [e2]
      have h1 : b ≠ 92 := fun e => k1 (by rw [e]; rfl)
      have h5 : b ≠ 13 := fun e => k5 (by rw [e]; rfl)
      show plainF (b :: valF s) = _
      rw [plainF.eq_def]
      simp only
      rw [if_neg h1, ih]
      simp [bareF, h5]
theorem split_val (sep : UInt8) (hsep : sep = 44 ∨ sep = 59) : ∀ (s cur rest : List UInt8), splitF sep false cur (valF s ++ rest) = splitF sep false (cur ++ valF s) rest
  | [], cur, rest => by simp [valF]
  | b :: s, cur, rest => by
    have ih := fun c => split_val sep hsep s c rest
    have e : valF (b :: s) = escB b ++ valF s := by simp [valF]
    rw [e, List.append_assoc]
    rcases esc_cases b with hb | ⟨_, e2, k1, k2, k3, k4, k5⟩
    · rcases hb with rfl | rfl | rfl | rfl | rfl <;> rcases hsep with rfl | rfl
      all_goals simp [escB, splitF, escN, ih]
    · rw [e2]
      have h1 : b ≠ 92 := fun e => k1 (by rw [e]; rfl)
      have h2 : b ≠ sep := fun e => by
        rcases hsep with rfl | rfl
        · exact k2 (by rw [e]; rfl)
        · exact k3 (by rw [e]; rfl)
      show splitF sep false cur (b :: (valF s ++ rest)) = _
      rw [splitF, if_neg (by simp [h2])]
      have e3 : escN false b = false := by simp [escN, h1]
      rw [e3, ih]
      simp
/-- Values joined. -/
def joinS (sep : UInt8) : List (List UInt8) → List UInt8
  | [] => []
  | [x] => x
  | x :: l => x ++ sep :: joinS sep l
theorem join_next (sep : UInt8) : ∀ (l : List (List UInt8)) (v : List UInt8), joinS sep (l ++ [v]) = if l = [] then v else joinS sep l ++ [sep] ++ v
  | [], v => rfl
  | [x], v => by simp [joinS]
  | x :: y :: l, v => by
    have ih := join_next sep (y :: l) v
    rw [if_neg (by simp)] at ih
    rw [if_neg (by simp)]
    have e : joinS sep (x :: y :: l ++ [v]) = x ++ sep :: joinS sep (y :: l ++ [v]) := rfl
    rw [e, ih]
    simp [joinS]
theorem split_join (sep : UInt8) (hsep : sep = 44 ∨ sep = 59) : ∀ l : List (List UInt8), splitF sep false [] (joinS sep (l.map valF)) = if l = [] then [[]] else l.map valF
  | [] => rfl
  | [x] => by
    have h := split_val sep hsep x [] []
    rw [List.append_nil, List.nil_append] at h
    simp only [List.map_cons, List.map_nil, joinS]
    rw [h]; simp [splitF]
  | x :: y :: l => by
    have ih := split_join sep hsep (y :: l)
    rw [if_neg (by simp)] at ih
    have e : joinS sep ((x :: y :: l).map valF) = valF x ++ sep :: joinS sep ((y :: l).map valF) := rfl
    rw [e, split_val sep hsep x, List.nil_append, splitF, if_pos (by simp)]
    have e2 : escN false sep = false := by rcases hsep with rfl | rfl <;> rfl
    rw [e2, ih, if_neg (by simp)]
    simp
theorem join_len (sep : UInt8) : ∀ (l : List (List UInt8)) (m : Nat), (∀ x ∈ l, x.length ≤ m) → (joinS sep l).length ≤ l.length * (m + 1)
  | [], m, _ => by simp [joinS]
  | [x], m, h => by have := h x (by simp); simp [joinS]; omega
  | x :: y :: l, m, h => by
    have := join_len sep (y :: l) m fun z hz => h z (by simp [hz])
    have h2 := h x (by simp)
    have e : (x :: y :: l).length * (m + 1) = (y :: l).length * (m + 1) + (m + 1) := by rw [List.length_cons (a := x), Nat.succ_mul]
    rw [e]
    simp only [joinS, List.length_append, List.length_cons] at *
    omega
def wantF (l : List (List UInt8)) (i : Nat) : List (List UInt8) := (l.take i).map valF
theorem want_next (l : List (List UInt8)) (i : Nat) (h : i < l.length) : wantF l (i + 1) = wantF l i ++ [valF (l.getD i [])] := by
  unfold wantF
  rw [List.take_add_one, List.getElem?_eq_getElem h, List.getD_eq_getElem?_getD, List.getElem?_eq_getElem h, List.map_append]
  rfl
set_option maxHeartbeats 1000000 in
theorem values4t (l : List (List UInt8)) (sep : UInt8) (hsep : sep = 44 ∨ sep = 59) (hl : l.length < 9223372036854775808) (L : List (Nat × DV)) (h5 : slots L 5 = .int .u8 sep.toNat) (h0 : slots L 0 = .sl 1 (l.map sv)) :
    goN ED 0 (fin 0 [RV.t 4] fun h d => h = [] ∧ d = DV.bool true) [] f4t L [] := by
  simp only [f4t, ↓gos, gop, Nat.reduceBEq, Nat.reduceAdd, Nat.reduceSub, Nat.reduceLeDiff, Nat.reduceMul, Int.reduceLE, Int.reduceLT, Int.reduceNe, Int.reduceToNat]
  refine goN_lp (γ := Nat) (fun i => [(8, .int .i64 i), (7, .osl 1 0 0 (wantF l i).length none), (6, .str (joinS sep (wantF l i))), (5, .int .u8 sep.toNat), (0, .sl 1 (l.map sv))]) (fun i => [.arr 1 ((wantF l i).map sv)]) (fun i => i ≤ l.length ∧ i ≤ 10 ∧ (wantF l i).length = i ∧ ∀ x ∈ wantF l i, x.length ≤ 200) (fun i => 10 - i) 0
    (wks (by simp [wantF]) (by simp) ⟨rfl, by simp [slots, wantF], by simp [slots, wantF, joinS], by simp [slots, h5], by simp [slots, h0], trivial⟩) ⟨by simp, by simp, by simp [wantF], by simp [wantF]⟩ fun i ⟨hi, hi2, hwl, hwx⟩ => ?_
  have hjl := join_len sep (wantF l i) 200 hwx
  rw [hwl] at hjl
  simp only [f4l1, ↓gos, gop, Nat.reduceBEq, Nat.reduceAdd, Nat.reduceSub, Nat.reduceLeDiff, Nat.reduceMul, Int.reduceLE, Int.reduceLT, Int.reduceNe, Int.reduceToNat]
  refine ⟨fun a1 => ⟨fun a2 => ?_, fun a2 => ?_⟩, fun a1 => ?_⟩
  · have h2 : i < l.length := by omega
    have hw := want_next l i h2
    have hget : l[i]? = some (l.getD i []) := by rw [List.getElem?_eq_getElem h2, List.getD_eq_getElem?_getD, List.getElem?_eq_getElem h2]; rfl
    generalize l.getD i [] = x at hw hget
    simp only [hget, sv, ↓gos, gop, Nat.reduceBEq, Nat.reduceAdd, Nat.reduceSub, Nat.reduceLeDiff, Nat.reduceMul, Int.reduceLE, Int.reduceLT, Int.reduceNe, Int.reduceToNat]
    refine ⟨fun a3 => ?_, fun a3 => ?_⟩
    · refine call_ret awake12 rfl rfl ?_
      simp only [↓gos, gop, Nat.reduceBEq, Nat.reduceAdd, Nat.reduceSub, Nat.reduceLeDiff, Nat.reduceMul, Int.reduceLE, Int.reduceLT, Int.reduceNe, Int.reduceToNat]
      exact endb rfl
    · have hvx := valF_len x
      refine call_ret (value14 x (by omega)) rfl rfl ?_
      simp only [↓gos, gop, Nat.reduceBEq, Nat.reduceAdd, Nat.reduceSub, Nat.reduceLeDiff, Nat.reduceMul, Int.reduceLE, Int.reduceLT, Int.reduceNe, Int.reduceToNat]
      refine goN_lp (γ := Nat) (fun k => [(11, .int .i64 k), (10, .str (bareF (x.take k))), (9, .str (valF x)), (8, .int .i64 i), (7, .osl 1 0 0 (wantF l i).length none), (6, .str (joinS sep (wantF l i))), (5, .int .u8 sep.toNat), (0, .sl 1 (l.map sv))]) (fun _ => [.arr 1 ((wantF l i).map sv)]) (fun k => k ≤ x.length) (fun k => x.length - k) 0
        (wks rfl (by simp) ⟨rfl, rfl, rfl, rfl, rfl, rfl, rfl, rfl, trivial⟩) (Nat.zero_le _) fun k hk => ?_
      simp only [f4l0, hget, sv, ↓gos, gop, Nat.reduceBEq, Nat.reduceAdd, Nat.reduceSub, Nat.reduceLeDiff, Nat.reduceMul, Int.reduceLE, Int.reduceLT, Int.reduceNe, Int.reduceToNat]
      refine ⟨fun b1 => ?_, fun b1 => ?_⟩
      · have hk : k < x.length := by omega
        have hbn := bare_next x k hk
        have hbl : (bareF (x.take k)).length ≤ x.length := Nat.le_trans (List.length_filter_le _ _) (by simp; omega)
        have hone := cut_oneX x k hk
        have hb : bt x k = ((x.getD k 0).toNat : Int) := rfl
        have hwr : IntKind.i64.wrap ((k : Int) + 1) = ((k + 1 : Nat) : Int) := by rw [wrap_i64 (by omega) (by omega)]; rfl
        by_cases h13 : x.getD k 0 = 13
        · rw [h13] at hb
          rw [if_pos h13] at hbn
          simp only [hb, u13, hwr, forall_eq, Int.reduceEq, reduceIte, ↓gos, gop, Nat.reduceBEq, Nat.reduceAdd, Nat.reduceSub, Nat.reduceLeDiff, Nat.reduceMul, Int.reduceLE, Int.reduceLT, Int.reduceNe, Int.reduceToNat]
          repeat (refine chk_i (by first | omega | (simp only [List.length_append, List.length_cons, List.length_nil]; omega)) ?_)
          exact rnd_s (k + 1) rfl (by simp) ⟨rfl, by show DV.str _ = DV.str _; rw [hbn, List.append_nil], rfl, rfl, rfl, rfl, rfl, rfl, trivial⟩ hk (by omega)
        · rw [if_neg h13] at hbn
          have q : ¬ (((x.getD k 0).toNat : Nat) : Int) = 13 := fun e => by
            have e1 : (x.getD k 0).toNat = 13 := by omega
            exact h13 (UInt8.toNat_inj.1 e1)
          simp only [hb, q, hwr, hone, forall_eq, Int.reduceEq, reduceIte, ↓gos, gop, Nat.reduceBEq, Nat.reduceAdd, Nat.reduceSub, Nat.reduceLeDiff, Nat.reduceMul, Int.reduceLE, Int.reduceLT, Int.reduceNe, Int.reduceToNat]
          repeat (refine chk_i (by first | omega | (simp only [List.length_append, List.length_cons, List.length_nil]; omega)) ?_)
          exact rnd_s (k + 1) rfl (by simp) ⟨rfl, by show DV.str _ = DV.str _; rw [hbn], rfl, rfl, rfl, rfl, rfl, rfl, trivial⟩ hk (by omega)
      · have hk : k = x.length := by omega
        subst hk
        rw [List.take_length]
        have hp := plain16 (valF x) (by omega)
        rw [plain_val] at hp
        have hwi : IntKind.i64.wrap ((i : Int) + 1) = ((i + 1 : Nat) : Int) := by rw [wrap_i64 (by omega) (by omega)]; rfl
        have hjn := join_next sep (wantF l i) (valF x)
        have hjl2 : (joinS sep (wantF l i)).length ≤ 2010 := by omega
        refine ⟨fun z => .inr ⟨_, rfl, by simp, [sep], rfl, ?_⟩, fun z => ?_⟩
        · repeat (refine chk_i (by first | omega | (simp only [List.length_append, List.length_cons, List.length_nil]; omega)) ?_)
          refine call_ret hp rfl rfl ?_
          simp only [Option.getD_some, Option.isSome_some, hwi, eq_self, forall_eq, if_true, reduceIte, ↓gos, gop, Nat.reduceBEq, Nat.reduceAdd, Nat.reduceSub, Nat.reduceLeDiff, Nat.reduceMul, Int.reduceLE, Int.reduceLT, Int.reduceNe, Int.reduceToNat]
          refine rnd_d 1 (i + 1) ?_ (by simp) ⟨rfl, rfl, ?_, rfl, ?_, rfl, rfl, rfl, rfl, rfl, trivial⟩ rfl ⟨h2, by omega, by rw [hw]; simp; omega, fun y hy => ?_⟩ (by omega)
          · simp [hw, sv]
          · show DV.osl _ _ _ _ _ = _
            rw [hw]; simp
          · show DV.str _ = _
            rw [hw, hjn, if_neg (fun e => by rw [e] at hwl; simp at hwl; omega)]
          · rw [hw] at hy
            rcases List.mem_append.1 hy with hy | hy
            · exact hwx y hy
            · rw [List.mem_singleton.1 hy]; omega
        · repeat (refine chk_i (by first | omega | (simp only [List.length_append, List.length_cons, List.length_nil]; omega)) ?_)
          refine call_ret hp rfl rfl ?_
          simp only [Option.getD_some, Option.isSome_some, hwi, eq_self, forall_eq, if_true, reduceIte, ↓gos, gop, Nat.reduceBEq, Nat.reduceAdd, Nat.reduceSub, Nat.reduceLeDiff, Nat.reduceMul, Int.reduceLE, Int.reduceLT, Int.reduceNe, Int.reduceToNat]
          refine rnd_d 1 (i + 1) ?_ (by simp) ⟨rfl, rfl, ?_, rfl, ?_, rfl, rfl, rfl, rfl, rfl, trivial⟩ rfl ⟨h2, by omega, by rw [hw]; simp; omega, fun y hy => ?_⟩ (by omega)
          · simp [hw, sv]
          · show DV.osl _ _ _ _ _ = _
            rw [hw]; simp
          · show DV.str _ = _
            have hnil : wantF l i = [] := List.eq_nil_of_length_eq_zero (by omega)
            rw [hw, hjn, if_pos hnil, hnil]; rfl
          · rw [hw] at hy
            rcases List.mem_append.1 hy with hy | hy
            · exact hwx y hy
            · rw [List.mem_singleton.1 hy]; omega
  · have hjl2 : (joinS sep (wantF l i)).length ≤ 2010 := by omega
    refine ⟨fun z => ?_, fun z => ?_⟩
    · have hnil : wantF l i = [] := List.eq_nil_of_length_eq_zero (by omega)
      refine call_ret awake12 rfl rfl ?_
      simp only [hnil, joinS, ↓gos, gop, Nat.reduceBEq, Nat.reduceAdd, Nat.reduceSub, Nat.reduceLeDiff, Nat.reduceMul, Int.reduceLE, Int.reduceLT, Int.reduceNe, Int.reduceToNat]
      have hsp := split26 [] sep (by simp)
      refine call_new hsp (fun d hd => by simp at hd; rcases hd with rfl | rfl <;> rfl) ?_
      simp only [splitF, DV.ren, DV.ren.renAll, renO, ↓gos, gop, Nat.reduceBEq, Nat.reduceAdd, Nat.reduceSub, Nat.reduceLeDiff, Nat.reduceMul, Int.reduceLE, Int.reduceLT, Int.reduceNe, Int.reduceToNat]
      refine call_ret (plain62 [[]] [[]] (by decide) (by decide)) rfl rfl ?_
      simp only [eq_self, decide_true, ↓gos, gop, Nat.reduceBEq, Nat.reduceAdd, Nat.reduceSub, Nat.reduceLeDiff, Nat.reduceMul, Int.reduceLE, Int.reduceLT, Int.reduceNe, Int.reduceToNat]
      exact endb rfl
    · have hsj : splitF sep false [] (joinS sep (wantF l i)) = wantF l i := by
        have := split_join sep hsep (l.take i)
        rw [if_neg (fun e => z (by rw [show wantF l i = (l.take i).map valF from rfl, e]; rfl))] at this
        exact this
      have hsp := split26 (joinS sep (wantF l i)) sep (by omega)
      rw [hsj] at hsp
      refine call_ret awake12 rfl rfl ?_
      simp only [↓gos, gop, Nat.reduceBEq, Nat.reduceAdd, Nat.reduceSub, Nat.reduceLeDiff, Nat.reduceMul, Int.reduceLE, Int.reduceLT, Int.reduceNe, Int.reduceToNat]
      refine call_new hsp (fun d hd => by simp at hd; rcases hd with rfl | rfl <;> rfl) ?_
      simp only [DV.ren, DV.ren.renAll, renO, ↓gos, gop, Nat.reduceBEq, Nat.reduceAdd, Nat.reduceSub, Nat.reduceLeDiff, Nat.reduceMul, Int.reduceLE, Int.reduceLT, Int.reduceNe, Int.reduceToNat]
      refine call_ret (plain62 (wantF l i) (wantF l i) (by omega) (by omega)) (by rw [List.map_cons, List.map_cons, List.map_nil, dn_osl rfl (by simp), dn_osl rfl (by simp)]) rfl ?_
      simp only [eq_self, decide_true, ↓gos, gop, Nat.reduceBEq, Nat.reduceAdd, Nat.reduceSub, Nat.reduceLeDiff, Nat.reduceMul, Int.reduceLE, Int.reduceLT, Int.reduceNe, Int.reduceToNat]
      exact endb rfl
  · have hjl2 : (joinS sep (wantF l i)).length ≤ 2010 := by omega
    refine ⟨fun z => ?_, fun z => ?_⟩
    · have hnil : wantF l i = [] := List.eq_nil_of_length_eq_zero (by omega)
      refine call_ret awake12 rfl rfl ?_
      simp only [hnil, joinS, ↓gos, gop, Nat.reduceBEq, Nat.reduceAdd, Nat.reduceSub, Nat.reduceLeDiff, Nat.reduceMul, Int.reduceLE, Int.reduceLT, Int.reduceNe, Int.reduceToNat]
      have hsp := split26 [] sep (by simp)
      refine call_new hsp (fun d hd => by simp at hd; rcases hd with rfl | rfl <;> rfl) ?_
      simp only [splitF, DV.ren, DV.ren.renAll, renO, ↓gos, gop, Nat.reduceBEq, Nat.reduceAdd, Nat.reduceSub, Nat.reduceLeDiff, Nat.reduceMul, Int.reduceLE, Int.reduceLT, Int.reduceNe, Int.reduceToNat]
      refine call_ret (plain62 [[]] [[]] (by decide) (by decide)) rfl rfl ?_
      simp only [eq_self, decide_true, ↓gos, gop, Nat.reduceBEq, Nat.reduceAdd, Nat.reduceSub, Nat.reduceLeDiff, Nat.reduceMul, Int.reduceLE, Int.reduceLT, Int.reduceNe, Int.reduceToNat]
      exact endb rfl
    · have hsj : splitF sep false [] (joinS sep (wantF l i)) = wantF l i := by
        have := split_join sep hsep (l.take i)
        rw [if_neg (fun e => z (by rw [show wantF l i = (l.take i).map valF from rfl, e]; rfl))] at this
        exact this
      have hsp := split26 (joinS sep (wantF l i)) sep (by omega)
      rw [hsj] at hsp
      refine call_ret awake12 rfl rfl ?_
      simp only [↓gos, gop, Nat.reduceBEq, Nat.reduceAdd, Nat.reduceSub, Nat.reduceLeDiff, Nat.reduceMul, Int.reduceLE, Int.reduceLT, Int.reduceNe, Int.reduceToNat]
      refine call_new hsp (fun d hd => by simp at hd; rcases hd with rfl | rfl <;> rfl) ?_
      simp only [DV.ren, DV.ren.renAll, renO, ↓gos, gop, Nat.reduceBEq, Nat.reduceAdd, Nat.reduceSub, Nat.reduceLeDiff, Nat.reduceMul, Int.reduceLE, Int.reduceLT, Int.reduceNe, Int.reduceToNat]
      refine call_ret (plain62 (wantF l i) (wantF l i) (by omega) (by omega)) (by rw [List.map_cons, List.map_cons, List.map_nil, dn_osl rfl (by simp), dn_osl rfl (by simp)]) rfl ?_
      simp only [eq_self, decide_true, ↓gos, gop, Nat.reduceBEq, Nat.reduceAdd, Nat.reduceSub, Nat.reduceLeDiff, Nat.reduceMul, Int.reduceLE, Int.reduceLT, Int.reduceNe, Int.reduceToNat]
      exact endb rfl
theorem values4 (l : List (List UInt8)) (comma : Bool) (hl : l.length < 9223372036854775808) : DRet 4 [.sl 1 (l.map sv), .bool comma] (.bool true) := by
  refine acalls_go c4 (by simp [f4]) ?_
  cases comma
  · simp only [f4, ↓gos, gop, Nat.reduceBEq, Nat.reduceAdd, Nat.reduceSub, Nat.reduceLeDiff, Nat.reduceMul, Int.reduceLE, Int.reduceLT, Int.reduceNe, Int.reduceToNat]
    exact values4t l 59 (.inr rfl) hl _ rfl rfl
  · simp only [f4, ↓gos, gop, Nat.reduceBEq, Nat.reduceAdd, Nat.reduceSub, Nat.reduceLeDiff, Nat.reduceMul, Int.reduceLE, Int.reduceLT, Int.reduceNe, Int.reduceToNat]
    exact values4t l 44 (.inl rfl) hl _ rfl rfl
end Go.Proofs.Ut

/- The call of the law of values joined. -/
namespace Go.Proofs.Ut
open Go.Ai Go.Shelf Go.RowKit
set_option linter.all false
theorem strs_of {ds : List DV} (h : (AT.sl .str).has ds) : ∃ l : List (List UInt8), ds = [.sl 1 (l.map sv)] ∧ l.length ≤ maxLen := by
  obtain ⟨es, rfl, hl, hes⟩ := h
  have key : ∀ es : List (List DV), (∀ e ∈ es, AT.str.has e) → ∃ l : List (List UInt8), es = l.map sv := fun es => by
    induction es with
    | nil => exact fun _ => ⟨[], rfl⟩
    | cons e es ih =>
      intro h
      obtain ⟨l, rfl⟩ := ih fun x hx => h x (by simp [hx])
      obtain ⟨s, rfl, _⟩ := h e (by simp)
      exact ⟨s :: l, rfl⟩
  obtain ⟨l, rfl⟩ := key es hes
  exact ⟨l, rfl, by simpa using hl⟩
theorem cl_1 {w : World} {v v' : Value} {d d' : DV} {i : Nat} (h : Ai.Cl w [v] [d]) (hv : [v][i]? = some v') (hd : [d][i]? = some d') : Rep w (fun b => b < w.heap.size) noLoc v' d' := (h.2 i v' d' hv hd).2
theorem values_walk (W : World) (hT : Laid W) {v0 : Value} {ds0 : List DV} (h0 : (AT.sl .str).has ds0) (c0 : Ai.Cl W [v0] ds0) (a1 : Bool) :
    Calls Tryz.prog 4 #[v0, .bool a1] W fun e W' => e = .returned (.bool true) ∧ Below W.heap.size W W' := by
  obtain ⟨l, rfl, hl⟩ := strs_of h0
  refine door_walk (values4 l a1 (by simp only [maxLen] at hl; omega)) W hT [v0, .bool a1] rfl fun i v d g1 g2 => ?_
  rcases i with _ | _ | i
  · exact cl_1 (i := 0) c0 g1 g2
  · cases g1; cases g2; exact .bool _
  · simp at g1
end Go.Proofs.Ut
