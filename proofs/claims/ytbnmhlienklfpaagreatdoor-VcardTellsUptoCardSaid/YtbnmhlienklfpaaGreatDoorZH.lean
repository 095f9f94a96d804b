/- The document's Fold. -/
import Derived.Test.YtbnmhlienklfpaaGreatDoorZD
set_option linter.all false
namespace Go.Proofs.Ut
open Go.Ai Go.Shelf Go.RowKit
set_option linter.unusedSimpArgs false
set_option linter.unusedVariables false
set_option maxHeartbeats 1000000
set_option maxRecDepth 100000
theorem endB_drop (s : List UInt8) (j : Nat) (h : j < s.length) : endB (s.drop j) = (decide (s.getD j 0 = 13) || decide (s.getD j 0 = 10) || endB (s.drop (j + 1))) := by
  rw [drop_at s j h]; unfold endB; rw [List.any_cons]
theorem onerow77 (s : List UInt8) (hs : s.length < 1000000000) : DRet 77 [.str s] (.bool (!endB s)) := by
  refine acalls_go c77 (by simp [f77]) ?_
  simp only [f77, ↓gos, gop, Nat.reduceBEq, Nat.reduceAdd, Nat.reduceSub, Nat.reduceLeDiff, Nat.reduceMul, Int.reduceLE, Int.reduceLT, Int.reduceNe, Int.reduceToNat]
  refine goN_lp (γ := Nat) (fun j => [(3, .int .i64 j), (0, .str s)]) (fun _ => []) (fun j => j ≤ s.length ∧ endB (s.drop j) = endB s) (fun j => s.length - j) 0
    (wks rfl (by simp) ⟨rfl, rfl, trivial⟩) ⟨by omega, rfl⟩ fun j hj => ?_
  obtain ⟨h1, h2⟩ := hj
  simp only [f77l0, ↓gos, gop, Nat.reduceBEq, Nat.reduceAdd, Nat.reduceSub, Nat.reduceLeDiff, Nat.reduceMul, Int.reduceLE, Int.reduceLT, Int.reduceNe, Int.reduceToNat]
  have hbt : bt s j = ((s.getD j 0).toNat : Int) := rfl
  have hst := endB_drop s j
  generalize s.getD j 0 = c at hbt hst
  rw [hbt]
  refine ⟨fun a1 => ⟨by omega, fun a2 => endb ?_, fun a2 => ⟨by omega, fun a3 => endb ?_, fun a3 v hv => ?_⟩⟩, fun a1 => endb ?_⟩
  · have hc : c = 10 := UInt8.toNat_inj.1 (by show _ = 10; omega)
    rw [← h2, hst (by omega), hc]; rfl
  · have hc : c = 13 := UInt8.toNat_inj.1 (by show _ = 13; omega)
    rw [← h2, hst (by omega), hc]; rfl
  · rw [wrap_i64 (by omega) (by omega)] at hv
    have hv : v = ((j + 1 : Nat) : Int) := by omega
    subst hv
    refine rnd_s (j + 1) rfl (by simp) ⟨rfl, rfl, trivial⟩ ⟨by omega, ?_⟩ (by omega)
    rw [← h2, hst (by omega), decide_eq_false (p := c = 13) (fun e => a3 (by rw [e]; rfl)), decide_eq_false (p := c = 10) (fun e => a2 (by rw [e]; rfl))]
    rfl
  · rw [← h2, List.drop_eq_nil_of_le (by omega)]; rfl
/-- What comes behind a row's part. -/
def joinR (t : List UInt8) : List UInt8 := (foldR t).flatMap fun r => 13 :: 10 :: r
def foldX (s : List UInt8) (f m i : Nat) : List UInt8 := (s.drop i).take (f + fitA (s.drop f) m (i - f) - i) ++ joinR (s.drop (f + fitA (s.drop f) m (i - f)))
theorem ended_join : ∀ (rs : List (List UInt8)) (r : List UInt8), ended (r :: rs) = r ++ (rs.flatMap fun r => 13 :: 10 :: r) ++ [13, 10]
  | [], r => by simp [ended]
  | x :: rs, r => by
    rw [ended_cons, ended_join rs x]
    simp
theorem foldX_start (s : List UInt8) : foldX s 0 75 0 ++ [13, 10] = ended (rowsL s) := by
  rw [rowsL_eq, ended_join]
  unfold foldX joinR
  simp only [List.drop_zero, Nat.zero_add, Nat.sub_zero]
  rfl
theorem D_at (s : List UInt8) (f i : Nat) (h1 : f ≤ i) (h2 : i ≤ s.length) : D (s.drop f) (i - f) = D s i := by
  rw [D_drop (s.drop f) (i - f) (by simp; omega), D_drop s i h2, List.drop_drop, show f + (i - f) = i by omega]
theorem foldX_end (s : List UInt8) (f m : Nat) (h1 : f ≤ s.length) : foldX s f m s.length = [] := by
  unfold foldX
  rw [fitA_end _ _ _ (by simp), show f + (s.length - f) = s.length by omega, Nat.sub_self, List.drop_length]
  rfl
theorem foldX_go (s : List UInt8) (f m i : Nat) (h1 : f ≤ i) (h2 : i < s.length) (hm : i - f + (D s i).2 ≤ m) : foldX s f m i = (s.drop i).take (D s i).2 ++ foldX s f m (i + (D s i).2) := by
  have hD := D_len s i h2
  have hl : (s.drop f).length = s.length - f := by simp
  have hst := fitA_step (s.drop f) m (i - f) (by omega)
  rw [D_at s f i h1 (by omega), if_neg (by omega), show i - f + (D s i).2 = i + (D s i).2 - f by omega] at hst
  have hle := fitA_le (s.drop f) m _ (i + (D s i).2 - f) (Nat.le_refl _) (by omega)
  unfold foldX
  rw [hst]
  generalize fitA (s.drop f) m (i + (D s i).2 - f) = k at hle
  generalize (D s i).2 = d at hle hD
  have e : s.drop i = (s.drop i).take d ++ s.drop (i + d) := by
    have := (List.take_append_drop d (s.drop i)).symm
    rwa [List.drop_drop] at this
  have hlt : ((s.drop i).take d).length = d := by simp; omega
  rw [← List.append_assoc]
  congr 1
  generalize hA : (s.drop i).take d = A at e hlt
  rw [e, List.take_append, hlt, List.take_of_length_le (by omega), show f + k - i - d = f + k - (i + d) by omega]
theorem foldX_brk (s : List UInt8) (f m i : Nat) (h1 : f < i) (h2 : i < s.length) (hm : m < i - f + (D s i).2) : foldX s f m i = 13 :: 10 :: 32 :: foldX s i 74 i := by
  have hl : (s.drop f).length = s.length - f := by simp
  have hst := fitA_step (s.drop f) m (i - f) (by omega)
  rw [D_at s f i (by omega) (by omega), if_pos (by omega)] at hst
  unfold foldX
  rw [hst, show f + (i - f) = i by omega, Nat.sub_self, List.take_zero, List.nil_append]
  unfold joinR
  have hne : s.drop i ≠ [] := fun e => by have := congrArg List.length e; simp at this; omega
  rw [foldR_step _ hne, List.flatMap_cons]
  have hf : fits (s.drop i) 74 = fitA (s.drop i) 74 0 := rfl
  rw [hf, List.drop_drop, Nat.add_sub_cancel_left]
  rfl
theorem foldone38 (s : List UInt8) (hs : s.length < 100000000) : DRet 38 [.str s] (.str (ended (rowsL s))) := by
  refine acalls_go c38 (by simp [f38]) ?_
  simp only [f38, ↓gos, gop, Nat.reduceBEq, Nat.reduceAdd, Nat.reduceSub, Nat.reduceLeDiff, Nat.reduceMul, Int.reduceLE, Int.reduceLT, Int.reduceNe, Int.reduceToNat]
  refine goN_lp (γ := List UInt8 × Nat × Nat × Nat) (fun g => [(5, .int .i64 g.2.2.2), (3, .str g.1), (4, .int .i64 ((g.2.2.1 : Int) - ((g.2.2.2 : Int) - (g.2.1 : Int)))), (0, .str s)]) (fun _ => [])
    (fun g => g.2.1 ≤ g.2.2.2 ∧ g.2.2.2 ≤ s.length ∧ 74 ≤ g.2.2.1 ∧ g.2.2.2 - g.2.1 ≤ g.2.2.1 ∧ g.2.2.1 ≤ 75 ∧ g.1.length ≤ 4 * g.2.2.2 ∧ g.1 ++ foldX s g.2.1 g.2.2.1 g.2.2.2 ++ [13, 10] = ended (rowsL s)) (fun g => s.length - g.2.2.2) ([], 0, 75, 0)
    (wks rfl (by simp) ⟨rfl, rfl, rfl, rfl, trivial⟩) ⟨by simp, by simp, by simp, by simp, by simp, by simp, by simp only [List.nil_append]; exact foldX_start s⟩ fun g hg => ?_
  obtain ⟨out, f, m, i⟩ := g
  obtain ⟨g1, g2, g3, g4, g5, g6, g7⟩ := hg
  simp only at g1 g2 g3 g4 g5 g6 g7
  simp only [f38l0, ↓gos, gop, Nat.reduceBEq, Nat.reduceAdd, Nat.reduceSub, Nat.reduceLeDiff, Nat.reduceMul, Int.reduceLE, Int.reduceLT, Int.reduceNe, Int.reduceToNat]
  refine ⟨fun a1 => ?_, fun a1 => ?_⟩
  · refine call_ret (dec65 (E := ED) rfl s i (by omega) (by omega)) rfl rfl ?_
    rw [decR_D s i (by omega)]
    have hD := D_len s i (by omega)
    have hD4 := D_le4 s i
    have hx : ((max 1 (if D s i = (65533, 1) then ((0, 0) : Nat × Nat) else D s i).2 : Nat)) = (D s i).2 := by
      split
      · rename_i h; rw [h]; rfl
      · omega
    have hgo := foldX_go s f m i g1 (by omega)
    have hgo2 := foldX_go s i 74 i (Nat.le_refl _) (by omega)
    have hbk := foldX_brk s f m i
    generalize (if D s i = (65533, 1) then ((0, 0) : Nat × Nat) else D s i) = x at hx ⊢
    generalize (D s i).2 = d at *
    obtain ⟨x1, x2⟩ := x
    simp only at hx
    simp only [↓gos, gop, Nat.reduceBEq, Nat.reduceAdd, Nat.reduceSub, Nat.reduceLeDiff, Nat.reduceMul, Int.reduceLE, Int.reduceLT, Int.reduceNe, Int.reduceToNat]
    intro v hv
    have hv : v = (d : Int) := by
      rw [hv]
      split <;> omega
    subst hv
    have hti : List.take (i + d - i) (List.drop i s) = List.take d (List.drop i s) := by rw [Nat.add_sub_cancel_left]
    have htl : (List.take d (List.drop i s)).length = d := by simp; omega
    refine ⟨fun b1 => ⟨by omega, fun v1 hv1 => ?_⟩, fun b1 v1 hv1 => ?_⟩
    · rw [wrap_i64 (by omega) (by omega)] at hv1
      have hv1 : v1 = ((i + d : Nat) : Int) := by omega
      subst hv1
      rw [Int.toNat_natCast, hti]
      refine ⟨by omega, by omega, by rw [htl]; simp; omega, fun v2 hv2 v3 hv3 => ?_⟩
      rw [wrap_i64 (by omega) (by omega)] at hv2 hv3
      have hv2 : v2 = ((74 : Nat) : Int) - (((i + d : Nat) : Int) - (i : Int)) := by omega
      have hv3 : v3 = ((i + d : Nat) : Int) := by omega
      subst hv2; subst hv3
      refine rnd_s (out ++ [13, 10, 32] ++ List.take d (List.drop i s), i, 74, i + d) rfl (by simp) ⟨rfl, rfl, rfl, rfl, trivial⟩ ⟨by simp only; omega, by simp only; omega, by simp only; omega, by simp only; omega, by simp only; omega, ?_, ?_⟩ (by simp only; omega)
      · simp only [List.length_append, htl, List.length_cons, List.length_nil]; omega
      · rw [← g7, hbk (by omega) (by omega) (by omega), hgo2 (by omega)]
        simp
    · rw [wrap_i64 (by omega) (by omega)] at hv1
      have hv1 : v1 = ((i + d : Nat) : Int) := by omega
      subst hv1
      rw [Int.toNat_natCast, hti]
      refine ⟨by omega, by omega, by rw [htl]; omega, fun v2 hv2 v3 hv3 => ?_⟩
      rw [wrap_i64 (by omega) (by omega)] at hv2 hv3
      have hv2 : v2 = ((m : Nat) : Int) - (((i + d : Nat) : Int) - (f : Int)) := by omega
      have hv3 : v3 = ((i + d : Nat) : Int) := by omega
      subst hv2; subst hv3
      refine rnd_s (out ++ List.take d (List.drop i s), f, m, i + d) rfl (by simp) ⟨rfl, rfl, rfl, rfl, trivial⟩ ⟨by simp only; omega, by simp only; omega, g3, by simp only; omega, g5, ?_, ?_⟩ (by simp only; omega)
      · simp only [List.length_append, htl]; omega
      · rw [← g7, hgo (by omega)]
        simp
  · have : i = s.length := by omega
    subst this
    rw [foldX_end s f m g1, List.append_nil] at g7
    exact ⟨by omega, ends g7⟩
theorem fold12 (l : List (List UInt8)) (hl : l.length < 1000000) (hb : (foldF l).length < 1000000000) (hw : ∀ x ∈ l, x.length < 100000000) : DRet 12 [.sl 1 (l.map sv)] (.str (foldF l)) := by
  refine acalls_go c12 (by simp [f12]) ?_
  simp only [f12, ↓gos, gop, Nat.reduceBEq, Nat.reduceAdd, Nat.reduceSub, Nat.reduceLeDiff, Nat.reduceMul, Int.reduceLE, Int.reduceLT, Int.reduceNe, Int.reduceToNat]
  refine goN_lp (γ := List UInt8 × Nat) (fun g => [(4, .int .i64 g.2), (3, .str g.1), (0, .sl 1 (l.map sv))]) (fun _ => []) (fun g => g.2 ≤ l.length ∧ g.1 ++ foldF (l.drop g.2) = foldF l) (fun g => l.length - g.2) ([], 0)
    (wks rfl (by simp) ⟨rfl, rfl, rfl, trivial⟩) ⟨by simp, rfl⟩ fun g hg => ?_
  obtain ⟨out, i⟩ := g
  obtain ⟨g1, g2⟩ := hg
  simp only at g1 g2
  simp only [f12l0, ↓gos, gop, Nat.reduceBEq, Nat.reduceAdd, Nat.reduceSub, Nat.reduceLeDiff, Nat.reduceMul, Int.reduceLE, Int.reduceLT, Int.reduceNe, Int.reduceToNat]
  refine ⟨fun a1 => optP_at [] (by omega) ?_, fun a1 => ?_⟩
  · have hdr : l.drop i = l.getD i [] :: l.drop (i + 1) := by
      rw [List.drop_eq_getElem_cons (by omega), List.getD_eq_getElem?_getD, List.getElem?_eq_getElem (by omega)]; rfl
    have hx := hw _ (get_mem (show i < l.length by omega) [])
    rw [hdr] at g2
    generalize l.getD i [] = x at g2 hx ⊢
    have hfc : foldF (x :: l.drop (i + 1)) = ended (rowsL x) ++ foldF (l.drop (i + 1)) := by simp [foldF]
    rw [hfc] at g2
    have hln := congrArg List.length g2
    rw [List.length_append, List.length_append] at hln
    simp only [sv, List.getElem?_cons_zero, ↓gos, gop, Nat.reduceBEq, Nat.reduceAdd, Nat.reduceSub, Nat.reduceLeDiff, Nat.reduceMul, Int.reduceLE, Int.reduceLT, Int.reduceNe, Int.reduceToNat]
    refine call_ret (foldone38 x hx) rfl rfl ?_
    simp only [↓gos, gop, Nat.reduceBEq, Nat.reduceAdd, Nat.reduceSub, Nat.reduceLeDiff, Nat.reduceMul, Int.reduceLE, Int.reduceLT, Int.reduceNe, Int.reduceToNat]
    refine ⟨by omega, fun v hv => ?_⟩
    rw [wrap_i64 (by omega) (by omega)] at hv
    have hv : v = ((i + 1 : Nat) : Int) := by omega
    subst hv
    exact rnd_s (out ++ ended (rowsL x), i + 1) rfl (by simp) ⟨rfl, rfl, rfl, trivial⟩ ⟨by simp only; omega, by simp only; rw [List.append_assoc]; exact g2⟩ (by simp only; omega)
  · rw [List.drop_eq_nil_of_le (by omega)] at g2
    exact ends (by rw [← g2]; simp [foldF])
end Go.Proofs.Ut

/- The document's line of a property. -/
namespace Go.Proofs.Ut
open Go.Ai Go.Shelf Go.RowKit
set_option linter.unusedSimpArgs false
set_option linter.unusedVariables false
set_option maxHeartbeats 1000000
set_option maxRecDepth 100000
def f53t : ACode := tl (tl (tl f53.body))
theorem f53e : f53.body = .seq (hd f53.body) (.seq (hd (tl f53.body)) (.seq (hd (tl (tl f53.body))) f53t)) := rfl
theorem a3_num (c : UInt8) : A3.contains c = (decide (c.toNat = 59) || decide (c.toNat = 58) || decide (c.toNat = 44)) := u8_all (P := fun c => A3.contains c = (decide (c.toNat = 59) || decide (c.toNat = 58) || decide (c.toNat = 44))) (by decide +kernel) c
def quoB (v : List UInt8) (k : Nat) : Bool := decide (v = []) || (v.take k).any A3.contains
theorem quo_all (v : List UInt8) : quoL v = if quoB v v.length = true then 34 :: v ++ [34] else v := by
  unfold quoL quoB
  rw [List.take_length]
  by_cases h : v = []
  · rw [if_pos (.inl h), decide_eq_true h, Bool.true_or, if_pos rfl]
  · rw [decide_eq_false h, Bool.false_or]
    by_cases h2 : v.any A3.contains = true
    · rw [if_pos (.inr h2), if_pos h2]
    · rw [if_neg (fun q => q.elim h h2), if_neg h2]
theorem quo_next (v : List UInt8) (k : Nat) (h : k < v.length) : quoB v (k + 1) = (quoB v k || A3.contains (v.getD k 0)) := by
  unfold quoB
  rw [take_getD h 0, List.any_append, Bool.or_assoc]
  simp
theorem line53 (p : PR) (hp : wtP p < 1000000000) : DRet 53 [.agg (pv p)] (.str (writtenL p)) := by
  have ha := atts_len p.ps
  have hw : p.g.length + p.n.length + p.v.length + 5 + wtA p.ps < 1000000000 := hp
  refine acalls_go c53 (by simp [f53]) ?_
  have key : ∀ (L : List (Nat × DV)) (x : List UInt8), x = frontL p → slots L 1 = .ptr 0 0 → slots L 3 = .str x → goN ED 0 (fin 0 f53.res fun h d => h = [] ∧ d = .str (writtenL p)) [] f53t L [.box (pv p)] := fun L x hx h1 h3 => by
    have hxl : x.length ≤ p.g.length + p.n.length + 1 := by rw [hx]; unfold frontL; split <;> first | omega | (simp only [List.length_append, List.length_cons]; omega)
    simp only [f53t, f53, tl_seq, pv, h1, h3, ↓gos, gop, Nat.reduceBEq, Nat.reduceAdd, Nat.reduceSub, Nat.reduceLeDiff, Nat.reduceMul, Int.reduceLE, Int.reduceLT, Int.reduceNe, Int.reduceToNat]
    refine goN_lp (γ := Nat) (fun i => [(4, .int .i64 i), (1, .ptr 0 0), (3, .str (x ++ (p.ps.take i).flatMap attL))]) (fun _ => [.box (pv p)]) (fun i => i ≤ p.ps.length) (fun i => p.ps.length - i) 0
      (wks rfl (by simp) ⟨rfl, h1, (by simp [slots, h3]), trivial⟩) (by omega) fun i hi => ?_
    have hti := (atts_len (p.ps.take i)).1
    simp only [f53l1, pv, ↓gos, gop, Nat.reduceBEq, Nat.reduceAdd, Nat.reduceSub, Nat.reduceLeDiff, Nat.reduceMul, Int.reduceLE, Int.reduceLT, Int.reduceNe, Int.reduceToNat]
    refine ⟨fun h => ?_, fun h => ?_⟩
    · have hi2 : i < p.ps.length := by omega
      refine optP_at default (by simpa using hi2) ?_
      have hat := atts_take p i hi2
      have hget : p.ps[i]? = some (p.ps.getD i default) := by
        rw [List.getD_eq_getElem?_getD, List.getElem?_eq_getElem hi2]; rfl
      generalize p.ps.getD i default = a at hat hget ⊢
      have hr : p.ps.take i ++ [a] = p.ps.take (i + 1) := hat.symm
      have haw : a.1.length + a.2.length + 5 + wtA (p.ps.take i) ≤ wtA p.ps := by
        have e := wtA_app (p.ps.take (i + 1)) (p.ps.drop (i + 1))
        rw [List.take_append_drop, ← hr, wtA_app, wtA_cons] at e
        omega
      have fin : ∀ (L' : List (Nat × DV)) (y : List UInt8), y = x ++ (p.ps.take i).flatMap attL ++ attL a → slots L' 4 = .int .i64 ((i + 1 : Nat) : Int) → slots L' 1 = .ptr 0 0 → slots L' 3 = .str y →
          rnd 0 (fun (i : Nat) => [(4, .int .i64 i), (1, .ptr 0 0), (3, .str (x ++ (p.ps.take i).flatMap attL))]) (fun _ => [.box [.str p.g, .str p.n, .sl 2 (p.ps.map av), .str p.v]]) (fun (i : Nat) => i ≤ p.ps.length) (fun (i : Nat) => p.ps.length - i) (p.ps.length - i)
            (sta L' [.box [.str p.g, .str p.n, .sl 2 (p.ps.map av), .str p.v]]) := fun L' y hy k1 k4 k5 => by
        refine rnd_s (i + 1) rfl (by simp) ⟨k1, k4, ?_, trivial⟩ (by omega) (by omega)
        rw [k5, hy, hat, List.flatMap_append]
        simp
      simp only [av, List.getElem?_cons_succ, List.getElem?_cons_zero, ↓gos, gop, Nat.reduceBEq, Nat.reduceAdd, Nat.reduceSub, Nat.reduceLeDiff, Nat.reduceMul, Int.reduceLE, Int.reduceLT, Int.reduceNe, Int.reduceToNat]
      refine ⟨fun he => ?_, fun he => ?_⟩
      · refine goN_lp (γ := Nat) (fun j => [(7, .int .i64 j), (6, .bool (quoB a.2 j)), (5, .str a.2), (4, .int .i64 i), (1, .ptr 0 0), (3, .str (x ++ (p.ps.take i).flatMap attL))]) (fun _ => [.box [.str p.g, .str p.n, .sl 2 (p.ps.map av), .str p.v]]) (fun j => j ≤ a.2.length) (fun j => a.2.length - j) 0
          (wks rfl (by simp) ⟨rfl, (by unfold quoB; rw [decide_eq_true he]; rfl), rfl, rfl, rfl, rfl, trivial⟩) (by omega) fun j hj => ?_
        simp only [f53l0, ↓gos, gop, Nat.reduceBEq, Nat.reduceAdd, Nat.reduceSub, Nat.reduceLeDiff, Nat.reduceMul, Int.reduceLE, Int.reduceLT, Int.reduceNe, Int.reduceToNat]
        have hbt : bt a.2 j = ((a.2.getD j 0).toNat : Int) := rfl
        have hnx := quo_next a.2 j
        have hnum := a3_num (a.2.getD j 0)
        generalize a.2.getD j 0 = c at hbt hnx hnum
        rw [hbt]
        have rd : ∀ (L : List (Nat × DV)) (v : Int), j < a.2.length → v = IntKind.i64.wrap (j + 1) → slots L 7 = .int .i64 v → slots L 6 = .bool (quoB a.2 (j + 1)) → slots L 5 = .str a.2 → slots L 4 = .int .i64 i → slots L 1 = .ptr 0 0 → slots L 3 = .str (x ++ (p.ps.take i).flatMap attL) →
            rnd 0 (fun j : Nat => [(7, DV.int .i64 j), (6, .bool (quoB a.2 j)), (5, .str a.2), (4, .int .i64 i), (1, .ptr 0 0), (3, .str (x ++ (p.ps.take i).flatMap attL))]) (fun _ => [.box [.str p.g, .str p.n, .sl 2 (p.ps.map av), .str p.v]]) (fun j => j ≤ a.2.length) (fun j => a.2.length - j) (a.2.length - j) (sta L [.box [.str p.g, .str p.n, .sl 2 (p.ps.map av), .str p.v]]) := fun L v hj hv e7 e6 e5 e4 e1 e3 => by
          rw [wrap_i64 (by omega) (by omega)] at hv
          have hv : v = ((j + 1 : Nat) : Int) := by omega
          subst hv
          exact rnd_s (j + 1) rfl (by simp) ⟨e7, e6, e5, e4, e1, e3, trivial⟩ (by omega) (by omega)
        refine ⟨fun c1 => ?_, fun c1 => ?_⟩
        · have hnx := hnx (by omega)
          cases hq : quoB a.2 j
          · simp only [hq, ↓gos, gop, Nat.reduceBEq, Nat.reduceAdd, Nat.reduceSub, Nat.reduceLeDiff, Nat.reduceMul, Int.reduceLE, Int.reduceLT, Int.reduceNe, Int.reduceToNat]
            rw [hq, Bool.false_or] at hnx
            have e58 : A3.contains c = (decide (c.toNat = 59) || decide (c.toNat = 58) || decide (c.toNat = 44)) := hnum
            refine ⟨by omega, fun c2 v hv => ?_, fun c2 => ⟨by omega, fun c3 v hv => ?_, fun c3 => ⟨by omega, fun c4 v hv => ?_, fun c4 v hv => ?_⟩⟩⟩
            · exact rd _ v (by omega) hv rfl (by rw [hnx, hnum, decide_eq_true (p := c.toNat = 59) (by omega)]; rfl) rfl rfl rfl rfl
            · exact rd _ v (by omega) hv rfl (by rw [hnx, hnum, decide_eq_true (p := c.toNat = 58) (by omega), Bool.or_true]; rfl) rfl rfl rfl rfl
            · exact rd _ v (by omega) hv rfl (by rw [hnx, hnum, decide_eq_true (p := c.toNat = 44) (by omega), Bool.or_true]; rfl) rfl rfl rfl rfl
            · exact rd _ v (by omega) hv rfl (by rw [hnx, hnum, decide_eq_false (p := c.toNat = 59) (by omega), decide_eq_false (p := c.toNat = 58) (by omega), decide_eq_false (p := c.toNat = 44) (by omega)]; rfl) rfl rfl rfl rfl
          · simp only [hq, ↓gos, gop, Nat.reduceBEq, Nat.reduceAdd, Nat.reduceSub, Nat.reduceLeDiff, Nat.reduceMul, Int.reduceLE, Int.reduceLT, Int.reduceNe, Int.reduceToNat]
            intro v hv
            exact rd _ v (by omega) hv rfl (by rw [hnx, hq]; rfl) rfl rfl rfl rfl
        · have : j = a.2.length := by omega
          subst this
          have hqa := quo_all a.2
          cases hq : quoB a.2 a.2.length
          · rw [hq, if_neg (by simp)] at hqa
            simp only [hq, hget, av, ↓gos, gop, Nat.reduceBEq, Nat.reduceAdd, Nat.reduceSub, Nat.reduceLeDiff, Nat.reduceMul, Int.reduceLE, Int.reduceLT, Int.reduceNe, Int.reduceToNat]
            repeat (refine ⟨by first | omega | (simp only [List.length_append, List.length_cons, List.length_nil]; omega), ?_⟩)
            intro v hv
            rw [wrap_i64 (by omega) (by omega)] at hv
            have hv : v = ((i + 1 : Nat) : Int) := by omega
            subst hv
            refine fin _ _ ?_ rfl rfl rfl
            unfold attL
            rw [hqa]
            simp
          · rw [hq, if_pos rfl] at hqa
            simp only [hq, hget, av, ↓gos, gop, Nat.reduceBEq, Nat.reduceAdd, Nat.reduceSub, Nat.reduceLeDiff, Nat.reduceMul, Int.reduceLE, Int.reduceLT, Int.reduceNe, Int.reduceToNat]
            repeat (refine ⟨by first | omega | (simp only [List.length_append, List.length_cons, List.length_nil]; omega), ?_⟩)
            intro v hv
            rw [wrap_i64 (by omega) (by omega)] at hv
            have hv : v = ((i + 1 : Nat) : Int) := by omega
            subst hv
            refine fin _ _ ?_ rfl rfl rfl
            unfold attL
            rw [hqa]
            simp
      · refine goN_lp (γ := Nat) (fun j => [(7, .int .i64 j), (6, .bool (quoB a.2 j)), (5, .str a.2), (4, .int .i64 i), (1, .ptr 0 0), (3, .str (x ++ (p.ps.take i).flatMap attL))]) (fun _ => [.box [.str p.g, .str p.n, .sl 2 (p.ps.map av), .str p.v]]) (fun j => j ≤ a.2.length) (fun j => a.2.length - j) 0
          (wks rfl (by simp) ⟨rfl, (by unfold quoB; rw [decide_eq_false he]; rfl), rfl, rfl, rfl, rfl, trivial⟩) (by omega) fun j hj => ?_
        simp only [f53l0, ↓gos, gop, Nat.reduceBEq, Nat.reduceAdd, Nat.reduceSub, Nat.reduceLeDiff, Nat.reduceMul, Int.reduceLE, Int.reduceLT, Int.reduceNe, Int.reduceToNat]
        have hbt : bt a.2 j = ((a.2.getD j 0).toNat : Int) := rfl
        have hnx := quo_next a.2 j
        have hnum := a3_num (a.2.getD j 0)
        generalize a.2.getD j 0 = c at hbt hnx hnum
        rw [hbt]
        have rd : ∀ (L : List (Nat × DV)) (v : Int), j < a.2.length → v = IntKind.i64.wrap (j + 1) → slots L 7 = .int .i64 v → slots L 6 = .bool (quoB a.2 (j + 1)) → slots L 5 = .str a.2 → slots L 4 = .int .i64 i → slots L 1 = .ptr 0 0 → slots L 3 = .str (x ++ (p.ps.take i).flatMap attL) →
            rnd 0 (fun j : Nat => [(7, DV.int .i64 j), (6, .bool (quoB a.2 j)), (5, .str a.2), (4, .int .i64 i), (1, .ptr 0 0), (3, .str (x ++ (p.ps.take i).flatMap attL))]) (fun _ => [.box [.str p.g, .str p.n, .sl 2 (p.ps.map av), .str p.v]]) (fun j => j ≤ a.2.length) (fun j => a.2.length - j) (a.2.length - j) (sta L [.box [.str p.g, .str p.n, .sl 2 (p.ps.map av), .str p.v]]) := fun L v hj hv e7 e6 e5 e4 e1 e3 => by
          rw [wrap_i64 (by omega) (by omega)] at hv
          have hv : v = ((j + 1 : Nat) : Int) := by omega
          subst hv
          exact rnd_s (j + 1) rfl (by simp) ⟨e7, e6, e5, e4, e1, e3, trivial⟩ (by omega) (by omega)
        refine ⟨fun c1 => ?_, fun c1 => ?_⟩
        · have hnx := hnx (by omega)
          cases hq : quoB a.2 j
          · simp only [hq, ↓gos, gop, Nat.reduceBEq, Nat.reduceAdd, Nat.reduceSub, Nat.reduceLeDiff, Nat.reduceMul, Int.reduceLE, Int.reduceLT, Int.reduceNe, Int.reduceToNat]
            rw [hq, Bool.false_or] at hnx
            have e58 : A3.contains c = (decide (c.toNat = 59) || decide (c.toNat = 58) || decide (c.toNat = 44)) := hnum
            refine ⟨by omega, fun c2 v hv => ?_, fun c2 => ⟨by omega, fun c3 v hv => ?_, fun c3 => ⟨by omega, fun c4 v hv => ?_, fun c4 v hv => ?_⟩⟩⟩
            · exact rd _ v (by omega) hv rfl (by rw [hnx, hnum, decide_eq_true (p := c.toNat = 59) (by omega)]; rfl) rfl rfl rfl rfl
            · exact rd _ v (by omega) hv rfl (by rw [hnx, hnum, decide_eq_true (p := c.toNat = 58) (by omega), Bool.or_true]; rfl) rfl rfl rfl rfl
            · exact rd _ v (by omega) hv rfl (by rw [hnx, hnum, decide_eq_true (p := c.toNat = 44) (by omega), Bool.or_true]; rfl) rfl rfl rfl rfl
            · exact rd _ v (by omega) hv rfl (by rw [hnx, hnum, decide_eq_false (p := c.toNat = 59) (by omega), decide_eq_false (p := c.toNat = 58) (by omega), decide_eq_false (p := c.toNat = 44) (by omega)]; rfl) rfl rfl rfl rfl
          · simp only [hq, ↓gos, gop, Nat.reduceBEq, Nat.reduceAdd, Nat.reduceSub, Nat.reduceLeDiff, Nat.reduceMul, Int.reduceLE, Int.reduceLT, Int.reduceNe, Int.reduceToNat]
            intro v hv
            exact rd _ v (by omega) hv rfl (by rw [hnx, hq]; rfl) rfl rfl rfl rfl
        · have : j = a.2.length := by omega
          subst this
          have hqa := quo_all a.2
          cases hq : quoB a.2 a.2.length
          · rw [hq, if_neg (by simp)] at hqa
            simp only [hq, hget, av, ↓gos, gop, Nat.reduceBEq, Nat.reduceAdd, Nat.reduceSub, Nat.reduceLeDiff, Nat.reduceMul, Int.reduceLE, Int.reduceLT, Int.reduceNe, Int.reduceToNat]
            repeat (refine ⟨by first | omega | (simp only [List.length_append, List.length_cons, List.length_nil]; omega), ?_⟩)
            intro v hv
            rw [wrap_i64 (by omega) (by omega)] at hv
            have hv : v = ((i + 1 : Nat) : Int) := by omega
            subst hv
            refine fin _ _ ?_ rfl rfl rfl
            unfold attL
            rw [hqa]
            simp
          · rw [hq, if_pos rfl] at hqa
            simp only [hq, hget, av, ↓gos, gop, Nat.reduceBEq, Nat.reduceAdd, Nat.reduceSub, Nat.reduceLeDiff, Nat.reduceMul, Int.reduceLE, Int.reduceLT, Int.reduceNe, Int.reduceToNat]
            repeat (refine ⟨by first | omega | (simp only [List.length_append, List.length_cons, List.length_nil]; omega), ?_⟩)
            intro v hv
            rw [wrap_i64 (by omega) (by omega)] at hv
            have hv : v = ((i + 1 : Nat) : Int) := by omega
            subst hv
            refine fin _ _ ?_ rfl rfl rfl
            unfold attL
            rw [hqa]
            simp
    · rw [List.take_of_length_le (by omega)]
      refine ⟨by simp only [List.length_append]; omega, by simp only [List.length_append, List.length_cons, List.length_nil]; omega, ends ?_⟩
      unfold writtenL
      rw [hx]
      simp
  rw [f53e]
  simp only [f53, hd_seq, tl_seq, pv, ↓gos, gop, Nat.reduceBEq, Nat.reduceAdd, Nat.reduceSub, Nat.reduceLeDiff, Nat.reduceMul, Int.reduceLE, Int.reduceLT, Int.reduceNe, Int.reduceToNat]
  have hfr : frontL p = if p.g = [] then p.n else p.g ++ 46 :: p.n := rfl
  refine ⟨fun hg => ⟨by omega, by simp only [List.length_append, List.length_cons, List.length_nil]; omega, ?_⟩, fun hg => ?_⟩
  · exact key _ (p.g ++ [46] ++ p.n) (by rw [hfr, if_neg hg]; simp) rfl rfl
  · exact key _ p.n (by rw [hfr, if_pos hg]) rfl rfl
end Go.Proofs.Ut

/- The document's: what may stand in a card. -/
namespace Go.Proofs.Ut
open Go.Ai Go.Shelf Go.RowKit
set_option linter.unusedSimpArgs false
set_option linter.unusedVariables false
set_option maxHeartbeats 1000000
set_option maxRecDepth 100000
theorem up_end (s : List UInt8) : decide (up s = END) = ef s END := by
  unfold ef; rw [ef_up]; rfl
theorem may52 (p : PR) (hp : wtP p < 100000000) : DRet 52 [.agg (pv p)] (.bool (keptP p)) := by
  have hwl := written_len p
  have hl47 := line53 p (by omega)
  refine acalls_go c52 (by simp [f52]) ?_
  simp only [f52, pv, ↓gos, gop, Nat.reduceBEq, Nat.reduceAdd, Nat.reduceSub, Nat.reduceLeDiff, Nat.reduceMul, Int.reduceLE, Int.reduceLT, Int.reduceNe, Int.reduceToNat]
  refine call_ret hl47 rfl rfl ?_
  simp only [↓gos, gop, Nat.reduceBEq, Nat.reduceAdd, Nat.reduceSub, Nat.reduceLeDiff, Nat.reduceMul, Int.reduceLE, Int.reduceLT, Int.reduceNe, Int.reduceToNat]
  refine call_new (parse47 (writtenL p) (by omega)) (by simp [DV.closed]) ?_
  have hqb := prop_max (writtenL p)
  have hk : keptP p = ((propL (writtenL p)).2 && decide ((propL (writtenL p)).1 = p) && mayP p && !ef (writtenL p) END && runAt mayB (writtenL p) 0 && !endB (writtenL p)) := rfl
  unfold onlyP
  generalize propL (writtenL p) = x at hqb hk ⊢
  obtain ⟨q, b⟩ := x
  simp only at hqb hk
  have hpb := (atts_len p.ps).2
  have hpw : wtA p.ps ≤ wtP p := by unfold wtP; omega
  cases b
  · simp only [Bool.false_eq_true, if_false, DV.ren, DV.ren.renAll, renO, ↓gos, gop, Nat.reduceBEq, Nat.reduceAdd, Nat.reduceSub, Nat.reduceLeDiff, Nat.reduceMul, Int.reduceLE, Int.reduceLT, Int.reduceNe, Int.reduceToNat]
    exact endb (by rw [hk]; rfl)
  · simp only [if_true, DV.ren, DV.ren.renAll, renO, ↓gos, gop, Nat.reduceBEq, Nat.reduceAdd, Nat.reduceSub, Nat.reduceLeDiff, Nat.reduceMul, Int.reduceLE, Int.reduceLT, Int.reduceNe, Int.reduceToNat]
    refine call_ret (prop44 p q (by omega) (by omega)) (by simp [DV.dn, DV.low, DV.low.lowAll, pv, Go.Ai.tkm]) rfl ?_
    by_cases hq : q = p
    · subst hq
      rw [decide_eq_true rfl] at hk
      rw [decide_eq_true (p := q = q) rfl]
      simp only [↓gos, gop, Nat.reduceBEq, Nat.reduceAdd, Nat.reduceSub, Nat.reduceLeDiff, Nat.reduceMul, Int.reduceLE, Int.reduceLT, Int.reduceNe, Int.reduceToNat]
      refine call_ret (rvalid17 (E := ED) rfl (writtenL q) (by omega)) rfl rfl ?_
      cases hv : runAt mayB (writtenL q) 0
      · simp only [↓gos, gop, Nat.reduceBEq, Nat.reduceAdd, Nat.reduceSub, Nat.reduceLeDiff, Nat.reduceMul, Int.reduceLE, Int.reduceLT, Int.reduceNe, Int.reduceToNat]
        exact endb (by rw [hk, hv]; simp)
      · simp only [↓gos, gop, Nat.reduceBEq, Nat.reduceAdd, Nat.reduceSub, Nat.reduceLeDiff, Nat.reduceMul, Int.reduceLE, Int.reduceLT, Int.reduceNe, Int.reduceToNat]
        refine call_ret (onerow77 (writtenL q) (by omega)) rfl rfl ?_
        cases he : endB (writtenL q)
        · simp only [Bool.not_false, ↓gos, gop, Nat.reduceBEq, Nat.reduceAdd, Nat.reduceSub, Nat.reduceLeDiff, Nat.reduceMul, Int.reduceLE, Int.reduceLT, Int.reduceNe, Int.reduceToNat]
          refine ⟨fun b1 => ⟨fun b2 => ?_, fun b2 => ?_⟩, fun b1 => ?_⟩
          · have hm : mayP q = true := by
              unfold mayP
              rw [decide_eq_false (p := q.n = FIR) b1, decide_eq_false (p := q.n = VER) b2]; rfl
            have hue := up_end (writtenL q)
            refine call_ret (upper46 (writtenL q) (by omega)) rfl rfl ?_
            simp only [↓gos, gop, Nat.reduceBEq, Nat.reduceAdd, Nat.reduceSub, Nat.reduceLeDiff, Nat.reduceMul, Int.reduceLE, Int.reduceLT, Int.reduceNe, Int.reduceToNat]
            refine ⟨fun b3 => ?_, fun b3 => ?_⟩ <;> refine endb ?_
            · rw [hk, hm, hv, he, ← hue]
              first | (rw [decide_eq_false (p := up (writtenL q) = END) b3]; rfl) | (rw [decide_eq_true (p := up (writtenL q) = END) b3]; rfl)
            · rw [hk, hm, hv, he, ← hue]
              first | (rw [decide_eq_false (p := up (writtenL q) = END) b3]; rfl) | (rw [decide_eq_true (p := up (writtenL q) = END) b3]; rfl)
          · have hm : mayP q = false := by
              unfold mayP
              rw [decide_eq_true (p := q.n = VER) b2]; simp
            exact endb (by rw [hk, hm]; simp)
          · have hm : mayP q = false := by
              unfold mayP
              rw [decide_eq_true (p := q.n = FIR) b1]; rfl
            exact endb (by rw [hk, hm]; simp)
        · simp only [Bool.not_true, ↓gos, gop, Nat.reduceBEq, Nat.reduceAdd, Nat.reduceSub, Nat.reduceLeDiff, Nat.reduceMul, Int.reduceLE, Int.reduceLT, Int.reduceNe, Int.reduceToNat]
          exact endb (by rw [hk, he]; simp)
    · rw [decide_eq_false (fun e => hq e.symm)]
      simp only [↓gos, gop, Nat.reduceBEq, Nat.reduceAdd, Nat.reduceSub, Nat.reduceLeDiff, Nat.reduceMul, Int.reduceLE, Int.reduceLT, Int.reduceNe, Int.reduceToNat]
      exact endb (by rw [hk, decide_eq_false hq]; simp)
end Go.Proofs.Ut

/- The document's WriteCards. -/
namespace Go.Proofs.Ut
open Go.Ai Go.Shelf Go.RowKit
set_option linter.unusedSimpArgs false
set_option linter.unusedVariables false
set_option maxHeartbeats 1000000
set_option maxRecDepth 100000
theorem all_take_no {α : Type} (f : α → Bool) (c : List α) (p : α) (hp : p ∈ c) (h : f p = false) : c.all f = false := by
  rw [List.all_eq_false]; exact ⟨p, hp, by rw [h]; simp⟩
theorem write23 (l : List (List PR)) (hl : l.length < 1000000000) (hc : ∀ c ∈ l, c.length < 1000000000 ∧ wtC c) : DRet 23 [.sl 1 (l.map cv)] (.tup [.str (writeL l).1, .int .i64 (writeL l).2]) := by
  refine acalls_go c23 (by simp [f23]) ?_
  simp only [f23, ↓gos, gop, Nat.reduceBEq, Nat.reduceAdd, Nat.reduceSub, Nat.reduceLeDiff, Nat.reduceMul, Int.reduceLE, Int.reduceLT, Int.reduceNe, Int.reduceToNat]
  have bad : okW l = false → writeL l = ([], 12) := fun h => by unfold writeL; rw [if_pos h]
  refine ⟨fun h => ?_, fun h => ?_⟩
  · rw [bad (by rw [okW_eq, decide_eq_false (by omega)]; rfl)]
    exact finE_closed rfl ⟨rfl, rfl⟩
  · refine goN_lp (γ := Nat) (fun i => [(5, .int .i64 i), (4, .osl 1 0 0 (linesW (l.take i)).length none), (0, .sl 1 (l.map cv))]) (fun i => [.arr 1 ((linesW (l.take i)).map sv)])
      (fun i => i ≤ l.length ∧ (l.take i).all okc = true) (fun i => l.length - i) 0 (wks rfl (by simp) ⟨rfl, rfl, rfl, trivial⟩) ⟨by omega, by simp⟩ fun i hi => ?_
    obtain ⟨hi, ht⟩ := hi
    have hlw := linesW_len _ ht
    rw [List.length_take] at hlw
    simp only [f23l1, ↓gos, gop, Nat.reduceBEq, Nat.reduceAdd, Nat.reduceSub, Nat.reduceLeDiff, Nat.reduceMul, Int.reduceLE, Int.reduceLT, Int.reduceNe, Int.reduceToNat]
    refine ⟨fun h1 => ?_, fun h1 => ?_⟩
    · have h2 : i < l.length := by omega
      refine optP_at default (by simpa using h2) ?_
      have htk := take_getD h2 default
      have hm := get_mem h2 default
      have hno := fun (p : List PR → Bool) => all_no (p := p) h2 default
      have hget : l[i]? = some (l.getD i default) := by
        rw [List.getD_eq_getElem?_getD, List.getElem?_eq_getElem h2]; rfl
      generalize l.getD i default = c at htk hm hno hget ⊢
      simp only [cv, List.getElem?_cons_zero, ↓gos, gop, Nat.reduceBEq, Nat.reduceAdd, Nat.reduceSub, Nat.reduceLeDiff, Nat.reduceMul, Int.reduceLE, Int.reduceLT, Int.reduceNe, Int.reduceToNat]
      refine ⟨fun h3 => ?_, fun h3 => ⟨by omega, by omega, ?_⟩⟩
      · rw [bad (by rw [okW_eq, hno okc (by rw [okc, decide_eq_false (by omega)]; rfl)]; simp)]
        exact finE_closed rfl ⟨rfl, rfl⟩
      · generalize hb : linesW (l.take i) ++ [BEG, VER ++ 58 :: V40] = base
        have hbl : base.length = (linesW (l.take i)).length + 2 := by rw [← hb]; simp
        refine goN_lp (γ := Nat) (fun j => [(6, .int .i64 j), (4, .osl 1 0 0 (base ++ (c.take j).map writtenL).length none), (5, .int .i64 i), (0, .sl 1 (l.map cv))]) (fun j => [.arr 1 ((base ++ (c.take j).map writtenL).map sv)])
          (fun j => j ≤ c.length ∧ (c.take j).all keptP = true) (fun j => c.length - j) 0 (wkd 1 ?_ (by simp) ⟨rfl, rfl, ?_, rfl, rfl, rfl, rfl, rfl, trivial⟩ (by simp [inO])) ⟨by omega, by simp⟩ fun j hj => ?_
        · simp [← hb, sv]; decide
        · simp [slots, hbl]
        obtain ⟨hj, hjk⟩ := hj
        simp only [f23l0, hget, cv, ↓gos, gop, Nat.reduceBEq, Nat.reduceAdd, Nat.reduceSub, Nat.reduceLeDiff, Nat.reduceMul, Int.reduceLE, Int.reduceLT, Int.reduceNe, Int.reduceToNat]
        refine ⟨fun q1 => ?_, fun q1 => ?_⟩
        · have q2 : j < c.length := by omega
          refine optP_at default (by simpa using q2) ?_
          have jtk := take_getD q2 default
          have jm := get_mem q2 default
          have jget : c[j]? = some (c.getD j default) := by
            rw [List.getD_eq_getElem?_getD, List.getElem?_eq_getElem q2]; rfl
          generalize c.getD j default = p at jtk jm jget ⊢
          have hwp := (hc c hm).2 p jm
          simp only [pv, List.length_cons, List.length_nil, List.take_succ_cons, List.take_zero, ↓gos, gop, Nat.reduceBEq, Nat.reduceAdd, Nat.reduceSub, Nat.reduceLeDiff, Nat.reduceMul, Int.reduceLE, Int.reduceLT, Int.reduceNe, Int.reduceToNat]
          refine call_ret (may52 p (by omega)) rfl rfl ?_
          cases hk : keptP p
          · simp only [↓gos, gop, Nat.reduceBEq, Nat.reduceAdd, Nat.reduceSub, Nat.reduceLeDiff, Nat.reduceMul, Int.reduceLE, Int.reduceLT, Int.reduceNe, Int.reduceToNat]
            rw [bad (by rw [okW_eq, hno okc (by rw [okc, all_take_no keptP c p jm hk]; simp)]; simp)]
            exact finE_closed rfl ⟨rfl, rfl⟩
          · simp only [hget, jget, cv, pv, ↓gos, gop, Nat.reduceBEq, Nat.reduceAdd, Nat.reduceSub, Nat.reduceLeDiff, Nat.reduceMul, Int.reduceLE, Int.reduceLT, Int.reduceNe, Int.reduceToNat]
            refine call_ret (line53 p (by omega)) rfl rfl ?_
            simp only [↓gos, gop, Nat.reduceBEq, Nat.reduceAdd, Nat.reduceSub, Nat.reduceLeDiff, Nat.reduceMul, Int.reduceLE, Int.reduceLT, Int.reduceNe, Int.reduceToNat]
            have e1 : (base ++ (c.take j).map writtenL).length + 1 = (base ++ (c.take (j + 1)).map writtenL).length := by rw [jtk]; simp; omega
            have e2 : (base ++ (c.take j).map writtenL).map sv ++ [[DV.str (writtenL p)]] = (base ++ (c.take (j + 1)).map writtenL).map sv := by rw [jtk]; simp [sv]
            have e3 : (base ++ (c.take j).map writtenL).length ≤ 10000 := by simp [hbl]; omega
            refine ⟨by omega, by omega, ?_⟩
            intro v hv
            rw [wrap_i64 (by omega) (by omega)] at hv
            subst hv
            rw [e1, e2]
            exact rnd_d 1 (j + 1) rfl (by simp) ⟨rfl, rfl, rfl, rfl, rfl, rfl, rfl, rfl, trivial⟩ rfl ⟨by omega, by rw [jtk, List.all_append, hjk]; simp [hk]⟩ (by omega)
        · have q2 : j = c.length := by omega
          subst q2
          rw [List.take_length] at hjk ⊢
          have hck : okc c = true := by rw [okc, hjk, decide_eq_true (by omega)]; rfl
          have hall : (l.take (i + 1)).all okc = true := by rw [htk, List.all_append, ht]; simp [hck]
          have hlw2 := linesW_len _ hall
          rw [List.length_take] at hlw2
          have e1 : (base ++ c.map writtenL).length + 1 = (linesW (l.take (i + 1))).length := by rw [htk, linesW_app, lineC, ← hb]; simp; omega
          have e2 : (base ++ c.map writtenL).map sv ++ [[DV.str [69, 78, 68, 58, 86, 67, 65, 82, 68]]] = (linesW (l.take (i + 1))).map sv := by rw [htk, linesW_app, lineC, ← hb]; simp [sv]; rfl
          have e3 : (base ++ c.map writtenL).length ≤ 10000 := by simp [hbl]; omega
          refine ⟨by omega, by omega, ?_⟩
          intro v hv
          rw [wrap_i64 (by omega) (by omega)] at hv
          subst hv
          rw [e1, e2]
          exact rnd_d 1 (i + 1) rfl (by simp) ⟨rfl, rfl, rfl, rfl, rfl, rfl, trivial⟩ rfl ⟨by omega, hall⟩ (by omega)
    · have h2 : i = l.length := by omega
      subst h2
      rw [List.take_length] at ht hlw ⊢
      have hok : okW l = true := by rw [okW_eq, ht, decide_eq_true (by omega)]; rfl
      have hfl := foldF_le 50000 (linesW l) (lines_le l fun c hm => (hc c hm).2)
      have hll : (linesW l).length ≤ 2580 := by omega
      have hmul : (linesW l).length * (4 * 50000 + 2) ≤ 2580 * (4 * 50000 + 2) := Nat.mul_le_mul_right _ hll
      have hlx := lines_le l fun c hm => (hc c hm).2
      refine call_ret (fold12 (linesW l) (by omega) (by omega) (fun x hx => by have := hlx x hx; omega)) (by simp [DV.dn, DV.low, Go.Ai.tkm]) rfl ?_
      simp only [↓gos, gop, Nat.reduceBEq, Nat.reduceAdd, Nat.reduceSub, Nat.reduceLeDiff, Nat.reduceMul, Int.reduceLE, Int.reduceLT, Int.reduceNe, Int.reduceToNat]
      unfold writeL
      rw [if_neg (by rw [hok]; simp)]
      refine ⟨fun q => ?_, fun q => ?_⟩
      · rw [if_pos (by omega)]
        exact finE_closed rfl ⟨rfl, rfl⟩
      · rw [if_neg (by omega)]
        exact finE_closed rfl ⟨rfl, rfl⟩
end Go.Proofs.Ut
