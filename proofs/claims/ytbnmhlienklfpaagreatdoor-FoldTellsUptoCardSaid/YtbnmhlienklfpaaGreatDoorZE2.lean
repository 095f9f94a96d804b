/- The document's Fold. -/
import Derived.Test.YtbnmhlienklfpaaGreatDoorZA
import Derived.Test.YtbnmhlienklfpaaGreatDoorZFoD
import Derived.Test.YtbnmhlienklfpaaGreatDoorZFoA
set_option linter.all false
namespace Go.Proofs.Ut
open Go.Ai Go.Shelf Go.RowKit
set_option linter.unusedSimpArgs false
set_option linter.unusedVariables false
set_option maxHeartbeats 1000000
set_option maxRecDepth 100000
def joinR (t : List UInt8) : List UInt8 := (foldR t).flatMap fun r => 13 :: 10 :: r
def foldX (s : List UInt8) (f m i : Nat) : List UInt8 := (s.drop i).take (f + fitA (s.drop f) m (i - f) - i) ++ joinR (s.drop (f + fitA (s.drop f) m (i - f)))
theorem ended_join : ∀ (rs : List (List UInt8)) (r : List UInt8), ended (r :: rs) = r ++ (rs.flatMap fun r => 13 :: 10 :: r) ++ [13, 10]
  | [], r => by simp [ended]
  | x :: rs, r => by
    rw [ended_cons, ended_join rs x]
    simp
theorem foldX_start (s : List UInt8) : foldX s 0 75 0 ++ [13, 10] = ended (rowsL s) := by
  rw [rowsL_eq, ended_join]
  unfold foldX joinR
  simp only [List.drop_zero, Nat.zero_add, Nat.sub_zero]
  rfl
theorem D_at (s : List UInt8) (f i : Nat) (h1 : f ≤ i) (h2 : i ≤ s.length) : D (s.drop f) (i - f) = D s i := by
  rw [D_drop (s.drop f) (i - f) (by simp; omega), D_drop s i h2, List.drop_drop, show f + (i - f) = i by omega]
theorem foldX_end (s : List UInt8) (f m : Nat) (h1 : f ≤ s.length) : foldX s f m s.length = [] := by
  unfold foldX
  rw [fitA_end _ _ _ (by simp), show f + (s.length - f) = s.length by omega, Nat.sub_self, List.drop_length]
  rfl
theorem foldX_go (s : List UInt8) (f m i : Nat) (h1 : f ≤ i) (h2 : i < s.length) (hm : i - f + (D s i).2 ≤ m) : foldX s f m i = (s.drop i).take (D s i).2 ++ foldX s f m (i + (D s i).2) := by
  have hD := D_len s i h2
  have hl : (s.drop f).length = s.length - f := by simp
  have hst := fitA_step (s.drop f) m (i - f) (by omega)
  rw [D_at s f i h1 (by omega), if_neg (by omega), show i - f + (D s i).2 = i + (D s i).2 - f by omega] at hst
  have hle := fitA_le (s.drop f) m _ (i + (D s i).2 - f) (Nat.le_refl _) (by omega)
  unfold foldX
  rw [hst]
  generalize fitA (s.drop f) m (i + (D s i).2 - f) = k at hle
  generalize (D s i).2 = d at hle hD
  have e : s.drop i = (s.drop i).take d ++ s.drop (i + d) := by
    have := (List.take_append_drop d (s.drop i)).symm
    rwa [List.drop_drop] at this
  have hlt : ((s.drop i).take d).length = d := by simp; omega
  rw [← List.append_assoc]
  congr 1
  generalize hA : (s.drop i).take d = A at e hlt
  rw [e, List.take_append, hlt, List.take_of_length_le (by omega), show f + k - i - d = f + k - (i + d) by omega]
theorem foldX_brk (s : List UInt8) (f m i : Nat) (h1 : f < i) (h2 : i < s.length) (hm : m < i - f + (D s i).2) : foldX s f m i = 13 :: 10 :: 32 :: foldX s i 74 i := by
  have hl : (s.drop f).length = s.length - f := by simp
  have hst := fitA_step (s.drop f) m (i - f) (by omega)
  rw [D_at s f i (by omega) (by omega), if_pos (by omega)] at hst
  unfold foldX
  rw [hst, show f + (i - f) = i by omega, Nat.sub_self, List.take_zero, List.nil_append]
  unfold joinR
  have hne : s.drop i ≠ [] := fun e => by have := congrArg List.length e; simp at this; omega
  rw [foldR_step _ hne, List.flatMap_cons]
  have hf : fits (s.drop i) 74 = fitA (s.drop i) 74 0 := rfl
  rw [hf, List.drop_drop, Nat.add_sub_cancel_left]
  rfl
theorem foldone38 (s : List UInt8) (hs : s.length < 100000000) : DRet 38 [.str s] (.str (ended (rowsL s))) := by
  refine acalls_go c38 (by simp [f38]) ?_
  simp only [f38, ↓gos, gop, Nat.reduceBEq, Nat.reduceAdd, Nat.reduceSub, Nat.reduceLeDiff, Nat.reduceMul, Int.reduceLE, Int.reduceLT, Int.reduceNe, Int.reduceToNat]
  refine goN_lp (γ := List UInt8 × Nat × Nat × Nat) (fun g => [(5, .int .i64 g.2.2.2), (3, .str g.1), (4, .int .i64 ((g.2.2.1 : Int) - ((g.2.2.2 : Int) - (g.2.1 : Int)))), (0, .str s)]) (fun _ => [])
    (fun g => g.2.1 ≤ g.2.2.2 ∧ g.2.2.2 ≤ s.length ∧ 74 ≤ g.2.2.1 ∧ g.2.2.2 - g.2.1 ≤ g.2.2.1 ∧ g.2.2.1 ≤ 75 ∧ g.1.length ≤ 4 * g.2.2.2 ∧ g.1 ++ foldX s g.2.1 g.2.2.1 g.2.2.2 ++ [13, 10] = ended (rowsL s)) (fun g => s.length - g.2.2.2) ([], 0, 75, 0)
    (wks rfl (by simp) ⟨rfl, rfl, rfl, rfl, trivial⟩) ⟨by simp, by simp, by simp, by simp, by simp, by simp, by simp only [List.nil_append]; exact foldX_start s⟩ fun g hg => ?_
  obtain ⟨out, f, m, i⟩ := g
  obtain ⟨g1, g2, g3, g4, g5, g6, g7⟩ := hg
  simp only at g1 g2 g3 g4 g5 g6 g7
  simp only [f38l0, ↓gos, gop, Nat.reduceBEq, Nat.reduceAdd, Nat.reduceSub, Nat.reduceLeDiff, Nat.reduceMul, Int.reduceLE, Int.reduceLT, Int.reduceNe, Int.reduceToNat]
  refine ⟨fun a1 => ?_, fun a1 => ?_⟩
  · refine call_ret (dec65 (E := ED) rfl s i (by omega) (by omega)) rfl rfl ?_
    rw [decR_D s i (by omega)]
    have hD := D_len s i (by omega)
    have hD4 := D_le4 s i
    have hx : ((max 1 (if D s i = (65533, 1) then ((0, 0) : Nat × Nat) else D s i).2 : Nat)) = (D s i).2 := by
      split
      · rename_i h; rw [h]; rfl
      · omega
    have hgo := foldX_go s f m i g1 (by omega)
    have hgo2 := foldX_go s i 74 i (Nat.le_refl _) (by omega)
    have hbk := foldX_brk s f m i
    generalize (if D s i = (65533, 1) then ((0, 0) : Nat × Nat) else D s i) = x at hx ⊢
    generalize (D s i).2 = d at *
    obtain ⟨x1, x2⟩ := x
    simp only at hx
    simp only [↓gos, gop, Nat.reduceBEq, Nat.reduceAdd, Nat.reduceSub, Nat.reduceLeDiff, Nat.reduceMul, Int.reduceLE, Int.reduceLT, Int.reduceNe, Int.reduceToNat]
    intro v hv
    have hv : v = (d : Int) := by
      rw [hv]
      split <;> omega
    subst hv
    have hti : List.take (i + d - i) (List.drop i s) = List.take d (List.drop i s) := by rw [Nat.add_sub_cancel_left]
    have htl : (List.take d (List.drop i s)).length = d := by simp; omega
    refine ⟨fun b1 => ⟨by omega, fun v1 hv1 => ?_⟩, fun b1 v1 hv1 => ?_⟩
    · rw [wrap_i64 (by omega) (by omega)] at hv1
      have hv1 : v1 = ((i + d : Nat) : Int) := by omega
      subst hv1
      rw [Int.toNat_natCast, hti]
      refine ⟨by omega, by omega, by rw [htl]; simp; omega, fun v2 hv2 v3 hv3 => ?_⟩
      rw [wrap_i64 (by omega) (by omega)] at hv2 hv3
      have hv2 : v2 = ((74 : Nat) : Int) - (((i + d : Nat) : Int) - (i : Int)) := by omega
      have hv3 : v3 = ((i + d : Nat) : Int) := by omega
      subst hv2; subst hv3
      refine rnd_s (out ++ [13, 10, 32] ++ List.take d (List.drop i s), i, 74, i + d) rfl (by simp) ⟨rfl, rfl, rfl, rfl, trivial⟩ ⟨by simp only; omega, by simp only; omega, by simp only; omega, by simp only; omega, by simp only; omega, ?_, ?_⟩ (by simp only; omega)
      · simp only [List.length_append, htl, List.length_cons, List.length_nil]; omega
      · rw [← g7, hbk (by omega) (by omega) (by omega), hgo2 (by omega)]
        simp
    · rw [wrap_i64 (by omega) (by omega)] at hv1
      have hv1 : v1 = ((i + d : Nat) : Int) := by omega
      subst hv1
      rw [Int.toNat_natCast, hti]
      refine ⟨by omega, by omega, by rw [htl]; omega, fun v2 hv2 v3 hv3 => ?_⟩
      rw [wrap_i64 (by omega) (by omega)] at hv2 hv3
      have hv2 : v2 = ((m : Nat) : Int) - (((i + d : Nat) : Int) - (f : Int)) := by omega
      have hv3 : v3 = ((i + d : Nat) : Int) := by omega
      subst hv2; subst hv3
      refine rnd_s (out ++ List.take d (List.drop i s), f, m, i + d) rfl (by simp) ⟨rfl, rfl, rfl, rfl, trivial⟩ ⟨by simp only; omega, by simp only; omega, g3, by simp only; omega, g5, ?_, ?_⟩ (by simp only; omega)
      · simp only [List.length_append, htl]; omega
      · rw [← g7, hgo (by omega)]
        simp
  · have : i = s.length := by omega
    subst this
    rw [foldX_end s f m g1, List.append_nil] at g7
    exact ⟨by omega, ends g7⟩
theorem fold12 (l : List (List UInt8)) (hl : l.length < 1000000) (hb : (foldF l).length < 1000000000) (hw : ∀ x ∈ l, x.length < 100000000) : DRet 12 [.sl 1 (l.map sv)] (.str (foldF l)) := by
  refine acalls_go c12 (by simp [f12]) ?_
  simp only [f12, ↓gos, gop, Nat.reduceBEq, Nat.reduceAdd, Nat.reduceSub, Nat.reduceLeDiff, Nat.reduceMul, Int.reduceLE, Int.reduceLT, Int.reduceNe, Int.reduceToNat]
  refine goN_lp (γ := List UInt8 × Nat) (fun g => [(4, .int .i64 g.2), (3, .str g.1), (0, .sl 1 (l.map sv))]) (fun _ => []) (fun g => g.2 ≤ l.length ∧ g.1 ++ foldF (l.drop g.2) = foldF l) (fun g => l.length - g.2) ([], 0)
    (wks rfl (by simp) ⟨rfl, rfl, rfl, trivial⟩) ⟨by simp, rfl⟩ fun g hg => ?_
  obtain ⟨out, i⟩ := g
  obtain ⟨g1, g2⟩ := hg
  simp only at g1 g2
  simp only [f12l0, ↓gos, gop, Nat.reduceBEq, Nat.reduceAdd, Nat.reduceSub, Nat.reduceLeDiff, Nat.reduceMul, Int.reduceLE, Int.reduceLT, Int.reduceNe, Int.reduceToNat]
  refine ⟨fun a1 => optP_at [] (by omega) ?_, fun a1 => ?_⟩
  · have hdr : l.drop i = l.getD i [] :: l.drop (i + 1) := by
      rw [List.drop_eq_getElem_cons (by omega), List.getD_eq_getElem?_getD, List.getElem?_eq_getElem (by omega)]; rfl
    have hx := hw _ (show l.getD i [] ∈ l by rw [List.getD_eq_getElem?_getD, List.getElem?_eq_getElem (show i < l.length by omega)]; exact List.getElem_mem _)
    rw [hdr] at g2
    generalize l.getD i [] = x at g2 hx ⊢
    have hfc : foldF (x :: l.drop (i + 1)) = ended (rowsL x) ++ foldF (l.drop (i + 1)) := by simp [foldF]
    rw [hfc] at g2
    have hln := congrArg List.length g2
    rw [List.length_append, List.length_append] at hln
    simp only [sv, List.getElem?_cons_zero, ↓gos, gop, Nat.reduceBEq, Nat.reduceAdd, Nat.reduceSub, Nat.reduceLeDiff, Nat.reduceMul, Int.reduceLE, Int.reduceLT, Int.reduceNe, Int.reduceToNat]
    refine call_ret (foldone38 x hx) rfl rfl ?_
    simp only [↓gos, gop, Nat.reduceBEq, Nat.reduceAdd, Nat.reduceSub, Nat.reduceLeDiff, Nat.reduceMul, Int.reduceLE, Int.reduceLT, Int.reduceNe, Int.reduceToNat]
    refine ⟨by omega, fun v hv => ?_⟩
    rw [wrap_i64 (by omega) (by omega)] at hv
    have hv : v = ((i + 1 : Nat) : Int) := by omega
    subst hv
    exact rnd_s (out ++ ended (rowsL x), i + 1) rfl (by simp) ⟨rfl, rfl, rfl, trivial⟩ ⟨by simp only; omega, by simp only; rw [List.append_assoc]; exact g2⟩ (by simp only; omega)
  · rw [List.drop_eq_nil_of_le (by omega)] at g2
    exact ends (by rw [← g2]; simp [foldF])
end Go.Proofs.Ut
