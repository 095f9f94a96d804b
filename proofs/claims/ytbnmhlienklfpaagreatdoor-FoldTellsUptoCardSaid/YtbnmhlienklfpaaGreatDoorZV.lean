/- How long what is unfolded is. -/
import Derived.Test.YtbnmhlienklfpaaGreatDoorZFoA
import Derived.Test.YtbnmhlienklfpaaGreatDoorZFoD
import Derived.Test.YtbnmhlienklfpaaGreatDoorZU
set_option linter.all false
namespace Go.Proofs.Ut
open Go.Ai
set_option linter.unusedSimpArgs false
set_option linter.unusedVariables false
set_option maxHeartbeats 1000000
set_option maxRecDepth 100000
theorem zflat_last (acc : List (List UInt8)) (t : List UInt8) (h : acc ≠ []) : (acc.dropLast ++ [acc.getLastD [] ++ t]).flatten.length = acc.flatten.length + t.length ∧ (acc.dropLast ++ [acc.getLastD [] ++ t]).length = acc.length := by
  obtain ⟨a, x, rfl⟩ : ∃ a x, acc = a ++ [x] := ⟨acc.dropLast, acc.getLast h, (List.dropLast_concat_getLast h).symm⟩
  rw [getLastD_app]
  simp [Nat.add_assoc]
theorem zunf_len : ∀ n (s : List UInt8) acc l, s.length ≤ n → unfA acc s = some l → l.flatten.length ≤ acc.flatten.length + s.length ∧ l.length ≤ acc.length + s.length
  | n, s, acc, l, hn, h => by
    by_cases hs : s = []
    · subst hs
      rw [unfA_nil] at h
      injection h with h; subst h; simp
    · rw [unfA_step acc s hs] at h
      split at h
      · cases h
      rename_i h1
      simp only [Bool.or_eq_true, not_or, Bool.not_eq_true', Bool.not_eq_true] at h1
      obtain ⟨⟨h1, h2⟩, h3⟩ := h1
      have h1 : (cutE s).2.2 = true := by simpa using h1
      have hl := cutE_len s
      have hl2 := hl.2 h1
      have hl := hl.1
      generalize cutE s = c at h h1 h2 h3 hl hl2
      obtain ⟨row, rest, is⟩ := c
      simp only at h h1 h2 h3 hl hl2
      have hs0 : 0 < s.length := List.length_pos_iff.2 hs
      cases n with
      | zero => omega
      | succ n =>
        split at h
        · rename_i hm
          have hne : acc ≠ [] := by
            rintro rfl
            rw [hm] at h3; simp at h3
          have hf := zflat_last acc row.tail hne
          have := zunf_len n rest _ l (by omega) h
          rw [hf.1, hf.2] at this
          have ht : row.tail.length ≤ row.length := by simp
          omega
        · have := zunf_len n rest _ l (by omega) h
          simp only [List.flatten_append, List.length_append, List.flatten_cons, List.flatten_nil, List.append_nil, List.length_cons, List.length_nil] at this
          omega
theorem zflat_le {l : List (List UInt8)} {x : List UInt8} (h : x ∈ l) : x.length ≤ l.flatten.length := by
  induction l with
  | nil => simp at h
  | cons y l ih =>
    rw [List.flatten_cons, List.length_append]
    rcases List.mem_cons.1 h with rfl | h
    · omega
    · have := ih h; omega
theorem zunfold_len (s : List UInt8) : (∀ x ∈ (unfoldR s).1, x.length ≤ s.length) ∧ (unfoldR s).1.length ≤ s.length ∧ (unfoldR s).1.length ≤ 20000 := by
  unfold unfoldR
  split
  · simp
  · split
    · simp
    · split
      · simp
      · rename_i l h
        have := zunf_len _ _ _ _ (Nat.le_refl _) h
        simp only [List.flatten_nil, List.length_nil, Nat.zero_add] at this
        refine ⟨fun x hx => ?_, this.2, Nat.le_trans this.2 (by omega)⟩
        have h2 := zflat_le hx
        exact Nat.le_trans h2 this.1
end Go.Proofs.Ut

/- Any lines in rows, any rows as lines, any text as a value: the law walked. -/
namespace Go.Proofs.Ut
open Go.Ai
set_option maxRecDepth 100000
set_option linter.all false
def wt3 (l : List (List UInt8)) : Nat := (l.map fun x => x.length + 3).sum
theorem wt3_part (l : List (List UInt8)) (i : Nat) : wt3 (l.take i) ≤ wt3 l := by
  have : wt3 l = wt3 (l.take i) + wt3 (l.drop i) := by
    unfold wt3
    rw [← List.sum_append, ← List.map_append, List.take_append_drop]
  omega
theorem wt3_next (l : List (List UInt8)) (i : Nat) (h : i < l.length) : wt3 (l.take (i + 1)) = wt3 (l.take i) + ((l.getD i []).length + 3) := by
  unfold wt3
  rw [List.take_add_one, List.getElem?_eq_getElem h, List.getD_eq_getElem?_getD, List.getElem?_eq_getElem h, List.map_append, List.sum_append]
  simp only [Option.toList, List.map_cons, List.map_nil, List.sum_cons, List.sum_nil, Option.getD_some]
  omega
theorem wt3_all (l : List (List UInt8)) : l.length ≤ wt3 l ∧ (l.map fun s => 4 * s.length + 2).sum ≤ 4 * wt3 l ∧ ∀ x ∈ l, x.length ≤ wt3 l := by
  induction l with
  | nil => simp [wt3]
  | cons a l ih =>
    obtain ⟨h1, h2, h3⟩ := ih
    simp only [wt3, List.map_cons, List.sum_cons, List.length_cons] at *
    refine ⟨by omega, by omega, fun x hx => ?_⟩
    rcases List.mem_cons.1 hx with rfl | hx
    · omega
    · have := h3 x hx; omega
theorem split_len (sep : UInt8) : ∀ (s : List UInt8) (e : Bool) (cur : List UInt8), (splitF sep e cur s).length ≤ s.length + 1
  | [], e, cur => by simp [splitF]
  | x :: s, e, cur => by
    rw [splitF]
    split
    · have := split_len sep s (escN e x) []
      simp only [List.length_cons]; omega
    · have := split_len sep s (escN e x) (cur ++ [x])
      simp only [List.length_cons]; omega
theorem tells3 (l : List (List UInt8)) (s : List UInt8) (sep : UInt8) (hl : l.length < 100000000) (hs : s.length < 100000000) (hw3 : wt3 l < 1000000000000) : DRet 3 [.sl 1 (l.map sv), .str s, .int .u8 sep.toNat] (.bool true) := by
  refine acalls_go c3 (by simp [f3]) ?_
  simp only [f3, ↓gos, gop, Nat.reduceBEq, Nat.reduceAdd, Nat.reduceSub, Nat.reduceLeDiff, Nat.reduceMul, Int.reduceLE, Int.reduceLT, Int.reduceNe, Int.reduceToNat]
  refine goN_lp (γ := Nat) (fun i => [(8, .int .i64 i), (7, .int .i64 ((s.length + wt3 (l.take i) : Nat) : Int)), (0, .sl 1 (l.map sv)), (1, .str s), (2, .int .u8 sep.toNat)]) (fun _ => []) (fun i => i ≤ l.length) (fun i => l.length - i) 0
    (wks rfl (by simp) ⟨rfl, by simp [slots, wt3], rfl, rfl, rfl, trivial⟩) (Nat.zero_le _) fun i hi => ?_
  simp only [f3l0, ↓gos, gop, Nat.reduceBEq, Nat.reduceAdd, Nat.reduceSub, Nat.reduceLeDiff, Nat.reduceMul, Int.reduceLE, Int.reduceLT, Int.reduceNe, Int.reduceToNat]
  refine ⟨fun a2 => ?_, fun a2 => ?_⟩
  · have h2 : i < l.length := by omega
    have hn := wt3_next l i h2
    have hp := wt3_part l (i + 1)
    have hget : l[i]? = some (l.getD i []) := by rw [List.getElem?_eq_getElem h2, List.getD_eq_getElem?_getD, List.getElem?_eq_getElem h2]; rfl
    simp only [hget, sv, ↓gos, gop, Nat.reduceBEq, Nat.reduceAdd, Nat.reduceSub, Nat.reduceLeDiff, Nat.reduceMul, Int.reduceLE, Int.reduceLT, Int.reduceNe, Int.reduceToNat]
    intro v e1 v1 e2 v2 e3
    rw [wrap_i64 (by omega) (by omega)] at e1
    rw [wrap_i64 (by omega) (by omega)] at e2
    rw [wrap_i64 (by omega) (by omega)] at e3
    refine rnd_s (i + 1) rfl (by simp) ⟨?_, ?_, rfl, rfl, rfl, trivial⟩ h2 (by omega)
    · show DV.int .i64 v2 = _
      rw [e3]; rfl
    · show DV.int .i64 v1 = _
      congr 1
      omega
  · have h2 : i = l.length := by omega
    subst h2
    rw [List.take_length]
    refine ⟨fun h3 => ?_, fun h3 => ?_⟩
    · refine call_ret awake12 rfl rfl ?_
      simp only [↓gos, gop, Nat.reduceBEq, Nat.reduceAdd, Nat.reduceSub, Nat.reduceLeDiff, Nat.reduceMul, Int.reduceLE, Int.reduceLT, Int.reduceNe, Int.reduceToNat]
      exact endb rfl
    · have hN : s.length + wt3 l ≤ 3000 := by omega
      obtain ⟨w1, w2, w3⟩ := wt3_all l
      have hfl := foldF_len l
      have hf1 := fold13 l (by omega) (by omega)
      have hf2 := fold12 l (by omega) (by omega) (fun x hx => by have := w3 x hx; omega)
      refine call_new (unfold14 s (by omega)) (fun d hd => by simp at hd; subst hd; rfl) ?_
      simp only [DV.ren, DV.ren.renAll, renO, ↓gos, gop, Nat.reduceBEq, Nat.reduceAdd, Nat.reduceSub, Nat.reduceLeDiff, Nat.reduceMul, Int.reduceLE, Int.reduceLT, Int.reduceNe, Int.reduceToNat]
      refine call_new (unf8 s (by omega)) (fun d hd => by simp at hd; subst hd; rfl) ?_
      simp only [DV.ren, DV.ren.renAll, renO, ↓gos, gop, Nat.reduceBEq, Nat.reduceAdd, Nat.reduceSub, Nat.reduceLeDiff, Nat.reduceMul, Int.reduceLE, Int.reduceLT, Int.reduceNe, Int.reduceToNat]
      refine call_ret (plain16 s (by omega)) rfl rfl ?_
      simp only [↓gos, gop, Nat.reduceBEq, Nat.reduceAdd, Nat.reduceSub, Nat.reduceLeDiff, Nat.reduceMul, Int.reduceLE, Int.reduceLT, Int.reduceNe, Int.reduceToNat]
      refine call_ret (plain10 s (by omega)) rfl rfl ?_
      simp only [↓gos, gop, Nat.reduceBEq, Nat.reduceAdd, Nat.reduceSub, Nat.reduceLeDiff, Nat.reduceMul, Int.reduceLE, Int.reduceLT, Int.reduceNe, Int.reduceToNat]
      refine call_ret awake12 rfl rfl ?_
      simp only [↓gos, gop, Nat.reduceBEq, Nat.reduceAdd, Nat.reduceSub, Nat.reduceLeDiff, Nat.reduceMul, Int.reduceLE, Int.reduceLT, Int.reduceNe, Int.reduceToNat]
      refine call_ret hf1 rfl rfl ?_
      simp only [↓gos, gop, Nat.reduceBEq, Nat.reduceAdd, Nat.reduceSub, Nat.reduceLeDiff, Nat.reduceMul, Int.reduceLE, Int.reduceLT, Int.reduceNe, Int.reduceToNat]
      refine call_ret hf2 rfl rfl ?_
      simp only [eq_self, decide_true, ↓gos, gop, Nat.reduceBEq, Nat.reduceAdd, Nat.reduceSub, Nat.reduceLeDiff, Nat.reduceMul, Int.reduceLE, Int.reduceLT, Int.reduceNe, Int.reduceToNat]
      obtain ⟨u1, u2, u3⟩ := zunfold_len s
      refine call_ret (plain62 (unfoldR s).1 (unfoldR s).1 (by omega) (by omega)) (by rw [List.map_cons, List.map_cons, List.map_nil, dn_osl rfl (by simp), dn_osl rfl (by simp)]) rfl ?_
      simp only [eq_self, decide_true, ↓gos, gop, Nat.reduceBEq, Nat.reduceAdd, Nat.reduceSub, Nat.reduceLeDiff, Nat.reduceMul, Int.reduceLE, Int.reduceLT, Int.reduceNe, Int.reduceToNat]
      refine call_ret (value14 s (by omega)) rfl rfl ?_
      simp only [eq_self, decide_true, ↓gos, gop, Nat.reduceBEq, Nat.reduceAdd, Nat.reduceSub, Nat.reduceLeDiff, Nat.reduceMul, Int.reduceLE, Int.reduceLT, Int.reduceNe, Int.reduceToNat]
      refine call_ret (value15 s (by omega)) rfl rfl ?_
      simp only [eq_self, decide_true, ↓gos, gop, Nat.reduceBEq, Nat.reduceAdd, Nat.reduceSub, Nat.reduceLeDiff, Nat.reduceMul, Int.reduceLE, Int.reduceLT, Int.reduceNe, Int.reduceToNat]
      refine call_new (split26 s sep (by omega)) (fun d hd => by simp at hd; rcases hd with rfl | rfl <;> rfl) ?_
      simp only [DV.ren, DV.ren.renAll, renO, ↓gos, gop, Nat.reduceBEq, Nat.reduceAdd, Nat.reduceSub, Nat.reduceLeDiff, Nat.reduceMul, Int.reduceLE, Int.reduceLT, Int.reduceNe, Int.reduceToNat]
      refine call_new (rsplit17 s sep (by omega)) (fun d hd => by simp at hd; rcases hd with rfl | rfl <;> rfl) ?_
      simp only [DV.ren, DV.ren.renAll, renO, ↓gos, gop, Nat.reduceBEq, Nat.reduceAdd, Nat.reduceSub, Nat.reduceLeDiff, Nat.reduceMul, Int.reduceLE, Int.reduceLT, Int.reduceNe, Int.reduceToNat]
      have hsl := split_len sep s false []
      refine call_ret (plain62 (splitF sep false [] s) (splitF sep false [] s) (by omega) (by omega)) (by rw [List.map_cons, List.map_cons, List.map_nil, dn_osl rfl (by simp), dn_osl rfl (by simp)]) rfl ?_
      simp only [eq_self, decide_true, ↓gos, gop, Nat.reduceBEq, Nat.reduceAdd, Nat.reduceSub, Nat.reduceLeDiff, Nat.reduceMul, Int.reduceLE, Int.reduceLT, Int.reduceNe, Int.reduceToNat]
      exact endb rfl
end Go.Proofs.Ut
