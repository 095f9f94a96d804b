import Derived.Test.YtbhlmbacgbfaoaaRgB
set_option linter.all false
namespace Go.Proofs.Rg
open Go.Ai Classical
set_option linter.unusedSimpArgs false
set_option maxHeartbeats 1000000
theorem grow_calls (n : Int) (h0 : 0 ≤ n) (h1 : n < 10000000000) : ACalls E0 36 [] [.nils 2, .int .i64 n] fun h d => h = [.arr 2 (List.replicate n.toNat [.int .i64 0, .int .i64 0])] ∧ d = .osl 2 0 0 0 none := by
  refine acalls_go c36 (by simp [f36]) ?_
  simp only [f36, ↓gos, gop, Nat.reduceBEq, Nat.reduceAdd, Nat.reduceSub, Nat.reduceLeDiff, Nat.reduceMul, Int.reduceLE, Int.reduceLT, Int.reduceNe, Int.reduceToNat]
  refine ⟨fun h => by omega, fun _ v hv v1 hv1 => ?_⟩
  rw [wrap_i64 (by omega) (by omega)] at hv
  rw [wrap_i64 (by omega) (by omega)] at hv1
  obtain rfl : v1 = n := by omega
  refine ⟨fun h2 => ⟨by omega, by omega, by omega, end_row rfl rfl rfl⟩, fun h2 => end_row rfl ?_ rfl⟩
  obtain rfl : v1 = 0 := by omega
  rfl
theorem mark_set {α : Type} (A : List α) (k : Nat) (z x : α) (hk : 0 < k) : (A ++ List.replicate k z).set A.length x = A ++ [x] ++ List.replicate (k - 1) z := by
  obtain ⟨k, rfl⟩ : ∃ j, k = j + 1 := ⟨k - 1, by omega⟩
  rw [List.set_append_right _ _ (Nat.le_refl _)]
  simp [List.replicate_succ]
theorem mark_get {α : Type} (A : List α) (k : Nat) (z : α) (hk : 0 < k) : (A ++ List.replicate k z)[A.length]? = some z := by
  rw [List.getElem?_append_right (Nat.le_refl _)]
  simp [hk]
theorem own_calls (l : List (Int × Int)) (m : Int × Int) (hl : l.length < 1000000000) : ACalls E0 8 [] [.sl 2 (l.map rg), .agg (rg m)] fun h d => h = [.arr 2 ((l ++ [m, m, m]).map rg)] ∧ d = .osl 2 0 0 l.length (some (l.length + 3)) := by
  refine acalls_go c8 (by simp [f8]) ?_
  simp only [f8, rg, ↓gos, gop, Nat.reduceBEq, Nat.reduceAdd, Nat.reduceSub, Nat.reduceLeDiff, Nat.reduceMul, Int.reduceLE, Int.reduceLT, Int.reduceNe, Int.reduceToNat]
  intro v hv
  rw [wrap_i64 (by omega) (by omega)] at hv
  have e0 : v.toNat = l.length + 3 := by omega
  refine ⟨by omega, by omega, by omega, by simp, by omega, fun v1 hv1 => ?_⟩
  rw [wrap_i64 (by omega) (by omega)] at hv1
  obtain rfl : v1 = v := by omega
  refine ⟨by omega, by omega, ?_⟩
  rw [e0]
  refine goN_lp (γ := Nat) (fun j => [(3, .ptr 0 0), (5, .osl 2 2 0 l.length (some (l.length + 3))), (6, .osl 2 2 0 (l.length + 3) (some (l.length + 3))), (7, .int .i64 ((l.length + j : Nat) : Int))]) (fun j => [.box (rg m), .arr 2 [], .arr 2 (l.map rg ++ List.replicate j (rg m) ++ List.replicate (3 - j) [.int .i64 0, .int .i64 0])]) (fun j => j ≤ 3) (fun j => 3 - j) 0 (wks ?_ (Nat.zero_le _) ⟨rfl, rfl, rfl, rfl, trivial⟩) (by omega) fun j hj => ?_
  · simp [rg]
  simp only [f8l0, rg, ↓gos, gop, Nat.reduceBEq, Nat.reduceAdd, Nat.reduceSub, Nat.reduceLeDiff, Nat.reduceMul, Int.reduceLE, Int.reduceLT, Int.reduceNe, Int.reduceToNat]
  refine ⟨fun h2 => ⟨by omega, ?_⟩, fun h2 => end_rowc rfl ?_ rfl rfl⟩
  · have hlen : (List.map rg l ++ List.replicate j [DV.int IntKind.i64 m.fst, DV.int IntKind.i64 m.snd]).length = l.length + j := by simp
    refine optP_in [.int .i64 0, .int .i64 0] (by rw [← hlen]; exact mark_get _ _ _ (by omega)) ⟨by simp, fun v2 hv2 => ?_⟩
    rw [wrap_i64 (by omega) (by omega)] at hv2
    refine rnd_s (j + 1) ?_ (Nat.zero_le _) ⟨rfl, rfl, rfl, by simp [hv2, slots]; omega, trivial⟩ (by omega) (by omega)
    rw [← hlen, List.drop_succ_cons, List.drop_succ_cons, List.drop_nil, mark_set _ _ _ _ (by omega), List.replicate_succ', Nat.sub_sub, ← List.append_assoc]
  · have : j = 3 := by omega
    subst this
    simp [rg]
theorem concat_calls (ls : List (List (Int × Int))) (hl : ls.length < 1000) (hl2 : ls.flatten.length < 1000000000) : Row 30 [.sl 1 (ls.map fun l => [.sl 2 (l.map rg)])] ls.flatten := by
  refine acalls_go c30 (by simp [f30]) ?_
  simp only [f30, ↓gos, gop, Nat.reduceBEq, Nat.reduceAdd, Nat.reduceSub, Nat.reduceLeDiff, Nat.reduceMul, Int.reduceLE, Int.reduceLT, Int.reduceNe, Int.reduceToNat]
  have hs : ∀ (i : Nat) (l : List (Int × Int)), ls[i]? = some l → (ls.take i).flatten.length + l.length = (ls.take (i + 1)).flatten.length ∧ (ls.take (i + 1)).flatten.length ≤ ls.flatten.length := fun i l h => by
    have e : ls.take (i + 1) = ls.take i ++ [l] := by
      have hi : i < ls.length := (List.getElem?_eq_some_iff.1 h).1
      rw [List.take_add_one, h]; rfl
    refine ⟨by rw [e]; simp, ?_⟩
    have : ls.flatten = (ls.take (i + 1)).flatten ++ (ls.drop (i + 1)).flatten := by rw [← List.flatten_append, List.take_append_drop]
    rw [this]; simp
  refine goN_lp (γ := Nat) (fun i => [(0, .sl 1 (ls.map fun l => [.sl 2 (l.map rg)])), (3, .int .i64 (((ls.take i).flatten.length : Nat) : Int)), (9, .sl 1 (ls.map fun l => [.sl 2 (l.map rg)])), (10, .int .i64 ls.length), (11, .int .i64 i)]) (fun i => [.arr 2 []]) (fun i => i ≤ ls.length) (fun i => ls.length - i) 0 (wks rfl (Nat.zero_le _) ⟨rfl, rfl, rfl, rfl, rfl, trivial⟩) (by omega) fun i hi => ?_
  simp only [f30l0, ↓gos, gop, Nat.reduceBEq, Nat.reduceAdd, Nat.reduceSub, Nat.reduceLeDiff, Nat.reduceMul, Int.reduceLE, Int.reduceLT, Int.reduceNe, Int.reduceToNat]
  refine ⟨fun h1 => optP_at [] (by omega) fun v hv => ?_, fun h1 => ?_⟩
  · have hq := hs i (ls.getD i []) (by simp [show i < ls.length by omega])
    rw [wrap_i64 (by omega) (by omega)] at hv
    refine ⟨fun h2 => by omega, fun h2 v2 hv2 => ?_⟩
    rw [wrap_i64 (by omega) (by omega)] at hv2
    refine rnd_s (i + 1) rfl (Nat.zero_le _) ⟨rfl, ?_, rfl, rfl, ?_, trivial⟩ (by omega) (by omega)
    · show DV.int .i64 v = _
      rw [hv]; congr 1; omega
    · show DV.int .i64 v2 = _
      rw [hv2]; rfl
  have ht : ls.take i = ls := List.take_of_length_le (by omega)
  rw [ht]
  refine call_lend (weaken (args' := [.nils 1, .int .i64 ls.flatten.length]) (grow_calls ls.flatten.length (by omega) (by omega)) rfl fun k d' d h1 h2 w ok β v hv => ?_) rfl (by simp [DV.free, freeO]) ?_
  · rcases k with _ | _ | k
    · simp at h1 h2; subst h1; subst h2
      cases hv; exact .nils 2 (by omega)
    · simp at h1 h2; subst h1; subst h2; exact hv
    · simp at h1
  simp only [DV.ren, renO, ↓gos, gop, Nat.reduceBEq, Nat.reduceAdd, Nat.reduceSub, Nat.reduceLeDiff, Nat.reduceMul, Int.reduceLE, Int.reduceLT, Int.reduceNe, Int.reduceToNat]
  have hs' : ∀ (i : Nat) (l : List (Int × Int)), ls[i]? = some l → (ls.take (i + 1)).flatten = (ls.take i).flatten ++ l := fun i l h => by
    rw [List.take_add_one, h]; simp
  refine goN_lp (γ := Nat) (fun i => [(6, .osl 2 1 0 (ls.take i).flatten.length none), (25, .sl 1 (ls.map fun l => [.sl 2 (l.map rg)])), (26, .int .i64 ls.length), (27, .int .i64 i)])
    (fun i => [.arr 2 [], .arr 2 (if i = 0 then List.replicate ls.flatten.length [.int .i64 0, .int .i64 0] else (ls.take i).flatten.map rg)]) (fun i => i ≤ ls.length) (fun i => ls.length - i) 0 (wks rfl (Nat.zero_le _) ⟨rfl, rfl, rfl, rfl, trivial⟩) (by omega) fun i hi => ?_
  simp only [f30l1, ↓gos, gop, Nat.reduceBEq, Nat.reduceAdd, Nat.reduceSub, Nat.reduceLeDiff, Nat.reduceMul, Int.reduceLE, Int.reduceLT, Int.reduceNe, Int.reduceToNat]
  refine ⟨fun h1 => optP_at [] (by omega) ?_, fun h1 => ?_⟩
  · have hg : ls[i]? = some (ls.getD i []) := by simp [show i < ls.length by omega]
    have hq := hs i _ hg
    have hq2 := hs' i _ hg
    have hm : (List.map rg (ls.getD i [])).length = (ls.getD i []).length := by simp
    refine ⟨?_, by omega, by omega, fun v hv => ?_⟩
    · by_cases h0 : i = 0
      · subst h0; simp
      · rw [if_neg h0, List.length_map]; exact Nat.le_refl _
    rw [wrap_i64 (by omega) (by omega)] at hv
    refine rnd_s (i + 1) ?_ (Nat.zero_le _) ⟨?_, rfl, rfl, ?_, trivial⟩ (by omega) (by omega)
    · rw [if_neg (show ¬ i + 1 = 0 by omega), hq2]
      by_cases h0 : i = 0
      · subst h0; simp
      · rw [if_neg h0, List.take_of_length_le (by rw [List.length_map]; exact Nat.le_refl _)]; simp
    · show DV.osl 2 1 0 _ none = _
      rw [hq.1]
    · show DV.int .i64 v = _
      rw [hv]; rfl
  · have hi' : i = ls.length := by omega
    refine end_row rfl ?_ (by rw [List.take_of_length_le (by omega)])
    by_cases h0 : i = 0
    · rw [if_pos h0]
      obtain rfl : ls = [] := List.eq_nil_of_length_eq_zero (by omega)
      rfl
    · rw [if_neg h0, List.take_of_length_le (by omega)]
end Go.Proofs.Rg
