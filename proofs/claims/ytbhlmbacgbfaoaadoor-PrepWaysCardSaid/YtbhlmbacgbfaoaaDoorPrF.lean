/- The laws PrepTells, PrepStays, PrepEach. -/
import Derived.Test.YtbhlmbacgbfaoaaDoorPrE
import Derived.Test.YtbhlmbacgbfaoaaDoorUtRow
import Derived.Test.YtbhlmbacgbfaoaaDoorUtJ
set_option linter.all false
namespace Go.Proofs.Ut
open Go.Ai Classical
set_option linter.unusedSimpArgs false
set_option maxHeartbeats 1000000
set_option maxRecDepth 100000
theorem tells7 (s : List UInt8) : Ret 7 [.str s] (.bool true) := by
  refine acalls_go c7 (by simp [f7]) ?_
  simp only [f7, ↓gos, gop, Nat.reduceBEq, Nat.reduceAdd, Nat.reduceSub, Nat.reduceLeDiff, Nat.reduceMul, Int.reduceLE, Int.reduceLT, Int.reduceNe, Int.reduceToNat]
  refine ⟨fun h1 => call_ret awake25 rfl rfl ?_, fun h1 => ?_⟩
  · simp only [↓gos, gop, Nat.reduceBEq, Nat.reduceAdd, Nat.reduceSub, Nat.reduceLeDiff, Nat.reduceMul, Int.reduceLE, Int.reduceLT, Int.reduceNe, Int.reduceToNat]
    exact endb rfl
  · have hs : s.length < 100000000 := by omega
    refine call_ret (node26 s hs) rfl rfl ?_
    simp only [↓gos, gop, Nat.reduceBEq, Nat.reduceAdd, Nat.reduceSub, Nat.reduceLeDiff, Nat.reduceMul, Int.reduceLE, Int.reduceLT, Int.reduceNe, Int.reduceToNat]
    refine call_ret (ref27 s hs) rfl rfl ?_
    simp only [↓gos, gop, Nat.reduceBEq, Nat.reduceAdd, Nat.reduceSub, Nat.reduceLeDiff, Nat.reduceMul, Int.reduceLE, Int.reduceLT, Int.reduceNe, Int.reduceToNat]
    refine call_ret (host28 s hs) rfl rfl ?_
    simp only [↓gos, gop, Nat.reduceBEq, Nat.reduceAdd, Nat.reduceSub, Nat.reduceLeDiff, Nat.reduceMul, Int.reduceLE, Int.reduceLT, Int.reduceNe, Int.reduceToNat]
    refine call_ret (ref29 s hs) rfl rfl ?_
    simp only [↓gos, gop, Nat.reduceBEq, Nat.reduceAdd, Nat.reduceSub, Nat.reduceLeDiff, Nat.reduceMul, Int.reduceLE, Int.reduceLT, Int.reduceNe, Int.reduceToNat]
    refine call_ret (res30 s hs) rfl rfl ?_
    simp only [↓gos, gop, Nat.reduceBEq, Nat.reduceAdd, Nat.reduceSub, Nat.reduceLeDiff, Nat.reduceMul, Int.reduceLE, Int.reduceLT, Int.reduceNe, Int.reduceToNat]
    refine call_ret (ref31 s hs) rfl rfl ?_
    simp only [↓gos, gop, Nat.reduceBEq, Nat.reduceAdd, Nat.reduceSub, Nat.reduceLeDiff, Nat.reduceMul, Int.reduceLE, Int.reduceLT, Int.reduceNe, Int.reduceToNat]
    refine call_ret awake25 rfl rfl ?_
    simp only [↓gos, gop, Nat.reduceBEq, Nat.reduceAdd, Nat.reduceSub, Nat.reduceLeDiff, Nat.reduceMul, Int.reduceLE, Int.reduceLT, Int.reduceNe, Int.reduceToNat]
    exact endb rfl
theorem rs_may (s : List UInt8) : ∀ x ∈ rs s, mayB x = true := fun x hx => by
  unfold rs at hx
  split at hx
  · rename_i h
    rw [← valid_runAt, Bool.and_eq_true] at h
    exact List.all_eq_true.1 h.2 x hx
  · cases hx
theorem chars_of {L : List Int} : (∀ x ∈ L, ∃ c : Nat, x = c ∧ okC c) → ∃ cs : List Nat, L = cs.map (fun c : Nat => (c : Int)) ∧ ∀ c ∈ cs, okC c := by
  induction L with
  | nil => exact fun _ => ⟨[], rfl, by simp⟩
  | cons x L ih =>
    intro h
    obtain ⟨c, rfl, hc⟩ := h x (by simp)
    obtain ⟨cs, rfl, hcs⟩ := ih fun y hy => h y (by simp [hy])
    exact ⟨c :: cs, rfl, by simpa using ⟨hc, hcs⟩⟩
theorem rs_written {L : List Int} (hL : ∀ x ∈ L, ∃ c : Nat, x = c ∧ okC c) (hm : ∀ x ∈ L, mayB x = true) : runAt mayB (L.flatMap en) 0 = true ∧ rs (L.flatMap en) = L := by
  obtain ⟨cs, rfl, hcs⟩ := chars_of hL
  have e : (cs.map (fun c : Nat => (c : Int))).flatMap en = cs.flatMap (fun c : Nat => en c) ++ [] := by rw [List.flatMap_map, List.append_nil]
  have r : runAt mayB ((cs.map (fun c : Nat => (c : Int))).flatMap en) 0 = true := by
    rw [e, run_ens _ _ _ hcs, run_nil, Bool.and_true, List.all_eq_true]
    exact fun c hc => hm c (List.mem_map.2 ⟨c, hc, rfl⟩)
  refine ⟨r, ?_⟩
  unfold rs
  rw [r, if_pos rfl, e, rl_ens _ _ hcs, rl_nil, List.append_nil]
/-- What is kept is kept as it is. -/
structure Stay (m : Int → List Int) : Prop where
  chr : Chr m
  len : ∀ c, (m c).length ≤ 2
  may : ∀ c, mayB c = true → ∀ x ∈ m c, mayB x = true
  idem : ∀ c, ∀ x ∈ m c, m x = [x]
theorem flat_idem {m : Int → List Int} : ∀ L : List Int, (∀ x ∈ L, m x = [x]) → L.flatMap m = L
  | [], _ => rfl
  | x :: L, h => by rw [List.flatMap_cons, h x (by simp), flat_idem L fun y hy => h y (by simp [hy])]; rfl
theorem prep_stay {m : Int → List Int} (hm : Stay m) (p : Int → Bool) (s : List UInt8) (h : (prepR m p s).2 = 0) : prepR m p (prepR m p s).1 = ((prepR m p s).1, 0) := by
  have hL : ∀ x ∈ (rs s).flatMap m, ∃ c : Nat, x = c ∧ okC c := fun x hx => by
    obtain ⟨y, hy, hx⟩ := List.mem_flatMap.1 hx
    obtain ⟨c, rfl, hc⟩ := rs_ok s y hy
    exact hm.chr c hc x hx
  have hM : ∀ x ∈ (rs s).flatMap m, mayB x = true := fun x hx => by
    obtain ⟨y, hy, hx⟩ := List.mem_flatMap.1 hx
    exact hm.may y (rs_may s y hy) x hx
  have hI : ((rs s).flatMap m).flatMap m = (rs s).flatMap m := flat_idem _ fun x hx => by
    obtain ⟨y, hy, hx⟩ := List.mem_flatMap.1 hx
    exact hm.idem y x hx
  obtain ⟨w1, w2⟩ := rs_written hL hM
  generalize hLL : (rs s).flatMap m = L at hI w1 w2
  have e : prepR m p s = if runAt mayB s 0 then (if L.any (fun c => !p c) then ([], 15) else if straightB L then (L.flatMap en, 0) else ([], 16)) else ([], 3) := by rw [← hLL]; rfl
  rw [e] at h ⊢
  split at h
  · split at h
    · cases h
    · split at h
      · rename_i h1 h2 h3
        rw [if_pos h1, if_neg h2, if_pos h3]
        show prepR m p (L.flatMap en) = (L.flatMap en, 0)
        unfold prepR
        rw [w2, hI, w1, if_pos rfl, if_neg h2, if_pos h3]
      · cases h
  · cases h
theorem prep_len {m : Int → List Int} (hm : ∀ c, (m c).length ≤ 2) (p : Int → Bool) (s : List UInt8) : (prepR m p s).1.length ≤ 8 * s.length := by
  have h1 := flat_len hm (rs s)
  have h2 := rs_len s
  have h3 : ∀ L : List Int, (L.flatMap en).length ≤ 4 * L.length := fun L => by
    induction L with
    | nil => simp
    | cons x L ih =>
      have := en_len4 x
      rw [List.flatMap_cons, List.length_append, List.length_cons]; omega
  have := h3 ((rs s).flatMap m)
  unfold prepR
  repeat' split
  all_goals simp only [List.length_nil]
  all_goals omega
theorem gone_iff (c : Int) : inR goneL c = true ↔ c = 173 ∨ c = 847 ∨ c = 6150 ∨ (8203 ≤ c ∧ c ≤ 8205) ∨ c = 8288 ∨ (65024 ≤ c ∧ c ≤ 65039) ∨ c = 65279 := by
  simp only [inR, goneL, prs, hasB, List.any_cons, List.any_nil, Bool.or_false, Bool.or_eq_true, Bool.and_eq_true, decide_eq_true_eq]
  omega
theorem kept_eq {c : Int} (h : ¬ (c = 173 ∨ c = 847 ∨ c = 6150 ∨ (8203 ≤ c ∧ c ≤ 8205) ∨ c = 8288 ∨ (65024 ≤ c ∧ c ≤ 65039) ∨ c = 65279)) : keptL c = [c] := by
  unfold keptL
  rw [if_neg (fun q => h ((gone_iff c).1 q))]
theorem small_eq {c : Int} (h : ¬ ((65 ≤ c ∧ c ≤ 90) ∨ (192 ≤ c ∧ c ≤ 222 ∧ c ≠ 215))) (h2 : c ≠ 223) (h3 : ¬ (c = 173 ∨ c = 847 ∨ c = 6150 ∨ (8203 ≤ c ∧ c ≤ 8205) ∨ c = 8288 ∨ (65024 ≤ c ∧ c ≤ 65039) ∨ c = 65279)) : smallL c = [c] := by
  rw [smallK h h2, kept_eq h3]
theorem kept_stay : Stay keptL := ⟨kept_chr, kept_len, fun c hc x hx => by
  unfold keptL at hx
  split at hx
  · cases hx
  · simp at hx; rw [hx]; exact hc, fun c x hx => by
  unfold keptL at hx
  split at hx
  · cases hx
  · rename_i h
    simp at hx
    subst hx
    exact kept_eq fun q => h ((gone_iff x).2 q)⟩
theorem may_of {c : Int} (h : 32 ≤ c ∧ c ≤ 65533) : mayB c = true := by
  unfold mayB shownB
  simp only [Bool.or_eq_true, Bool.and_eq_true, decide_eq_true_eq]
  omega
theorem small_stay : Stay smallL := ⟨small_chr, small_len, fun c hc x hx => by
  by_cases h : (65 ≤ c ∧ c ≤ 90) ∨ (192 ≤ c ∧ c ≤ 222 ∧ c ≠ 215)
  · unfold smallL at hx
    rw [if_pos ((capB_iff c).2 h)] at hx
    simp at hx
    exact may_of (by omega)
  by_cases h2 : c = 223
  · unfold smallL at hx
    rw [if_neg (fun q => h ((capB_iff c).1 q)), if_pos h2] at hx
    simp at hx
    exact may_of (by omega)
  · rw [smallK h h2] at hx
    exact kept_stay.may c hc x hx, fun c x hx => by
  by_cases h : (65 ≤ c ∧ c ≤ 90) ∨ (192 ≤ c ∧ c ≤ 222 ∧ c ≠ 215)
  · unfold smallL at hx
    rw [if_pos ((capB_iff c).2 h)] at hx
    simp at hx
    exact small_eq (by omega) (by omega) (by omega)
  by_cases h2 : c = 223
  · unfold smallL at hx
    rw [if_neg (fun q => h ((capB_iff c).1 q)), if_pos h2] at hx
    simp at hx
    exact small_eq (by omega) (by omega) (by omega)
  · rw [smallK h h2] at hx
    unfold keptL at hx
    split at hx
    · cases hx
    · rename_i h3
      simp at hx
      subst hx
      exact small_eq h h2 fun q => h3 ((gone_iff x).2 q)⟩
theorem stays8 (s : List UInt8) : Ret 8 [.str s] (.bool true) := by
  refine acalls_go c8 (by simp [f8]) ?_
  simp only [f8, ↓gos, gop, Nat.reduceBEq, Nat.reduceAdd, Nat.reduceSub, Nat.reduceLeDiff, Nat.reduceMul, Int.reduceLE, Int.reduceLT, Int.reduceNe, Int.reduceToNat]
  refine ⟨fun h1 => call_ret awake25 rfl rfl ?_, fun h1 => ?_⟩
  · simp only [↓gos, gop, Nat.reduceBEq, Nat.reduceAdd, Nat.reduceSub, Nat.reduceLeDiff, Nat.reduceMul, Int.reduceLE, Int.reduceLT, Int.reduceNe, Int.reduceToNat]
    exact endb rfl
  · have hs : s.length < 100000000 := by omega
    have b1 : (nodeR s).1.length ≤ 8 * s.length := prep_len small_len _ s
    have b2 : (hostR s).1.length ≤ 8 * s.length := prep_len small_len _ s
    have b3 : (resR s).1.length ≤ 8 * s.length := prep_len kept_len _ s
    have s1 : (nodeR s).2 = 0 → nodeR (nodeR s).1 = ((nodeR s).1, 0) := prep_stay small_stay _ s
    have s2 : (hostR s).2 = 0 → hostR (hostR s).1 = ((hostR s).1, 0) := prep_stay small_stay _ s
    have s3 : (resR s).2 = 0 → resR (resR s).1 = ((resR s).1, 0) := prep_stay kept_stay _ s
    refine call_ret (node26 s hs) rfl rfl ?_
    simp only [↓gos, gop, Nat.reduceBEq, Nat.reduceAdd, Nat.reduceSub, Nat.reduceLeDiff, Nat.reduceMul, Int.reduceLE, Int.reduceLT, Int.reduceNe, Int.reduceToNat]
    refine call_ret (node26 _ (by omega)) rfl rfl ?_
    simp only [↓gos, gop, Nat.reduceBEq, Nat.reduceAdd, Nat.reduceSub, Nat.reduceLeDiff, Nat.reduceMul, Int.reduceLE, Int.reduceLT, Int.reduceNe, Int.reduceToNat]
    refine call_ret (host28 s hs) rfl rfl ?_
    simp only [↓gos, gop, Nat.reduceBEq, Nat.reduceAdd, Nat.reduceSub, Nat.reduceLeDiff, Nat.reduceMul, Int.reduceLE, Int.reduceLT, Int.reduceNe, Int.reduceToNat]
    refine call_ret (host28 _ (by omega)) rfl rfl ?_
    simp only [↓gos, gop, Nat.reduceBEq, Nat.reduceAdd, Nat.reduceSub, Nat.reduceLeDiff, Nat.reduceMul, Int.reduceLE, Int.reduceLT, Int.reduceNe, Int.reduceToNat]
    refine call_ret (res30 s hs) rfl rfl ?_
    simp only [↓gos, gop, Nat.reduceBEq, Nat.reduceAdd, Nat.reduceSub, Nat.reduceLeDiff, Nat.reduceMul, Int.reduceLE, Int.reduceLT, Int.reduceNe, Int.reduceToNat]
    refine call_ret (res30 _ (by omega)) rfl rfl ?_
    simp only [↓gos, gop, Nat.reduceBEq, Nat.reduceAdd, Nat.reduceSub, Nat.reduceLeDiff, Nat.reduceMul, Int.reduceLE, Int.reduceLT, Int.reduceNe, Int.reduceToNat]
    refine call_ret awake25 rfl rfl ?_
    simp only [↓gos, gop, Nat.reduceBEq, Nat.reduceAdd, Nat.reduceSub, Nat.reduceLeDiff, Nat.reduceMul, Int.reduceLE, Int.reduceLT, Int.reduceNe, Int.reduceToNat]
    generalize nodeR (nodeR s).1 = n2 at s1 ⊢
    generalize hostR (hostR s).1 = h2 at s2 ⊢
    generalize resR (resR s).1 = r2 at s3 ⊢
    have t1 : (nodeR s).2 = 0 → n2.2 = 0 ∧ (nodeR s).1 = n2.1 := fun h => by rw [s1 h]; exact ⟨rfl, rfl⟩
    have t2 : (hostR s).2 = 0 → h2.2 = 0 ∧ (hostR s).1 = h2.1 := fun h => by rw [s2 h]; exact ⟨rfl, rfl⟩
    have t3 : (resR s).2 = 0 → r2.2 = 0 ∧ (resR s).1 = r2.1 := fun h => by rw [s3 h]; exact ⟨rfl, rfl⟩
    clear s1 s2 s3
    repeat' (first | refine And.intro ?_ ?_ | intro _)
    all_goals first
      | exact endb rfl
      | (exfalso; exact absurd (t1 ‹_›).1 ‹_›)
      | (exfalso; exact absurd (t1 ‹_›).2 ‹_›)
      | (exfalso; exact absurd (t2 ‹_›).1 ‹_›)
      | (exfalso; exact absurd (t2 ‹_›).2 ‹_›)
      | (exfalso; exact absurd (t3 ‹_›).1 ‹_›)
      | (exfalso; exact absurd (t3 ‹_›).2 ‹_›)
theorem caps26 : ∀ k : Fin 26, (if (smallL (65 + k.val : Nat)).any (fun c => !nodeB c) then (([], 15) : List UInt8 × Int) else if straightB (smallL (65 + k.val : Nat)) then ((smallL (65 + k.val : Nat)).flatMap en, 0) else ([], 16)) = ([UInt8.ofNat (97 + k.val)], 0) ∧
    (if (smallL (65 + k.val : Nat)).any (fun c => !hostB c) then (([], 15) : List UInt8 × Int) else if straightB (smallL (65 + k.val : Nat)) then ((smallL (65 + k.val : Nat)).flatMap en, 0) else ([], 16)) = ([UInt8.ofNat (97 + k.val)], 0) ∧ en (97 + k.val : Nat) = [UInt8.ofNat (97 + k.val)] := by decide +kernel
theorem prep_one (m : Int → List Int) (p : Int → Bool) {k : Nat} (hk : okC k) (hm : mayB k = true) : prepR m p (en k) = if (m k).any (fun c => !p c) then ([], 15) else if straightB (m k) then ((m k).flatMap en, 0) else ([], 16) := by
  unfold prepR
  rw [run_one _ hk, rs_one hk, hm, if_pos rfl, if_pos rfl]
  simp
theorem each9 (c : Int) : Ret 9 [.int .i64 c] (.bool true) := by
  refine acalls_go c9 (by simp [f9]) ?_
  simp only [f9, ↓gos, gop, Nat.reduceBEq, Nat.reduceAdd, Nat.reduceSub, Nat.reduceLeDiff, Nat.reduceMul, Int.reduceLE, Int.reduceLT, Int.reduceNe, Int.reduceToNat]
  intro v hv v1 hv1 v2 hv2 v3 hv3
  obtain ⟨k, hk, rfl⟩ : ∃ k : Nat, k < 1114112 ∧ v2 = (k : Int) := by
    have hb := wrap_u64_bd c
    rw [← hv] at hb
    have : v1 = v % 1114112 := by rw [hv1, Int.tmod_eq_emod_of_nonneg hb.1]
    rw [wrap_i64 (by omega) (by omega)] at hv2
    exact ⟨v1.toNat, by omega, by omega⟩
  rw [wrap_i32 (by omega) (by omega)] at hv3
  subst hv3
  clear hv hv1 hv2
  have hen : (Utf8.encode (k : Int)).data.toList = en k := rfl
  rw [hen]
  have h4 := en_len4 k
  have hs : (en k).length < 100000000 := by omega
  refine call_ret (node26 _ hs) rfl rfl ?_
  simp only [↓gos, gop, Nat.reduceBEq, Nat.reduceAdd, Nat.reduceSub, Nat.reduceLeDiff, Nat.reduceMul, Int.reduceLE, Int.reduceLT, Int.reduceNe, Int.reduceToNat]
  refine call_ret (ref27 _ hs) rfl rfl ?_
  simp only [↓gos, gop, Nat.reduceBEq, Nat.reduceAdd, Nat.reduceSub, Nat.reduceLeDiff, Nat.reduceMul, Int.reduceLE, Int.reduceLT, Int.reduceNe, Int.reduceToNat]
  refine call_ret (host28 _ hs) rfl rfl ?_
  simp only [↓gos, gop, Nat.reduceBEq, Nat.reduceAdd, Nat.reduceSub, Nat.reduceLeDiff, Nat.reduceMul, Int.reduceLE, Int.reduceLT, Int.reduceNe, Int.reduceToNat]
  refine call_ret (ref29 _ hs) rfl rfl ?_
  simp only [↓gos, gop, Nat.reduceBEq, Nat.reduceAdd, Nat.reduceSub, Nat.reduceLeDiff, Nat.reduceMul, Int.reduceLE, Int.reduceLT, Int.reduceNe, Int.reduceToNat]
  have h223 : nodeR (en (223 : Nat)) = ([115, 115], 0) := by
    unfold nodeR
    rw [prep_one _ _ (by unfold okC; omega) (by decide)]
    kernel_rfl
  refine ⟨fun b1 => ⟨fun b2 => ?_, fun b2 => ?_⟩, fun b1 => ?_⟩
  · intro u hu w hw
    rw [wrap_i64 (by omega) (by omega)] at hu
    subst hu
    rw [wrap_i32 (by omega) (by omega)] at hw
    subst hw
    have hk2 : okC k := by unfold okC; omega
    have hmy : mayB k = true := may_of (by omega)
    obtain ⟨j, rfl⟩ : ∃ j : Fin 26, k = 65 + j.val := ⟨⟨k - 65, by omega⟩, by simp only; omega⟩
    have hc := caps26 j
    have he : (Utf8.encode (((65 + j.val : Nat) : Int) + 32)).data.toList = [UInt8.ofNat (97 + j.val)] := by
      rw [show ((65 + j.val : Nat) : Int) + 32 = ((97 + j.val : Nat) : Int) by omega]
      exact hc.2.2
    have hn : nodeR (en ((65 + j.val : Nat) : Int)) = ([UInt8.ofNat (97 + j.val)], 0) := by
      unfold nodeR; rw [prep_one _ _ hk2 hmy]; exact hc.1
    have hh : hostR (en ((65 + j.val : Nat) : Int)) = ([UInt8.ofNat (97 + j.val)], 0) := by
      unfold hostR; rw [prep_one _ _ hk2 hmy]; exact hc.2.1
    rw [hn, hh, he]
    refine call_ret awake25 rfl rfl ?_
    simp only [↓gos, gop, Nat.reduceBEq, Nat.reduceAdd, Nat.reduceSub, Nat.reduceLeDiff, Nat.reduceMul, Int.reduceLE, Int.reduceLT, Int.reduceNe, Int.reduceToNat]
    exact ⟨fun _ => endb rfl, fun q => absurd q (by omega)⟩
  · intro u hu w hw
    refine call_ret awake25 rfl rfl ?_
    simp only [↓gos, gop, Nat.reduceBEq, Nat.reduceAdd, Nat.reduceSub, Nat.reduceLeDiff, Nat.reduceMul, Int.reduceLE, Int.reduceLT, Int.reduceNe, Int.reduceToNat]
    refine ⟨fun _ => endb rfl, fun q => ?_⟩
    obtain rfl : k = 223 := by omega
    rw [h223]
    exact ⟨fun _ => endb rfl, fun q => absurd rfl q⟩
  · intro u hu w hw
    refine call_ret awake25 rfl rfl ?_
    simp only [↓gos, gop, Nat.reduceBEq, Nat.reduceAdd, Nat.reduceSub, Nat.reduceLeDiff, Nat.reduceMul, Int.reduceLE, Int.reduceLT, Int.reduceNe, Int.reduceToNat]
    refine ⟨fun _ => endb rfl, fun q => ?_⟩
    obtain rfl : k = 223 := by omega
    rw [h223]
    exact ⟨fun _ => endb rfl, fun q => absurd rfl q⟩
open Go.RowKit
theorem ptells_walk (W : World) (hT : Lib.Utf8Tabs 0 1 W) (a0 : ByteArray) (_ : a0.size ≤ 140737488351232) : Calls Tryd.prog 7 #[.string a0] W fun e W' => e = .returned (.bool true) ∧ Below W.heap.size W W' :=
  door_walk (tells7 a0.data.toList) W hT [.string a0] rfl fun i v d h1 h2 => by
    rcases i with _ | i
    · cases h1; cases h2; exact .str _
    · simp at h1
theorem pstays_walk (W : World) (hT : Lib.Utf8Tabs 0 1 W) (a0 : ByteArray) (_ : a0.size ≤ 140737488351232) : Calls Tryd.prog 8 #[.string a0] W fun e W' => e = .returned (.bool true) ∧ Below W.heap.size W W' :=
  door_walk (stays8 a0.data.toList) W hT [.string a0] rfl fun i v d h1 h2 => by
    rcases i with _ | i
    · cases h1; cases h2; exact .str _
    · simp at h1
theorem peach_walk (W : World) (hT : Lib.Utf8Tabs 0 1 W) (a0 : Int) (_ : (Lit.int IntKind.i64 a0).wf = true) : Calls Tryd.prog 9 #[.int .i64 a0] W fun e W' => e = .returned (.bool true) ∧ Below W.heap.size W W' :=
  door_walk (each9 a0) W hT [.int .i64 a0] rfl fun i v d h1 h2 => by
    rcases i with _ | i
    · cases h1; cases h2; exact .int _ _
    · simp at h1
end Go.Proofs.Ut
