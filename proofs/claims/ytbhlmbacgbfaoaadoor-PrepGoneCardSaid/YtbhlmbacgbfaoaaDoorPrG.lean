/- The law PrepWays. -/
import Derived.Test.YtbhlmbacgbfaoaaDoorPrF
set_option linter.all false
namespace Go.Proofs.Ut
open Go.Ai Classical
set_option linter.unusedSimpArgs false
set_option maxHeartbeats 1000000
set_option maxRecDepth 100000
def rights : List Int := [1488, 1489, 1576, 64290]
def ri (j : Nat) : Int := rights.getD (j % 4) 0
def cells (i n : Nat) : List Int := (List.range n).map fun j => if j < i then ri j else 0
theorem cells_len (i n : Nat) : (cells i n).length = n := by simp [cells]
theorem cells_zero (n : Nat) : cells 0 n = List.replicate n 0 := List.eq_replicate_iff.2 ⟨cells_len 0 n, fun b hb => by
  simp only [cells, List.mem_map] at hb
  obtain ⟨j, _, rfl⟩ := hb
  rw [if_neg (by omega)]⟩
theorem cells_set (i n : Nat) : (cells i n).set i (ri i) = cells (i + 1) n := by
  refine List.ext_getElem (by simp [cells]) fun j h1 h2 => ?_
  simp only [cells, List.getElem_set, List.getElem_map, List.getElem_range]
  by_cases hj : i = j
  · subst hj; simp
  · rw [if_neg hj]
    by_cases hlt : j < i
    · rw [if_pos hlt, if_pos (by omega)]
    · rw [if_neg hlt, if_neg (by omega)]
def form (m : Int → List Int) (p : Int → Bool) (L : List Int) : List UInt8 × Int :=
  if (L.flatMap m).any (fun c => !p c) then ([], 15) else if straightB (L.flatMap m) then ((L.flatMap m).flatMap en, 0) else ([], 16)
theorem prep_form (m : Int → List Int) (p : Int → Bool) {L : List Int} (hL : ∀ x ∈ L, ∃ c : Nat, x = c ∧ okC c) (hm : ∀ x ∈ L, mayB x = true) : prepR m p (L.flatMap en) = form m p L := by
  obtain ⟨h1, h2⟩ := rs_written hL hm
  unfold prepR form
  rw [h1, h2, if_pos rfl]
/-- Characters, told by a test. -/
def plainL (L : List Int) : Bool := L.all fun x => decide (32 ≤ x) && decide (x ≤ 65533) && !(decide (55296 ≤ x) && decide (x ≤ 57343))
theorem plain_chars {L : List Int} (h : plainL L = true) : (∀ x ∈ L, ∃ c : Nat, x = c ∧ okC c) ∧ (∀ x ∈ L, mayB x = true) := by
  unfold plainL at h
  rw [List.all_eq_true] at h
  have h2 : ∀ x ∈ L, 32 ≤ x ∧ x ≤ 65533 ∧ ¬ (55296 ≤ x ∧ x ≤ 57343) := fun x hx => by
    have := h x hx
    simp only [Bool.and_eq_true, decide_eq_true_eq, Bool.not_eq_true', Bool.and_eq_false_iff, decide_eq_false_iff_not] at this
    omega
  refine ⟨fun x hx => ⟨x.toNat, ?_, ?_⟩, fun x hx => may_of ?_⟩
  · have := h2 x hx; omega
  · have := h2 x hx; unfold okC; omega
  · have := h2 x hx; omega
def waysL (n k w : Nat) : List Int := if w = 1 then (cells n n).set k 97 else if w = 2 then (cells n n).set k 55 else cells n n
def want (n k w : Nat) : Int := if n = 1 then 0 else if w = 1 then 16 else if w = 2 then (if k = 0 ∨ k = n - 1 then 16 else 0) else 0
theorem ways_table : ∀ n : Fin 6, ∀ k : Fin 6, k.val < n.val + 1 → ∀ w : Fin 3, plainL (waysL (n.val + 1) k.val w.val) = true ∧ (waysL (n.val + 1) k.val w.val).length = n.val + 1 ∧
    (form smallL nodeB (waysL (n.val + 1) k.val w.val)).2 = want (n.val + 1) k.val w.val ∧ (form smallL hostB (waysL (n.val + 1) k.val w.val)).2 = want (n.val + 1) k.val w.val ∧ (form keptL (fun c => !banB c) (waysL (n.val + 1) k.val w.val)).2 = want (n.val + 1) k.val w.val := by decide +kernel
theorem ways_ok {n k w : Nat} (h1 : 1 ≤ n) (h2 : n ≤ 6) (hk : k < n) (hw : w < 3) : ((waysL n k w).flatMap en).length < 100000000 ∧ (nodeR ((waysL n k w).flatMap en)).2 = want n k w ∧ (hostR ((waysL n k w).flatMap en)).2 = want n k w ∧ (resR ((waysL n k w).flatMap en)).2 = want n k w := by
  obtain ⟨j, rfl⟩ : ∃ j, n = j + 1 := ⟨n - 1, by omega⟩
  obtain ⟨a, b, c, d, e⟩ := ways_table ⟨j, by omega⟩ ⟨k, by omega⟩ hk ⟨w, hw⟩
  simp only at a b c d e
  obtain ⟨p1, p2⟩ := plain_chars a
  refine ⟨?_, ?_, ?_, ?_⟩
  · have : ∀ L : List Int, (L.flatMap en).length ≤ 4 * L.length := fun L => by
      induction L with
      | nil => simp
      | cons x L ih =>
        have := en_len4 x
        rw [List.flatMap_cons, List.length_append, List.length_cons]; omega
    have := this (waysL (j + 1) k w)
    omega
  · unfold nodeR; rw [prep_form _ _ p1 p2]; exact c
  · unfold hostR; rw [prep_form _ _ p1 p2]; exact d
  · unfold resR; rw [prep_form _ _ p1 p2]; exact e
theorem takeset (L : List Int) (k : Nat) (x : Int) (n : Nat) (hn : n = L.length) : (((L.map r32).set k [DV.int .i32 x]).drop 0).take n = (L.set k x).map (fun r => [.int .i32 r]) := by
  subst hn
  rw [List.drop_zero, List.take_of_length_le (by simp), List.map_set]
  rfl
theorem takeall (L : List Int) (n : Nat) (hn : n = L.length) : ((L.map r32).drop 0).take n = L.map (fun r => [.int .i32 r]) := by
  subst hn
  rw [List.drop_zero, List.take_of_length_le (by simp)]
  rfl
theorem ways10 (n0 at0 what : Int) : Ret 10 [.int .i64 n0, .int .i64 at0, .int .i64 what] (.bool true) := by
  refine acalls_go c10 (by simp [f10]) ?_
  simp only [f10, ↓gos, gop, Nat.reduceBEq, Nat.reduceAdd, Nat.reduceSub, Nat.reduceLeDiff, Nat.reduceMul, Int.reduceLE, Int.reduceLT, Int.reduceNe, Int.reduceToNat]
  intro v hv v1 hv1 v2 hv2 v3 hv3
  obtain ⟨n, hn1, hn, rfl⟩ : ∃ n : Nat, 1 ≤ n ∧ n ≤ 6 ∧ v3 = (n : Int) := by
    have hb := wrap_u64_bd n0
    rw [← hv] at hb
    have : v1 = v % 6 := by rw [hv1, Int.tmod_eq_emod_of_nonneg hb.1]
    rw [wrap_i64 (by omega) (by omega)] at hv2
    rw [wrap_i64 (by omega) (by omega)] at hv3
    exact ⟨v3.toNat, by omega, by omega, by omega⟩
  clear hv hv1 hv2 hv3
  refine ⟨by omega, by omega, by omega, by omega, ?_⟩
  refine goN_lp (γ := Nat) (fun i => [(0, .int .i64 n), (1, .int .i64 at0), (2, .int .i64 what), (6, .bool false), (7, .osl 1 0 0 4 none), (8, .osl 1 1 0 n (some n)), (27, .int .i64 n), (28, .int .i64 i)]) (fun i => [.arr 1 (rights.map r32), .arr 1 ((cells i n).map r32)])
    (fun i => i ≤ n) (fun i => n - i) 0 (wks (by rw [cells_zero]; simp [rights, r32]) (by simp) ⟨rfl, rfl, rfl, rfl, rfl, rfl, rfl, rfl, trivial⟩) (by omega) fun i hi => ?_
  have hcl := cells_len i n
  simp only [f10l0, r32, ↓gos, gop, Nat.reduceBEq, Nat.reduceAdd, Nat.reduceSub, Nat.reduceLeDiff, Nat.reduceMul, Int.reduceLE, Int.reduceLT, Int.reduceNe, Int.reduceToNat]
  refine ⟨fun h1 => ?_, fun h1 => ?_⟩
  · intro v hv
    have q : v = (i : Int) % 4 := by rw [hv, Int.tmod_eq_emod_of_nonneg (by omega)]
    refine ⟨by omega, by omega, optP_at 0 (by simp [rights]; omega) ⟨by omega, optP_at 0 (by omega) fun u hu => ?_⟩⟩
    rw [wrap_i64 (by omega) (by omega)] at hu
    have hri : rights.getD v.toNat 0 = ri i := by unfold ri; rw [show v.toNat = i % 4 by omega]
    rw [hri]
    refine rnd_s (i + 1) ?_ (by simp) ⟨rfl, rfl, rfl, rfl, rfl, rfl, rfl, by show DV.int .i64 u = _; rw [hu]; rfl, trivial⟩ (by omega) (by omega)
    rw [← cells_set, List.map_set]
    rfl
  · obtain rfl : i = n := by omega
    intro a1 ha1 a2 ha2
    rw [show IntKind.u64.wrap (i : Int) = i from wrap_u64 (by omega) (by omega)] at ha2
    subst ha2
    refine ⟨by omega, ?_⟩
    intro a3 ha3 a4 ha4 a5 ha5 a6 ha6
    obtain ⟨k, hk, rfl⟩ : ∃ k : Nat, k < i ∧ a4 = (k : Int) := by
      have hb := wrap_u64_bd at0
      rw [← ha1] at hb
      have q : a3 = a1 % (i : Int) := by rw [ha3, Int.tmod_eq_emod_of_nonneg hb.1]
      have q2 : 0 ≤ a3 ∧ a3 < (i : Int) := by rw [q]; exact ⟨Int.emod_nonneg _ (by omega), Int.emod_lt_of_pos _ (by omega)⟩
      rw [wrap_i64 (by omega) (by omega)] at ha4
      exact ⟨a4.toNat, by omega, by omega⟩
    obtain ⟨w, hw, rfl⟩ : ∃ w : Nat, w < 3 ∧ a6 = (w : Int) := by
      have hb := wrap_u64_bd what
      rw [← ha5] at hb
      have q : a6 = a5 % 3 := by rw [ha6, Int.tmod_eq_emod_of_nonneg hb.1]
      exact ⟨a6.toNat, by omega, by omega⟩
    clear ha1 ha3 ha4 ha5 ha6
    have hkn : ((k : Int)).toNat = k := rfl
    refine ⟨fun w1 => ?_, fun w1 => ?_⟩
    · obtain rfl : w = 1 := by omega
      refine ⟨by omega, by omega, optP_at 0 (by omega) ⟨fun n1 => ?_, fun n1 => ?_⟩⟩
      · obtain ⟨hs, g1, g2, g3⟩ := ways_ok (n := i) (k := k) (w := 1) hn1 hn (by omega) (by omega)
        have hLL : waysL i k 1 = ((cells i i).set k 97) := rfl
        have hz : want i k 1 = 0 := by unfold want; simp; omega
        rw [hLL, hz] at g1 g2 g3
        rw [hLL] at hs
        refine .inr ⟨_, rfl, by simp [cells_len], ((cells i i).set k 97), takeset (cells i i) k 97 i (cells_len i i).symm, ?_⟩
        refine call_ret (node26 _ hs) rfl rfl ?_
        simp only [↓gos, gop, Nat.reduceBEq, Nat.reduceAdd, Nat.reduceSub, Nat.reduceLeDiff, Nat.reduceMul, Int.reduceLE, Int.reduceLT, Int.reduceNe, Int.reduceToNat]
        refine call_ret (host28 _ hs) rfl rfl ?_
        simp only [↓gos, gop, Nat.reduceBEq, Nat.reduceAdd, Nat.reduceSub, Nat.reduceLeDiff, Nat.reduceMul, Int.reduceLE, Int.reduceLT, Int.reduceNe, Int.reduceToNat]
        refine call_ret (res30 _ hs) rfl rfl ?_
        simp only [↓gos, gop, Nat.reduceBEq, Nat.reduceAdd, Nat.reduceSub, Nat.reduceLeDiff, Nat.reduceMul, Int.reduceLE, Int.reduceLT, Int.reduceNe, Int.reduceToNat]
        refine call_ret awake25 rfl rfl ?_
        simp only [↓gos, gop, Nat.reduceBEq, Nat.reduceAdd, Nat.reduceSub, Nat.reduceLeDiff, Nat.reduceMul, Int.reduceLE, Int.reduceLT, Int.reduceNe, Int.reduceToNat]
        generalize nodeR (((cells i i).set k 97).flatMap en) = q1 at g1 ⊢
        generalize hostR (((cells i i).set k 97).flatMap en) = q2 at g2 ⊢
        generalize resR (((cells i i).set k 97).flatMap en) = q3 at g3 ⊢
        exact ⟨fun _ => ⟨fun _ => ⟨fun _ => endb rfl, fun q => absurd g3 q⟩, fun q => absurd g2 q⟩, fun q => absurd g1 q⟩
      · obtain ⟨hs, g1, g2, g3⟩ := ways_ok (n := i) (k := k) (w := 1) hn1 hn (by omega) (by omega)
        have hLL : waysL i k 1 = ((cells i i).set k 97) := rfl
        have hz : want i k 1 = 16 := by unfold want; simp; omega
        rw [hLL, hz] at g1 g2 g3
        rw [hLL] at hs
        refine .inr ⟨_, rfl, by simp [cells_len], ((cells i i).set k 97), takeset (cells i i) k 97 i (cells_len i i).symm, ?_⟩
        refine call_ret (node26 _ hs) rfl rfl ?_
        simp only [↓gos, gop, Nat.reduceBEq, Nat.reduceAdd, Nat.reduceSub, Nat.reduceLeDiff, Nat.reduceMul, Int.reduceLE, Int.reduceLT, Int.reduceNe, Int.reduceToNat]
        refine call_ret (host28 _ hs) rfl rfl ?_
        simp only [↓gos, gop, Nat.reduceBEq, Nat.reduceAdd, Nat.reduceSub, Nat.reduceLeDiff, Nat.reduceMul, Int.reduceLE, Int.reduceLT, Int.reduceNe, Int.reduceToNat]
        refine call_ret (res30 _ hs) rfl rfl ?_
        simp only [↓gos, gop, Nat.reduceBEq, Nat.reduceAdd, Nat.reduceSub, Nat.reduceLeDiff, Nat.reduceMul, Int.reduceLE, Int.reduceLT, Int.reduceNe, Int.reduceToNat]
        refine call_ret awake25 rfl rfl ?_
        simp only [↓gos, gop, Nat.reduceBEq, Nat.reduceAdd, Nat.reduceSub, Nat.reduceLeDiff, Nat.reduceMul, Int.reduceLE, Int.reduceLT, Int.reduceNe, Int.reduceToNat]
        generalize nodeR (((cells i i).set k 97).flatMap en) = q1 at g1 ⊢
        generalize hostR (((cells i i).set k 97).flatMap en) = q2 at g2 ⊢
        generalize resR (((cells i i).set k 97).flatMap en) = q3 at g3 ⊢
        exact ⟨fun _ => ⟨fun _ => ⟨fun _ => endb rfl, fun q => absurd g3 q⟩, fun q => absurd g2 q⟩, fun q => absurd g1 q⟩
    refine ⟨fun w2 => ?_, fun w2 => ?_⟩
    · obtain rfl : w = 2 := by omega
      refine ⟨by omega, by omega, optP_at 0 (by omega) ⟨fun k0 => ⟨fun n1 => ?_, fun n1 => ?_⟩, fun k0 u hu => ?_⟩⟩
      · obtain ⟨hs, g1, g2, g3⟩ := ways_ok (n := i) (k := k) (w := 2) hn1 hn (by omega) (by omega)
        have hLL : waysL i k 2 = ((cells i i).set k 55) := rfl
        have hz : want i k 2 = 0 := by unfold want; simp; omega
        rw [hLL, hz] at g1 g2 g3
        rw [hLL] at hs
        refine .inr ⟨_, rfl, by simp [cells_len], ((cells i i).set k 55), takeset (cells i i) k 55 i (cells_len i i).symm, ?_⟩
        refine call_ret (node26 _ hs) rfl rfl ?_
        simp only [↓gos, gop, Nat.reduceBEq, Nat.reduceAdd, Nat.reduceSub, Nat.reduceLeDiff, Nat.reduceMul, Int.reduceLE, Int.reduceLT, Int.reduceNe, Int.reduceToNat]
        refine call_ret (host28 _ hs) rfl rfl ?_
        simp only [↓gos, gop, Nat.reduceBEq, Nat.reduceAdd, Nat.reduceSub, Nat.reduceLeDiff, Nat.reduceMul, Int.reduceLE, Int.reduceLT, Int.reduceNe, Int.reduceToNat]
        refine call_ret (res30 _ hs) rfl rfl ?_
        simp only [↓gos, gop, Nat.reduceBEq, Nat.reduceAdd, Nat.reduceSub, Nat.reduceLeDiff, Nat.reduceMul, Int.reduceLE, Int.reduceLT, Int.reduceNe, Int.reduceToNat]
        refine call_ret awake25 rfl rfl ?_
        simp only [↓gos, gop, Nat.reduceBEq, Nat.reduceAdd, Nat.reduceSub, Nat.reduceLeDiff, Nat.reduceMul, Int.reduceLE, Int.reduceLT, Int.reduceNe, Int.reduceToNat]
        generalize nodeR (((cells i i).set k 55).flatMap en) = q1 at g1 ⊢
        generalize hostR (((cells i i).set k 55).flatMap en) = q2 at g2 ⊢
        generalize resR (((cells i i).set k 55).flatMap en) = q3 at g3 ⊢
        exact ⟨fun _ => ⟨fun _ => ⟨fun _ => endb rfl, fun q => absurd g3 q⟩, fun q => absurd g2 q⟩, fun q => absurd g1 q⟩
      · obtain ⟨hs, g1, g2, g3⟩ := ways_ok (n := i) (k := k) (w := 2) hn1 hn (by omega) (by omega)
        have hLL : waysL i k 2 = ((cells i i).set k 55) := rfl
        have hz : want i k 2 = 16 := by unfold want; simp; omega
        rw [hLL, hz] at g1 g2 g3
        rw [hLL] at hs
        refine .inr ⟨_, rfl, by simp [cells_len], ((cells i i).set k 55), takeset (cells i i) k 55 i (cells_len i i).symm, ?_⟩
        refine call_ret (node26 _ hs) rfl rfl ?_
        simp only [↓gos, gop, Nat.reduceBEq, Nat.reduceAdd, Nat.reduceSub, Nat.reduceLeDiff, Nat.reduceMul, Int.reduceLE, Int.reduceLT, Int.reduceNe, Int.reduceToNat]
        refine call_ret (host28 _ hs) rfl rfl ?_
        simp only [↓gos, gop, Nat.reduceBEq, Nat.reduceAdd, Nat.reduceSub, Nat.reduceLeDiff, Nat.reduceMul, Int.reduceLE, Int.reduceLT, Int.reduceNe, Int.reduceToNat]
        refine call_ret (res30 _ hs) rfl rfl ?_
        simp only [↓gos, gop, Nat.reduceBEq, Nat.reduceAdd, Nat.reduceSub, Nat.reduceLeDiff, Nat.reduceMul, Int.reduceLE, Int.reduceLT, Int.reduceNe, Int.reduceToNat]
        refine call_ret awake25 rfl rfl ?_
        simp only [↓gos, gop, Nat.reduceBEq, Nat.reduceAdd, Nat.reduceSub, Nat.reduceLeDiff, Nat.reduceMul, Int.reduceLE, Int.reduceLT, Int.reduceNe, Int.reduceToNat]
        generalize nodeR (((cells i i).set k 55).flatMap en) = q1 at g1 ⊢
        generalize hostR (((cells i i).set k 55).flatMap en) = q2 at g2 ⊢
        generalize resR (((cells i i).set k 55).flatMap en) = q3 at g3 ⊢
        exact ⟨fun _ => ⟨fun _ => ⟨fun _ => endb rfl, fun q => absurd g3 q⟩, fun q => absurd g2 q⟩, fun q => absurd g1 q⟩
      rw [wrap_i64 (by omega) (by omega)] at hu
      refine ⟨fun k1 => ⟨fun n1 => ?_, fun n1 => ?_⟩, fun k1 => ⟨fun n1 => ?_, fun n1 => ?_⟩⟩
      · obtain ⟨hs, g1, g2, g3⟩ := ways_ok (n := i) (k := k) (w := 2) hn1 hn (by omega) (by omega)
        have hLL : waysL i k 2 = ((cells i i).set k 55) := rfl
        have hz : want i k 2 = 0 := by unfold want; simp; omega
        rw [hLL, hz] at g1 g2 g3
        rw [hLL] at hs
        refine .inr ⟨_, rfl, by simp [cells_len], ((cells i i).set k 55), takeset (cells i i) k 55 i (cells_len i i).symm, ?_⟩
        refine call_ret (node26 _ hs) rfl rfl ?_
        simp only [↓gos, gop, Nat.reduceBEq, Nat.reduceAdd, Nat.reduceSub, Nat.reduceLeDiff, Nat.reduceMul, Int.reduceLE, Int.reduceLT, Int.reduceNe, Int.reduceToNat]
        refine call_ret (host28 _ hs) rfl rfl ?_
        simp only [↓gos, gop, Nat.reduceBEq, Nat.reduceAdd, Nat.reduceSub, Nat.reduceLeDiff, Nat.reduceMul, Int.reduceLE, Int.reduceLT, Int.reduceNe, Int.reduceToNat]
        refine call_ret (res30 _ hs) rfl rfl ?_
        simp only [↓gos, gop, Nat.reduceBEq, Nat.reduceAdd, Nat.reduceSub, Nat.reduceLeDiff, Nat.reduceMul, Int.reduceLE, Int.reduceLT, Int.reduceNe, Int.reduceToNat]
        refine call_ret awake25 rfl rfl ?_
        simp only [↓gos, gop, Nat.reduceBEq, Nat.reduceAdd, Nat.reduceSub, Nat.reduceLeDiff, Nat.reduceMul, Int.reduceLE, Int.reduceLT, Int.reduceNe, Int.reduceToNat]
        generalize nodeR (((cells i i).set k 55).flatMap en) = q1 at g1 ⊢
        generalize hostR (((cells i i).set k 55).flatMap en) = q2 at g2 ⊢
        generalize resR (((cells i i).set k 55).flatMap en) = q3 at g3 ⊢
        exact ⟨fun _ => ⟨fun _ => ⟨fun _ => endb rfl, fun q => absurd g3 q⟩, fun q => absurd g2 q⟩, fun q => absurd g1 q⟩
      · obtain ⟨hs, g1, g2, g3⟩ := ways_ok (n := i) (k := k) (w := 2) hn1 hn (by omega) (by omega)
        have hLL : waysL i k 2 = ((cells i i).set k 55) := rfl
        have hz : want i k 2 = 16 := by unfold want; simp; omega
        rw [hLL, hz] at g1 g2 g3
        rw [hLL] at hs
        refine .inr ⟨_, rfl, by simp [cells_len], ((cells i i).set k 55), takeset (cells i i) k 55 i (cells_len i i).symm, ?_⟩
        refine call_ret (node26 _ hs) rfl rfl ?_
        simp only [↓gos, gop, Nat.reduceBEq, Nat.reduceAdd, Nat.reduceSub, Nat.reduceLeDiff, Nat.reduceMul, Int.reduceLE, Int.reduceLT, Int.reduceNe, Int.reduceToNat]
        refine call_ret (host28 _ hs) rfl rfl ?_
        simp only [↓gos, gop, Nat.reduceBEq, Nat.reduceAdd, Nat.reduceSub, Nat.reduceLeDiff, Nat.reduceMul, Int.reduceLE, Int.reduceLT, Int.reduceNe, Int.reduceToNat]
        refine call_ret (res30 _ hs) rfl rfl ?_
        simp only [↓gos, gop, Nat.reduceBEq, Nat.reduceAdd, Nat.reduceSub, Nat.reduceLeDiff, Nat.reduceMul, Int.reduceLE, Int.reduceLT, Int.reduceNe, Int.reduceToNat]
        refine call_ret awake25 rfl rfl ?_
        simp only [↓gos, gop, Nat.reduceBEq, Nat.reduceAdd, Nat.reduceSub, Nat.reduceLeDiff, Nat.reduceMul, Int.reduceLE, Int.reduceLT, Int.reduceNe, Int.reduceToNat]
        generalize nodeR (((cells i i).set k 55).flatMap en) = q1 at g1 ⊢
        generalize hostR (((cells i i).set k 55).flatMap en) = q2 at g2 ⊢
        generalize resR (((cells i i).set k 55).flatMap en) = q3 at g3 ⊢
        exact ⟨fun _ => ⟨fun _ => ⟨fun _ => endb rfl, fun q => absurd g3 q⟩, fun q => absurd g2 q⟩, fun q => absurd g1 q⟩
      · obtain ⟨hs, g1, g2, g3⟩ := ways_ok (n := i) (k := k) (w := 2) hn1 hn (by omega) (by omega)
        have hLL : waysL i k 2 = ((cells i i).set k 55) := rfl
        have hz : want i k 2 = 0 := by unfold want; simp; omega
        rw [hLL, hz] at g1 g2 g3
        rw [hLL] at hs
        refine .inr ⟨_, rfl, by simp [cells_len], ((cells i i).set k 55), takeset (cells i i) k 55 i (cells_len i i).symm, ?_⟩
        refine call_ret (node26 _ hs) rfl rfl ?_
        simp only [↓gos, gop, Nat.reduceBEq, Nat.reduceAdd, Nat.reduceSub, Nat.reduceLeDiff, Nat.reduceMul, Int.reduceLE, Int.reduceLT, Int.reduceNe, Int.reduceToNat]
        refine call_ret (host28 _ hs) rfl rfl ?_
        simp only [↓gos, gop, Nat.reduceBEq, Nat.reduceAdd, Nat.reduceSub, Nat.reduceLeDiff, Nat.reduceMul, Int.reduceLE, Int.reduceLT, Int.reduceNe, Int.reduceToNat]
        refine call_ret (res30 _ hs) rfl rfl ?_
        simp only [↓gos, gop, Nat.reduceBEq, Nat.reduceAdd, Nat.reduceSub, Nat.reduceLeDiff, Nat.reduceMul, Int.reduceLE, Int.reduceLT, Int.reduceNe, Int.reduceToNat]
        refine call_ret awake25 rfl rfl ?_
        simp only [↓gos, gop, Nat.reduceBEq, Nat.reduceAdd, Nat.reduceSub, Nat.reduceLeDiff, Nat.reduceMul, Int.reduceLE, Int.reduceLT, Int.reduceNe, Int.reduceToNat]
        generalize nodeR (((cells i i).set k 55).flatMap en) = q1 at g1 ⊢
        generalize hostR (((cells i i).set k 55).flatMap en) = q2 at g2 ⊢
        generalize resR (((cells i i).set k 55).flatMap en) = q3 at g3 ⊢
        exact ⟨fun _ => ⟨fun _ => ⟨fun _ => endb rfl, fun q => absurd g3 q⟩, fun q => absurd g2 q⟩, fun q => absurd g1 q⟩
      · obtain ⟨hs, g1, g2, g3⟩ := ways_ok (n := i) (k := k) (w := 2) hn1 hn (by omega) (by omega)
        have hLL : waysL i k 2 = ((cells i i).set k 55) := rfl
        have hz : want i k 2 = 0 := by unfold want; simp; omega
        rw [hLL, hz] at g1 g2 g3
        rw [hLL] at hs
        refine .inr ⟨_, rfl, by simp [cells_len], ((cells i i).set k 55), takeset (cells i i) k 55 i (cells_len i i).symm, ?_⟩
        refine call_ret (node26 _ hs) rfl rfl ?_
        simp only [↓gos, gop, Nat.reduceBEq, Nat.reduceAdd, Nat.reduceSub, Nat.reduceLeDiff, Nat.reduceMul, Int.reduceLE, Int.reduceLT, Int.reduceNe, Int.reduceToNat]
        refine call_ret (host28 _ hs) rfl rfl ?_
        simp only [↓gos, gop, Nat.reduceBEq, Nat.reduceAdd, Nat.reduceSub, Nat.reduceLeDiff, Nat.reduceMul, Int.reduceLE, Int.reduceLT, Int.reduceNe, Int.reduceToNat]
        refine call_ret (res30 _ hs) rfl rfl ?_
        simp only [↓gos, gop, Nat.reduceBEq, Nat.reduceAdd, Nat.reduceSub, Nat.reduceLeDiff, Nat.reduceMul, Int.reduceLE, Int.reduceLT, Int.reduceNe, Int.reduceToNat]
        refine call_ret awake25 rfl rfl ?_
        simp only [↓gos, gop, Nat.reduceBEq, Nat.reduceAdd, Nat.reduceSub, Nat.reduceLeDiff, Nat.reduceMul, Int.reduceLE, Int.reduceLT, Int.reduceNe, Int.reduceToNat]
        generalize nodeR (((cells i i).set k 55).flatMap en) = q1 at g1 ⊢
        generalize hostR (((cells i i).set k 55).flatMap en) = q2 at g2 ⊢
        generalize resR (((cells i i).set k 55).flatMap en) = q3 at g3 ⊢
        exact ⟨fun _ => ⟨fun _ => ⟨fun _ => endb rfl, fun q => absurd g3 q⟩, fun q => absurd g2 q⟩, fun q => absurd g1 q⟩
    · obtain rfl : w = 0 := by omega
      obtain ⟨hs, g1, g2, g3⟩ := ways_ok (n := i) (k := k) (w := 0) hn1 hn (by omega) (by omega)
      have hLL : waysL i k 0 = (cells i i) := rfl
      have hz : want i k 0 = 0 := by unfold want; simp
      rw [hLL, hz] at g1 g2 g3
      rw [hLL] at hs
      refine .inr ⟨_, rfl, by simp [cells_len], (cells i i), takeall (cells i i) i (cells_len i i).symm, ?_⟩
      refine call_ret (node26 _ hs) rfl rfl ?_
      simp only [↓gos, gop, Nat.reduceBEq, Nat.reduceAdd, Nat.reduceSub, Nat.reduceLeDiff, Nat.reduceMul, Int.reduceLE, Int.reduceLT, Int.reduceNe, Int.reduceToNat]
      refine call_ret (host28 _ hs) rfl rfl ?_
      simp only [↓gos, gop, Nat.reduceBEq, Nat.reduceAdd, Nat.reduceSub, Nat.reduceLeDiff, Nat.reduceMul, Int.reduceLE, Int.reduceLT, Int.reduceNe, Int.reduceToNat]
      refine call_ret (res30 _ hs) rfl rfl ?_
      simp only [↓gos, gop, Nat.reduceBEq, Nat.reduceAdd, Nat.reduceSub, Nat.reduceLeDiff, Nat.reduceMul, Int.reduceLE, Int.reduceLT, Int.reduceNe, Int.reduceToNat]
      refine call_ret awake25 rfl rfl ?_
      simp only [↓gos, gop, Nat.reduceBEq, Nat.reduceAdd, Nat.reduceSub, Nat.reduceLeDiff, Nat.reduceMul, Int.reduceLE, Int.reduceLT, Int.reduceNe, Int.reduceToNat]
      generalize nodeR ((cells i i).flatMap en) = q1 at g1 ⊢
      generalize hostR ((cells i i).flatMap en) = q2 at g2 ⊢
      generalize resR ((cells i i).flatMap en) = q3 at g3 ⊢
      exact ⟨fun _ => ⟨fun _ => ⟨fun _ => endb rfl, fun q => absurd g3 q⟩, fun q => absurd g2 q⟩, fun q => absurd g1 q⟩
open Go.RowKit
theorem pways_walk (W : World) (hT : Lib.Utf8Tabs 0 1 W) (a0 : Int) (_ : (Lit.int IntKind.i64 a0).wf = true) (a1 : Int) (_ : (Lit.int IntKind.i64 a1).wf = true) (a2 : Int) (_ : (Lit.int IntKind.i64 a2).wf = true) : Calls Tryd.prog 10 #[.int .i64 a0, .int .i64 a1, .int .i64 a2] W fun e W' => e = .returned (.bool true) ∧ Below W.heap.size W W' :=
  door_walk (ways10 a0 a1 a2) W hT [.int .i64 a0, .int .i64 a1, .int .i64 a2] rfl fun i v d h1 h2 => by
    rcases i with _ | _ | _ | i
    · cases h1; cases h2; exact .int _ _
    · cases h1; cases h2; exact .int _ _
    · cases h1; cases h2; exact .int _ _
    · simp at h1
end Go.Proofs.Ut
