/- The document's prep; awake. -/
import Derived.Test.YtbhlmbacgbfaoaaDoorPrD
set_option linter.all false
namespace Go.Proofs.Ut
open Go.Ai Classical
set_option linter.unusedSimpArgs false
set_option maxHeartbeats 1000000
set_option maxRecDepth 100000
def allowB (k : Int) (c : Int) : Bool := if k = 1 then nodeB c else if k = 2 then hostB c else !banB c
theorem ref_chr (all : Bool) : Chr (refL all) := by
  unfold refL
  cases all
  · exact kept_chr
  · exact small_chr
theorem ref_len (all : Bool) (c : Int) : (refL all c).length ≤ 2 := by
  unfold refL
  cases all
  · exact kept_len c
  · exact small_len c
theorem flat_len {m : Int → List Int} (hm : ∀ c, (m c).length ≤ 2) : ∀ l : List Int, (l.flatMap m).length ≤ 2 * l.length
  | [] => by simp
  | x :: l => by
    have := flat_len hm l
    have := hm x
    rw [List.flatMap_cons, List.length_append, List.length_cons]; omega
theorem ref48 (s : List UInt8) (k : Int) (hs : s.length < 100000000) : SE 48 [.str s, .int .i64 k] (prepR (refL (!decide (k = 3))) (allowB k) s) := by
  refine acalls_go c48 (by simp [f48]) ?_
  obtain ⟨r, hr⟩ : ∃ r, r = prepR (refL (!decide (k = 3))) (allowB k) s := ⟨_, rfl⟩
  rw [← hr]
  unfold prepR at hr
  simp only [f48, ↓gos, gop, Nat.reduceBEq, Nat.reduceAdd, Nat.reduceSub, Nat.reduceLeDiff, Nat.reduceMul, Int.reduceLE, Int.reduceLT, Int.reduceNe, Int.reduceToNat]
  refine call_ret (rvalid17 rfl s (by omega)) rfl rfl ?_
  cases h1 : runAt mayB s 0
  · rw [h1, if_neg (by simp)] at hr
    subst hr
    simp only [↓gos, gop, Nat.reduceBEq, Nat.reduceAdd, Nat.reduceSub, Nat.reduceLeDiff, Nat.reduceMul, Int.reduceLE, Int.reduceLT, Int.reduceNe, Int.reduceToNat]
    exact endSI rfl rfl
  · rw [h1, if_pos rfl] at hr
    simp only [num, ↓gos, gop, Nat.reduceBEq, Nat.reduceAdd, Nat.reduceSub, Nat.reduceLeDiff, Nat.reduceMul, Int.reduceLE, Int.reduceLT, Int.reduceNe, Int.reduceToNat]
    refine call_lend (rrunes20 rfl s (by omega)) rfl (free_num _) ?_
    simp only [DV.ren, renO, num, ↓gos, gop, Nat.reduceBEq, Nat.reduceAdd, Nat.reduceSub, Nat.reduceLeDiff, Nat.reduceMul, Int.reduceLE, Int.reduceLT, Int.reduceNe, Int.reduceToNat]
    have hrl := rs_len s
    have hl2 := flat_len (ref_len (!decide (k = 3))) (rs s)
    have hM : NR 73 [.sl 1 ((rs s).map num), .bool (!decide (k = 3))] ((rs s).flatMap (refL (!decide (k = 3)))) := mapped73 (rs s) _ (by omega)
    refine ⟨fun hk => ?_, fun hk => ?_⟩
    · have hb : (!decide (k = 3)) = true := by simp [hk]
      rw [hb] at hr hl2 hM
      refine call_lend hM (by rw [List.map_cons]; erw [dn_osl (es := (rs s).map num) (i := 0) rfl (by simp)]; rfl) (free_num _) ?_
      have hch := ref_chr true
      have hLo : ∀ x ∈ (rs s).flatMap (refL true), ∃ c : Nat, x = c ∧ okC c := fun x hx => by
        obtain ⟨y, hy, hx⟩ := List.mem_flatMap.1 hx
        obtain ⟨c, rfl, hc⟩ := rs_ok s y hy
        exact hch c hc x hx
      generalize (rs s).flatMap (refL true) = L at hr hl2 hLo ⊢
      simp only [DV.ren, renO, num, ↓gos, gop, Nat.reduceBEq, Nat.reduceAdd, Nat.reduceSub, Nat.reduceLeDiff, Nat.reduceMul, Int.reduceLE, Int.reduceLT, Int.reduceNe, Int.reduceToNat]
      refine goN_lp (γ := Nat) (fun i => [(0, .str s), (1, .int .i64 k), (4, .str []), (5, .int .i64 0), (6, .osl 1 1 0 L.length none), (7, .int .i64 i)]) (fun _ => [.arr 1 ((rs s).map num), .arr 1 (L.map num)])
        (fun i => i ≤ L.length ∧ ∀ j, j < i → (!allowB k (L.getD j 0)) = false) (fun i => L.length - i) 0 (wks rfl (by simp) ⟨rfl, rfl, rfl, rfl, rfl, rfl, trivial⟩) ⟨by simp, by simp⟩ fun i hi => ?_
      obtain ⟨hi, hp⟩ := hi
      simp only [f48l0, num, ↓gos, gop, Nat.reduceBEq, Nat.reduceAdd, Nat.reduceSub, Nat.reduceLeDiff, Nat.reduceMul, Int.reduceLE, Int.reduceLT, Int.reduceNe, Int.reduceToNat]
      refine ⟨fun k1 => ⟨by omega, optP_at 0 (by omega) (call_ret (allowed74 k (L.getD i 0)) rfl rfl ?_)⟩, fun k1 => ?_⟩
      · rw [show (if k = 1 then nodeB (L.getD i 0) else if k = 2 then hostB (L.getD i 0) else !banB (L.getD i 0)) = allowB k (L.getD i 0) from rfl]
        cases h2 : allowB k (L.getD i 0)
        · rw [if_pos (any_ge (i := i) (by omega) (by rw [h2]; rfl))] at hr
          subst hr
          simp only [num, ↓gos, gop, Nat.reduceBEq, Nat.reduceAdd, Nat.reduceSub, Nat.reduceLeDiff, Nat.reduceMul, Int.reduceLE, Int.reduceLT, Int.reduceNe, Int.reduceToNat]
          exact endSI rfl rfl
        · simp only [num, ↓gos, gop, Nat.reduceBEq, Nat.reduceAdd, Nat.reduceSub, Nat.reduceLeDiff, Nat.reduceMul, Int.reduceLE, Int.reduceLT, Int.reduceNe, Int.reduceToNat]
          intro v hv
          rw [wrap_i64 (by omega) (by omega)] at hv
          refine rnd_s (i + 1) rfl (by simp) ⟨rfl, rfl, rfl, rfl, rfl, by show DV.int .i64 v = _; rw [hv]; rfl, trivial⟩ ⟨by omega, fun j hj => ?_⟩ (by omega)
          by_cases hji : j = i
          · subst hji; exact h2
          · simpa using hp j (by omega)
      · rw [if_neg (by rw [any_lt (p := fun c => !allowB k c) (i := i) (by omega) hp]; simp)] at hr
        refine call_ret (way75 L (by omega)) (by rw [List.map_cons]; erw [dn_osl (es := L.map num) (i := 1) rfl (by simp)]; rfl) rfl ?_
        cases h3 : straightB L
        · rw [h3, if_neg (by simp)] at hr
          subst hr
          simp only [num, ↓gos, gop, Nat.reduceBEq, Nat.reduceAdd, Nat.reduceSub, Nat.reduceLeDiff, Nat.reduceMul, Int.reduceLE, Int.reduceLT, Int.reduceNe, Int.reduceToNat]
          exact endSI rfl rfl
        · rw [h3, if_pos rfl] at hr
          subst hr
          simp only [num, ↓gos, gop, Nat.reduceBEq, Nat.reduceAdd, Nat.reduceSub, Nat.reduceLeDiff, Nat.reduceMul, Int.reduceLE, Int.reduceLT, Int.reduceNe, Int.reduceToNat]
          refine call_ret (texts76 L (by omega) hLo) (by rw [List.map_cons]; erw [dn_osl (es := L.map num) (i := 1) rfl (by simp)]; rfl) rfl ?_
          simp only [num, ↓gos, gop, Nat.reduceBEq, Nat.reduceAdd, Nat.reduceSub, Nat.reduceLeDiff, Nat.reduceMul, Int.reduceLE, Int.reduceLT, Int.reduceNe, Int.reduceToNat]
          exact endSI rfl rfl
    · have hb : (!decide (k = 3)) = false := by simp [hk]
      rw [hb] at hr hl2 hM
      refine call_lend hM (by rw [List.map_cons]; erw [dn_osl (es := (rs s).map num) (i := 0) rfl (by simp)]; rfl) (free_num _) ?_
      have hch := ref_chr false
      have hLo : ∀ x ∈ (rs s).flatMap (refL false), ∃ c : Nat, x = c ∧ okC c := fun x hx => by
        obtain ⟨y, hy, hx⟩ := List.mem_flatMap.1 hx
        obtain ⟨c, rfl, hc⟩ := rs_ok s y hy
        exact hch c hc x hx
      generalize (rs s).flatMap (refL false) = L at hr hl2 hLo ⊢
      simp only [DV.ren, renO, num, ↓gos, gop, Nat.reduceBEq, Nat.reduceAdd, Nat.reduceSub, Nat.reduceLeDiff, Nat.reduceMul, Int.reduceLE, Int.reduceLT, Int.reduceNe, Int.reduceToNat]
      refine goN_lp (γ := Nat) (fun i => [(0, .str s), (1, .int .i64 k), (4, .str []), (5, .int .i64 0), (6, .osl 1 1 0 L.length none), (7, .int .i64 i)]) (fun _ => [.arr 1 ((rs s).map num), .arr 1 (L.map num)])
        (fun i => i ≤ L.length ∧ ∀ j, j < i → (!allowB k (L.getD j 0)) = false) (fun i => L.length - i) 0 (wks rfl (by simp) ⟨rfl, rfl, rfl, rfl, rfl, rfl, trivial⟩) ⟨by simp, by simp⟩ fun i hi => ?_
      obtain ⟨hi, hp⟩ := hi
      simp only [f48l0, num, ↓gos, gop, Nat.reduceBEq, Nat.reduceAdd, Nat.reduceSub, Nat.reduceLeDiff, Nat.reduceMul, Int.reduceLE, Int.reduceLT, Int.reduceNe, Int.reduceToNat]
      refine ⟨fun k1 => ⟨by omega, optP_at 0 (by omega) (call_ret (allowed74 k (L.getD i 0)) rfl rfl ?_)⟩, fun k1 => ?_⟩
      · rw [show (if k = 1 then nodeB (L.getD i 0) else if k = 2 then hostB (L.getD i 0) else !banB (L.getD i 0)) = allowB k (L.getD i 0) from rfl]
        cases h2 : allowB k (L.getD i 0)
        · rw [if_pos (any_ge (i := i) (by omega) (by rw [h2]; rfl))] at hr
          subst hr
          simp only [num, ↓gos, gop, Nat.reduceBEq, Nat.reduceAdd, Nat.reduceSub, Nat.reduceLeDiff, Nat.reduceMul, Int.reduceLE, Int.reduceLT, Int.reduceNe, Int.reduceToNat]
          exact endSI rfl rfl
        · simp only [num, ↓gos, gop, Nat.reduceBEq, Nat.reduceAdd, Nat.reduceSub, Nat.reduceLeDiff, Nat.reduceMul, Int.reduceLE, Int.reduceLT, Int.reduceNe, Int.reduceToNat]
          intro v hv
          rw [wrap_i64 (by omega) (by omega)] at hv
          refine rnd_s (i + 1) rfl (by simp) ⟨rfl, rfl, rfl, rfl, rfl, by show DV.int .i64 v = _; rw [hv]; rfl, trivial⟩ ⟨by omega, fun j hj => ?_⟩ (by omega)
          by_cases hji : j = i
          · subst hji; exact h2
          · simpa using hp j (by omega)
      · rw [if_neg (by rw [any_lt (p := fun c => !allowB k c) (i := i) (by omega) hp]; simp)] at hr
        refine call_ret (way75 L (by omega)) (by rw [List.map_cons]; erw [dn_osl (es := L.map num) (i := 1) rfl (by simp)]; rfl) rfl ?_
        cases h3 : straightB L
        · rw [h3, if_neg (by simp)] at hr
          subst hr
          simp only [num, ↓gos, gop, Nat.reduceBEq, Nat.reduceAdd, Nat.reduceSub, Nat.reduceLeDiff, Nat.reduceMul, Int.reduceLE, Int.reduceLT, Int.reduceNe, Int.reduceToNat]
          exact endSI rfl rfl
        · rw [h3, if_pos rfl] at hr
          subst hr
          simp only [num, ↓gos, gop, Nat.reduceBEq, Nat.reduceAdd, Nat.reduceSub, Nat.reduceLeDiff, Nat.reduceMul, Int.reduceLE, Int.reduceLT, Int.reduceNe, Int.reduceToNat]
          refine call_ret (texts76 L (by omega) hLo) (by rw [List.map_cons]; erw [dn_osl (es := L.map num) (i := 1) rfl (by simp)]; rfl) rfl ?_
          simp only [num, ↓gos, gop, Nat.reduceBEq, Nat.reduceAdd, Nat.reduceSub, Nat.reduceLeDiff, Nat.reduceMul, Int.reduceLE, Int.reduceLT, Int.reduceNe, Int.reduceToNat]
          exact endSI rfl rfl
theorem ref27 (s : List UInt8) (hs : s.length < 100000000) : SE 27 [.str s] (nodeR s) := by
  refine acalls_go c27 (by simp [f27]) ?_
  simp only [f27, ↓gos, gop, Nat.reduceBEq, Nat.reduceAdd, Nat.reduceSub, Nat.reduceLeDiff, Nat.reduceMul, Int.reduceLE, Int.reduceLT, Int.reduceNe, Int.reduceToNat]
  refine call_ret (ref48 s 1 hs) rfl rfl ?_
  simp only [↓gos, gop, Nat.reduceBEq, Nat.reduceAdd, Nat.reduceSub, Nat.reduceLeDiff, Nat.reduceMul, Int.reduceLE, Int.reduceLT, Int.reduceNe, Int.reduceToNat]
  exact endSI rfl rfl
theorem ref29 (s : List UInt8) (hs : s.length < 100000000) : SE 29 [.str s] (hostR s) := by
  refine acalls_go c29 (by simp [f29]) ?_
  simp only [f29, ↓gos, gop, Nat.reduceBEq, Nat.reduceAdd, Nat.reduceSub, Nat.reduceLeDiff, Nat.reduceMul, Int.reduceLE, Int.reduceLT, Int.reduceNe, Int.reduceToNat]
  refine call_ret (ref48 s 2 hs) rfl rfl ?_
  simp only [↓gos, gop, Nat.reduceBEq, Nat.reduceAdd, Nat.reduceSub, Nat.reduceLeDiff, Nat.reduceMul, Int.reduceLE, Int.reduceLT, Int.reduceNe, Int.reduceToNat]
  exact endSI rfl rfl
theorem ref31 (s : List UInt8) (hs : s.length < 100000000) : SE 31 [.str s] (resR s) := by
  refine acalls_go c31 (by simp [f31]) ?_
  simp only [f31, ↓gos, gop, Nat.reduceBEq, Nat.reduceAdd, Nat.reduceSub, Nat.reduceLeDiff, Nat.reduceMul, Int.reduceLE, Int.reduceLT, Int.reduceNe, Int.reduceToNat]
  refine call_ret (ref48 s 3 hs) rfl rfl ?_
  simp only [↓gos, gop, Nat.reduceBEq, Nat.reduceAdd, Nat.reduceSub, Nat.reduceLeDiff, Nat.reduceMul, Int.reduceLE, Int.reduceLT, Int.reduceNe, Int.reduceToNat]
  exact endSI rfl rfl
theorem prep_ascii (m : Int → List Int) (p : Int → Bool) (s : List UInt8) (h : ∀ b ∈ s, b.toNat < 128) (hm : s.all (fun b => mayB b.toNat) = true) :
    prepR m p s = if ((s.map (fun b => (b.toNat : Int))).flatMap m).any (fun c => !p c) then ([], 15) else if straightB ((s.map (fun b => (b.toNat : Int))).flatMap m) then (((s.map (fun b => (b.toNat : Int))).flatMap m).flatMap en, 0) else ([], 16) := by
  unfold prepR
  rw [(run_ascii mayB s h).1, hm, if_pos rfl, rs_ascii s h hm]
theorem awake25 : Ret 25 [] (.bool true) := by
  have h1 : nodeR [65, 98] = ([97, 98], 0) := by
    unfold nodeR
    rw [prep_ascii _ _ _ (by decide) (by decide)]
    kernel_rfl
  have h2 : hostR [65, 46, 98] = ([97, 46, 98], 0) := by
    unfold hostR
    rw [prep_ascii _ _ _ (by decide) (by decide)]
    kernel_rfl
  have h3 : resR [65, 32, 98] = ([65, 32, 98], 0) := by
    unfold resR
    rw [prep_ascii _ _ _ (by decide) (by decide)]
    kernel_rfl
  have c1 := node26 [65, 98] (by decide)
  have c2 := host28 [65, 46, 98] (by decide)
  have c3 := res30 [65, 32, 98] (by decide)
  rw [h1] at c1
  rw [h2] at c2
  rw [h3] at c3
  refine acalls_go c25 (by simp [f25]) ?_
  simp only [f25, ↓gos, gop, Nat.reduceBEq, Nat.reduceAdd, Nat.reduceSub, Nat.reduceLeDiff, Nat.reduceMul, Int.reduceLE, Int.reduceLT, Int.reduceNe, Int.reduceToNat]
  refine call_ret c1 rfl rfl ?_
  simp only [↓gos, gop, Nat.reduceBEq, Nat.reduceAdd, Nat.reduceSub, Nat.reduceLeDiff, Nat.reduceMul, Int.reduceLE, Int.reduceLT, Int.reduceNe, Int.reduceToNat]
  refine call_ret c2 rfl rfl ?_
  simp only [↓gos, gop, Nat.reduceBEq, Nat.reduceAdd, Nat.reduceSub, Nat.reduceLeDiff, Nat.reduceMul, Int.reduceLE, Int.reduceLT, Int.reduceNe, Int.reduceToNat]
  refine call_ret c3 rfl rfl ?_
  simp only [↓gos, gop, Nat.reduceBEq, Nat.reduceAdd, Nat.reduceSub, Nat.reduceLeDiff, Nat.reduceMul, Int.reduceLE, Int.reduceLT, Int.reduceNe, Int.reduceToNat]
  exact endb rfl
end Go.Proofs.Ut
