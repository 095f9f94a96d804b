/- prep's three, and the document's. -/
import Derived.Test.YtbhlmbacgbfaoaaDoorPrC
set_option linter.all false
namespace Go.Proofs.Ut
open Go.Ai Classical
set_option linter.unusedSimpArgs false
set_option maxHeartbeats 1000000
set_option maxRecDepth 100000
theorem kept_len (c : Int) : (keptL c).length ≤ 2 := by unfold keptL; split <;> simp
theorem small_len (c : Int) : (smallL c).length ≤ 2 := by
  unfold smallL
  split
  · simp
  split
  · simp
  · exact kept_len c
theorem kept_chr : Chr keptL := fun c hc x hx => by
  unfold keptL at hx
  split at hx
  · cases hx
  · simp at hx; exact ⟨c, hx, hc⟩
theorem small_chr : Chr smallL := fun c hc x hx => by
  unfold smallL at hx
  split at hx
  · rename_i h
    rw [capB_iff] at h
    simp at hx
    exact ⟨c + 32, by omega, by unfold okC; omega⟩
  split at hx
  · simp at hx
    exact ⟨115, hx, by unfold okC; omega⟩
  · exact kept_chr c hc x hx
def nodeR (s : List UInt8) := prepR smallL nodeB s
def hostR (s : List UInt8) := prepR smallL hostB s
def resR (s : List UInt8) := prepR keptL (fun c => !banB c) s
theorem node26 (s : List UInt8) (hs : s.length < 100000000) : SE 26 [.str s] (nodeR s) := by
  refine acalls_go c26 (by simp [f26]) ?_
  simp only [f26, ↓gos, gop, Nat.reduceBEq, Nat.reduceAdd, Nat.reduceSub, Nat.reduceLeDiff, Nat.reduceMul, Int.reduceLE, Int.reduceLT, Int.reduceNe, Int.reduceToNat]
  refine call_ret (of43 small44 small_len node45 small_chr s hs) rfl rfl ?_
  simp only [↓gos, gop, Nat.reduceBEq, Nat.reduceAdd, Nat.reduceSub, Nat.reduceLeDiff, Nat.reduceMul, Int.reduceLE, Int.reduceLT, Int.reduceNe, Int.reduceToNat]
  exact endSI rfl rfl
theorem host28 (s : List UInt8) (hs : s.length < 100000000) : SE 28 [.str s] (hostR s) := by
  refine acalls_go c28 (by simp [f28]) ?_
  simp only [f28, ↓gos, gop, Nat.reduceBEq, Nat.reduceAdd, Nat.reduceSub, Nat.reduceLeDiff, Nat.reduceMul, Int.reduceLE, Int.reduceLT, Int.reduceNe, Int.reduceToNat]
  refine call_ret (of43 small44 small_len host49 small_chr s hs) rfl rfl ?_
  simp only [↓gos, gop, Nat.reduceBEq, Nat.reduceAdd, Nat.reduceSub, Nat.reduceLeDiff, Nat.reduceMul, Int.reduceLE, Int.reduceLT, Int.reduceNe, Int.reduceToNat]
  exact endSI rfl rfl
theorem res30 (s : List UInt8) (hs : s.length < 100000000) : SE 30 [.str s] (resR s) := by
  refine acalls_go c30 (by simp [f30]) ?_
  simp only [f30, ↓gos, gop, Nat.reduceBEq, Nat.reduceAdd, Nat.reduceSub, Nat.reduceLeDiff, Nat.reduceMul, Int.reduceLE, Int.reduceLT, Int.reduceNe, Int.reduceToNat]
  refine call_ret (of43 kept53 kept_len res54 kept_chr s hs) rfl rfl ?_
  simp only [↓gos, gop, Nat.reduceBEq, Nat.reduceAdd, Nat.reduceSub, Nat.reduceLeDiff, Nat.reduceMul, Int.reduceLE, Int.reduceLT, Int.reduceNe, Int.reduceToNat]
  exact endSI rfl rfl
theorem in99 (l : List Int) (c : Int) (hl : l.length < 1000000000000) : Ret 99 [.sl 1 (l.map num), .int .i64 c] (.bool (l.contains c)) := by
  refine acalls_go c99 (by simp [f99]) ?_
  simp only [f99, ↓gos, gop, Nat.reduceBEq, Nat.reduceAdd, Nat.reduceSub, Nat.reduceLeDiff, Nat.reduceMul, Int.reduceLE, Int.reduceLT, Int.reduceNe, Int.reduceToNat]
  refine goN_lp (γ := Nat) (fun i => [(0, .sl 1 (l.map num)), (1, .int .i64 c), (5, .int .i64 i)]) (fun _ => []) (fun i => i ≤ l.length ∧ ∀ j, j < i → l.getD j 0 ≠ c) (fun i => l.length - i) 0
    (wks rfl (Nat.zero_le _) ⟨rfl, rfl, rfl, trivial⟩) (by simp) fun i hi => ?_
  obtain ⟨hi, hp⟩ := hi
  simp only [f99l0, num, ↓gos, gop, Nat.reduceBEq, Nat.reduceAdd, Nat.reduceSub, Nat.reduceLeDiff, Nat.reduceMul, Int.reduceLE, Int.reduceLT, Int.reduceNe, Int.reduceToNat]
  refine ⟨fun h1 => optP_at 0 (by omega) ⟨fun h2 => endb ?_, fun h2 v hv => ?_⟩, fun h1 => endb ?_⟩
  · symm
    rw [List.contains_iff_mem, ← h2]
    simp [show i < l.length by omega]
  · rw [wrap_i64 (by omega) (by omega)] at hv
    refine rnd_s (i + 1) rfl (Nat.zero_le _) ⟨rfl, rfl, by show DV.int .i64 v = _; rw [hv]; rfl, trivial⟩ ⟨by omega, fun j hj => ?_⟩ (by omega)
    by_cases hji : j = i
    · subst hji; exact h2
    · exact hp j (by omega)
  · symm
    rw [← Bool.not_eq_true, List.contains_iff_mem]
    intro h
    obtain ⟨j, hj, rfl⟩ := List.getElem_of_mem h
    have := hp j (by omega)
    simp [hj] at this
theorem utf102 (c : Int) : Ret 102 [.int .i64 c] (.str (en (IntKind.i32.wrap c))) := by
  refine acalls_go c102 (by simp [f102]) ?_
  simp only [f102, ↓gos, gop, Nat.reduceBEq, Nat.reduceAdd, Nat.reduceSub, Nat.reduceLeDiff, Nat.reduceMul, Int.reduceLE, Int.reduceLT, Int.reduceNe, Int.reduceToNat]
  intro v hv
  refine .inr ⟨_, rfl, by simp, [v], rfl, ?_⟩
  refine ends ?_
  subst hv
  simp [en]
theorem texts76 (l : List Int) (hl : l.length < 1000000000) (hc : ∀ x ∈ l, ∃ c : Nat, x = c ∧ okC c) : Ret 76 [.sl 1 (l.map num)] (.str (l.flatMap en)) := by
  refine acalls_go c76 (by simp [f76]) ?_
  simp only [f76, ↓gos, gop, Nat.reduceBEq, Nat.reduceAdd, Nat.reduceSub, Nat.reduceLeDiff, Nat.reduceMul, Int.reduceLE, Int.reduceLT, Int.reduceNe, Int.reduceToNat]
  refine goN_lp (γ := Nat) (fun i => [(0, .sl 1 (l.map num)), (3, .str ((l.take i).flatMap en)), (4, .int .i64 i)]) (fun _ => []) (fun i => i ≤ l.length ∧ ((l.take i).flatMap en).length ≤ 4 * i) (fun i => l.length - i) 0
    (wks rfl (Nat.zero_le _) ⟨rfl, rfl, rfl, trivial⟩) (by simp) fun i hi => ?_
  obtain ⟨hi, hil⟩ := hi
  simp only [f76l0, num, ↓gos, gop, Nat.reduceBEq, Nat.reduceAdd, Nat.reduceSub, Nat.reduceLeDiff, Nat.reduceMul, Int.reduceLE, Int.reduceLT, Int.reduceNe, Int.reduceToNat]
  refine ⟨fun h1 => optP_at 0 (by omega) (call_ret (utf102 (l.getD i 0)) rfl rfl ?_), fun h1 => ends ?_⟩
  · obtain ⟨c, hc, hco⟩ := hc (l.getD i 0) (by rw [List.getD_eq_getElem?_getD, List.getElem?_eq_getElem (by omega)]; exact List.getElem_mem _)
    unfold okC at hco
    rw [wrap_i32 (by omega) (by omega)]
    have he4 := en_len4 (l.getD i 0)
    simp only [↓gos, gop, Nat.reduceBEq, Nat.reduceAdd, Nat.reduceSub, Nat.reduceLeDiff, Nat.reduceMul, Int.reduceLE, Int.reduceLT, Int.reduceNe, Int.reduceToNat]
    refine ⟨by omega, fun v hv => ?_⟩
    rw [wrap_i64 (by omega) (by omega)] at hv
    have ht : (l.take (i + 1)).flatMap en = (l.take i).flatMap en ++ en (l.getD i 0) := by
      rw [List.take_succ_eq_append_getElem (by omega), List.flatMap_append]
      simp [show i < l.length by omega]
    refine rnd_s (i + 1) rfl (Nat.zero_le _) ⟨rfl, ?_, by show DV.int .i64 v = _; rw [hv]; rfl, trivial⟩ ⟨by omega, by rw [ht, List.length_append]; omega⟩ (by omega)
    show DV.str _ = DV.str _
    rw [ht]
  · rw [List.take_of_length_le (by omega)]
theorem gone_cap {c : Int} (h : capB c = true ∨ c = 223) : inR goneL c = false := by
  rw [capB_iff] at h
  simp only [inR, goneL, prs, hasB, List.any_cons, List.any_nil, Bool.or_false, Bool.or_eq_false_iff, Bool.and_eq_false_iff, decide_eq_false_iff_not]
  omega
def refL (all : Bool) (c : Int) : List Int := if all then smallL c else keptL c
theorem mapped73 (l : List Int) (all : Bool) (hl : l.length < 1000000000) : NR 73 [.sl 1 (l.map num), .bool all] (l.flatMap (refL all)) := by
  refine acalls_go c73 (by simp [f73]) ?_
  simp only [f73, ↓gos, gop, Nat.reduceBEq, Nat.reduceAdd, Nat.reduceSub, Nat.reduceLeDiff, Nat.reduceMul, Int.reduceLE, Int.reduceLT, Int.reduceNe, Int.reduceToNat]
  refine goN_lp (γ := Nat × List Int) (fun g' => [(0, .sl 1 (l.map num)), (1, .bool all), (5, .osl 1 1 0 g'.2.length none), (6, .int .i64 (g'.1 : Nat))]) (fun g' => [.arr 1 [], .arr 1 (g'.2.map num)])
    (fun g' => g'.1 ≤ l.length ∧ g'.2 = (l.take g'.1).flatMap (refL all) ∧ g'.2.length ≤ 2 * g'.1) (fun g' => l.length - g'.1) (0, []) (wks rfl (Nat.zero_le _) ⟨rfl, rfl, rfl, rfl, trivial⟩) ⟨by simp, by simp, by simp⟩ fun g' hg' => ?_
  obtain ⟨i, acc⟩ := g'
  obtain ⟨hi, hacc, hlen⟩ := hg'
  simp only at hi hacc hlen
  simp only [f73l0, num, ↓gos, gop, Nat.reduceBEq, Nat.reduceAdd, Nat.reduceSub, Nat.reduceLeDiff, Nat.reduceMul, Int.reduceLE, Int.reduceLT, Int.reduceNe, Int.reduceToNat]
  have ht : i < l.length → acc ++ refL all (l.getD i 0) = (l.take (i + 1)).flatMap (refL all) := fun h => by
    rw [List.take_succ_eq_append_getElem h, List.flatMap_append, hacc]
    simp [h]
  have hrl : (refL all (l.getD i 0)).length ≤ 2 := by
    unfold refL; split
    · exact small_len _
    · exact kept_len _
  refine ⟨fun h1 => optP_at 0 (by omega) (call_lend gone97_calls rfl (free_rg _) ?_), fun h1 => ?_⟩
  · have ht := ht (by omega)
    simp only [DV.ren, renO, num, ↓gos, gop, Nat.reduceBEq, Nat.reduceAdd, Nat.reduceSub, Nat.reduceLeDiff, Nat.reduceMul, Int.reduceLE, Int.reduceLT, Int.reduceNe, Int.reduceToNat]
    refine call_ret (in2_calls (prs goneL) (l.getD i 0) (by decide)) (by rw [List.map_cons]; erw [dn_rg (l := prs goneL) (i := 2) rfl rfl]; rfl) rfl ?_
    rw [show ((prs goneL).any fun x => hasB x (l.getD i 0)) = inR goneL (l.getD i 0) from rfl]
    have hcg := @gone_cap (l.getD i 0)
    generalize hx : l.getD i 0 = c at ht hrl hcg ⊢
    cases hg : inR goneL c
    · simp only [num, ↓gos, gop, Nat.reduceBEq, Nat.reduceAdd, Nat.reduceSub, Nat.reduceLeDiff, Nat.reduceMul, Int.reduceLE, Int.reduceLT, Int.reduceNe, Int.reduceToNat]
      cases all
      · have er : refL false c = [c] := by simp [refL, keptL, hg]
        rw [er] at ht hrl
        simp only [num, ↓gos, gop, Nat.reduceBEq, Nat.reduceAdd, Nat.reduceSub, Nat.reduceLeDiff, Nat.reduceMul, Int.reduceLE, Int.reduceLT, Int.reduceNe, Int.reduceToNat]
        refine ⟨by omega, by omega, fun v hv => ?_⟩
        rw [wrap_i64 (by omega) (by omega)] at hv
        refine rnd_d 2 (i + 1, acc ++ [c]) (by simp [num]) (Nat.zero_le _) ⟨rfl, rfl, rfl, rfl, by simp [slots], rfl, by show DV.int .i64 v = _; rw [hv]; rfl, rfl, trivial⟩ rfl ⟨by omega, ht, by simp only [List.length_append, List.length_cons, List.length_nil]; omega⟩ (by simp only; omega)
      · simp only [num, ↓gos, gop, Nat.reduceBEq, Nat.reduceAdd, Nat.reduceSub, Nat.reduceLeDiff, Nat.reduceMul, Int.reduceLE, Int.reduceLT, Int.reduceNe, Int.reduceToNat]
        repeat' (first | refine And.intro ?_ ?_ | intro _)
        all_goals first
          | omega
          | (have hw := ‹_ = IntKind.i64.wrap ((i : Int) + 1)›
             have er : refL true c = [c + 32] := by
               simp only [refL, if_true, smallL]
               rw [if_pos ((capB_iff c).2 (by omega))]
             rw [er] at ht hrl
             rw [wrap_i64 (by omega) (by omega)] at hw
             have hv := ‹_ = IntKind.i64.wrap (c + 32)›
             rw [wrap_i64 (by omega) (by omega)] at hv
             subst hv
             refine rnd_d 2 (i + 1, acc ++ [c + 32]) (by simp [num]) (Nat.zero_le _) ⟨rfl, rfl, rfl, rfl, by simp [slots], rfl, by show DV.int .i64 _ = _; rw [hw]; rfl, rfl, trivial⟩ rfl ⟨by omega, ht, by simp only [List.length_append, List.length_cons, List.length_nil]; omega⟩ (by simp only; omega))
          | (have hw := ‹_ = IntKind.i64.wrap ((i : Int) + 1)›
             have er : refL true c = [115, 115] := by
               simp only [refL, if_true, smallL]
               rw [if_neg (fun q => by have := (capB_iff c).1 q; omega), if_pos (by omega)]
             rw [er] at ht hrl
             rw [wrap_i64 (by omega) (by omega)] at hw
             refine rnd_d 2 (i + 1, acc ++ [115, 115]) (by simp [num]) (Nat.zero_le _) ⟨rfl, rfl, rfl, rfl, by simp [slots], rfl, by show DV.int .i64 _ = _; rw [hw]; rfl, rfl, trivial⟩ rfl ⟨by omega, ht, by simp only [List.length_append, List.length_cons, List.length_nil]; omega⟩ (by simp only; omega))
          | (have hw := ‹_ = IntKind.i64.wrap ((i : Int) + 1)›
             have er : refL true c = [c] := by
               simp only [refL, if_true, smallL]
               rw [if_neg (fun q => by have := (capB_iff c).1 q; omega), if_neg (by omega)]
               simp [keptL, hg]
             rw [er] at ht hrl
             rw [wrap_i64 (by omega) (by omega)] at hw
             refine rnd_d 2 (i + 1, acc ++ [c]) (by simp [num]) (Nat.zero_le _) ⟨rfl, rfl, rfl, rfl, by simp [slots], rfl, by show DV.int .i64 _ = _; rw [hw]; rfl, rfl, trivial⟩ rfl ⟨by omega, ht, by simp only [List.length_append, List.length_cons, List.length_nil]; omega⟩ (by simp only; omega))
    · have er : refL all c = [] := by
        unfold refL
        split
        · unfold smallL
          rw [hg] at hcg
          rw [if_neg (fun q => by have := hcg (.inl q); cases this), if_neg (fun q => by have := hcg (.inr q); cases this)]
          simp [keptL, hg]
        · simp [keptL, hg]
      rw [er] at ht hrl
      simp only [num, ↓gos, gop, Nat.reduceBEq, Nat.reduceAdd, Nat.reduceSub, Nat.reduceLeDiff, Nat.reduceMul, Int.reduceLE, Int.reduceLT, Int.reduceNe, Int.reduceToNat]
      intro v hv
      rw [wrap_i64 (by omega) (by omega)] at hv
      refine rnd_d 2 (i + 1, acc) (by simp [num]) (Nat.zero_le _) ⟨rfl, rfl, rfl, rfl, by simp [slots], rfl, by show DV.int .i64 v = _; rw [hv]; rfl, rfl, trivial⟩ rfl ⟨by omega, by simpa using ht, by simp only; omega⟩ (by simp only; omega)
  · obtain rfl : i = l.length := by omega
    rw [List.take_length] at hacc
    rw [← hacc]
    exact end_row rfl rfl rfl
theorem allowed74 (k c : Int) : Ret 74 [.int .i64 k, .int .i64 c] (.bool (if k = 1 then nodeB c else if k = 2 then hostB c else !banB c)) := by
  refine acalls_go c74 (by simp [f74]) ?_
  simp only [f74, ↓gos, gop, Nat.reduceBEq, Nat.reduceAdd, Nat.reduceSub, Nat.reduceLeDiff, Nat.reduceMul, Int.reduceLE, Int.reduceLT, Int.reduceNe, Int.reduceToNat]
  refine ⟨fun h1 => ?_, fun h1 => ⟨fun h2 => ?_, fun h2 => ?_⟩⟩
  · rw [if_pos h1]
    refine call_lend banned98_calls rfl (free_rg _) ?_
    simp only [DV.ren, renO, ↓gos, gop, Nat.reduceBEq, Nat.reduceAdd, Nat.reduceSub, Nat.reduceLeDiff, Nat.reduceMul, Int.reduceLE, Int.reduceLT, Int.reduceNe, Int.reduceToNat]
    refine call_ret (in2_calls (prs bannedL) c (by decide)) (by rw [List.map_cons, dn_rg (i := 0) rfl rfl]; rfl) rfl ?_
    rw [show ((prs bannedL).any fun x => hasB x c) = banB c from rfl]
    unfold nodeB
    cases h : banB c
    · simp only [↓gos, gop, Nat.reduceBEq, Nat.reduceAdd, Nat.reduceSub, Nat.reduceLeDiff, Nat.reduceMul, Int.reduceLE, Int.reduceLT, Int.reduceNe, Int.reduceToNat]
      refine call_ret (in99 signs c (by decide)) rfl rfl ?_
      cases h2 : signs.contains c
      · simp only [↓gos, gop, Nat.reduceBEq, Nat.reduceAdd, Nat.reduceSub, Nat.reduceLeDiff, Nat.reduceMul, Int.reduceLE, Int.reduceLT, Int.reduceNe, Int.reduceToNat]
        exact endb rfl
      · simp only [↓gos, gop, Nat.reduceBEq, Nat.reduceAdd, Nat.reduceSub, Nat.reduceLeDiff, Nat.reduceMul, Int.reduceLE, Int.reduceLT, Int.reduceNe, Int.reduceToNat]
        exact endb rfl
    · simp only [↓gos, gop, Nat.reduceBEq, Nat.reduceAdd, Nat.reduceSub, Nat.reduceLeDiff, Nat.reduceMul, Int.reduceLE, Int.reduceLT, Int.reduceNe, Int.reduceToNat]
      exact endb rfl
  · rw [if_neg h1, if_pos h2]
    unfold hostB
    repeat' (first | refine And.intro ?_ ?_ | intro _)
    all_goals first
      | (refine endb ?_; simp [*]; done)
      | (refine call_lend letters100_calls rfl (free_rg _) ?_
         simp only [DV.ren, renO, ↓gos, gop, Nat.reduceBEq, Nat.reduceAdd, Nat.reduceSub, Nat.reduceLeDiff, Nat.reduceMul, Int.reduceLE, Int.reduceLT, Int.reduceNe, Int.reduceToNat]
         refine call_ret (in2_calls (prs lettersL) c (by decide)) (by rw [List.map_cons, dn_rg (i := 0) rfl rfl]; rfl) rfl ?_
         rw [show ((prs lettersL).any fun x => hasB x c) = letB c from rfl]
         cases h1 : letB c
         · simp only [↓gos, gop, Nat.reduceBEq, Nat.reduceAdd, Nat.reduceSub, Nat.reduceLeDiff, Nat.reduceMul, Int.reduceLE, Int.reduceLT, Int.reduceNe, Int.reduceToNat]
           refine call_lend rightLeft101_calls rfl (free_rg _) ?_
           simp only [DV.ren, renO, ↓gos, gop, Nat.reduceBEq, Nat.reduceAdd, Nat.reduceSub, Nat.reduceLeDiff, Nat.reduceMul, Int.reduceLE, Int.reduceLT, Int.reduceNe, Int.reduceToNat]
           refine call_ret (in2_calls (prs rightLeftL) c (by decide)) (by rw [List.map_cons, dn_rg (i := 1) rfl rfl]; rfl) rfl ?_
           rw [show ((prs rightLeftL).any fun x => hasB x c) = leftB c from rfl]
           cases h2 : leftB c
           · simp only [↓gos, gop, Nat.reduceBEq, Nat.reduceAdd, Nat.reduceSub, Nat.reduceLeDiff, Nat.reduceMul, Int.reduceLE, Int.reduceLT, Int.reduceNe, Int.reduceToNat]
             refine endb ?_
             simp [*]
           · simp only [↓gos, gop, Nat.reduceBEq, Nat.reduceAdd, Nat.reduceSub, Nat.reduceLeDiff, Nat.reduceMul, Int.reduceLE, Int.reduceLT, Int.reduceNe, Int.reduceToNat]
             refine endb ?_
             simp [*]
         · simp only [↓gos, gop, Nat.reduceBEq, Nat.reduceAdd, Nat.reduceSub, Nat.reduceLeDiff, Nat.reduceMul, Int.reduceLE, Int.reduceLT, Int.reduceNe, Int.reduceToNat]
           refine endb ?_
           simp [*])
  · rw [if_neg h1, if_neg h2]
    refine call_lend banned98_calls rfl (free_rg _) ?_
    simp only [DV.ren, renO, ↓gos, gop, Nat.reduceBEq, Nat.reduceAdd, Nat.reduceSub, Nat.reduceLeDiff, Nat.reduceMul, Int.reduceLE, Int.reduceLT, Int.reduceNe, Int.reduceToNat]
    refine call_ret (in2_calls (prs bannedL) c (by decide)) (by rw [List.map_cons, dn_rg (i := 0) rfl rfl]; rfl) rfl ?_
    rw [show ((prs bannedL).any fun x => hasB x c) = banB c from rfl]
    cases h : banB c
    · simp only [↓gos, gop, Nat.reduceBEq, Nat.reduceAdd, Nat.reduceSub, Nat.reduceLeDiff, Nat.reduceMul, Int.reduceLE, Int.reduceLT, Int.reduceNe, Int.reduceToNat]
      exact endb rfl
    · simp only [↓gos, gop, Nat.reduceBEq, Nat.reduceAdd, Nat.reduceSub, Nat.reduceLeDiff, Nat.reduceMul, Int.reduceLE, Int.reduceLT, Int.reduceNe, Int.reduceToNat]
      exact endb rfl
theorem way75 (l : List Int) (hl : l.length < 1000000000) : Ret 75 [.sl 1 (l.map num)] (.bool (straightB l)) := by
  refine acalls_go c75 (by simp [f75]) ?_
  simp only [f75, ↓gos, gop, Nat.reduceBEq, Nat.reduceAdd, Nat.reduceSub, Nat.reduceLeDiff, Nat.reduceMul, Int.reduceLE, Int.reduceLT, Int.reduceNe, Int.reduceToNat]
  refine goN_lp (γ := Nat) (fun i => [(0, .sl 1 (l.map num)), (3, .bool ((l.take i).any leftB)), (4, .bool ((l.take i).any letB)), (5, .int .i64 i)]) (fun _ => []) (fun i => i ≤ l.length) (fun i => l.length - i) 0
    (wks rfl (Nat.zero_le _) ⟨rfl, rfl, rfl, rfl, trivial⟩) (Nat.zero_le _) fun i hi => ?_
  simp only [f75l0, num, ↓gos, gop, Nat.reduceBEq, Nat.reduceAdd, Nat.reduceSub, Nat.reduceLeDiff, Nat.reduceMul, Int.reduceLE, Int.reduceLT, Int.reduceNe, Int.reduceToNat]
  refine ⟨fun h1 => ?_, fun h1 => ?_⟩
  · have ts : ∀ p : Int → Bool, (l.take (i + 1)).any p = ((l.take i).any p || p (l.getD i 0)) := fun p => by
      rw [List.take_succ_eq_append_getElem (by omega), List.any_append]
      simp [show i < l.length by omega]
    have t1 := ts leftB
    have t2 := ts letB
    generalize (l.take i).any leftB = r at t1 ⊢
    generalize (l.take i).any letB = q at t2 ⊢
    have fin : ∀ v : Int, v = IntKind.i64.wrap ((i : Int) + 1) → v = ((i + 1 : Nat) : Int) := fun v hv => by
      rw [wrap_i64 (by omega) (by omega)] at hv
      rw [hv]; rfl
    cases r
    · simp only [num, ↓gos, gop, Nat.reduceBEq, Nat.reduceAdd, Nat.reduceSub, Nat.reduceLeDiff, Nat.reduceMul, Int.reduceLE, Int.reduceLT, Int.reduceNe, Int.reduceToNat]
      refine call_mix rightLeft101_calls rfl (free_rg _) ?_
      simp only [DV.ren, renO, num, ↓gos, gop, Nat.reduceBEq, Nat.reduceAdd, Nat.reduceSub, Nat.reduceLeDiff, Nat.reduceMul, Int.reduceLE, Int.reduceLT, Int.reduceNe, Int.reduceToNat]
      refine optP_at 0 (by omega) ?_
      refine call_ret (in2_calls (prs rightLeftL) (l.getD i 0) (by decide)) (by rw [List.map_cons]; erw [dn_rg (l := prs rightLeftL) (i := 0) rfl rfl]; rfl) rfl ?_
      rw [show ((prs rightLeftL).any fun x => hasB x (l.getD i 0)) = leftB (l.getD i 0) from rfl]
      simp only [num, ↓gos, gop, Nat.reduceBEq, Nat.reduceAdd, Nat.reduceSub, Nat.reduceLeDiff, Nat.reduceMul, Int.reduceLE, Int.reduceLT, Int.reduceNe, Int.reduceToNat]
      cases q
      · simp only [num, ↓gos, gop, Nat.reduceBEq, Nat.reduceAdd, Nat.reduceSub, Nat.reduceLeDiff, Nat.reduceMul, Int.reduceLE, Int.reduceLT, Int.reduceNe, Int.reduceToNat]
        refine call_mix letters100_calls rfl (free_rg _) ?_
        simp only [DV.ren, renO, num, ↓gos, gop, Nat.reduceBEq, Nat.reduceAdd, Nat.reduceSub, Nat.reduceLeDiff, Nat.reduceMul, Int.reduceLE, Int.reduceLT, Int.reduceNe, Int.reduceToNat]
        refine optP_at 0 (by omega) ?_
        refine call_ret (in2_calls (prs lettersL) (l.getD i 0) (by decide)) (by rw [List.map_cons]; erw [dn_rg (l := prs lettersL) (i := 1) rfl rfl]; rfl) rfl ?_
        rw [show ((prs lettersL).any fun x => hasB x (l.getD i 0)) = letB (l.getD i 0) from rfl]
        simp only [num, ↓gos, gop, Nat.reduceBEq, Nat.reduceAdd, Nat.reduceSub, Nat.reduceLeDiff, Nat.reduceMul, Int.reduceLE, Int.reduceLT, Int.reduceNe, Int.reduceToNat]
        intro v hv
        exact rnd_d 0 (i + 1) rfl (Nat.zero_le _) ⟨rfl, rfl, by show DV.bool _ = DV.bool _; rw [t1]; simp, rfl, by show DV.bool _ = DV.bool _; rw [t2]; simp, rfl, by show DV.int .i64 v = _; rw [fin v hv], rfl, trivial⟩ rfl (by omega) (by omega)
      · simp only [num, ↓gos, gop, Nat.reduceBEq, Nat.reduceAdd, Nat.reduceSub, Nat.reduceLeDiff, Nat.reduceMul, Int.reduceLE, Int.reduceLT, Int.reduceNe, Int.reduceToNat]
        intro v hv
        exact rnd_d 0 (i + 1) rfl (Nat.zero_le _) ⟨rfl, rfl, by show DV.bool _ = DV.bool _; rw [t1]; simp, rfl, by show DV.bool _ = DV.bool _; rw [t2]; simp, rfl, by show DV.int .i64 v = _; rw [fin v hv], rfl, trivial⟩ rfl (by omega) (by omega)
    · simp only [num, ↓gos, gop, Nat.reduceBEq, Nat.reduceAdd, Nat.reduceSub, Nat.reduceLeDiff, Nat.reduceMul, Int.reduceLE, Int.reduceLT, Int.reduceNe, Int.reduceToNat]
      cases q
      · simp only [num, ↓gos, gop, Nat.reduceBEq, Nat.reduceAdd, Nat.reduceSub, Nat.reduceLeDiff, Nat.reduceMul, Int.reduceLE, Int.reduceLT, Int.reduceNe, Int.reduceToNat]
        refine call_mix letters100_calls rfl (free_rg _) ?_
        simp only [DV.ren, renO, num, ↓gos, gop, Nat.reduceBEq, Nat.reduceAdd, Nat.reduceSub, Nat.reduceLeDiff, Nat.reduceMul, Int.reduceLE, Int.reduceLT, Int.reduceNe, Int.reduceToNat]
        refine optP_at 0 (by omega) ?_
        refine call_ret (in2_calls (prs lettersL) (l.getD i 0) (by decide)) (by rw [List.map_cons]; erw [dn_rg (l := prs lettersL) (i := 0) rfl rfl]; rfl) rfl ?_
        rw [show ((prs lettersL).any fun x => hasB x (l.getD i 0)) = letB (l.getD i 0) from rfl]
        simp only [num, ↓gos, gop, Nat.reduceBEq, Nat.reduceAdd, Nat.reduceSub, Nat.reduceLeDiff, Nat.reduceMul, Int.reduceLE, Int.reduceLT, Int.reduceNe, Int.reduceToNat]
        intro v hv
        exact rnd_d 0 (i + 1) rfl (Nat.zero_le _) ⟨rfl, rfl, by show DV.bool _ = DV.bool _; rw [t1]; simp, rfl, by show DV.bool _ = DV.bool _; rw [t2]; simp, rfl, by show DV.int .i64 v = _; rw [fin v hv], rfl, trivial⟩ rfl (by omega) (by omega)
      · simp only [num, ↓gos, gop, Nat.reduceBEq, Nat.reduceAdd, Nat.reduceSub, Nat.reduceLeDiff, Nat.reduceMul, Int.reduceLE, Int.reduceLT, Int.reduceNe, Int.reduceToNat]
        intro v hv
        exact rnd_d 0 (i + 1) rfl (Nat.zero_le _) ⟨rfl, rfl, by show DV.bool _ = DV.bool _; rw [t1]; simp, rfl, by show DV.bool _ = DV.bool _; rw [t2]; simp, rfl, by show DV.int .i64 v = _; rw [fin v hv], rfl, trivial⟩ rfl (by omega) (by omega)
  · obtain rfl : i = l.length := by omega
    rw [List.take_length]
    unfold straightB
    refine ⟨fun h2 => endb (by rw [h2]; rfl), fun h2 => ?_⟩
    have hne : 0 < l.length := by
      rcases l with _ | ⟨x, l⟩
      · simp at h2
      · simp
    rw [h2, if_pos rfl]
    refine ⟨fun h3 => ?_, fun h3 => endb (by rw [h3]; simp)⟩
    rw [h3]
    refine call_mix rightLeft101_calls rfl (free_rg _) ?_
    simp only [DV.ren, renO, num, ↓gos, gop, Nat.reduceBEq, Nat.reduceAdd, Nat.reduceSub, Nat.reduceLeDiff, Nat.reduceMul, Int.reduceLE, Int.reduceLT, Int.reduceNe, Int.reduceToNat]
    refine optP_at 0 (by omega) ?_
    refine call_ret (in2_calls (prs rightLeftL) (l.getD 0 0) (by decide)) (by rw [List.map_cons]; erw [dn_rg (l := prs rightLeftL) (i := 0) rfl rfl]; rfl) rfl ?_
    rw [show ((prs rightLeftL).any fun x => hasB x (l.getD 0 0)) = leftB (l.getD 0 0) from rfl]
    cases h4 : leftB (l.getD 0 0)
    · simp only [num, ↓gos, gop, Nat.reduceBEq, Nat.reduceAdd, Nat.reduceSub, Nat.reduceLeDiff, Nat.reduceMul, Int.reduceLE, Int.reduceLT, Int.reduceNe, Int.reduceToNat]
      exact endb rfl
    · simp only [num, ↓gos, gop, Nat.reduceBEq, Nat.reduceAdd, Nat.reduceSub, Nat.reduceLeDiff, Nat.reduceMul, Int.reduceLE, Int.reduceLT, Int.reduceNe, Int.reduceToNat]
      refine call_mix rightLeft101_calls rfl (free_rg _) ?_
      simp only [DV.ren, renO, num, ↓gos, gop, Nat.reduceBEq, Nat.reduceAdd, Nat.reduceSub, Nat.reduceLeDiff, Nat.reduceMul, Int.reduceLE, Int.reduceLT, Int.reduceNe, Int.reduceToNat]
      intro v hv
      rw [wrap_i64 (by omega) (by omega)] at hv
      refine ⟨by omega, ?_⟩
      rw [show v.toNat = l.length - 1 by omega]
      refine optP_at (l := l) (i := l.length - 1) 0 (by omega) ?_
      refine call_ret (in2_calls (prs rightLeftL) (l.getD (l.length - 1) 0) (by decide)) (by rw [List.map_cons]; erw [dn_rg (l := prs rightLeftL) (i := 1) rfl rfl]; rfl) rfl ?_
      rw [show ((prs rightLeftL).any fun x => hasB x (l.getD (l.length - 1) 0)) = leftB (l.getD (l.length - 1) 0) from rfl]
      cases h5 : leftB (l.getD (l.length - 1) 0)
      · simp only [num, ↓gos, gop, Nat.reduceBEq, Nat.reduceAdd, Nat.reduceSub, Nat.reduceLeDiff, Nat.reduceMul, Int.reduceLE, Int.reduceLT, Int.reduceNe, Int.reduceToNat]
        exact endb rfl
      · simp only [num, ↓gos, gop, Nat.reduceBEq, Nat.reduceAdd, Nat.reduceSub, Nat.reduceLeDiff, Nat.reduceMul, Int.reduceLE, Int.reduceLT, Int.reduceNe, Int.reduceToNat]
        exact endb rfl
end Go.Proofs.Ut
