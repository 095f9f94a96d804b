/- Whether rows are not too much; the law of what is written and read. -/
import Derived.Test.YtbhlmbacgbfaoaaDoorCsM
import Derived.Test.YtbhlmbacgbfaoaaDoorCsF
set_option linter.all false
namespace Go.Proofs.Ut
open Go.Ai Classical Go.Shelf Go.RowKit
set_option linter.unusedSimpArgs false
set_option linter.unusedVariables false
set_option maxHeartbeats 1000000
set_option maxRecDepth 100000
def fT : List (List UInt8) → Nat
  | [] => 0
  | s :: x => 3 + s.length + fT x
def fewN : List (List (List UInt8)) → Nat
  | [] => 0
  | x :: l => 3 + fT x + fewN l
theorem getD_cons {α : Type} {l : List α} {i : Nat} (d : α) (h : i < l.length) : l.drop i = l.getD i d :: l.drop (i + 1) := by
  rw [List.getD_eq_getElem?_getD, List.getElem?_eq_getElem h]
  exact List.drop_eq_getElem_cons h
theorem fT_ge : ∀ x : List (List UInt8), 3 * x.length ≤ fT x ∧ ∀ s ∈ x, 3 + s.length ≤ fT x
  | [] => ⟨by simp [fT], by simp⟩
  | s :: x => by
    have := fT_ge x
    refine ⟨by simp [fT]; omega, fun t ht => ?_⟩
    rcases List.mem_cons.1 ht with q | q
    · subst q; simp [fT]
    · have := this.2 t q; simp [fT]; omega
theorem fewN_ge : ∀ l : List (List (List UInt8)), 3 * l.length ≤ fewN l ∧ ∀ x ∈ l, 3 + fT x ≤ fewN l
  | [] => ⟨by simp [fewN], by simp⟩
  | x :: l => by
    have := fewN_ge l
    refine ⟨by simp [fewN]; omega, fun t ht => ?_⟩
    rcases List.mem_cons.1 ht with q | q
    · subst q; simp [fewN]
    · have := this.2 t q; simp [fewN]; omega
theorem few32 (l : List (List (List UInt8))) (hb : fewN l < 1000000000000) : DRet 32 [.sl 1 (l.map rwv)] (.bool (decide (fewN l ≤ 5000))) := by
  refine acalls_go c32 (by simp [f32]) ?_
  simp only [f32, ↓gos, gop, Nat.reduceBEq, Nat.reduceAdd, Nat.reduceSub, Nat.reduceLeDiff, Nat.reduceMul, Int.reduceLE, Int.reduceLT, Int.reduceNe, Int.reduceToNat]
  have hge := fewN_ge l
  refine goN_lp (γ := Nat × Nat) (fun g => [(4, .int .i64 (g.2 : Nat)), (3, .int .i64 (g.1 : Nat)), (0, .sl 1 (l.map rwv))]) (fun _ => []) (fun g => g.2 ≤ l.length ∧ g.1 + fewN (l.drop g.2) = fewN l) (fun g => l.length - g.2) (0, 0)
    (wks rfl (by simp) ⟨rfl, rfl, rfl, trivial⟩) ⟨by simp, by simp⟩ fun g hg => ?_
  obtain ⟨n, i⟩ := g
  obtain ⟨p1, p2⟩ := hg
  simp only at p1 p2
  simp only [f32l1, ↓gos, gop, Nat.reduceBEq, Nat.reduceAdd, Nat.reduceSub, Nat.reduceLeDiff, Nat.reduceMul, Int.reduceLE, Int.reduceLT, Int.reduceNe, Int.reduceToNat]
  refine ⟨fun h1 => ?_, fun h1 => ?_⟩
  · have hdr := getD_cons [] (show i < l.length by omega)
    rw [hdr, fewN] at p2
    intro v hv
    rw [wrap_i64 (by omega) (by omega)] at hv
    have hv : v = ((n + 3 : Nat) : Int) := by omega
    subst hv
    refine goN_lp (γ := Nat × Nat) (fun g => [(5, .int .i64 (g.2 : Nat)), (4, .int .i64 (i : Nat)), (3, .int .i64 (g.1 : Nat)), (0, .sl 1 (l.map rwv))]) (fun _ => [])
      (fun g => g.2 ≤ (l.getD i []).length ∧ g.1 + fT ((l.getD i []).drop g.2) = n + 3 + fT (l.getD i [])) (fun g => (l.getD i []).length - g.2) (n + 3, 0)
      (wks rfl (by simp) ⟨rfl, rfl, rfl, rfl, trivial⟩) ⟨by simp, by simp⟩ fun g hg => ?_
    obtain ⟨m, k⟩ := g
    obtain ⟨q1, q2⟩ := hg
    simp only at q1 q2
    simp only [f32l0, ↓gos, gop, Nat.reduceBEq, Nat.reduceAdd, Nat.reduceSub, Nat.reduceLeDiff, Nat.reduceMul, Int.reduceLE, Int.reduceLT, Int.reduceNe, Int.reduceToNat]
    generalize hx : l.getD i [] = x at q1 q2 p2 hdr
    have hxg := fT_ge x
    refine optP_at [] (by omega) ?_
    simp only [rwv, hx, ↓gos, gop, Nat.reduceBEq, Nat.reduceAdd, Nat.reduceSub, Nat.reduceLeDiff, Nat.reduceMul, Int.reduceLE, Int.reduceLT, Int.reduceNe, Int.reduceToNat]
    refine ⟨fun h2 => ?_, fun h2 => ?_⟩
    · have hdx := getD_cons [] (show k < x.length by omega)
      rw [hdx, fT] at q2
      intro v hv
      rw [wrap_i64 (by omega) (by omega)] at hv
      refine optP_at [] (by omega) ?_
      simp only [hx, ↓gos, gop, Nat.reduceBEq, Nat.reduceAdd, Nat.reduceSub, Nat.reduceLeDiff, Nat.reduceMul, Int.reduceLE, Int.reduceLT, Int.reduceNe, Int.reduceToNat]
      refine optP_at [] (by omega) ?_
      simp only [sv, ↓gos, gop, Nat.reduceBEq, Nat.reduceAdd, Nat.reduceSub, Nat.reduceLeDiff, Nat.reduceMul, Int.reduceLE, Int.reduceLT, Int.reduceNe, Int.reduceToNat]
      intro v2 hv2
      rw [wrap_i64 (by omega) (by omega)] at hv2
      have hv2 : v2 = ((m + 3 + (x.getD k []).length : Nat) : Int) := by omega
      subst hv2
      intro v3 hv3
      rw [wrap_i64 (by omega) (by omega)] at hv3
      have hv3 : v3 = ((k + 1 : Nat) : Int) := by omega
      subst hv3
      refine rnd_s (m + 3 + (x.getD k []).length, k + 1) rfl (by simp) ⟨rfl, rfl, rfl, rfl, trivial⟩ ⟨by simp only; omega, ?_⟩ (by simp only; omega)
      simp only
      omega
    · intro v hv
      rw [wrap_i64 (by omega) (by omega)] at hv
      have hv : v = ((i + 1 : Nat) : Int) := by omega
      subst hv
      rw [List.drop_of_length_le (by omega), fT] at q2
      refine rnd_s (m, i + 1) rfl (by simp) ⟨rfl, rfl, rfl, trivial⟩ ⟨by simp only; omega, ?_⟩ (by simp only; omega)
      simp only
      omega
  · rw [List.drop_of_length_le (by omega), fewN] at p2
    refine ⟨fun h => endb ?_, fun h => endb ?_⟩
    · rw [decide_eq_true (by omega)]
    · rw [decide_eq_false (by omega)]
/-! ### How long it is when it is written -/
theorem written_len (f : List UInt8) (alone : Bool) : (writtenF f alone).length ≤ 2 * f.length + 2 := by
  unfold writtenF
  have h1 := dbl_len f
  have h2 := List.count_le_length (a := 34) (l := f)
  split
  · simp; omega
  · omega
theorem jn_len (alone : Bool) : ∀ (b : Bool) (x : List (List UInt8)), (jn alone b x).length ≤ 2 * fT x
  | _, [] => by simp [jn]
  | b, f :: x => by
    have h1 := jn_len alone false x
    have h2 := written_len f alone
    rw [jn, fT]
    have h3 : (if b = true then ([] : List UInt8) else [44]).length ≤ 1 := by split <;> simp
    rw [List.length_append, List.length_append]
    omega
theorem write_len : ∀ l : List (List (List UInt8)), (writeF l).length ≤ 2 * fewN l
  | [] => by simp [writeF]
  | x :: l => by
    have h1 := write_len l
    have e : writeF (x :: l) = rowW x ++ writeF l := by simp [writeF]
    have h2 : (rowW x).length ≤ 2 * (3 + fT x) := by
      unfold rowW
      split
      · simp
      · have := jn_len (decide (x.length = 1)) true x
        rw [List.length_append]; simp; omega
    rw [e, fewN, List.length_append]
    omega
def keepB (x : List (List UInt8)) : Bool := decide (x ≠ []) && decide (x.length ≤ 30)
def kept (l : List (List (List UInt8))) : List (List (List UInt8)) := l.filter keepB
theorem kept_few : ∀ l : List (List (List UInt8)), fewN (kept l) ≤ fewN l
  | [] => by simp [kept]
  | x :: l => by
    have := kept_few l
    unfold kept at this ⊢
    rw [List.filter_cons]
    split
    · simp [fewN]; omega
    · simp [fewN]; omega
theorem fT_le {n : Nat} : ∀ x : List (List UInt8), (∀ f ∈ x, f.length ≤ n) → fT x ≤ x.length * (3 + n)
  | [], _ => by simp [fT]
  | f :: x, h => by
    have h1 := fT_le x fun g hg => h g (by simp [hg])
    have h2 := h f (by simp)
    rw [fT, List.length_cons, Nat.succ_mul]
    omega
theorem fewN_le {n k : Nat} : ∀ l : List (List (List UInt8)), (∀ x ∈ l, x.length ≤ k ∧ ∀ f ∈ x, f.length ≤ n) → fewN l ≤ l.length * (3 + k * (3 + n))
  | [], _ => by simp [fewN]
  | x :: l, h => by
    have h1 := fewN_le l fun y hy => h y (by simp [hy])
    have h2 := h x (by simp)
    have h3 := fT_le x h2.2
    have h4 : x.length * (3 + n) ≤ k * (3 + n) := Nat.mul_le_mul_right _ h2.1
    rw [fewN, List.length_cons, Nat.succ_mul]
    omega
theorem rowF_sz (n : Nat) : ∀ (k : Nat) (fs : List (List UInt8)) (s : List UInt8), s.length ≤ n → (∀ f ∈ fs, f.length ≤ n) → (∀ f ∈ (rowF k fs s).1, f.length ≤ n)
  | 0, fs, s, _, _ => by simp [rowF]
  | k + 1, fs, s, hs, hf => by
    have hl := field_len s
    have hff : ∀ f ∈ fs ++ [(fieldF s).1], f.length ≤ n := fun f hm => by
      rcases List.mem_append.1 hm with q | q
      · exact hf f q
      · rw [List.mem_singleton] at q; subst q; omega
    have ih := rowF_sz n k (fs ++ [(fieldF s).1]) ((fieldF s).2.1.drop 1) (by rw [List.length_drop]; omega) hff
    unfold rowF
    split
    · split
      · exact hff
      · split
        · exact hff
        · split
          · exact ih
          · simp
    · simp
theorem readF_sz (n : Nat) : ∀ (k : Nat) (l : List (List (List UInt8))) (s : List UInt8), s.length ≤ n → (∀ x ∈ l, ∀ f ∈ x, f.length ≤ n) → ∀ x ∈ (readF k l s).1, ∀ f ∈ x, f.length ≤ n
  | k, l, s, hs, hl => by
    unfold readF
    split
    · exact hl
    · match k with
      | 0 => simp
      | k + 1 =>
        simp only
        split
        · have h1 := rowF_len 30 [] s
          have h2 := rowF_sz n 30 [] s hs (by simp)
          refine readF_sz n k _ _ (by omega) fun x hx => ?_
          rcases List.mem_append.1 hx with q | q
          · exact hl x q
          · rw [List.mem_singleton] at q; subst q; exact h2
        · simp
theorem readG_sz (s : List UInt8) : ∀ x ∈ (readG s).1, ∀ f ∈ x, f.length ≤ s.length := by
  unfold readG
  split
  · simp
  · split
    · exact readF_sz s.length 200 [] s (Nat.le_refl _) (by simp)
    · simp
theorem kept_step (l : List (List (List UInt8))) (i : Nat) (h : i < l.length) : kept (l.take (i + 1)) = if keepB (l.getD i []) = true then kept (l.take i) ++ [l.getD i []] else kept (l.take i) := by
  have e : l.take (i + 1) = l.take i ++ [l.getD i []] := by
    rw [List.take_succ_eq_append_getElem h, List.getD_eq_getElem?_getD, List.getElem?_eq_getElem h]; rfl
  unfold kept
  rw [e, List.filter_append]
  by_cases hk : keepB (l.getD i []) = true
  · rw [if_pos hk, List.filter_cons, if_pos hk]; rfl
  · rw [if_neg hk, List.filter_cons, if_neg hk]; simp
theorem back12 (l : List (List (List UInt8))) (s : List UInt8) (hb : fewN l < 1000000000000) (hsl : s.length < 1000000000000) : DRet 12 [.sl 1 (l.map rwv), .str s] (.bool true) := by
  have hge := fewN_ge l
  refine acalls_go c12 (by simp [f12]) ?_
  simp only [f12, ↓gos, gop, Nat.reduceBEq, Nat.reduceAdd, Nat.reduceSub, Nat.reduceLeDiff, Nat.reduceMul, Int.reduceLE, Int.reduceLT, Int.reduceNe, Int.reduceToNat]
  refine ⟨fun h1 => ?_, fun h1 => ?_⟩
  · refine call_ret awake33 rfl rfl ?_
    simp only [↓gos, gop, Nat.reduceBEq, Nat.reduceAdd, Nat.reduceSub, Nat.reduceLeDiff, Nat.reduceMul, Int.reduceLE, Int.reduceLT, Int.reduceNe, Int.reduceToNat]
    exact endb rfl
  · refine call_ret (few32 l hb) rfl rfl ?_
    by_cases h2 : fewN l ≤ 5000
    · rw [decide_eq_true h2]
      simp only [↓gos, gop, Nat.reduceBEq, Nat.reduceAdd, Nat.reduceSub, Nat.reduceLeDiff, Nat.reduceMul, Int.reduceLE, Int.reduceLT, Int.reduceNe, Int.reduceToNat]
      refine goN_lp (γ := Nat) (fun i => [(6, .int .i64 (i : Nat)), (5, .osl 1 0 0 (kept (l.take i)).length none), (0, .sl 1 (l.map rwv)), (1, .str s)]) (fun i => [.arr 1 ((kept (l.take i)).map rwv)])
        (fun i => i ≤ l.length ∧ ∀ x ∈ kept (l.take i), ∀ f ∈ x, Va f) (fun i => l.length - i) 0 (wks rfl (by simp) ⟨rfl, rfl, rfl, rfl, trivial⟩) ⟨by simp, by simp [kept]⟩ fun i hi => ?_
      obtain ⟨p1, p2⟩ := hi
      simp only [f12l1, ↓gos, gop, Nat.reduceBEq, Nat.reduceAdd, Nat.reduceSub, Nat.reduceLeDiff, Nat.reduceMul, Int.reduceLE, Int.reduceLT, Int.reduceNe, Int.reduceToNat]
      refine ⟨fun h3 => ?_, fun h3 => ?_⟩
      · have hst := kept_step l i (by omega)
        refine optP_at [] (by omega) ?_
        generalize hx : l.getD i [] = x at hst
        simp only [rwv, hx, ↓gos, gop, Nat.reduceBEq, Nat.reduceAdd, Nat.reduceSub, Nat.reduceLeDiff, Nat.reduceMul, Int.reduceLE, Int.reduceLT, Int.reduceNe, Int.reduceToNat]
        refine ⟨fun h4 => ?_, fun h4 => ?_⟩
        · have hk : keepB x = false := by
            have : x = [] := List.eq_nil_of_length_eq_zero (by omega)
            subst this; rfl
          rw [if_neg (by rw [hk]; simp)] at hst
          intro v hv
          rw [wrap_i64 (by omega) (by omega)] at hv
          have hv : v = ((i + 1 : Nat) : Int) := by omega
          subst hv
          refine rnd_s (i + 1) (by rw [hst]) (by simp) ⟨rfl, by rw [hst]; rfl, rfl, rfl, trivial⟩ ⟨by omega, by rw [hst]; exact p2⟩ (by omega)
        · refine optP_at [] (by omega) ?_
          rw [hx]
          refine ⟨fun h5 => ?_, fun h5 => ?_⟩
          · have hk : keepB x = false := by
              unfold keepB
              rw [decide_eq_false (p := x.length ≤ 30) (by omega), Bool.and_false]
            rw [if_neg (by rw [hk]; simp)] at hst
            intro v hv
            rw [wrap_i64 (by omega) (by omega)] at hv
            have hv : v = ((i + 1 : Nat) : Int) := by omega
            subst hv
            refine rnd_s (i + 1) (by rw [hst]) (by simp) ⟨rfl, by rw [hst]; rfl, rfl, rfl, trivial⟩ ⟨by omega, by rw [hst]; exact p2⟩ (by omega)
          · have hk : keepB x = true := by
              unfold keepB
              rw [decide_eq_true (show x ≠ [] from fun e => h4 (by rw [e]; rfl)), decide_eq_true (show x.length ≤ 30 by omega)]; rfl
            rw [if_pos hk] at hst
            refine goN_lp (γ := Nat) (fun k => [(7, .int .i64 (k : Nat)), (6, .int .i64 (i : Nat)), (5, .osl 1 0 0 (kept (l.take i)).length none), (0, .sl 1 (l.map rwv)), (1, .str s)]) (fun _ => [.arr 1 ((kept (l.take i)).map rwv)])
              (fun k => k ≤ x.length ∧ ∀ j, j < k → Va (x.getD j [])) (fun k => x.length - k) 0 (wks rfl (by simp) ⟨rfl, rfl, rfl, rfl, rfl, trivial⟩) ⟨by simp, fun j hj => by omega⟩ fun k hk3 => ?_
            obtain ⟨q1, q2⟩ := hk3
            simp only [f12l0, ↓gos, gop, Nat.reduceBEq, Nat.reduceAdd, Nat.reduceSub, Nat.reduceLeDiff, Nat.reduceMul, Int.reduceLE, Int.reduceLT, Int.reduceNe, Int.reduceToNat]
            refine optP_at [] (by omega) ?_
            simp only [rwv, hx, ↓gos, gop, Nat.reduceBEq, Nat.reduceAdd, Nat.reduceSub, Nat.reduceLeDiff, Nat.reduceMul, Int.reduceLE, Int.reduceLT, Int.reduceNe, Int.reduceToNat]
            refine ⟨fun h6 => ?_, fun h6 => ?_⟩
            · refine optP_at [] (by omega) ?_
              simp only [hx, ↓gos, gop, Nat.reduceBEq, Nat.reduceAdd, Nat.reduceSub, Nat.reduceLeDiff, Nat.reduceMul, Int.reduceLE, Int.reduceLT, Int.reduceNe, Int.reduceToNat]
              refine optP_at [] (by omega) ?_
              simp only [sv, ↓gos, gop, Nat.reduceBEq, Nat.reduceAdd, Nat.reduceSub, Nat.reduceLeDiff, Nat.reduceMul, Int.reduceLE, Int.reduceLT, Int.reduceNe, Int.reduceToNat]
              have hfx : x ∈ l := by
                rw [← hx, List.getD_eq_getElem?_getD, List.getElem?_eq_getElem (show i < l.length by omega)]
                exact List.getElem_mem _
              have hfm : x.getD k [] ∈ x := by
                rw [List.getD_eq_getElem?_getD, List.getElem?_eq_getElem (show k < x.length by omega)]
                exact List.getElem_mem _
              have hfl := (fT_ge x).2 _ hfm
              have hxl := hge.2 x hfx
              refine call_ret (rvalid17 rfl (x.getD k []) (by omega)) rfl rfl ?_
              cases hva : runAt mayB (x.getD k []) 0
              · simp only [↓gos, gop, Nat.reduceBEq, Nat.reduceAdd, Nat.reduceSub, Nat.reduceLeDiff, Nat.reduceMul, Int.reduceLE, Int.reduceLT, Int.reduceNe, Int.reduceToNat]
                refine call_ret awake33 rfl rfl ?_
                simp only [↓gos, gop, Nat.reduceBEq, Nat.reduceAdd, Nat.reduceSub, Nat.reduceLeDiff, Nat.reduceMul, Int.reduceLE, Int.reduceLT, Int.reduceNe, Int.reduceToNat]
                exact endb rfl
              · simp only [↓gos, gop, Nat.reduceBEq, Nat.reduceAdd, Nat.reduceSub, Nat.reduceLeDiff, Nat.reduceMul, Int.reduceLE, Int.reduceLT, Int.reduceNe, Int.reduceToNat]
                intro v hv
                rw [wrap_i64 (by omega) (by omega)] at hv
                have hv : v = ((k + 1 : Nat) : Int) := by omega
                subst hv
                refine rnd_s (k + 1) rfl (by simp) ⟨rfl, rfl, rfl, rfl, rfl, trivial⟩ ⟨by omega, fun j hj => ?_⟩ (by omega)
                by_cases hjk : j = k
                · subst hjk; exact hva
                · exact q2 j (by omega)
            · refine optP_at [] (by omega) ?_
              rw [hx]
              have hkl : (kept (l.take i)).length ≤ l.length := by
                have h7 : (kept (l.take i)).length ≤ (l.take i).length := List.length_filter_le _ _
                rw [List.length_take] at h7; omega
              refine ⟨by omega, by omega, fun v hv => ?_⟩
              rw [wrap_i64 (by omega) (by omega)] at hv
              have hv : v = ((i + 1 : Nat) : Int) := by omega
              subst hv
              refine rnd_d 1 (i + 1) (by rw [hst, List.map_append]; rfl) (by omega) ⟨rfl, rfl, by rw [hst, List.length_append]; rfl, rfl, rfl, rfl, rfl, rfl, trivial⟩ rfl ⟨by omega, ?_⟩ (by omega)
              rw [hst]
              intro y hy
              rcases List.mem_append.1 hy with q | q
              · exact p2 y q
              · rw [List.mem_singleton] at q; subst q
                intro f hf
                obtain ⟨j, hj, rfl⟩ := List.getElem_of_mem hf
                have := q2 j (by omega)
                rw [List.getD_eq_getElem?_getD, List.getElem?_eq_getElem hj] at this
                exact this
      · have hil : l.take i = l := List.take_of_length_le (by omega)
        rw [hil] at p2
        rw [hil]
        have hkf := kept_few l
        have hkg : ∀ x ∈ kept l, Good x := fun x hx => by
          have h7 := (List.mem_filter.1 hx).2
          unfold keepB at h7
          rw [Bool.and_eq_true, decide_eq_true_eq, decide_eq_true_eq] at h7
          exact ⟨h7.1, h7.2, p2 x hx⟩
        generalize kept l = m at hkf hkg
        have hmg := fewN_ge m
        have hwl := write_len m
        have hsz : ∀ x ∈ m, x.length < 1000000 ∧ ∀ f ∈ x, f.length < 100000000 := fun x hx => by
          have h8 := hmg.2 x hx
          have h9 := fT_ge x
          exact ⟨by omega, fun f hf => by have := h9.2 f hf; omega⟩
        refine ⟨fun h7 => ?_, fun h7 => ?_⟩
        · refine call_ret awake33 rfl rfl ?_
          simp only [↓gos, gop, Nat.reduceBEq, Nat.reduceAdd, Nat.reduceSub, Nat.reduceLeDiff, Nat.reduceMul, Int.reduceLE, Int.reduceLT, Int.reduceNe, Int.reduceToNat]
          exact endb rfl
        · have hbk := back (rows := m) (by omega) hkg (by omega)
          have hw := write35 m (by omega) (by omega) hsz
          refine call_ret hw (by rw [List.map_cons, dn_osl (i := 0) rfl (by simp)]; rfl) rfl ?_
          simp only [↓gos, gop, Nat.reduceBEq, Nat.reduceAdd, Nat.reduceSub, Nat.reduceLeDiff, Nat.reduceMul, Int.reduceLE, Int.reduceLT, Int.reduceNe, Int.reduceToNat]
          have r1 := read34 (writeF m) (by omega)
          rw [hbk] at r1
          refine call_new r1 (fun d hd => by simp at hd; subst hd; rfl) ?_
          simp only [DV.ren, DV.ren.renAll, renO, ↓gos, gop, Nat.reduceBEq, Nat.reduceAdd, Nat.reduceSub, Nat.reduceLeDiff, Nat.reduceMul, Int.reduceLE, Int.reduceLT, Int.reduceNe, Int.reduceToNat]
          refine call_ret awake33 rfl rfl ?_
          simp only [↓gos, gop, Nat.reduceBEq, Nat.reduceAdd, Nat.reduceSub, Nat.reduceLeDiff, Nat.reduceMul, Int.reduceLE, Int.reduceLT, Int.reduceNe, Int.reduceToNat]
          refine call_ret (rows36 m m (by omega) (by omega) (fun x hx => by have := hsz x hx; omega) (fun x hx => by have := hsz x hx; omega)) (by rw [List.map_cons, List.map_cons, dn_osl (i := 1) rfl (by simp), dn_osl (i := 0) rfl (by simp)]; rfl) rfl ?_
          rw [decide_eq_true rfl]
          simp only [↓gos, gop, Nat.reduceBEq, Nat.reduceAdd, Nat.reduceSub, Nat.reduceLeDiff, Nat.reduceMul, Int.reduceLE, Int.reduceLT, Int.reduceNe, Int.reduceToNat]
          have r2 := read34 s (by omega)
          have hgd := @read_good s
          have hz := readG_sz s
          generalize readG s = R at r2 hgd hz
          obtain ⟨y, f⟩ := R
          simp only at r2 hgd hz
          refine call_new r2 (fun d hd => by simp at hd; subst hd; rfl) ?_
          simp only [DV.ren, DV.ren.renAll, renO, ↓gos, gop, Nat.reduceBEq, Nat.reduceAdd, Nat.reduceSub, Nat.reduceLeDiff, Nat.reduceMul, Int.reduceLE, Int.reduceLT, Int.reduceNe, Int.reduceToNat]
          refine ⟨fun hf => endb rfl, fun hf => ?_⟩
          obtain ⟨g1, g2⟩ := hgd hf
          have hfe := fewN_le (n := 3000) (k := 30) y fun x hx => ⟨(g1 x hx).2.1, fun f hf => by have := hz x hx f hf; omega⟩
          have hwy := write_len y
          have hyl : y.length * (3 + 30 * (3 + 3000)) ≤ 200 * (3 + 30 * (3 + 3000)) := Nat.mul_le_mul_right _ g2
          have hsy : ∀ x ∈ y, x.length < 1000000 ∧ ∀ f ∈ x, f.length < 100000000 := fun x hx => ⟨by have := (g1 x hx).2.1; omega, fun f hf => by have := hz x hx f hf; omega⟩
          refine call_ret (write35 y (by omega) (by omega) hsy) (by rw [List.map_cons, dn_osl (i := 2) rfl (by simp)]; rfl) rfl ?_
          simp only [↓gos, gop, Nat.reduceBEq, Nat.reduceAdd, Nat.reduceSub, Nat.reduceLeDiff, Nat.reduceMul, Int.reduceLE, Int.reduceLT, Int.reduceNe, Int.reduceToNat]
          by_cases ht : (writeF y).length ≤ 20000
          · have hby := back g2 g1 ht
            have r3 := read34 (writeF y) (by omega)
            rw [hby] at r3
            refine call_new r3 (fun d hd => by simp at hd; subst hd; rfl) ?_
            simp only [DV.ren, DV.ren.renAll, renO, ↓gos, gop, Nat.reduceBEq, Nat.reduceAdd, Nat.reduceSub, Nat.reduceLeDiff, Nat.reduceMul, Int.reduceLE, Int.reduceLT, Int.reduceNe, Int.reduceToNat]
            refine ⟨fun q => endb rfl, fun q => ?_⟩
            refine call_ret (rows36 y y (by omega) (by omega) (fun x hx => by have := hsy x hx; omega) (fun x hx => by have := hsy x hx; omega)) (by rw [List.map_cons, List.map_cons, dn_osl (i := 3) rfl (by simp), dn_osl (i := 2) rfl (by simp)]; rfl) rfl ?_
            rw [decide_eq_true rfl]
            simp only [↓gos, gop, Nat.reduceBEq, Nat.reduceAdd, Nat.reduceSub, Nat.reduceLeDiff, Nat.reduceMul, Int.reduceLE, Int.reduceLT, Int.reduceNe, Int.reduceToNat]
            exact endb rfl
          · have r3 := read34 (writeF y) (by omega)
            refine call_new r3 (fun d hd => by simp at hd; subst hd; rfl) ?_
            simp only [DV.ren, DV.ren.renAll, renO, ↓gos, gop, Nat.reduceBEq, Nat.reduceAdd, Nat.reduceSub, Nat.reduceLeDiff, Nat.reduceMul, Int.reduceLE, Int.reduceLT, Int.reduceNe, Int.reduceToNat]
            refine ⟨fun q => endb rfl, fun q => by omega⟩
    · rw [decide_eq_false h2]
      simp only [↓gos, gop, Nat.reduceBEq, Nat.reduceAdd, Nat.reduceSub, Nat.reduceLeDiff, Nat.reduceMul, Int.reduceLE, Int.reduceLT, Int.reduceNe, Int.reduceToNat]
      refine call_ret awake33 rfl rfl ?_
      simp only [↓gos, gop, Nat.reduceBEq, Nat.reduceAdd, Nat.reduceSub, Nat.reduceLeDiff, Nat.reduceMul, Int.reduceLE, Int.reduceLT, Int.reduceNe, Int.reduceToNat]
      exact endb rfl
end Go.Proofs.Ut
