/- Names are told in capitals, in whatever letters they stand. -/
import Derived.Test.YtbnmhlienklfpaaDoorVcI
import Derived.Test.YtbnmhlienklfpaaDoorFoF
set_option linter.all false
namespace Go.Proofs.Ut
open Go.Ai Go.Shelf Go.RowKit
set_option linter.unusedSimpArgs false
set_option linter.unusedVariables false
set_option maxHeartbeats 1000000
set_option maxRecDepth 100000
theorem shown_cl {s : List UInt8} (h : (rs s).all (fun c => decide (32 ≤ c)) = true) (hv : runAt mayB s 0 = true) : Cl s := by
  refine ⟨hv, ?_⟩
  have hs : runAt shownB s 0 = true := by rw [run_shown, hv, h]; rfl
  obtain ⟨cs, rfl, hok⟩ := wr_of shownB s.length s (Nat.le_refl _) hs
  intro x hx
  obtain ⟨c, hc, hx⟩ := List.mem_flatMap.1 hx
  have := hok c hc
  have h32 : 32 ≤ c := by
    have h2 := this.2
    rw [shown_may, Bool.and_eq_true, decide_eq_true_eq] at h2
    omega
  exact en_low this.1 h32 x hx
theorem may_asc (c : UInt8) : 32 ≤ c.toNat → c.toNat < 127 → mayB c.toNat = true := u8_all (P := fun c => 32 ≤ c.toNat → c.toNat < 127 → mayB c.toNat = true) (by decide +kernel) c
theorem line20 (s : List UInt8) (hs : s.length < 1000000) : ACalls ED 20 [] [.str s, .int .i64 100] (fun h d => h = [] ∧ ∃ v : List UInt8, d = .str v ∧ Cl v ∧ v.length ≤ s.length) := by
  refine acalls_go c20 (by simp [f20]) ?_
  simp only [f20, ↓gos, gop, Nat.reduceBEq, Nat.reduceAdd, Nat.reduceSub, Nat.reduceLeDiff, Nat.reduceMul, Int.reduceLE, Int.reduceLT, Int.reduceNe, Int.reduceToNat]
  refine call_ret (rline23 (E := ED) rfl s 100 (by omega)) rfl rfl ?_
  by_cases h : ((rs s).all (fun c => decide (32 ≤ c)) && (runAt mayB s 0 && decide (((rs s).length : Int) ≤ 100))) = true
  · rw [h]
    simp only [↓gos, gop, Nat.reduceBEq, Nat.reduceAdd, Nat.reduceSub, Nat.reduceLeDiff, Nat.reduceMul, Int.reduceLE, Int.reduceLT, Int.reduceNe, Int.reduceToNat]
    rw [Bool.and_eq_true, Bool.and_eq_true] at h
    exact finE_closed rfl ⟨rfl, _, rfl, shown_cl h.1 h.2.1, Nat.le_refl _⟩
  · rw [Bool.not_eq_true] at h
    rw [h]
    simp only [↓gos, gop, Nat.reduceBEq, Nat.reduceAdd, Nat.reduceSub, Nat.reduceLeDiff, Nat.reduceMul, Int.reduceLE, Int.reduceLT, Int.reduceNe, Int.reduceToNat]
    refine goN_lp (γ := Nat × List UInt8) (fun g => [(6, .int .i64 g.1), (5, .str g.2), (0, .str s), (1, .int .i64 100)]) (fun _ => []) (fun g => g.1 ≤ s.length ∧ g.2.length ≤ g.1 ∧ Cl g.2) (fun g => s.length - g.1) (0, [])
      (wks rfl (by simp) ⟨rfl, rfl, rfl, rfl, trivial⟩) ⟨by simp, by simp, cl_nil⟩ fun g hg => ?_
    obtain ⟨i, out⟩ := g
    obtain ⟨g1, g2, g3⟩ := hg
    simp only at g1 g2 g3
    simp only [f20l0, ↓gos, gop, Nat.reduceBEq, Nat.reduceAdd, Nat.reduceSub, Nat.reduceLeDiff, Nat.reduceMul, Int.reduceLE, Int.reduceLT, Int.reduceNe, Int.reduceToNat]
    have hbt : bt s i = ((s.getD i 0).toNat : Int) := rfl
    refine ⟨fun a1 => ⟨fun a2 => ⟨by omega, ?_, ?_⟩, fun a2 => ?_⟩, fun a1 => ?_⟩
    · refine fun a3 => ⟨by omega, fun a4 v hv => ⟨by rw [wrap_i64 (by omega) (by omega)] at hv; omega, by rw [wrap_i64 (by omega) (by omega)] at hv; omega, ?_⟩, fun a4 v hv => ?_⟩
      · rw [wrap_i64 (by omega) (by omega)] at hv
        have hv : v.toNat - i = 1 := by omega
        have htk : List.take (v.toNat - i) (List.drop i s) = [s.getD i 0] := by
          rw [hv, drop_by s i (by omega)]; rfl
        rw [htk]
        refine ⟨by simp; omega, fun w hw => ?_⟩
        rw [wrap_i64 (by omega) (by omega)] at hw
        subst hw
        rw [hbt] at a3 a4
        refine rnd_s (i + 1, out ++ [s.getD i 0]) rfl (by simp) ⟨rfl, rfl, rfl, rfl, trivial⟩ ⟨by simp only; omega, by simp only [List.length_append, List.length_singleton]; omega, cl_app g3 (cl_cons ⟨by omega, by omega, may_asc _ (by omega) (by omega)⟩ cl_nil)⟩ (by simp only; omega)
      · rw [wrap_i64 (by omega) (by omega)] at hv
        subst hv
        exact rnd_s (i + 1, out) rfl (by simp) ⟨rfl, rfl, rfl, rfl, trivial⟩ ⟨by simp only; omega, by simp only; omega, g3⟩ (by simp only; omega)
    · intro a3 v hv
      rw [wrap_i64 (by omega) (by omega)] at hv
      subst hv
      exact rnd_s (i + 1, out) rfl (by simp) ⟨rfl, rfl, rfl, rfl, trivial⟩ ⟨by simp only; omega, by simp only; omega, g3⟩ (by simp only; omega)
    · exact finE_closed rfl ⟨rfl, _, rfl, g3, by omega⟩
    · exact finE_closed rfl ⟨rfl, _, rfl, g3, by omega⟩
def T8 : List UInt8 := [97, 66, 99, 68, 101, 70, 45, 57]
def nameT (name : List UInt8) (i : Nat) : List UInt8 := 120 :: (name.take i).map fun b => T8.getD (b.toNat % 8) 0
theorem nameT_sgn (name : List UInt8) (i : Nat) : ∀ x ∈ nameT name i, isS x = true := by
  intro x hx
  unfold nameT at hx
  rcases List.mem_cons.1 hx with rfl | hx
  · rfl
  · obtain ⟨b, _, rfl⟩ := List.mem_map.1 hx
    have : ∀ k, k < 8 → isS (T8.getD k 0) = true := by decide
    exact this _ (Nat.mod_lt _ (by omega))
theorem nameT_next (name : List UInt8) (i : Nat) (h : i < name.length) : nameT name (i + 1) = nameT name i ++ [T8.getD ((name.getD i 0).toNat % 8) 0] := by
  unfold nameT
  rw [take_getD h 0, List.map_append]; rfl
theorem head_caps (g n T : List UInt8) (hg : ∀ x ∈ g, isS x = true) (hn : ∀ x ∈ n, isS x = true) (hT : ∃ x t', T = x :: t' ∧ (x = 59 ∨ x = 58)) : headL ((if g = [] then n else g ++ 46 :: n) ++ T) = (g, n, T) := by
  obtain ⟨x, t', rfl, hx⟩ := hT
  have hT : noS (x :: t') := fun y hy => by simp at hy; subst hy; rcases hx with rfl | rfl <;> rfl
  have hx46 : x ≠ 46 := by rcases hx with rfl | rfl <;> decide
  unfold headL
  by_cases h : g = []
  · rw [if_pos h]
    have := word_app hn hT
    rw [this.1, this.2, if_neg (by simp [hx46]), h]
  · rw [if_neg h, List.append_assoc, List.cons_append]
    have := word_app (w := g) (t := 46 :: (n ++ x :: t')) hg (fun y hy => by simp at hy; subst hy; rfl)
    rw [this.1, this.2, if_pos ⟨h, rfl⟩, List.tail_cons]
    have h2 := word_app hn hT
    rw [h2.1, h2.2]
theorem sgn_q (c : UInt8) : isS c = true → c ≠ 34 ∧ A3.contains c = false := u8_all (P := fun c => isS c = true → c ≠ 34 ∧ A3.contains c = false) (by decide +kernel) c
theorem param_caps (n v : List UInt8) (h0 : n ≠ []) (hn : ∀ x ∈ n, isS x = true) : paramL (n ++ 61 :: (n ++ 58 :: v)) = ((up n, n), 58 :: v, true) := by
  have hw := word_app (w := n) (t := 61 :: (n ++ 58 :: v)) hn (fun x hx => by simp at hx; subst hx; rfl)
  have hu : up n ≠ [] := by intro e; exact h0 (List.map_eq_nil_iff.1 e)
  have hq : quoL n = n := by
    unfold quoL
    rw [if_neg]
    intro h
    rcases h with h | h
    · exact h0 h
    · obtain ⟨c, hc, h⟩ := List.any_eq_true.1 h
      rw [(sgn_q c (hn c hc)).2] at h; cases h
  have hb := quo_back n (58 :: v) (fun h => (sgn_q 34 (hn 34 h)).1 rfl) ⟨58, v, rfl, .inr rfl⟩
  rw [hq] at hb
  unfold paramL
  rw [hw.1, hw.2, if_neg hu]
  simp only [if_true]
  rw [hb]
def rowT (g n v : List UInt8) : List UInt8 := (if g = [] then n else g ++ 46 :: n) ++ 59 :: (n ++ 61 :: (n ++ 58 :: v))
theorem prop_caps (g n v : List UInt8) (hg : ∀ x ∈ g, isS x = true) (h0 : n ≠ []) (hn : ∀ x ∈ n, isS x = true) : propL (rowT g n v) = (⟨g, up n, [(up n, n)], v⟩, true) := by
  have hh := head_caps g n (59 :: (n ++ 61 :: (n ++ 58 :: v))) hg hn ⟨59, _, rfl, .inl rfl⟩
  have hu : up n ≠ [] := by intro e; exact h0 (List.map_eq_nil_iff.1 e)
  unfold propL rowT
  rw [hh]
  simp only
  rw [if_neg hu, parsA_step, param_caps n v h0 hn]
  simp only [if_true]
  rw [parsA_end _ _ (by simp)]
  simp [lastL]
def textT (g n v : List UInt8) : List (List UInt8) := [[98, 101, 103, 105, 110, 58, 118, 67, 97, 114, 100], [118, 101, 114, 115, 105, 111, 110, 58, 52, 46, 48], rowT g n v, [101, 110, 100, 58, 86, 67, 65, 82, 68]]
theorem row_cl (g n v : List UInt8) (hg : ∀ x ∈ g, isS x = true) (hn : ∀ x ∈ n, isS x = true) (hv : Cl v) : Cl (rowT g n v) := by
  unfold rowT
  have c1 : ∀ c : UInt8, (c = 59 ∨ c = 61 ∨ c = 58 ∨ c = 46) → c.toNat < 128 ∧ 32 ≤ c.toNat ∧ mayB c.toNat = true := by
    intro c h; rcases h with rfl | rfl | rfl | rfl <;> decide
  refine cl_app ?_ (cl_cons (c1 _ (by simp)) (cl_app (cl_word hn) (cl_cons (c1 _ (by simp)) (cl_app (cl_word hn) (cl_cons (c1 _ (by simp)) hv)))))
  split
  · exact cl_word hn
  · exact cl_app (cl_word hg) (cl_cons (c1 _ (by simp)) (cl_word hn))
theorem row_head (g n v : List UInt8) (h : g = [] ∨ ∃ g', g = 103 :: g') (n' : List UInt8) (h2 : n = 120 :: n') : ∃ t, rowT g n v = 103 :: t ∨ rowT g n v = 120 :: t := by
  subst h2
  rcases h with rfl | ⟨g', rfl⟩
  · exact ⟨_, .inr (by simp [rowT]; rfl)⟩
  · exact ⟨_, .inl (by simp [rowT]; rfl)⟩
theorem text_read (g n v : List UInt8) (hg : ∀ x ∈ g, isS x = true) (hg0 : g = [] ∨ ∃ g', g = 103 :: g') (n' : List UInt8) (h2 : n = 120 :: n') (hn : ∀ x ∈ n, isS x = true) (hv : Cl v) (hl : (ended (textT g n v)).length ≤ 20000) :
    readL (ended (textT g n v)) = ([[⟨g, up n, [(up n, n)], v⟩]], 0, 0) := by
  have hc := row_cl g n v hg hn hv
  obtain ⟨t, ht⟩ := row_head g n v hg0 n' h2
  have hgood : goodM (textT g n v) := by
    intro s hs
    simp only [textT, List.mem_cons, List.mem_nil_iff, or_false] at hs
    rcases hs with rfl | rfl | rfl | rfl
    · exact ⟨(cl_bytes (by decide)).1, (cl_bytes (by decide)).2, by decide⟩
    · exact ⟨(cl_bytes (by decide)).1, (cl_bytes (by decide)).2, by decide⟩
    · refine ⟨hc.1, hc.2, ?_⟩
      rcases ht with ht | ht <;> rw [ht] <;> rfl
    · exact ⟨(cl_bytes (by decide)).1, (cl_bytes (by decide)).2, by decide⟩
  rw [read_ended hgood hl]
  have e1 : ef [98, 101, 103, 105, 110, 58, 118, 67, 97, 114, 100] BEG = true := by decide +kernel
  have e2 : propL [118, 101, 114, 115, 105, 111, 110, 58, 52, 46, 48] = (⟨[], VER, [], V40⟩, true) := by decide +kernel
  have e3 : ef (rowT g n v) END = false := by
    unfold ef
    rw [ef_up, decide_eq_false]
    intro e
    rcases ht with ht | ht
    · rw [ht] at e
      have := congrArg List.head? e
      revert this; simp only [up, List.map_cons, List.head?_cons]; decide +kernel
    · rw [ht] at e
      have := congrArg List.head? e
      revert this; simp only [up, List.map_cons, List.head?_cons]; decide +kernel
  have e4 : ef [101, 110, 100, 58, 86, 67, 65, 82, 68] END = true := by decide +kernel
  have e5 := prop_caps g n v hg (by rw [h2]; simp) hn
  have e6 : mayP ⟨g, up n, [(up n, n)], v⟩ = true := by
    subst h2
    have : up (120 :: n') = 88 :: up n' := rfl
    simp only [mayP, this, FIR, VER]
    simp
  unfold textT
  rw [rdL, e1, if_neg (by simp), if_neg (by simp), rdL, if_pos rfl, e2, if_neg (by simp), rdL, if_neg (by simp), e3, if_neg (by simp), e5, if_neg (by simp), e6, if_neg (by simp), if_neg (by simp), rdL, if_neg (by simp), e4, if_pos rfl, rdL]
  simp
end Go.Proofs.Ut
