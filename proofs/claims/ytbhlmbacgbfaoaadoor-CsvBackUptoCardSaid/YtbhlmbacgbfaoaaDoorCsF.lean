/- The law's own look at whether csv is awake; so many rows, and fields, and no more. -/
import Derived.Test.YtbhlmbacgbfaoaaDoorCsE
import Derived.Test.YtbhlmbacgbfaoaaDoorUtRow
set_option linter.all false
namespace Go.Proofs.Ut
open Go.Ai Classical Go.Shelf Go.RowKit
set_option linter.unusedSimpArgs false
set_option linter.unusedVariables false
set_option maxHeartbeats 1000000
set_option maxRecDepth 100000
/-- A text of signs of one byte that may stand there. -/
def asc (s : List UInt8) : Bool := s.all fun b => decide (b.toNat < 128) && mayB b.toNat
theorem asc_run {s : List UInt8} (h : asc s = true) : runAt mayB s 0 = true := by
  unfold asc at h
  rw [List.all_eq_true] at h
  have h1 : ∀ b ∈ s, b.toNat < 128 := fun b hb => by have := h b hb; simp at this; exact this.1
  rw [(run_ascii mayB s h1).1, List.all_eq_true]
  exact fun b hb => by have := h b hb; simp at this; exact this.2
theorem readG_asc {s : List UInt8} {R : List (List (List UInt8)) × Int} (hl : s.length ≤ 20000) (h : asc s = true) (e : readF 200 [] s = R) : readG s = R := by
  unfold readG
  rw [if_neg (by omega), if_pos (asc_run h), e]
theorem awakeR : readG [97, 44, 34, 98, 34, 34, 34, 13, 10] = ([[[97], [98, 34]]], 0) := readG_asc (by decide) (by decide) (by kernel_rfl)
theorem awakeW : writeF [[[97], [98, 34]]] = [97, 44, 34, 98, 34, 34, 34, 13, 10] := by kernel_rfl
theorem awake33 : DRet 33 [] (.bool true) := by
  have hr := read34 [97, 44, 34, 98, 34, 34, 34, 13, 10] (by decide)
  rw [awakeR] at hr
  refine acalls_go c33 (by simp [f33]) ?_
  simp only [f33, ↓gos, gop, Nat.reduceBEq, Nat.reduceAdd, Nat.reduceSub, Nat.reduceLeDiff, Nat.reduceMul, Int.reduceLE, Int.reduceLT, Int.reduceNe, Int.reduceToNat]
  refine call_new hr (fun d hd => by simp at hd; subst hd; rfl) ?_
  simp only [DV.ren, DV.ren.renAll, renO, ↓gos, gop, Nat.reduceBEq, Nat.reduceAdd, Nat.reduceSub, Nat.reduceLeDiff, Nat.reduceMul, Int.reduceLE, Int.reduceLT, Int.reduceNe, Int.reduceToNat]
  refine call_ret (rows36 [[[97], [98, 34]]] [[[97], [98, 34]]] (by decide) (by decide) (by decide) (by decide)) rfl rfl ?_
  rw [decide_eq_true rfl]
  simp only [↓gos, gop, Nat.reduceBEq, Nat.reduceAdd, Nat.reduceSub, Nat.reduceLeDiff, Nat.reduceMul, Int.reduceLE, Int.reduceLT, Int.reduceNe, Int.reduceToNat]
  have hw := write35 [[[97], [98, 34]]] (by decide) (by rw [awakeW]; decide) (by decide)
  rw [awakeW] at hw
  refine call_ret hw rfl rfl ?_
  simp only [↓gos, gop, Nat.reduceBEq, Nat.reduceAdd, Nat.reduceSub, Nat.reduceLeDiff, Nat.reduceMul, Int.reduceLE, Int.reduceLT, Int.reduceNe, Int.reduceToNat]
  exact endb rfl
/-- A text so many times. -/
def rep {α : Type} (a : List α) : Nat → List α
  | 0 => []
  | n + 1 => a ++ rep a n
theorem rep_end {α : Type} (a : List α) : ∀ n, rep a n ++ a = a ++ rep a n
  | 0 => by simp [rep]
  | n + 1 => by rw [rep, List.append_assoc, rep_end a n]
theorem rep_len {α : Type} (a : List α) : ∀ n, (rep a n).length = n * a.length
  | 0 => by simp [rep]
  | n + 1 => by rw [rep, List.length_append, rep_len a n, Nat.succ_mul, Nat.add_comm]
theorem asc_app {a b : List UInt8} (h : asc a = true) (k : asc b = true) : asc (a ++ b) = true := by
  unfold asc at *
  rw [List.all_append, h, k]; rfl
theorem asc_rep {a : List UInt8} (h : asc a = true) : ∀ n, asc (rep a n) = true
  | 0 => rfl
  | n + 1 => asc_app h (asc_rep h n)
theorem row_a (t : List UInt8) : rowF 30 [] ([97, 13, 10] ++ t) = ([[97]], t, 0) := by
  have e : fieldF ([97, 13, 10] ++ t) = ([97], 13 :: 10 :: t, true) := by
    unfold fieldF
    rw [if_neg (by simp [List.isPrefixOf])]
    rfl
  rw [rowF, e]
  simp [List.isPrefixOf]
theorem read_rows : ∀ (n k : Nat) (l : List (List (List UInt8))), readF k l (rep [97, 13, 10] n) = if n ≤ k then (l ++ List.replicate n [[97]], 0) else ([], 4)
  | 0, k, l => by
    unfold readF
    rw [if_pos (show rep [97, 13, 10] 0 = ([] : List UInt8) from rfl)]
    simp
  | n + 1, 0, l => by
    unfold readF
    rw [if_neg (by simp [rep]), if_neg (by omega)]
  | n + 1, k + 1, l => by
    unfold readF
    rw [if_neg (by simp [rep])]
    simp only [rep, row_a, if_true]
    rw [read_rows n k]
    by_cases h : n ≤ k
    · rw [if_pos h, if_pos (by omega), List.replicate_succ]; simp
    · rw [if_neg h, if_neg (by omega)]
theorem row_fields : ∀ (n k : Nat) (fs : List (List UInt8)), rowF k fs ([97] ++ rep [44, 97] n) = if n < k then (fs ++ List.replicate (n + 1) [97], [], 0) else ([], [], 4)
  | n, 0, fs => by rw [rowF, if_neg (by omega)]
  | 0, k + 1, fs => by
    have e : fieldF ([97] ++ rep [44, 97] 0) = ([97], [], true) := by kernel_rfl
    rw [rowF, e]
    simp
  | n + 1, k + 1, fs => by
    have e : fieldF ([97] ++ rep [44, 97] (n + 1)) = ([97], 44 :: ([97] ++ rep [44, 97] n), true) := by
      unfold fieldF
      rw [if_neg (by simp [List.isPrefixOf])]
      rfl
    rw [rowF, e]
    simp only [if_true, List.isPrefixOf, List.drop_succ_cons, List.drop_zero]
    rw [if_neg (by simp), if_neg (by simp), if_pos (by simp), row_fields n k]
    by_cases h : n < k
    · rw [if_pos h, if_pos (by omega), List.replicate_succ (n := n + 1)]; simp
    · rw [if_neg h, if_neg (by omega)]
theorem readG_rows (n : Nat) (hn : n ≤ 202) : readG (rep [97, 13, 10] n) = if n ≤ 200 then (List.replicate n [[97]], 0) else ([], 4) := by
  refine readG_asc (by rw [rep_len]; simp; omega) (asc_rep (by decide) n) ?_
  rw [read_rows]
  simp
theorem readG_fields (n : Nat) (hn : n ≤ 32) : readG ([97] ++ rep [44, 97] n) = if n < 30 then ([List.replicate (n + 1) [97]], 0) else ([], 4) := by
  refine readG_asc (by rw [List.length_append, rep_len]; simp; omega) (asc_app (by decide) (asc_rep (by decide) n)) ?_
  unfold readF
  rw [if_neg (by simp)]
  simp only [row_fields]
  by_cases h : n < 30
  · simp only [h, if_true]
    unfold readF
    rw [if_pos rfl]; rfl
  · simp only [h, if_false]
    rfl
def T9 : List (List UInt8) := [[34], [34, 97], [97, 34], [97, 34, 98], [34, 97, 34, 98], [97, 10], [97, 13, 98], [34, 97, 34, 10], [97, 44, 34, 13, 10]]
theorem lt9 {k : Nat} (hk : k < 9) : k = 0 ∨ k = 1 ∨ k = 2 ∨ k = 3 ∨ k = 4 ∨ k = 5 ∨ k = 6 ∨ k = 7 ∨ k = 8 := by omega
theorem nine (k : Nat) (hk : k < 9) : ([[.str [34]], [.str [34, 97]], [.str [97, 34]], [.str [97, 34, 98]], [.str [34, 97, 34, 98]], [.str [97, 10]], [.str [97, 13, 98]], [.str [34, 97, 34, 10]], [.str [97, 44, 34, 13, 10]]] : List (List DV))[k]? = some (sv (T9.getD k [])) := by
  rcases lt9 hk with rfl | rfl | rfl | rfl | rfl | rfl | rfl | rfl | rfl <;> rfl
theorem nineR (k : Nat) (hk : k < 9) : readG (T9.getD k []) = ([], 19) := by
  rcases lt9 hk with rfl | rfl | rfl | rfl | rfl | rfl | rfl | rfl | rfl <;> exact readG_asc (by decide) (by decide) (by kernel_rfl)
theorem nineL (k : Nat) (hk : k < 9) : (T9.getD k []).length < 100000000 := by
  rcases lt9 hk with rfl | rfl | rfl | rfl | rfl | rfl | rfl | rfl | rfl <;> decide
theorem bounds13 (r f w : Int) : DRet 13 [.int .i64 r, .int .i64 f, .int .i64 w] (.bool true) := by
  refine acalls_go c13 (by simp [f13]) ?_
  simp only [f13, ↓gos, gop, Nat.reduceBEq, Nat.reduceAdd, Nat.reduceSub, Nat.reduceLeDiff, Nat.reduceMul, Int.reduceLE, Int.reduceLT, Int.reduceNe, Int.reduceToNat]
  intro u1 h1 u2 h2 u3 h3 u4 h4 u5 h5 u6 h6 u7 h7 u8 h8
  have a1 := u64_range r
  have a2 := u64_range f
  rw [← h1] at a1
  rw [← h5] at a2
  have b1 := tmod_range u1 5 a1.1 (by omega)
  have b2 := tmod_range u5 5 a2.1 (by omega)
  rw [← h2] at b1
  rw [← h6] at b2
  rw [wrap_i64 (by omega) (by omega)] at h3 h7
  subst h3; subst h7
  rw [wrap_i64 (by omega) (by omega)] at h4 h8
  clear h1 h2 h5 h6 a1 a2
  obtain ⟨n, rfl⟩ : ∃ n : Nat, u4 = n := ⟨u4.toNat, by omega⟩
  obtain ⟨m, rfl⟩ : ∃ m : Nat, u8 = ((m + 1 : Nat) : Int) := ⟨u8.toNat - 1, by omega⟩
  have hn : 198 ≤ n ∧ n ≤ 202 := by omega
  have hm : 27 ≤ m ∧ m ≤ 31 := by omega
  clear b1 b2 h4 h8
  refine goN_lp (γ := Nat) (fun i => [(9, .int .i64 (i : Nat)), (7, .str (rep [97, 13, 10] i)), (8, .str [97]), (0, .int .i64 (n : Nat)), (1, .int .i64 ((m + 1 : Nat) : Int)), (2, .int .i64 w)]) (fun _ => []) (fun i => i ≤ n) (fun i => n - i) 0
    (wks rfl (by simp) ⟨rfl, rfl, rfl, rfl, rfl, rfl, trivial⟩) (by omega) fun i hi => ?_
  simp only [f13l0, ↓gos, gop, Nat.reduceBEq, Nat.reduceAdd, Nat.reduceSub, Nat.reduceLeDiff, Nat.reduceMul, Int.reduceLE, Int.reduceLT, Int.reduceNe, Int.reduceToNat]
  have hrl : (rep ([97, 13, 10] : List UInt8) i).length = i * 3 := rep_len _ _
  refine ⟨fun h => ?_, fun h => ?_⟩
  · refine ⟨by omega, fun v hv => ?_⟩
    rw [wrap_i64 (by omega) (by omega)] at hv
    have hv : v = ((i + 1 : Nat) : Int) := by omega
    subst hv
    refine rnd_s (i + 1) rfl (by simp) ⟨rfl, by show DV.str _ = _; rw [rep_end]; rfl, rfl, rfl, rfl, rfl, trivial⟩ (by omega) (by omega)
  · have hin : i = n := by omega
    subst hin
    refine goN_lp (γ := Nat) (fun j => [(10, .int .i64 ((j + 1 : Nat) : Int)), (8, .str ([97] ++ rep [44, 97] j)), (7, .str (rep [97, 13, 10] i)), (0, .int .i64 (i : Nat)), (1, .int .i64 ((m + 1 : Nat) : Int)), (2, .int .i64 w)]) (fun _ => []) (fun j => j ≤ m) (fun j => m - j) 0
      (wks rfl (by simp) ⟨rfl, rfl, rfl, rfl, rfl, rfl, trivial⟩) (by omega) fun j hj => ?_
    simp only [f13l1, ↓gos, gop, Nat.reduceBEq, Nat.reduceAdd, Nat.reduceSub, Nat.reduceLeDiff, Nat.reduceMul, Int.reduceLE, Int.reduceLT, Int.reduceNe, Int.reduceToNat]
    have hrj : (rep ([44, 97] : List UInt8) j).length = j * 2 := rep_len _ _
    refine ⟨fun h => ?_, fun h => ?_⟩
    · refine ⟨by omega, fun v hv => ?_⟩
      rw [wrap_i64 (by omega) (by omega)] at hv
      have hv : v = ((j + 1 + 1 : Nat) : Int) := by omega
      subst hv
      refine rnd_s (j + 1) rfl (by simp) ⟨rfl, by show DV.str (97 :: (rep [44, 97] j ++ [44, 97])) = DV.str (97 :: rep [44, 97] (j + 1)); rw [rep_end]; rfl, rfl, rfl, rfl, rfl, trivial⟩ (by omega) (by omega)
    · have hjm : j = m := by omega
      subst hjm
      have r1 := read34 (rep [97, 13, 10] i) (by omega)
      have r2 := read34 ([97] ++ rep [44, 97] j) (by simp; omega)
      rw [readG_rows i (by omega)] at r1
      rw [readG_fields j (by omega)] at r2
      by_cases hi2 : i ≤ 200 <;> by_cases hj2 : j < 30
      all_goals
        first
          | rw [if_pos hi2] at r1
          | rw [if_neg hi2] at r1
        first
          | rw [if_pos hj2] at r2
          | rw [if_neg hj2] at r2
        refine call_new r1 (fun d hd => by simp at hd; subst hd; rfl) ?_
        simp only [DV.ren, DV.ren.renAll, renO, ↓gos, gop, Nat.reduceBEq, Nat.reduceAdd, Nat.reduceSub, Nat.reduceLeDiff, Nat.reduceMul, Int.reduceLE, Int.reduceLT, Int.reduceNe, Int.reduceToNat]
        refine call_new r2 (fun d hd => by simp at hd; subst hd; rfl) ?_
        simp only [DV.ren, DV.ren.renAll, renO, ↓gos, gop, Nat.reduceBEq, Nat.reduceAdd, Nat.reduceSub, Nat.reduceLeDiff, Nat.reduceMul, Int.reduceLE, Int.reduceLT, Int.reduceNe, Int.reduceToNat]
        intro u1 g1 u2 g2 u3 g3
        have a1 := u64_range w
        rw [← g1] at a1
        have b1 := tmod_range u1 9 a1.1 (by omega)
        rw [← g2] at b1
        rw [wrap_i64 (by omega) (by omega)] at g3
        subst g3
        refine ⟨by omega, by omega, ?_⟩
        have hk : u3.toNat < 9 := by omega
        have r3 := read34 _ (nineL _ hk)
        rw [nineR _ hk] at r3
        rw [nine _ hk]
        simp only [sv, ↓gos, gop, Nat.reduceBEq, Nat.reduceAdd, Nat.reduceSub, Nat.reduceLeDiff, Nat.reduceMul, Int.reduceLE, Int.reduceLT, Int.reduceNe, Int.reduceToNat]
        refine call_new r3 (fun d hd => by simp at hd; subst hd; rfl) ?_
        simp only [DV.ren, DV.ren.renAll, renO, ↓gos, gop, Nat.reduceBEq, Nat.reduceAdd, Nat.reduceSub, Nat.reduceLeDiff, Nat.reduceMul, Int.reduceLE, Int.reduceLT, Int.reduceNe, Int.reduceToNat]
        refine ⟨fun q1 => ⟨fun q2 => ?_, fun q2 => ?_⟩, fun q1 => ⟨fun q2 => ?_, fun q2 => ?_⟩⟩
        all_goals first
          | (exfalso; omega)
          | (refine call_ret awake33 rfl rfl ?_
             simp only [rwv, List.length_replicate, ↓gos, gop, Nat.reduceBEq, Nat.reduceAdd, Nat.reduceSub, Nat.reduceLeDiff, Nat.reduceMul, Int.reduceLE, Int.reduceLT, Int.reduceNe, Int.reduceToNat]
             repeat' (first | refine And.intro ?_ ?_ | intro _)
             all_goals first
               | exact endb rfl
               | (exfalso; omega))
end Go.Proofs.Ut
