import Derived.Test.YtbhlmbacgbfaoaaRgA
set_option linter.all false
namespace Go.Proofs.Rg
open Go.Ai Classical
set_option linter.unusedSimpArgs false
set_option maxHeartbeats 1000000
theorem nan_calls (a : Int) : Ret 39 [.int .i64 a] (.bool false) := by
  refine acalls_go c39 (by simp [f39]) ?_
  simp only [f39, ↓gos, gop, Nat.reduceBEq, Nat.reduceAdd, Nat.reduceSub, Nat.reduceLeDiff, Nat.reduceMul, Int.reduceLE, Int.reduceLT, Int.reduceNe, Int.reduceToNat]
  exact endb rfl
def cmpI (a b : Int) : Int := if a < b then -1 else if b < a then 1 else 0
theorem cmp_calls (a b : Int) : Ret 33 [.int .i64 a, .int .i64 b] (.int .i64 (cmpI a b)) := by
  refine acalls_go c33 (by simp [f33]) ?_
  simp only [f33, ↓gos, gop, Nat.reduceBEq, Nat.reduceAdd, Nat.reduceSub, Nat.reduceLeDiff, Nat.reduceMul, Int.reduceLE, Int.reduceLT, Int.reduceNe, Int.reduceToNat]
  refine call_ret (nan_calls a) rfl rfl ?_
  simp only [↓gos, gop, Nat.reduceBEq, Nat.reduceAdd, Nat.reduceSub, Nat.reduceLeDiff, Nat.reduceMul, Int.reduceLE, Int.reduceLT, Int.reduceNe, Int.reduceToNat]
  refine call_ret (nan_calls b) rfl rfl ?_
  simp only [↓gos, gop, Nat.reduceBEq, Nat.reduceAdd, Nat.reduceSub, Nat.reduceLeDiff, Nat.reduceMul, Int.reduceLE, Int.reduceLT, Int.reduceNe, Int.reduceToNat]
  exact ⟨fun h => endi (by simp [cmpI, h]), fun h => ⟨fun h2 => endi (by simp [cmpI, h, h2]), fun h2 => endi (by simp [cmpI, h, h2])⟩⟩
theorem less_calls (r s : Int × Int) : Ret 32 [.agg (rg r), .agg (rg s)] (.int .i64 (cmpI r.1 s.1)) := by
  refine acalls_go c32 (by simp [f32]) ?_
  simp only [f32, rg, ↓gos, gop, Nat.reduceBEq, Nat.reduceAdd, Nat.reduceSub, Nat.reduceLeDiff, Nat.reduceMul, Int.reduceLE, Int.reduceLT, Int.reduceNe, Int.reduceToNat]
  refine call_ret (cmp_calls r.1 s.1) rfl rfl ?_
  simp only [↓gos, gop, Nat.reduceBEq, Nat.reduceAdd, Nat.reduceSub, Nat.reduceLeDiff, Nat.reduceMul, Int.reduceLE, Int.reduceLT, Int.reduceNe, Int.reduceToNat]
  exact endi rfl
theorem pair_calls (a b : Int) : Ret 41 [.int .i64 a, .int .i64 b] (.agg (rg (a, b))) := by
  refine acalls_go c41 (by simp [f41]) ?_
  simp only [f41, rg, ↓gos, gop, Nat.reduceBEq, Nat.reduceAdd, Nat.reduceSub, Nat.reduceLeDiff, Nat.reduceMul, Int.reduceLE, Int.reduceLT, Int.reduceNe, Int.reduceToNat]
  exact end1 rfl rfl
def num (n : Int) : List DV := [.int .i64 n]
/-- A function hands back a new row of ranges. -/
abbrev Row (f : Nat) (args : List DV) (L : List (Int × Int)) : Prop := ACalls E0 f [] args fun h d => h = [.arr 2 (L.map rg)] ∧ d = .osl 2 0 0 L.length none
def prs : List Int → List (Int × Int)
  | a :: b :: l => (a, b) :: prs l
  | _ => []
theorem pairs_calls (l : List Int) (hl : l.length < 10000) : Row 40 [.agg [.sl 1 (l.map num)], .fn 41 []] (prs l) := by
  refine acalls_go c40 (by simp [f40]) ?_
  simp only [f40, ↓gos, gop, Nat.reduceBEq, Nat.reduceAdd, Nat.reduceSub, Nat.reduceLeDiff, Nat.reduceMul, Int.reduceLE, Int.reduceLT, Int.reduceNe, Int.reduceToNat]
  refine goN_lp (γ := List (Int × Int) × List Int) (fun g => [(1, .fn 41 []), (5, .osl 2 2 0 g.1.length none), (6, .sl 1 (g.2.map num))]) (fun g => [.box [.sl 1 (l.map num)], .arr 2 [], .arr 2 (g.1.map rg)]) (fun g => g.1 ++ prs g.2 = prs l ∧ g.1.length + g.2.length ≤ l.length) (fun g => g.2.length) ([], l) (wks rfl (Nat.zero_le _) ⟨rfl, rfl, rfl, trivial⟩) (by simp) fun g hg => ?_
  obtain ⟨acc, rest⟩ := g
  obtain ⟨hg, hlen⟩ := hg
  rcases rest with _ | ⟨a, _ | ⟨b, r⟩⟩
  · simp only [f40l0, num, ↓gos, gop, Nat.reduceBEq, Nat.reduceAdd, Nat.reduceSub, Nat.reduceLeDiff, Nat.reduceMul, Int.reduceLE, Int.reduceLT, Int.reduceNe, Int.reduceToNat]
    exact end_row rfl (by simpa [prs] using congrArg (List.map rg) hg) (by simpa [prs] using congrArg List.length hg)
  · simp only [f40l0, num, ↓gos, gop, Nat.reduceBEq, Nat.reduceAdd, Nat.reduceSub, Nat.reduceLeDiff, Nat.reduceMul, Int.reduceLE, Int.reduceLT, Int.reduceNe, Int.reduceToNat]
    exact end_row rfl (by simpa [prs] using congrArg (List.map rg) hg) (by simpa [prs] using congrArg List.length hg)
  · simp only [f40l0, num, ↓gos, gop, Nat.reduceBEq, Nat.reduceAdd, Nat.reduceSub, Nat.reduceLeDiff, Nat.reduceMul, Int.reduceLE, Int.reduceLT, Int.reduceNe, Int.reduceToNat]
    refine ⟨fun _ => call_ret (pair_calls a b) rfl rfl ?_, fun h => by omega⟩
    simp only [rg, ↓gos, gop, Nat.reduceBEq, Nat.reduceAdd, Nat.reduceSub, Nat.reduceLeDiff, Nat.reduceMul, Int.reduceLE, Int.reduceLT, Int.reduceNe, Int.reduceToNat]
    have hd : acc.length + (r.length + 2) ≤ l.length := by simpa using hlen
    refine ⟨by omega, by omega, by omega, ?_⟩
    refine rnd_d 3 (acc ++ [(a, b)], r) ?_ (Nat.zero_le _) ⟨rfl, rfl, ?_, rfl, ?_, rfl, trivial⟩ rfl ⟨?_, ?_⟩ (by simp; omega)
    · simp [rg, num]
    · simp [slots]
    · have e : List.take (r.length + 1 + 1 - 2) (r.map num) = r.map num := List.take_of_length_le (by simp)
      rw [e]; rfl
    · simpa [prs] using hg
    · simp; omega
/-- The tables' rows. -/
theorem made_calls (l : List Int) (hl : l.length < 10000) : Row 34 [.sl 1 (l.map num)] (prs l) := by
  refine acalls_go c34 (by simp [f34]) ?_
  simp only [f34, ↓gos, gop, Nat.reduceBEq, Nat.reduceAdd, Nat.reduceSub, Nat.reduceLeDiff, Nat.reduceMul, Int.reduceLE, Int.reduceLT, Int.reduceNe, Int.reduceToNat]
  refine call_new (pairs_calls l hl) (by simp [DV.closed, DV.closed.closedAll]) ?_
  simp only [DV.ren, renO, ↓gos, gop, Nat.reduceBEq, Nat.reduceAdd, Nat.reduceSub, Nat.reduceLeDiff, Nat.reduceMul, Int.reduceLE, Int.reduceLT, Int.reduceNe, Int.reduceToNat]
  exact end_row rfl rfl rfl
theorem table_calls (l : List Int) (hl : l.length < 10000) (he : l.length % 2 = 0) : Row 35 [.sl 1 (l.map num)] (prs l) := by
  refine acalls_go c35 (by simp [f35]) ?_
  simp only [f35, ↓gos, gop, Nat.reduceBEq, Nat.reduceAdd, Nat.reduceSub, Nat.reduceLeDiff, Nat.reduceMul, Int.reduceLE, Int.reduceLT, Int.reduceNe, Int.reduceToNat]
  refine goN_lp (γ := List (Int × Int) × Nat) (fun g => [(0, .sl 1 (l.map num)), (3, .osl 2 1 0 g.1.length none), (4, .int .i64 (g.2 : Nat))]) (fun g => [.arr 2 [], .arr 2 (g.1.map rg)]) (fun g => g.1 ++ prs (l.drop g.2) = prs l ∧ g.2 ≤ l.length ∧ g.2 % 2 = 0 ∧ g.1.length ≤ g.2) (fun g => l.length - g.2) ([], 0) (wks rfl (Nat.zero_le _) ⟨rfl, rfl, rfl, trivial⟩) (by simp) fun g hg => ?_
  simp only [f35l0, num, rg, ↓gos, gop, Nat.reduceBEq, Nat.reduceAdd, Nat.reduceSub, Nat.reduceLeDiff, Nat.reduceMul, Int.reduceLE, Int.reduceLT, Int.reduceNe, Int.reduceToNat]
  obtain ⟨acc, k⟩ := g
  obtain ⟨hg, hk, hm, hlen⟩ := hg
  simp only at hg hk hm hlen ⊢
  refine ⟨fun h1 => optP_at 0 (by omega) fun v hv => ⟨?_, optP_at 0 ?_ ⟨by omega, by omega, fun v2 hv2 => ?_⟩⟩, fun h1 => ?_⟩
  · rw [wrap_i64 (by omega) (by omega)] at hv; omega
  · rw [wrap_i64 (by omega) (by omega)] at hv; omega
  · rw [wrap_i64 (by omega) (by omega)] at hv hv2
    have e1 : v.toNat = k + 1 := by omega
    rw [e1]
    have hdr : l.drop k = l.getD k 0 :: l.getD (k + 1) 0 :: l.drop (k + 2) := by
      have h2 : k < l.length := by omega
      have h3 : k + 1 < l.length := by omega
      rw [List.drop_eq_getElem_cons h2, List.drop_eq_getElem_cons h3]
      simp [h2, h3]
    refine rnd_d 2 (acc ++ [(l.getD k 0, l.getD (k + 1) 0)], k + 2) ?_ (Nat.zero_le _) ⟨rfl, rfl, ?_, rfl, ?_, rfl, trivial⟩ rfl ⟨?_, ?_⟩ (by simp; omega)
    · simp [rg]
    · simp [slots]
    · simp [slots, hv2]
    · rw [hdr] at hg
      simpa [prs] using hg
    · simp; omega
  · have : l.drop k = [] := by simp; omega
    rw [this] at hg
    exact end_row rfl (by simpa [prs] using congrArg (List.map rg) hg) (by simpa [prs] using congrArg List.length hg)
def lettersL : List Int := [65, 90, 97, 122, 192, 214, 216, 246, 248, 591, 880, 1327, 19968, 40959]
theorem letters18_calls : Row 18 [] (prs lettersL) := by
  refine acalls_go c18 (by simp [f18]) ?_
  simp only [f18, ↓gos, gop, Nat.reduceBEq, Nat.reduceAdd, Nat.reduceSub, Nat.reduceLeDiff, Nat.reduceMul, Int.reduceLE, Int.reduceLT, Int.reduceNe, Int.reduceToNat]
  refine call_lend (made_calls lettersL (by decide)) rfl rfl ?_
  simp only [DV.ren, renO, ↓gos, gop, Nat.reduceBEq, Nat.reduceAdd, Nat.reduceSub, Nat.reduceLeDiff, Nat.reduceMul, Int.reduceLE, Int.reduceLT, Int.reduceNe, Int.reduceToNat]
  exact end_row rfl rfl rfl
theorem letters22_calls : Row 22 [] (prs lettersL) := by
  refine acalls_go c22 (by simp [f22]) ?_
  simp only [f22, ↓gos, gop, Nat.reduceBEq, Nat.reduceAdd, Nat.reduceSub, Nat.reduceLeDiff, Nat.reduceMul, Int.reduceLE, Int.reduceLT, Int.reduceNe, Int.reduceToNat]
  refine call_lend (table_calls lettersL (by decide) (by decide)) rfl rfl ?_
  simp only [DV.ren, renO, ↓gos, gop, Nat.reduceBEq, Nat.reduceAdd, Nat.reduceSub, Nat.reduceLeDiff, Nat.reduceMul, Int.reduceLE, Int.reduceLT, Int.reduceNe, Int.reduceToNat]
  exact end_row rfl rfl rfl
def bannedL : List Int := [0, 31, 127, 160, 5760, 5760, 8192, 8202, 8232, 8239, 8287, 8287, 12288, 12288, 57344, 63743, 65533, 65535, 917504, 917631, 983040, 1114111]
theorem banned19_calls : Row 19 [] (prs bannedL) := by
  refine acalls_go c19 (by simp [f19]) ?_
  simp only [f19, ↓gos, gop, Nat.reduceBEq, Nat.reduceAdd, Nat.reduceSub, Nat.reduceLeDiff, Nat.reduceMul, Int.reduceLE, Int.reduceLT, Int.reduceNe, Int.reduceToNat]
  refine call_lend (made_calls bannedL (by decide)) rfl rfl ?_
  simp only [DV.ren, renO, ↓gos, gop, Nat.reduceBEq, Nat.reduceAdd, Nat.reduceSub, Nat.reduceLeDiff, Nat.reduceMul, Int.reduceLE, Int.reduceLT, Int.reduceNe, Int.reduceToNat]
  exact end_row rfl rfl rfl
theorem banned23_calls : Row 23 [] (prs bannedL) := by
  refine acalls_go c23 (by simp [f23]) ?_
  simp only [f23, ↓gos, gop, Nat.reduceBEq, Nat.reduceAdd, Nat.reduceSub, Nat.reduceLeDiff, Nat.reduceMul, Int.reduceLE, Int.reduceLT, Int.reduceNe, Int.reduceToNat]
  refine call_lend (table_calls bannedL (by decide) (by decide)) rfl rfl ?_
  simp only [DV.ren, renO, ↓gos, gop, Nat.reduceBEq, Nat.reduceAdd, Nat.reduceSub, Nat.reduceLeDiff, Nat.reduceMul, Int.reduceLE, Int.reduceLT, Int.reduceNe, Int.reduceToNat]
  exact end_row rfl rfl rfl
def rightLeftL : List Int := [1424, 1535, 1536, 1791, 64285, 64335]
theorem rightLeft20_calls : Row 20 [] (prs rightLeftL) := by
  refine acalls_go c20 (by simp [f20]) ?_
  simp only [f20, ↓gos, gop, Nat.reduceBEq, Nat.reduceAdd, Nat.reduceSub, Nat.reduceLeDiff, Nat.reduceMul, Int.reduceLE, Int.reduceLT, Int.reduceNe, Int.reduceToNat]
  refine call_lend (made_calls rightLeftL (by decide)) rfl rfl ?_
  simp only [DV.ren, renO, ↓gos, gop, Nat.reduceBEq, Nat.reduceAdd, Nat.reduceSub, Nat.reduceLeDiff, Nat.reduceMul, Int.reduceLE, Int.reduceLT, Int.reduceNe, Int.reduceToNat]
  exact end_row rfl rfl rfl
theorem rightLeft24_calls : Row 24 [] (prs rightLeftL) := by
  refine acalls_go c24 (by simp [f24]) ?_
  simp only [f24, ↓gos, gop, Nat.reduceBEq, Nat.reduceAdd, Nat.reduceSub, Nat.reduceLeDiff, Nat.reduceMul, Int.reduceLE, Int.reduceLT, Int.reduceNe, Int.reduceToNat]
  refine call_lend (table_calls rightLeftL (by decide) (by decide)) rfl rfl ?_
  simp only [DV.ren, renO, ↓gos, gop, Nat.reduceBEq, Nat.reduceAdd, Nat.reduceSub, Nat.reduceLeDiff, Nat.reduceMul, Int.reduceLE, Int.reduceLT, Int.reduceNe, Int.reduceToNat]
  exact end_row rfl rfl rfl
def goneL : List Int := [173, 173, 847, 847, 6150, 6150, 8203, 8205, 8288, 8288, 65024, 65039, 65279, 65279]
theorem gone21_calls : Row 21 [] (prs goneL) := by
  refine acalls_go c21 (by simp [f21]) ?_
  simp only [f21, ↓gos, gop, Nat.reduceBEq, Nat.reduceAdd, Nat.reduceSub, Nat.reduceLeDiff, Nat.reduceMul, Int.reduceLE, Int.reduceLT, Int.reduceNe, Int.reduceToNat]
  refine call_lend (made_calls goneL (by decide)) rfl rfl ?_
  simp only [DV.ren, renO, ↓gos, gop, Nat.reduceBEq, Nat.reduceAdd, Nat.reduceSub, Nat.reduceLeDiff, Nat.reduceMul, Int.reduceLE, Int.reduceLT, Int.reduceNe, Int.reduceToNat]
  exact end_row rfl rfl rfl
theorem gone25_calls : Row 25 [] (prs goneL) := by
  refine acalls_go c25 (by simp [f25]) ?_
  simp only [f25, ↓gos, gop, Nat.reduceBEq, Nat.reduceAdd, Nat.reduceSub, Nat.reduceLeDiff, Nat.reduceMul, Int.reduceLE, Int.reduceLT, Int.reduceNe, Int.reduceToNat]
  refine call_lend (table_calls goneL (by decide) (by decide)) rfl rfl ?_
  simp only [DV.ren, renO, ↓gos, gop, Nat.reduceBEq, Nat.reduceAdd, Nat.reduceSub, Nat.reduceLeDiff, Nat.reduceMul, Int.reduceLE, Int.reduceLT, Int.reduceNe, Int.reduceToNat]
  exact end_row rfl rfl rfl
end Go.Proofs.Rg
