/- The law of layer 1: awake, UtfTells. -/
import Derived.Test.YtbhlmbacgbfaoaaDoorUtF
import Derived.Test.YtbhlmbacgbfaoaaDoorUtG
set_option linter.all false
namespace Go.Proofs.Ut
open Go.Ai Classical
set_option linter.unusedSimpArgs false
set_option maxHeartbeats 1000000
set_option maxRecDepth 100000
abbrev DRet (f : Nat) (args : List DV) (D : DV) : Prop := ACalls ED f [] args fun h d => h = [] ∧ d = D
theorem valid_c (s : List UInt8) (hs : s.length < 100000000000) : DRet 16 [.str s] (.bool (runAt mayB s 0)) := by
  have := valid16 rfl vED s (by omega)
  rw [valid_runAt] at this
  exact this
theorem ascii_runes : ∀ s : List UInt8, (∀ b ∈ s, b.toNat < 128) → s = (s.map (·.toNat)).flatMap (fun c : Nat => en c)
  | [], _ => rfl
  | b :: s, h => by
    have hb := h b (by simp)
    rw [List.map_cons, List.flatMap_cons, ← ascii_runes s (fun x hx => h x (by simp [hx])), en_eq (by unfold okC; omega), if_pos hb]
    simp
theorem run_ascii (p : Int → Bool) (s : List UInt8) (h : ∀ b ∈ s, b.toNat < 128) : runAt p s 0 = s.all (fun b => p b.toNat) ∧ rlAt s 0 = s.map (fun b => (b.toNat : Int)) := by
  have e := ascii_runes s h
  have ho : ∀ c ∈ s.map (·.toNat), okC c := fun c hc => by
    obtain ⟨b, hb, rfl⟩ := List.mem_map.1 hc
    have := h b hb
    unfold okC; omega
  constructor
  · conv => lhs; rw [e]
    have := run_ens p [] _ ho
    rw [List.append_nil, run_nil, Bool.and_true] at this
    rw [this, List.all_map]; rfl
  · conv => lhs; rw [e]
    have := rl_ens [] _ ho
    rw [List.append_nil, rl_nil, List.append_nil] at this
    rw [this, List.map_map]; rfl
theorem rs_ascii (s : List UInt8) (h : ∀ b ∈ s, b.toNat < 128) (hm : s.all (fun b => mayB b.toNat) = true) : rs s = s.map (fun b => (b.toNat : Int)) := by
  unfold rs
  rw [(run_ascii mayB s h).1, hm, (run_ascii mayB s h).2]; rfl
theorem rs_len (s : List UInt8) : (rs s).length ≤ s.length := by
  unfold rs; split
  · exact runes_len s _ 0
  · simp
theorem num_rows (l : List Int) : (l.map fun n => [DV.int .i64 n]) = l.map num := rfl
theorem dn_row {h : List AObj} {i n : Nat} {l : List Int} {c : Option Nat} (hi : h[i]? = some (.arr 1 (l.map num))) (hn : n = l.length) : DV.dn [] h (.osl 1 i 0 n c) = .sl 1 (l.map num) := dn_osl hi (by simpa using hn)
theorem awake15 : DRet 15 [] (.bool true) := by
  have r1 : runAt mayB [97] 0 = true := by rw [(run_ascii mayB [97] (by decide)).1]; decide
  have r2 : rs [97, 98] = [97, 98] := rs_ascii [97, 98] (by decide) (by decide)
  have r3 : runAt shownB [97, 32, 98] 0 = true := by rw [(run_ascii shownB _ (by decide)).1]; decide
  have r4 : rs [97, 32, 98] = [97, 32, 98] := rs_ascii _ (by decide) (by decide)
  refine acalls_go c15 (by simp [f15]) ?_
  simp only [f15, ↓gos, gop, Nat.reduceBEq, Nat.reduceAdd, Nat.reduceSub, Nat.reduceLeDiff, Nat.reduceMul, Int.reduceLE, Int.reduceLT, Int.reduceNe, Int.reduceToNat]
  refine call_ret (r1 ▸ valid_c [97] (by decide)) rfl rfl ?_
  simp only [↓gos, gop, Nat.reduceBEq, Nat.reduceAdd, Nat.reduceSub, Nat.reduceLeDiff, Nat.reduceMul, Int.reduceLE, Int.reduceLT, Int.reduceNe, Int.reduceToNat]
  have l2 := count21 (E := ED) rfl vED [97, 98] (by decide)
  rw [r2] at l2
  refine call_ret (D := .int .i64 2) l2 rfl rfl ?_
  simp only [↓gos, gop, Nat.reduceBEq, Nat.reduceAdd, Nat.reduceSub, Nat.reduceLeDiff, Nat.reduceMul, Int.reduceLE, Int.reduceLT, Int.reduceNe, Int.reduceToNat]
  have l3 := line22 rfl vED [97, 32, 98] 3 (by decide)
  rw [r3, r4] at l3
  refine call_ret (D := .bool true) l3 rfl rfl ?_
  simp only [↓gos, gop, Nat.reduceBEq, Nat.reduceAdd, Nat.reduceSub, Nat.reduceLeDiff, Nat.reduceMul, Int.reduceLE, Int.reduceLT, Int.reduceNe, Int.reduceToNat]
  refine call_lend (r2 ▸ runes19 rfl vED [97, 98] (by decide)) rfl (free_num _) ?_
  simp only [DV.ren, renO, List.map_cons, List.map_nil, ↓gos, gop, Nat.reduceBEq, Nat.reduceAdd, Nat.reduceSub, Nat.reduceLeDiff, Nat.reduceMul, Int.reduceLE, Int.reduceLT, Int.reduceNe, Int.reduceToNat]
  have p := plain18 (E := ED) rfl [97, 98] [97, 98] (by decide) (by decide)
  refine call_ret p rfl rfl ?_
  simp only [↓gos, gop, Nat.reduceBEq, Nat.reduceAdd, Nat.reduceSub, Nat.reduceLeDiff, Nat.reduceMul, Int.reduceLE, Int.reduceLT, Int.reduceNe, Int.reduceToNat]
  exact endb rfl
theorem tells3 (s : List UInt8) (most : Int) : DRet 3 [.str s, .int .i64 most] (.bool true) := by
  refine acalls_go c3 (by simp [f3]) ?_
  simp only [f3, ↓gos, gop, Nat.reduceBEq, Nat.reduceAdd, Nat.reduceSub, Nat.reduceLeDiff, Nat.reduceMul, Int.reduceLE, Int.reduceLT, Int.reduceNe, Int.reduceToNat]
  refine ⟨fun h1 => call_ret awake15 rfl rfl ?_, fun h1 => call_ret awake15 rfl rfl ?_⟩
  · simp only [↓gos, gop, Nat.reduceBEq, Nat.reduceAdd, Nat.reduceSub, Nat.reduceLeDiff, Nat.reduceMul, Int.reduceLE, Int.reduceLT, Int.reduceNe, Int.reduceToNat]
    exact endb rfl
  · have hs : s.length < 100000000000 := by omega
    have hl := rs_len s
    simp only [↓gos, gop, Nat.reduceBEq, Nat.reduceAdd, Nat.reduceSub, Nat.reduceLeDiff, Nat.reduceMul, Int.reduceLE, Int.reduceLT, Int.reduceNe, Int.reduceToNat]
    refine call_ret (valid_c s hs) rfl rfl ?_
    simp only [↓gos, gop, Nat.reduceBEq, Nat.reduceAdd, Nat.reduceSub, Nat.reduceLeDiff, Nat.reduceMul, Int.reduceLE, Int.reduceLT, Int.reduceNe, Int.reduceToNat]
    refine call_ret (rvalid17 rfl s hs) rfl rfl ?_
    simp only [↓gos, gop, Nat.reduceBEq, Nat.reduceAdd, Nat.reduceSub, Nat.reduceLeDiff, Nat.reduceMul, Int.reduceLE, Int.reduceLT, Int.reduceNe, Int.reduceToNat]
    refine ⟨fun _ => ?_, fun hn => by simp at hn⟩
    refine call_lend (runes19 rfl vED s hs) rfl (free_num _) ?_
    simp only [DV.ren, renO, ↓gos, gop, Nat.reduceBEq, Nat.reduceAdd, Nat.reduceSub, Nat.reduceLeDiff, Nat.reduceMul, Int.reduceLE, Int.reduceLT, Int.reduceNe, Int.reduceToNat]
    refine call_lend (rrunes20 rfl s hs) rfl (free_num _) ?_
    simp only [DV.ren, renO, ↓gos, gop, Nat.reduceBEq, Nat.reduceAdd, Nat.reduceSub, Nat.reduceLeDiff, Nat.reduceMul, Int.reduceLE, Int.reduceLT, Int.reduceNe, Int.reduceToNat]
    refine call_ret (plain18 (E := ED) rfl (rs s) (rs s) (by omega) (by omega)) (by rw [List.map_cons, dn_row (i := 0) rfl rfl, List.map_cons, dn_row (i := 1) rfl rfl]; rfl) rfl ?_
    simp only [decide_true, ↓gos, gop, Nat.reduceBEq, Nat.reduceAdd, Nat.reduceSub, Nat.reduceLeDiff, Nat.reduceMul, Int.reduceLE, Int.reduceLT, Int.reduceNe, Int.reduceToNat]
    refine call_ret (count21 rfl vED s hs) rfl rfl ?_
    simp only [↓gos, gop, Nat.reduceBEq, Nat.reduceAdd, Nat.reduceSub, Nat.reduceLeDiff, Nat.reduceMul, Int.reduceLE, Int.reduceLT, Int.reduceNe, Int.reduceToNat]
    refine call_lend (rrunes20 rfl s hs) rfl (free_num _) ?_
    simp only [DV.ren, renO, ↓gos, gop, Nat.reduceBEq, Nat.reduceAdd, Nat.reduceSub, Nat.reduceLeDiff, Nat.reduceMul, Int.reduceLE, Int.reduceLT, Int.reduceNe, Int.reduceToNat]
    refine call_ret (line22 rfl vED s most hs) rfl rfl ?_
    simp only [↓gos, gop, Nat.reduceBEq, Nat.reduceAdd, Nat.reduceSub, Nat.reduceLeDiff, Nat.reduceMul, Int.reduceLE, Int.reduceLT, Int.reduceNe, Int.reduceToNat]
    refine call_ret (rline23 rfl s most hs) rfl rfl ?_
    rw [run_shown]
    simp only [↓gos, gop, Nat.reduceBEq, Nat.reduceAdd, Nat.reduceSub, Nat.reduceLeDiff, Nat.reduceMul, Int.reduceLE, Int.reduceLT, Int.reduceNe, Int.reduceToNat]
    refine ⟨fun _ => endb rfl, fun hn => ?_⟩
    exfalso
    revert hn
    generalize runAt mayB s 0 = a
    generalize (rs s).all (fun c => decide (32 ≤ c)) = b
    generalize decide (((rs s).length : Int) ≤ most) = c
    cases a <;> cases b <;> cases c <;> simp
end Go.Proofs.Ut
