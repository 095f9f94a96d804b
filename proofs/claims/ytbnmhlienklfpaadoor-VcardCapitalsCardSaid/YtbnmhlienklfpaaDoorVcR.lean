/- Names are told in capitals: the law walked. -/
import Derived.Test.YtbnmhlienklfpaaDoorVcP
set_option linter.all false
namespace Go.Proofs.Ut
open Go.Ai Go.Shelf Go.RowKit
set_option linter.unusedSimpArgs false
set_option linter.unusedVariables false
set_option maxHeartbeats 1000000
set_option maxRecDepth 100000
def f8t : ACode := tl (tl (tl (tl f8.body)))
theorem f8e : f8.body = .seq (hd f8.body) (.seq (hd (tl f8.body)) (.seq (hd (tl (tl f8.body))) (.seq (hd (tl (tl (tl f8.body)))) f8t))) := rfl
def upT (n : List UInt8) (j : Nat) : List UInt8 := up (n.take j) ++ n.drop j
theorem upT_len (n : List UInt8) (j : Nat) : (upT n j).length = n.length := by simp [upT, up]; omega
theorem upT_get (n : List UInt8) (j : Nat) (h : j < n.length) : (upT n j).getD j 0 = n.getD j 0 := by
  unfold upT
  have hl : (up (n.take j)).length = j := by simp [up]; omega
  rw [List.getD_eq_getElem?_getD, List.getD_eq_getElem?_getD, List.getElem?_append_right (by omega), hl, Nat.sub_self, List.getElem?_drop, Nat.add_zero]
theorem upT_set (n : List UInt8) (j : Nat) (h : j < n.length) : (upT n j).set j (Lib.upperB (n.getD j 0)) = upT n (j + 1) := by
  unfold upT
  have hl : (up (n.take j)).length = j := by simp [up]; omega
  rw [List.set_append_right _ _ (by omega), hl, Nat.sub_self, drop_by n j h, List.set_cons_zero, take_getD h 0]
  simp [up]
theorem upT_skip (n : List UInt8) (j : Nat) (h : j < n.length) (hu : Lib.upperB (n.getD j 0) = n.getD j 0) : upT n j = upT n (j + 1) := by
  rw [← upT_set n j h, hu]
  have : (upT n j).getD j 0 = n.getD j 0 := upT_get n j h
  rw [← this]
  refine (List.ext_getElem? fun i => ?_).symm
  rw [List.getElem?_set]
  split
  · rename_i e; subst e
    rw [if_pos (by rw [upT_len]; exact h), List.getD_eq_getElem?_getD, List.getElem?_eq_getElem (by rw [upT_len]; exact h)]
    rfl
  · rfl
theorem optG {bs : List UInt8} {i : Nat} {K : List DV → Prop} (h : i < bs.length) (hk : K [.int .u8 (bs.getD i 0).toNat]) : optP (byv bs)[i]? K := by
  unfold byv
  rw [optP_map]
  exact optP_at 0 h hk
theorem caps_tail (L : List (Nat × DV)) (n value : List UInt8) (group : Bool) (n' : List UInt8) (h2 : n = 120 :: n') (hn : ∀ x ∈ n, isS x = true) (hl : n.length ≤ 12) (hv : value.length ≤ 100)
    (h7 : slots L 7 = .str n) (h1 : slots L 1 = .str value) (hg : slots L 2 = .bool group) : goN ED 0 (fin 0 f8.res fun h d => h = [] ∧ d = .bool true) [] f8t L [] := by
  simp only [f8t, f8, tl_seq, h7, h1, hg, ↓gos, gop, Nat.reduceBEq, Nat.reduceAdd, Nat.reduceSub, Nat.reduceLeDiff, Nat.reduceMul, Int.reduceLE, Int.reduceLT, Int.reduceNe, Int.reduceToNat]
  refine goN_lp (γ := Nat) (fun j => [(46, .int .i64 j), (45, .int .i64 n.length), (44, .osl 1 0 0 n.length none), (9, .osl 1 0 0 n.length none), (7, .str n), (1, .str value), (2, .bool group)]) (fun j => [.arr 1 (byv (upT n j))]) (fun j => j ≤ n.length) (fun j => n.length - j) 0
    (wks rfl (by simp) ⟨rfl, rfl, rfl, rfl, h7, h1, hg, trivial⟩) (by omega) fun j hj => ?_
  have hul := upT_len n j
  simp only [f8l1, ↓gos, gop, Nat.reduceBEq, Nat.reduceAdd, Nat.reduceSub, Nat.reduceLeDiff, Nat.reduceMul, Int.reduceLE, Int.reduceLT, Int.reduceNe, Int.reduceToNat]
  refine ⟨fun a1 => ?_, fun a1 => ?_⟩
  · have hj : j < n.length := by omega
    have hge := upT_get n j hj
    have hup := up_nat (n.getD j 0)
    have hset := upT_set n j hj
    have hskip := upT_skip n j hj
    have hci : (n.getD j 0).toNat < 256 := UInt8.toNat_lt _
    generalize n.getD j 0 = c at hge hup hset hskip hci
    refine ⟨by omega, optG (by omega) ?_⟩
    rw [hge]
    simp only [List.getElem?_cons_zero, ↓gos, gop, Nat.reduceBEq, Nat.reduceAdd, Nat.reduceSub, Nat.reduceLeDiff, Nat.reduceMul, Int.reduceLE, Int.reduceLT, Int.reduceNe, Int.reduceToNat]
    refine ⟨fun c1 => ⟨by omega, optG (by omega) ?_⟩, fun c1 => ?_⟩
    · rw [hge]
      simp only [List.getElem?_cons_zero, ↓gos, gop, Nat.reduceBEq, Nat.reduceAdd, Nat.reduceSub, Nat.reduceLeDiff, Nat.reduceMul, Int.reduceLE, Int.reduceLT, Int.reduceNe, Int.reduceToNat]
      refine ⟨fun c2 => ⟨by omega, optG (by omega) ?_⟩, fun c2 => ?_⟩
      · rw [hge]
        simp only [List.getElem?_cons_zero, ↓gos, gop, Nat.reduceBEq, Nat.reduceAdd, Nat.reduceSub, Nat.reduceLeDiff, Nat.reduceMul, Int.reduceLE, Int.reduceLT, Int.reduceNe, Int.reduceToNat]
        intro w hw
        have hw : w = ((Lib.upperB c).toNat : Int) := by
          rw [hw, hup, if_pos ⟨by omega, by omega⟩]
          rw [Go.Ai.wrap_u8 (by omega) (by omega)]; omega
        subst hw
        refine ⟨by omega, optG (by omega) ⟨by simp, fun v hv => ?_⟩⟩
        rw [wrap_i64 (by omega) (by omega)] at hv
        subst hv
        simp only [List.drop_succ_cons, List.drop_zero]
        rw [byv_set _ j (Lib.upperB c) _ rfl, hset]
        exact rnd_s (j + 1) rfl (by simp) ⟨rfl, rfl, rfl, rfl, rfl, rfl, rfl, trivial⟩ (by omega) (by omega)
      · intro v hv
        rw [wrap_i64 (by omega) (by omega)] at hv
        subst hv
        rw [hskip (UInt8.toNat_inj.1 (by rw [hup, if_neg (by omega)]))]
        exact rnd_s (j + 1) rfl (by simp) ⟨rfl, rfl, rfl, rfl, rfl, rfl, rfl, trivial⟩ (by omega) (by omega)
    · intro v hv
      rw [wrap_i64 (by omega) (by omega)] at hv
      subst hv
      rw [hskip (UInt8.toNat_inj.1 (by rw [hup, if_neg (by omega)]))]
      exact rnd_s (j + 1) rfl (by simp) ⟨rfl, rfl, rfl, rfl, rfl, rfl, rfl, trivial⟩ (by omega) (by omega)
  · have hje : j = n.length := by omega
    subst hje
    have hun : upT n n.length = up n := by simp [upT]
    rw [hun]
    refine call_any (line20 value (by omega)) rfl ⟨_, [], rfl, cl_nil, by simp⟩ fun d hd => ?_
    obtain ⟨v, rfl, hvc, hvl⟩ := hd
    refine ⟨rfl, ?_⟩
    have hsz : ∀ g, g.length ≤ 2 → (ended (textT g n v)).length ≤ 300 := fun g hg => by
      simp only [textT, rowT, ended, List.flatMap_cons, List.flatMap_nil, List.length_append, List.length_cons, List.length_nil]
      split <;> simp <;> omega
    cases group
    · simp only [↓gos, gop, Nat.reduceBEq, Nat.reduceAdd, Nat.reduceSub, Nat.reduceLeDiff, Nat.reduceMul, Int.reduceLE, Int.reduceLT, Int.reduceNe, Int.reduceToNat]
      refine ⟨?_, ?_, ?_, ?_, ?_, ?_, ?_, ?_, ?_⟩
      any_goals first | omega | (simp; omega)
      have hrd := text_read [] n v (by decide) (.inl rfl) n' h2 hn hvc (by have := hsz [] (by simp); omega)
      have hr := read18 (ended (textT [] n v)) (by have := hsz [] (by simp); omega)
      rw [hrd] at hr
      generalize hE : ended (textT [] n v) = E at hr
      simp only [textT, rowT, ended, List.flatMap_cons, List.flatMap_nil, List.cons_append, List.append_assoc, List.nil_append, if_true, List.append_nil, List.cons_ne_nil, reduceCtorEq, if_false] at hE
      subst hE
      simp only [List.cons_append, List.append_assoc, List.nil_append]
      refine call_new hr (by simp [DV.closed]) ?_
      have hub : byv (up n) = List.map (fun b => [DV.int IntKind.u8 b.toNat]) (up n) := rfl
      have hul2 : (up n).length = n.length := by simp [up]
      simp only [cv, pv, av, DV.ren, DV.ren.renAll, renO, ↓gos, gop, Nat.reduceBEq, Nat.reduceAdd, Nat.reduceSub, Nat.reduceLeDiff, Nat.reduceMul, Int.reduceLE, Int.reduceLT, Int.reduceNe, Int.reduceToNat]
      refine .inr ⟨_, rfl, by simp [byv, up], up n, by rw [List.take_of_length_le (by simp [byv, up])]; rfl, .inr ⟨_, rfl, by simp [byv, up], up n, by rw [List.take_of_length_le (by simp [byv, up])]; rfl, ?_⟩⟩
      refine call_ret awake19 rfl rfl ?_
      simp only [↓gos, gop, Nat.reduceBEq, Nat.reduceAdd, Nat.reduceSub, Nat.reduceLeDiff, Nat.reduceMul, Int.reduceLE, Int.reduceLT, Int.reduceNe, Int.reduceToNat]
      have hsame := same21 [[⟨[], up n, [(up n, n)], v⟩]] [[⟨[], up n, [(up n, n)], v⟩]] (by simp) (by simp) (fun c hc => by rw [List.mem_singleton.1 hc]; exact ⟨by simp, fun p hp => by rw [List.mem_singleton.1 hp]; simp <;> omega⟩) (fun c hc => by rw [List.mem_singleton.1 hc]; exact ⟨by simp, fun p hp => by rw [List.mem_singleton.1 hp]; simp <;> omega⟩)
      refine call_ret hsame ?_ rfl ?_
      · rw [List.map_cons, List.map_cons, List.map_cons, List.map_nil, dn_osl (es := [cv [⟨[], up n, [(up n, n)], v⟩]]) (by rfl) (by simp), dn_osl (es := [cv [⟨[], up n, [(up n, n)], v⟩]]) (by rfl) (by simp)]
        rfl
      · rw [decide_eq_true rfl]
        simp only [↓gos, gop, Nat.reduceBEq, Nat.reduceAdd, Nat.reduceSub, Nat.reduceLeDiff, Nat.reduceMul, Int.reduceLE, Int.reduceLT, Int.reduceNe, Int.reduceToNat]
        exact endb rfl
    · simp only [↓gos, gop, Nat.reduceBEq, Nat.reduceAdd, Nat.reduceSub, Nat.reduceLeDiff, Nat.reduceMul, Int.reduceLE, Int.reduceLT, Int.reduceNe, Int.reduceToNat]
      refine ⟨?_, ?_, ?_, ?_, ?_, ?_, ?_, ?_, ?_⟩
      any_goals first | omega | (simp; omega)
      have hrd := text_read [103, 82] n v (by decide) (.inr ⟨_, rfl⟩) n' h2 hn hvc (by have := hsz [103, 82] (by simp); omega)
      have hr := read18 (ended (textT [103, 82] n v)) (by have := hsz [103, 82] (by simp); omega)
      rw [hrd] at hr
      generalize hE : ended (textT [103, 82] n v) = E at hr
      simp only [textT, rowT, ended, List.flatMap_cons, List.flatMap_nil, List.cons_append, List.append_assoc, List.nil_append, if_true, List.append_nil, List.cons_ne_nil, reduceCtorEq, if_false] at hE
      subst hE
      simp only [List.cons_append, List.append_assoc, List.nil_append]
      refine call_new hr (by simp [DV.closed]) ?_
      have hub : byv (up n) = List.map (fun b => [DV.int IntKind.u8 b.toNat]) (up n) := rfl
      have hul2 : (up n).length = n.length := by simp [up]
      simp only [cv, pv, av, DV.ren, DV.ren.renAll, renO, ↓gos, gop, Nat.reduceBEq, Nat.reduceAdd, Nat.reduceSub, Nat.reduceLeDiff, Nat.reduceMul, Int.reduceLE, Int.reduceLT, Int.reduceNe, Int.reduceToNat]
      refine .inr ⟨_, rfl, by simp [byv, up], up n, by rw [List.take_of_length_le (by simp [byv, up])]; rfl, .inr ⟨_, rfl, by simp [byv, up], up n, by rw [List.take_of_length_le (by simp [byv, up])]; rfl, ?_⟩⟩
      refine call_ret awake19 rfl rfl ?_
      simp only [↓gos, gop, Nat.reduceBEq, Nat.reduceAdd, Nat.reduceSub, Nat.reduceLeDiff, Nat.reduceMul, Int.reduceLE, Int.reduceLT, Int.reduceNe, Int.reduceToNat]
      have hsame := same21 [[⟨[103, 82], up n, [(up n, n)], v⟩]] [[⟨[103, 82], up n, [(up n, n)], v⟩]] (by simp) (by simp) (fun c hc => by rw [List.mem_singleton.1 hc]; exact ⟨by simp, fun p hp => by rw [List.mem_singleton.1 hp]; simp <;> omega⟩) (fun c hc => by rw [List.mem_singleton.1 hc]; exact ⟨by simp, fun p hp => by rw [List.mem_singleton.1 hp]; simp <;> omega⟩)
      refine call_ret hsame ?_ rfl ?_
      · rw [List.map_cons, List.map_cons, List.map_cons, List.map_nil, dn_osl (es := [cv [⟨[103, 82], up n, [(up n, n)], v⟩]]) (by rfl) (by simp), dn_osl (es := [cv [⟨[103, 82], up n, [(up n, n)], v⟩]]) (by rfl) (by simp)]
        rfl
      · rw [decide_eq_true rfl]
        simp only [↓gos, gop, Nat.reduceBEq, Nat.reduceAdd, Nat.reduceSub, Nat.reduceLeDiff, Nat.reduceMul, Int.reduceLE, Int.reduceLT, Int.reduceNe, Int.reduceToNat]
        exact endb rfl
theorem caps8 (name value : List UInt8) (group : Bool) (hn : name.length < 9223372036854775808) : DRet 8 [.str name, .str value, .bool group] (.bool true) := by
  refine acalls_go c8 (by simp [f8]) ?_
  rw [f8e]
  simp only [f8, hd_seq, tl_seq, ↓gos, gop, Nat.reduceBEq, Nat.reduceAdd, Nat.reduceSub, Nat.reduceLeDiff, Nat.reduceMul, Int.reduceLE, Int.reduceLT, Int.reduceNe, Int.reduceToNat]
  refine ⟨fun _ => call_ret awake19 rfl rfl ?_, fun hv => ?_⟩
  · simp only [↓gos, gop, Nat.reduceBEq, Nat.reduceAdd, Nat.reduceSub, Nat.reduceLeDiff, Nat.reduceMul, Int.reduceLE, Int.reduceLT, Int.reduceNe, Int.reduceToNat]
    exact endb rfl
  refine goN_lp (γ := Nat) (fun i => [(8, .int .i64 i), (7, .str (nameT name i)), (0, .str name), (1, .str value), (2, .bool group)]) (fun _ => []) (fun i => i ≤ name.length ∧ i ≤ 10) (fun i => 10 - i) 0
    (wks rfl (by simp) ⟨rfl, rfl, rfl, rfl, rfl, trivial⟩) (by omega) fun i hi => ?_
  have hnl : (nameT name i).length ≤ i + 1 := by simp [nameT]; omega
  simp only [f8l0, ↓gos, gop, Nat.reduceBEq, Nat.reduceAdd, Nat.reduceSub, Nat.reduceLeDiff, Nat.reduceMul, Int.reduceLE, Int.reduceLT, Int.reduceNe, Int.reduceToNat]
  have hend : ∀ L : List (Nat × DV), slots L 7 = .str (nameT name i) → slots L 1 = .str value → slots L 2 = .bool group → goN ED 0 (fin 0 f8.res fun h d => h = [] ∧ d = .bool true) [] f8t L [] := fun L g7 g1 g2 =>
    caps_tail L (nameT name i) value group _ rfl (nameT_sgn name i) (by omega) (by omega) g7 g1 g2
  refine ⟨fun a1 => ⟨fun a2 => ?_, fun a2 => ?_⟩, fun a1 => ?_⟩
  · refine ⟨by omega, fun u hu u1 hu1 => ?_⟩
    have hlt : (name.getD i 0).toNat < 256 := UInt8.toNat_lt _
    have hbt : bt name i = ((name.getD i 0).toNat : Int) := rfl
    rw [hbt, wrap_i64 (by omega) (by omega)] at hu
    subst hu
    have hu1 : u1 = (((name.getD i 0).toNat % 8 : Nat) : Int) := by rw [hu1]; rfl
    subst hu1
    have hnx := nameT_next name i (by omega)
    refine ⟨by omega, by omega, .inr ⟨_, rfl, by simp, [T8.getD ((name.getD i 0).toNat % 8) 0], rfl, by simp; omega, fun w hw => ?_⟩⟩
    rw [wrap_i64 (by omega) (by omega)] at hw
    subst hw
    rw [← hnx]
    exact rnd_d 0 (i + 1) rfl (by simp) ⟨rfl, rfl, rfl, rfl, rfl, rfl, rfl, rfl, rfl, rfl, trivial⟩ rfl (by omega) (by omega)
  · exact hend _ rfl rfl rfl
  · exact hend _ rfl rfl rfl
end Go.Proofs.Ut
