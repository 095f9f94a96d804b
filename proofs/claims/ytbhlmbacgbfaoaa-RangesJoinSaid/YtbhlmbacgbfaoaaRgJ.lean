import Derived.Test.YtbhlmbacgbfaoaaRgI
set_option linter.all false
namespace Go.Proofs.Rg
open Go.Ai Classical
set_option linter.unusedSimpArgs false
set_option maxHeartbeats 1000000
set_option maxRecDepth 100000
def tb : List (List (Int × Int)) := [prs lettersL, prs bannedL, prs rightLeftL, prs goneL]
def rtB : List (Int × Int) → Bool
  | [] => true
  | [r] => decide (r.1 ≤ r.2)
  | r :: s :: l => decide (r.1 ≤ r.2) && decide (r.2 < s.1) && rtB (s :: l)
theorem rtB_ok : ∀ {l : List (Int × Int)}, rtB l = true → Rt l
  | [], _ => rt_nil
  | [r], h => rt_one (by simpa [rtB] using h)
  | r :: s :: l, h => by
    simp only [rtB, Bool.and_eq_true, decide_eq_true_eq] at h
    have ih := rtB_ok h.2
    intro j hj
    rcases j with _ | j
    · exact ⟨h.1.1, fun q => by omega⟩
    · have := ih j (by simpa using hj)
      refine ⟨by simpa using this.1, fun _ => ?_⟩
      rcases j with _ | j
      · exact h.1.2
      · have := this.2 (by omega)
        simpa using this
theorem tb_ok : ∀ l ∈ tb, Rt l ∧ l.length < 100 := fun l hl => by
  have : ∀ l ∈ tb, rtB l = true ∧ l.length < 100 := by decide
  exact ⟨rtB_ok (this l hl).1, (this l hl).2⟩
theorem tables_calls (c : Int) : Ret 6 [.int .i64 c] (.bool true) := by
  refine acalls_go c6 (by simp [f6]) ?_
  simp only [f6, ↓gos, gop, Nat.reduceBEq, Nat.reduceAdd, Nat.reduceSub, Nat.reduceLeDiff, Nat.reduceMul, Int.reduceLE, Int.reduceLT, Int.reduceNe, Int.reduceToNat]
  intro v1 hv1 v2 hv2 x hx
  refine call_lend letters18_calls rfl (free_row _) ?_
  simp only [DV.ren, renO, ↓gos, gop, Nat.reduceBEq, Nat.reduceAdd, Nat.reduceSub, Nat.reduceLeDiff, Nat.reduceMul, Int.reduceLE, Int.reduceLT, Int.reduceNe, Int.reduceToNat]
  refine call_lend banned19_calls rfl (free_row _) ?_
  simp only [DV.ren, renO, ↓gos, gop, Nat.reduceBEq, Nat.reduceAdd, Nat.reduceSub, Nat.reduceLeDiff, Nat.reduceMul, Int.reduceLE, Int.reduceLT, Int.reduceNe, Int.reduceToNat]
  refine call_lend rightLeft20_calls rfl (free_row _) ?_
  simp only [DV.ren, renO, ↓gos, gop, Nat.reduceBEq, Nat.reduceAdd, Nat.reduceSub, Nat.reduceLeDiff, Nat.reduceMul, Int.reduceLE, Int.reduceLT, Int.reduceNe, Int.reduceToNat]
  refine call_lend gone21_calls rfl (free_row _) ?_
  simp only [DV.ren, renO, ↓gos, gop, Nat.reduceBEq, Nat.reduceAdd, Nat.reduceSub, Nat.reduceLeDiff, Nat.reduceMul, Int.reduceLE, Int.reduceLT, Int.reduceNe, Int.reduceToNat]
  refine call_lend letters22_calls rfl (free_row _) ?_
  simp only [DV.ren, renO, ↓gos, gop, Nat.reduceBEq, Nat.reduceAdd, Nat.reduceSub, Nat.reduceLeDiff, Nat.reduceMul, Int.reduceLE, Int.reduceLT, Int.reduceNe, Int.reduceToNat]
  refine call_lend banned23_calls rfl (free_row _) ?_
  simp only [DV.ren, renO, ↓gos, gop, Nat.reduceBEq, Nat.reduceAdd, Nat.reduceSub, Nat.reduceLeDiff, Nat.reduceMul, Int.reduceLE, Int.reduceLT, Int.reduceNe, Int.reduceToNat]
  refine call_lend rightLeft24_calls rfl (free_row _) ?_
  simp only [DV.ren, renO, ↓gos, gop, Nat.reduceBEq, Nat.reduceAdd, Nat.reduceSub, Nat.reduceLeDiff, Nat.reduceMul, Int.reduceLE, Int.reduceLT, Int.reduceNe, Int.reduceToNat]
  refine call_lend gone25_calls rfl (free_row _) ?_
  simp only [DV.ren, renO, ↓gos, gop, Nat.reduceBEq, Nat.reduceAdd, Nat.reduceSub, Nat.reduceLeDiff, Nat.reduceMul, Int.reduceLE, Int.reduceLT, Int.reduceNe, Int.reduceToNat]
  refine goN_lp (γ := Nat) (fun i => [(0, .int .i64 x), (3, .osl 1 4 0 4 none), (4, .osl 1 9 0 4 none), (5, .int .i64 i)]) (fun i => [.dead, .dead, .dead, .dead, .arr 1 (tb.map fun l => [.sl 2 (l.map rg)]), .dead, .dead, .dead, .dead, .arr 1 (tb.map fun l => [.sl 2 (l.map rg)])]) (fun i => i ≤ 4) (fun i => 4 - i) 0
    (wks rfl (Nat.zero_le _) ⟨rfl, rfl, rfl, rfl, trivial⟩) (by omega) fun i hi => ?_
  simp only [f6l0, ↓gos, gop, Nat.reduceBEq, Nat.reduceAdd, Nat.reduceSub, Nat.reduceLeDiff, Nat.reduceMul, Int.reduceLE, Int.reduceLT, Int.reduceNe, Int.reduceToNat]
  have h4 : tb.length = 4 := rfl
  refine ⟨fun h1 => ?_, fun h1 => ?_⟩
  · obtain ⟨l, hg⟩ : ∃ l, tb[i]? = some l := ⟨_, List.getElem?_eq_getElem (show i < tb.length by omega)⟩
    obtain ⟨hr, hl⟩ := tb_ok l (List.mem_of_getElem? hg)
    refine ⟨by omega, optP_in l hg ⟨by omega, optP_in l hg ?_⟩⟩
    refine call_ret (plain_calls l l (by omega) (by omega)) rfl rfl ?_
    simp only [decide_true, ↓gos, gop, Nat.reduceBEq, Nat.reduceAdd, Nat.reduceSub, Nat.reduceLeDiff, Nat.reduceMul, Int.reduceLE, Int.reduceLT, Int.reduceNe, Int.reduceToNat]
    refine ⟨by omega, optP_in l hg ?_⟩
    refine call_ret (right_calls l (by omega)) rfl rfl ?_
    simp only [hr, decide_true, ↓gos, gop, Nat.reduceBEq, Nat.reduceAdd, Nat.reduceSub, Nat.reduceLeDiff, Nat.reduceMul, Int.reduceLE, Int.reduceLT, Int.reduceNe, Int.reduceToNat]
    refine ⟨by omega, optP_in l hg ?_⟩
    refine call_ret (in_calls l x (by omega)) rfl rfl ?_
    simp only [↓gos, gop, Nat.reduceBEq, Nat.reduceAdd, Nat.reduceSub, Nat.reduceLeDiff, Nat.reduceMul, Int.reduceLE, Int.reduceLT, Int.reduceNe, Int.reduceToNat]
    refine ⟨by omega, optP_in l hg ?_⟩
    refine call_ret (in2_calls l x (by omega)) rfl rfl ?_
    have fin : ∀ (L : List (Nat × DV)), slots L 0 = .int .i64 x → slots L 3 = .osl 1 4 0 4 none → slots L 4 = .osl 1 9 0 4 none → ∀ v : Int, v = IntKind.i64.wrap (i + 1) → slots L 5 = .int .i64 v →
        rnd 0 (fun i : Nat => [(0, .int .i64 x), (3, .osl 1 4 0 4 none), (4, .osl 1 9 0 4 none), (5, .int .i64 i)]) (fun i => [.dead, .dead, .dead, .dead, .arr 1 (tb.map fun l => [.sl 2 (l.map rg)]), .dead, .dead, .dead, .dead, .arr 1 (tb.map fun l => [.sl 2 (l.map rg)])]) (fun i => i ≤ 4) (fun i => 4 - i) (4 - i)
          (sta L [.dead, .dead, .dead, .dead, .arr 1 (tb.map fun l => [.sl 2 (l.map rg)]), .dead, .dead, .dead, .dead, .arr 1 (tb.map fun l => [.sl 2 (l.map rg)])]) := fun L h0 h3 h4 v hv h5 => by
      rw [wrap_i64 (by omega) (by omega)] at hv
      exact rnd_s (i + 1) rfl (Nat.zero_le _) ⟨h0, h3, h4, by rw [h5, hv]; rfl, trivial⟩ (by omega) (by omega)
    cases (l.any (hasB · x))
    · simp only [beq_self_eq_true, ↓gos, gop, Nat.reduceBEq, Nat.reduceAdd, Nat.reduceSub, Nat.reduceLeDiff, Nat.reduceMul, Int.reduceLE, Int.reduceLT, Int.reduceNe, Int.reduceToNat]
      exact fun v hv => fin _ rfl rfl rfl v hv rfl
    · simp only [beq_self_eq_true, ↓gos, gop, Nat.reduceBEq, Nat.reduceAdd, Nat.reduceSub, Nat.reduceLeDiff, Nat.reduceMul, Int.reduceLE, Int.reduceLT, Int.reduceNe, Int.reduceToNat]
      exact fun v hv => fin _ rfl rfl rfl v hv rfl
  · refine call_ret awake_calls rfl rfl ?_
    simp only [↓gos, gop, Nat.reduceBEq, Nat.reduceAdd, Nat.reduceSub, Nat.reduceLeDiff, Nat.reduceMul, Int.reduceLE, Int.reduceLT, Int.reduceNe, Int.reduceToNat]
    exact endb rfl
theorem own_dn {h : List AObj} {i : Nat} {l : List (Int × Int)} {m : Int × Int} {c : Option Nat} (hi : h[i]? = some (.arr 2 ((l ++ [m, m, m]).map rg))) : DV.dn [] h (.osl 2 i 0 l.length c) = .sl 2 (l.map rg) := by
  rw [dn_oslc hi (by simp)]
  simp
theorem sl_dn {h : List AObj} {ls : List Nat} {sz : Nat} {es : List (List DV)} : DV.dn ls h (.sl sz es) = .sl sz es := rfl
theorem int_dn {h : List AObj} {ls : List Nat} {k : IntKind} {n : Int} : DV.dn ls h (.int k n) = .int k n := rfl
theorem free_own (l : List (Int × Int)) (n : Nat) (c : Option Nat) : ((DV.osl 2 0 0 n c).free && [AObj.arr 2 (l.map rg)].all freeO) = true := by simp [DV.free, freeO, rg]
theorem fr_join (a b : List (Int × Int)) (h' : List AObj) (d : DV) (hp : ∃ J, JoinR a b J ∧ h' = [.arr 2 (J.map rg)] ∧ d = .osl 2 0 0 J.length none) : (d.free && h'.all freeO) = true := by
  obtain ⟨J, hJ, rfl, rfl⟩ := hp
  exact free_row J
theorem tell_calls (a b : List (Int × Int)) (c : Int) (hai : ∀ r ∈ a, I64 r) (hbi : ∀ r ∈ b, I64 r) : Ret 3 [.sl 2 (a.map rg), .sl 2 (b.map rg), .int .i64 c] (.bool true) := by
  refine acalls_go c3 (by simp [f3]) ?_
  simp only [f3, ↓gos, gop, Nat.reduceBEq, Nat.reduceAdd, Nat.reduceSub, Nat.reduceLeDiff, Nat.reduceMul, Int.reduceLE, Int.reduceLT, Int.reduceNe, Int.reduceToNat]
  refine ⟨fun h1 => ?_, fun h1 => ⟨fun h2 => ?_, fun h2 => ?_⟩⟩
  · refine call_ret awake_calls rfl rfl ?_
    simp only [↓gos, gop, Nat.reduceBEq, Nat.reduceAdd, Nat.reduceSub, Nat.reduceLeDiff, Nat.reduceMul, Int.reduceLE, Int.reduceLT, Int.reduceNe, Int.reduceToNat]
    exact endb rfl
  · refine call_ret awake_calls rfl rfl ?_
    simp only [↓gos, gop, Nat.reduceBEq, Nat.reduceAdd, Nat.reduceSub, Nat.reduceLeDiff, Nat.reduceMul, Int.reduceLE, Int.reduceLT, Int.reduceNe, Int.reduceToNat]
    exact endb rfl
  · have ha : a.length < 100000000 := by omega
    have hb : b.length < 100000000 := by omega
    refine call_lend (own_calls a (71, 0) (by omega)) rfl (free_own _ _ _) ?_
    simp only [DV.ren, renO, ↓gos, gop, Nat.reduceBEq, Nat.reduceAdd, Nat.reduceSub, Nat.reduceLeDiff, Nat.reduceMul, Int.reduceLE, Int.reduceLT, Int.reduceNe, Int.reduceToNat]
    refine call_lend (own_calls b (72, 0) (by omega)) rfl (free_own _ _ _) ?_
    simp only [DV.ren, renO, ↓gos, gop, Nat.reduceBEq, Nat.reduceAdd, Nat.reduceSub, Nat.reduceLeDiff, Nat.reduceMul, Int.reduceLE, Int.reduceLT, Int.reduceNe, Int.reduceToNat]
    refine call_ret awake_calls rfl rfl ?_
    simp only [↓gos, gop, Nat.reduceBEq, Nat.reduceAdd, Nat.reduceSub, Nat.reduceLeDiff, Nat.reduceMul, Int.reduceLE, Int.reduceLT, Int.reduceNe, Int.reduceToNat]
    refine call_ret (right_calls a (by omega)) (by rw [List.map_cons, own_dn rfl, List.map_nil]) rfl ?_
    simp only [↓gos, gop, Nat.reduceBEq, Nat.reduceAdd, Nat.reduceSub, Nat.reduceLeDiff, Nat.reduceMul, Int.reduceLE, Int.reduceLT, Int.reduceNe, Int.reduceToNat]
    refine call_ret (right2_calls a (by omega)) rfl rfl ?_
    generalize (decide (Rt a)) = bb
    simp only [beq_self_eq_true, ↓gos, gop, Nat.reduceBEq, Nat.reduceAdd, Nat.reduceSub, Nat.reduceLeDiff, Nat.reduceMul, Int.reduceLE, Int.reduceLT, Int.reduceNe, Int.reduceToNat]
    refine call_ret (in_calls a c (by omega)) (by rw [List.map_cons, own_dn rfl]; rfl) rfl ?_
    simp only [↓gos, gop, Nat.reduceBEq, Nat.reduceAdd, Nat.reduceSub, Nat.reduceLeDiff, Nat.reduceMul, Int.reduceLE, Int.reduceLT, Int.reduceNe, Int.reduceToNat]
    refine call_ret (in2_calls a c (by omega)) rfl rfl ?_
    generalize (a.any (hasB · c)) = bb2
    simp only [beq_self_eq_true, ↓gos, gop, Nat.reduceBEq, Nat.reduceAdd, Nat.reduceSub, Nat.reduceLeDiff, Nat.reduceMul, Int.reduceLE, Int.reduceLT, Int.reduceNe, Int.reduceToNat]
    refine call_lendP (join_calls a b ha hb hai hbi) (by rw [List.map_cons, own_dn (i := 0) rfl, List.map_cons, own_dn (i := 1) rfl]; rfl) (fr_join _ _) fun h' d hp => ?_
    obtain ⟨J, hJ, rfl, rfl⟩ := hp
    simp only [DV.ren, renO, ↓gos, gop, Nat.reduceBEq, Nat.reduceAdd, Nat.reduceSub, Nat.reduceLeDiff, Nat.reduceMul, Int.reduceLE, Int.reduceLT, Int.reduceNe, Int.reduceToNat]
    refine call_lendP (join2_calls a b ha hb hai hbi) rfl (fr_join _ _) fun h' d hp => ?_
    obtain ⟨K, hK, rfl, rfl⟩ := hp
    obtain rfl := joinR_unique hJ hK
    have hJl := joinR_len hJ
    simp only [DV.ren, renO, ↓gos, gop, Nat.reduceBEq, Nat.reduceAdd, Nat.reduceSub, Nat.reduceLeDiff, Nat.reduceMul, Int.reduceLE, Int.reduceLT, Int.reduceNe, Int.reduceToNat]
    refine call_ret (plain_calls J J (by omega) (by omega)) (by rw [List.map_cons, dn_osl (i := 2) rfl (by simp), List.map_cons, dn_osl (i := 3) rfl (by simp)]; rfl) rfl ?_
    simp only [decide_true, ↓gos, gop, Nat.reduceBEq, Nat.reduceAdd, Nat.reduceSub, Nat.reduceLeDiff, Nat.reduceMul, Int.reduceLE, Int.reduceLT, Int.reduceNe, Int.reduceToNat]
    have kfree : ∀ (l : List (Int × Int)) (m : Int × Int) (h' : List AObj) (d : DV), h' = [AObj.arr 2 ((l ++ [m, m, m]).map rg)] ∧ d = .bool true → (d.free && h'.all freeO) = true := fun l m h' d hp => by
      obtain ⟨rfl, rfl⟩ := hp
      simp [DV.free, freeO, rg]
    refine call_in1k (i := 0) rfl (kept_calls a (71, 0) (by omega)) (by simp [DV.dn, DV.low, DV.low.lowAll, rg]) (kfree _ _) fun h' d hp => ?_
    obtain ⟨rfl, rfl⟩ := hp
    refine ⟨_, rfl, rfl, ?_⟩
    simp only [↓kilS_cons, ↓kilS_nil, ↓kilH_arr, ↓kilH_nil, ↓gos, gop, Nat.reduceBEq, Nat.reduceAdd, Nat.reduceSub, Nat.reduceLeDiff, Nat.reduceMul, Int.reduceLE, Int.reduceLT, Int.reduceNe, Int.reduceToNat]
    refine call_in1k (i := 1) rfl (kept_calls b (72, 0) (by omega)) (by simp [DV.dn, DV.low, DV.low.lowAll, rg]) (kfree _ _) fun h' d hp => ?_
    obtain ⟨rfl, rfl⟩ := hp
    refine ⟨_, rfl, rfl, ?_⟩
    simp only [↓kilS_cons, ↓kilS_nil, ↓kilH_arr, ↓kilH_nil, ↓gos, gop, Nat.reduceBEq, Nat.reduceAdd, Nat.reduceSub, Nat.reduceLeDiff, Nat.reduceMul, Int.reduceLE, Int.reduceLT, Int.reduceNe, Int.reduceToNat]
    exact endb rfl
theorem spr_i64 {L : List (Int × Int)} {a : Int} (h : Spr L a 30) : ∀ r ∈ L, I64 r := fun r hr => by
  have h1 := h.lo r hr
  have h2 := rt_le h.rt r hr
  have h3 := h.at0
  have h4 := h.atk
  unfold I64; omega
theorem joinlaw_calls (x y : List Int) : Ret 4 [.sl 1 (x.map num), .sl 1 (y.map num)] (.bool true) := by
  refine acalls_go c4 (by simp [f4]) ?_
  simp only [f4, ↓gos, gop, Nat.reduceBEq, Nat.reduceAdd, Nat.reduceSub, Nat.reduceLeDiff, Nat.reduceMul, Int.reduceLE, Int.reduceLT, Int.reduceNe, Int.reduceToNat]
  have sfree : ∀ (h' : List AObj) (d : DV), (∃ L a, Spr L a 30 ∧ h' = [.arr 2 (L.map rg)] ∧ d = .osl 2 0 0 L.length none) → (d.free && h'.all freeO) = true := fun h' d hp => by
    obtain ⟨L, a, _, rfl, rfl⟩ := hp
    exact free_row L
  refine call_lendP (spread_calls x) rfl sfree fun h' d hp => ?_
  obtain ⟨a, na, hA, rfl, rfl⟩ := hp
  simp only [DV.ren, renO, ↓gos, gop, Nat.reduceBEq, Nat.reduceAdd, Nat.reduceSub, Nat.reduceLeDiff, Nat.reduceMul, Int.reduceLE, Int.reduceLT, Int.reduceNe, Int.reduceToNat]
  refine call_lendP (spread_calls y) rfl sfree fun h' d hp => ?_
  obtain ⟨b, nb, hB, rfl, rfl⟩ := hp
  simp only [DV.ren, renO, ↓gos, gop, Nat.reduceBEq, Nat.reduceAdd, Nat.reduceSub, Nat.reduceLeDiff, Nat.reduceMul, Int.reduceLE, Int.reduceLT, Int.reduceNe, Int.reduceToNat]
  have la := hA.len
  have lb := hB.len
  refine call_lendP (join_calls a b (by omega) (by omega) (spr_i64 hA) (spr_i64 hB)) (by rw [List.map_cons, dn_osl (i := 0) rfl (by simp), List.map_cons, dn_osl (i := 1) rfl (by simp)]; rfl) (fr_join _ _) fun h' d hp => ?_
  obtain ⟨J, hJ, rfl, rfl⟩ := hp
  have hR := joinR_right hJ hA.rt hB.rt
  have lJ := hR.2.2
  simp only [DV.ren, renO, ↓gos, gop, Nat.reduceBEq, Nat.reduceAdd, Nat.reduceSub, Nat.reduceLeDiff, Nat.reduceMul, Int.reduceLE, Int.reduceLT, Int.reduceNe, Int.reduceToNat]
  refine call_ret awake_calls rfl rfl ?_
  simp only [↓gos, gop, Nat.reduceBEq, Nat.reduceAdd, Nat.reduceSub, Nat.reduceLeDiff, Nat.reduceMul, Int.reduceLE, Int.reduceLT, Int.reduceNe, Int.reduceToNat]
  refine call_ret (right_calls J (by omega)) (by rw [List.map_cons, dn_osl (i := 2) rfl (by simp)]; rfl) rfl ?_
  simp only [decide_eq_true (norm_rt hR.1), ↓gos, gop, Nat.reduceBEq, Nat.reduceAdd, Nat.reduceSub, Nat.reduceLeDiff, Nat.reduceMul, Int.reduceLE, Int.reduceLT, Int.reduceNe, Int.reduceToNat]
  refine call_lendP (join_calls b a (by omega) (by omega) (spr_i64 hB) (spr_i64 hA)) (by rw [List.map_cons, dn_osl (i := 1) rfl (by simp), List.map_cons, dn_osl (i := 0) rfl (by simp)]; rfl) (fr_join _ _) fun h' d hp => ?_
  obtain ⟨K, hK, rfl, rfl⟩ := hp
  have hR2 := joinR_right hK hB.rt hA.rt
  obtain rfl : J = K := norm_unique _ _ hR.1 hR2.1 fun c => by rw [hR.2.1, hR2.2.1]; exact or_comm
  simp only [DV.ren, renO, ↓gos, gop, Nat.reduceBEq, Nat.reduceAdd, Nat.reduceSub, Nat.reduceLeDiff, Nat.reduceMul, Int.reduceLE, Int.reduceLT, Int.reduceNe, Int.reduceToNat]
  refine call_ret (plain_calls J J (by omega) (by omega)) (by rw [List.map_cons, dn_osl (i := 2) rfl (by simp), List.map_cons, dn_osl (i := 3) rfl (by simp)]; rfl) rfl ?_
  simp only [decide_true, ↓gos, gop, Nat.reduceBEq, Nat.reduceAdd, Nat.reduceSub, Nat.reduceLeDiff, Nat.reduceMul, Int.reduceLE, Int.reduceLT, Int.reduceNe, Int.reduceToNat]
  have hb : ∀ r ∈ J, 0 ≤ r.2 ∧ r.2 ≤ 300 := fun r hr => by
    have hle := hR.1.le r hr
    have a0 := hA.atk
    have b0 := hB.atk
    have key : ∀ (L : List (Int × Int)) (n : Int), Spr L n 30 → memR L r.2 → 0 ≤ r.2 ∧ r.2 ≤ 300 := fun L n hS ⟨q, hq, k1, k2⟩ => by
      have := hS.lo q hq
      have := hS.atk
      omega
    rcases (hR.2.1 r.2).1 ⟨r, hr, hle, Int.le_refl _⟩ with h | h
    · exact key a na hA h
    · exact key b nb hB h
  refine goN_lp (γ := Nat) (fun i => [(5, .osl 2 0 0 a.length none), (6, .osl 2 1 0 b.length none), (7, .osl 2 2 0 J.length none), (8, .int .i64 i)]) (fun _ => [.arr 2 (a.map rg), .arr 2 (b.map rg), .arr 2 (J.map rg), .arr 2 (J.map rg)]) (fun i => 1 ≤ i ∧ i ≤ J.length + 1) (fun i => J.length + 1 - i) 1
    (wks rfl (Nat.zero_le _) ⟨rfl, rfl, rfl, rfl, trivial⟩) (by omega) fun i hi => ?_
  simp only [f4l0, rg, ↓gos, gop, Nat.reduceBEq, Nat.reduceAdd, Nat.reduceSub, Nat.reduceLeDiff, Nat.reduceMul, Int.reduceLE, Int.reduceLT, Int.reduceNe, Int.reduceToNat]
  refine ⟨fun h1 => ?_, fun h1 => ?_⟩
  · have hj : i < J.length := by omega
    have hj' : i - 1 < J.length := by omega
    refine ⟨by omega, optP_in J[i] (List.getElem?_eq_getElem hj) fun v hv => ?_⟩
    rw [wrap_i64 (by omega) (by omega)] at hv
    have ev : v.toNat = i - 1 := by omega
    refine ⟨by omega, by omega, optP_in J[i - 1] (by rw [ev]; exact List.getElem?_eq_getElem hj') fun w hw => ?_⟩
    have hq := hb _ (List.getElem_mem hj')
    rw [wrap_i64 (by omega) (by omega)] at hw
    have hgap := (List.pairwise_iff_getElem.1 hR.1.gap) (i - 1) i hj' hj (by omega)
    refine ⟨fun h2 => by omega, fun h2 v2 hv2 => ?_⟩
    rw [wrap_i64 (by omega) (by omega)] at hv2
    exact rnd_s (i + 1) rfl (Nat.zero_le _) ⟨rfl, rfl, rfl, by show DV.int .i64 v2 = _; rw [hv2]; rfl, trivial⟩ (by omega) (by omega)
  · refine goN_lp (γ := Nat) (fun i => [(5, .osl 2 0 0 a.length none), (6, .osl 2 1 0 b.length none), (7, .osl 2 2 0 J.length none), (9, .int .i64 i)]) (fun _ => [.arr 2 (a.map rg), .arr 2 (b.map rg), .arr 2 (J.map rg), .arr 2 (J.map rg)]) (fun i => i ≤ 400) (fun i => 400 - i) 0
      (wks rfl (Nat.zero_le _) ⟨rfl, rfl, rfl, rfl, trivial⟩) (by omega) fun k hk => ?_
    simp only [f4l1, rg, ↓gos, gop, Nat.reduceBEq, Nat.reduceAdd, Nat.reduceSub, Nat.reduceLeDiff, Nat.reduceMul, Int.reduceLE, Int.reduceLT, Int.reduceNe, Int.reduceToNat]
    refine ⟨fun h2 => ?_, fun h2 => endb rfl⟩
    refine call_ret (in_calls J k (by omega)) (by rw [List.map_cons]; erw [dn_osl (es := J.map rg) (i := 2) rfl (by simp)]; rfl) rfl ?_
    simp only [↓gos, gop, Nat.reduceBEq, Nat.reduceAdd, Nat.reduceSub, Nat.reduceLeDiff, Nat.reduceMul, Int.reduceLE, Int.reduceLT, Int.reduceNe, Int.reduceToNat]
    refine call_ret (in_calls a k (by omega)) (by rw [List.map_cons]; erw [dn_osl (es := a.map rg) (i := 0) rfl (by simp)]; rfl) rfl ?_
    have e : J.any (hasB · k) = (a.any (hasB · k) || b.any (hasB · k)) := by
      rw [any_mem, any_mem, any_mem, Bool.eq_iff_iff, Bool.or_eq_true, decide_eq_true_iff, decide_eq_true_iff, decide_eq_true_iff]
      exact hR.2.1 k
    have fin : ∀ (L : List (Nat × DV)), slots L 5 = .osl 2 0 0 a.length none → slots L 6 = .osl 2 1 0 b.length none → slots L 7 = .osl 2 2 0 J.length none → ∀ v : Int, v = IntKind.i64.wrap (k + 1) → slots L 9 = .int .i64 v →
        rnd 0 (fun i : Nat => [(5, .osl 2 0 0 a.length none), (6, .osl 2 1 0 b.length none), (7, .osl 2 2 0 J.length none), (9, .int .i64 i)]) (fun _ => [.arr 2 (a.map rg), .arr 2 (b.map rg), .arr 2 (J.map rg), .arr 2 (J.map rg)]) (fun i => i ≤ 400) (fun i => 400 - i) (400 - k)
          (sta L [.arr 2 (a.map rg), .arr 2 (b.map rg), .arr 2 (J.map rg), .arr 2 (J.map rg)]) := fun L h0 h3 h4 v hv h5 => by
      rw [wrap_i64 (by omega) (by omega)] at hv
      exact rnd_s (k + 1) rfl (Nat.zero_le _) ⟨h0, h3, h4, by rw [h5, hv]; rfl, trivial⟩ (by omega) (by omega)
    cases h5 : a.any (hasB · k)
    · simp only [↓gos, gop, Nat.reduceBEq, Nat.reduceAdd, Nat.reduceSub, Nat.reduceLeDiff, Nat.reduceMul, Int.reduceLE, Int.reduceLT, Int.reduceNe, Int.reduceToNat]
      refine call_ret (in_calls b k (by omega)) (by rw [List.map_cons]; erw [dn_osl (es := b.map rg) (i := 1) rfl (by simp)]; rfl) rfl ?_
      rw [h5, Bool.false_or] at e
      rw [e]
      generalize b.any (hasB · k) = bb
      cases bb
      · simp only [beq_self_eq_true, ↓gos, gop, Nat.reduceBEq, Nat.reduceAdd, Nat.reduceSub, Nat.reduceLeDiff, Nat.reduceMul, Int.reduceLE, Int.reduceLT, Int.reduceNe, Int.reduceToNat]
        exact fun v hv => fin _ rfl rfl rfl v hv rfl
      · simp only [beq_self_eq_true, ↓gos, gop, Nat.reduceBEq, Nat.reduceAdd, Nat.reduceSub, Nat.reduceLeDiff, Nat.reduceMul, Int.reduceLE, Int.reduceLT, Int.reduceNe, Int.reduceToNat]
        exact fun v hv => fin _ rfl rfl rfl v hv rfl
    · rw [h5, Bool.true_or] at e
      simp only [e, beq_self_eq_true, ↓gos, gop, Nat.reduceBEq, Nat.reduceAdd, Nat.reduceSub, Nat.reduceLeDiff, Nat.reduceMul, Int.reduceLE, Int.reduceLT, Int.reduceNe, Int.reduceToNat]
      exact fun v hv => fin _ rfl rfl rfl v hv rfl
end Go.Proofs.Rg
