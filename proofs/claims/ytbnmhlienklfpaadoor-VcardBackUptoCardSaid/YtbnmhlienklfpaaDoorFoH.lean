/- A line may be folded anywhere between its characters. -/
import Derived.Test.YtbnmhlienklfpaaDoorFoG
set_option linter.all false
namespace Go.Proofs.Ut
open Go.Ai Classical Go.Shelf Go.RowKit
set_option linter.unusedSimpArgs false
set_option linter.unusedVariables false
set_option maxHeartbeats 1000000
set_option maxRecDepth 100000
/-- What is put ahead of a character. -/
def seek (n i : Nat) : List Int → Nat → Option UInt8
  | [], _ => none
  | c :: t, k => if 0 < i ∧ (IntKind.u64.wrap c).tmod (n : Int) = (i : Int) then some (if k % 2 = 0 then 32 else 9) else seek n i t (k + 1)
theorem seek_ok (n i : Nat) : ∀ (l : List Int) (k : Nat), seek n i l k = none ∨ seek n i l k = some 32 ∨ seek n i l k = some 9
  | [], k => .inl rfl
  | c :: t, k => by
    unfold seek
    split
    · split
      · exact .inr (.inl rfl)
      · exact .inr (.inr rfl)
    · exact seek_ok n i t (k + 1)
theorem seek_zero (n : Nat) : ∀ (l : List Int) (k : Nat), seek n 0 l k = none
  | [], _ => rfl
  | c :: t, k => by rw [seek, if_neg (by omega), seek_zero n t (k + 1)]
def its (R : List Nat) (n : Nat) (cuts : List Int) (i : Nat) : List (Option UInt8 × Nat) := (List.range i).map fun j => (seek n j (cuts.take 10) 0, R.getD j 0)
def ri (c : Nat) : List DV := [.int .i32 (c : Int)]
theorem its_next (R : List Nat) (n : Nat) (cuts : List Int) (i : Nat) : its R n cuts (i + 1) = its R n cuts i ++ [(seek n i (cuts.take 10) 0, R.getD i 0)] := by
  unfold its
  rw [List.range_succ, List.map_append]; rfl
theorem anywhere6 (s : List UInt8) (cuts : List Int) (hs : s.length < 9223372036854775808) (hc : cuts.length < 9223372036854775808) : DRet 6 [.str s, .sl 1 (cuts.map num)] (.bool true) := by
  refine acalls_go c6 (by simp [f6]) ?_
  simp only [f6, ↓gos, gop, Nat.reduceBEq, Nat.reduceAdd, Nat.reduceSub, Nat.reduceLeDiff, Nat.reduceMul, Int.reduceLE, Int.reduceLT, Int.reduceNe, Int.reduceToNat]
  refine ⟨fun h => ?_, fun h => ?_⟩
  · refine call_ret awake12 rfl rfl ?_
    simp only [↓gos, gop, Nat.reduceBEq, Nat.reduceAdd, Nat.reduceSub, Nat.reduceLeDiff, Nat.reduceMul, Int.reduceLE, Int.reduceLT, Int.reduceNe, Int.reduceToNat]
    exact endb rfl
  · have hl := rline23 (E := ED) rfl s 300 (by omega)
    refine call_ret hl rfl rfl ?_
    cases hb : ((rs s).all (fun c => decide (32 ≤ c)) && (runAt mayB s 0 && decide (((rs s).length : Int) ≤ 300)))
    · simp only [↓gos, gop, Nat.reduceBEq, Nat.reduceAdd, Nat.reduceSub, Nat.reduceLeDiff, Nat.reduceMul, Int.reduceLE, Int.reduceLT, Int.reduceNe, Int.reduceToNat]
      refine call_ret awake12 rfl rfl ?_
      simp only [↓gos, gop, Nat.reduceBEq, Nat.reduceAdd, Nat.reduceSub, Nat.reduceLeDiff, Nat.reduceMul, Int.reduceLE, Int.reduceLT, Int.reduceNe, Int.reduceToNat]
      exact endb rfl
    · simp only [↓gos, gop, Nat.reduceBEq, Nat.reduceAdd, Nat.reduceSub, Nat.reduceLeDiff, Nat.reduceMul, Int.reduceLE, Int.reduceLT, Int.reduceNe, Int.reduceToNat]
      refine ⟨by omega, ?_⟩
      rw [Bool.and_eq_true, Bool.and_eq_true] at hb
      obtain ⟨hb1, hb2, _⟩ := hb
      have hrs : rs s = rlAt s 0 := by unfold rs; rw [if_pos hb2]
      obtain ⟨cs, hcs, hok⟩ := wr_of mayB s.length s (Nat.le_refl _) hb2
      have hrl := rl_ens [] cs fun c hc => (hok c hc).1
      rw [List.append_nil, rl_nil, List.append_nil] at hrl
      have hrl2 : rlAt s 0 = cs.map (fun c : Nat => (c : Int)) := by rw [← hrl]; exact congrArg (rlAt · 0) hcs
      have hge : ∀ c ∈ cs, 32 ≤ c := fun c hc => by
        rw [hrs, hrl2, List.all_map, List.all_eq_true] at hb1
        have := hb1 c hc
        simp at this; omega
      have hR : runesL (120 :: s) (s.length + 1) 0 = (120 :: cs).map (fun c : Nat => (c : Int)) := by
        have h1 := rl_en (c := 120) (by unfold okC; omega) s
        have h2 : rlAt (en (120 : Nat) ++ s) 0 = runesL (120 :: s) (s.length + 1) 0 := rfl
        rw [← h2, h1, hrl2]; rfl
      have hn : cs.length ≤ s.length := by
        have := rs_len s
        rw [hrs, hrl2, List.length_map] at this; exact this
      rw [hR, List.length_map]
      generalize hRR : (120 :: cs : List Nat) = R
      have hRl : R.length = cs.length + 1 := by rw [← hRR]; rfl
      have hRok : ∀ j, j < R.length → okC (R.getD j 0) ∧ mayB (R.getD j 0) = true ∧ 32 ≤ R.getD j 0 := fun j hj => by
        have hm : R.getD j 0 ∈ R := by
          rw [List.getD_eq_getElem?_getD, List.getElem?_eq_getElem hj]
          exact List.getElem_mem _
        rw [← hRR] at hm ⊢
        rcases List.mem_cons.1 hm with q | q
        · rw [q]; exact ⟨by unfold okC; omega, by decide, by omega⟩
        · exact ⟨(hok _ q).1, (hok _ q).2, hge _ q⟩
      generalize hN : R.length = N at hRl hRok
      have hits : ∀ i, i ≤ N → okT (its R N cuts i) ∧ (txt (its R N cuts i)).length ≤ 7 * i := fun i hi => by
        have h1 : okT (its R N cuts i) := fun x hx => by
          obtain ⟨j, hj, rfl⟩ := List.mem_map.1 hx
          rw [List.mem_range] at hj
          exact ⟨hRok j (by omega), seek_ok _ _ _ _⟩
        have := txt_len _ h1
        rw [show (its R N cuts i).length = i by simp [its]] at this
        exact ⟨h1, this⟩
      rw [List.map_map]
      refine goN_lp (γ := Nat) (fun i => [(7, .int .i64 (i : Nat)), (6, .str (txt (its R N cuts i))), (5, .osl 1 0 0 N none), (0, .str s), (1, .sl 1 (cuts.map num))])
        (fun _ => [.arr 1 (R.map ri)]) (fun i => i ≤ N) (fun i => N - i) 0
        (wks rfl (by simp) ⟨rfl, rfl, by rw [← hN]; rfl, rfl, rfl, trivial⟩) (by simp) fun i hi => ?_
      simp only [f6l1, ↓gos, gop, Nat.reduceBEq, Nat.reduceAdd, Nat.reduceSub, Nat.reduceLeDiff, Nat.reduceMul, Int.reduceLE, Int.reduceLT, Int.reduceNe, Int.reduceToNat]
      refine ⟨fun h1 => ?_, fun h1 => ?_⟩
      · have hil : i < N := by omega
        refine goN_lp (γ := Nat) (fun k => [(8, .int .i64 (k : Nat)), (7, .int .i64 (i : Nat)), (6, .str (txt (its R N cuts i))), (5, .osl 1 0 0 N none), (0, .str s), (1, .sl 1 (cuts.map num))])
          (fun _ => [.arr 1 (R.map ri)]) (fun k => k ≤ 10 ∧ k ≤ cuts.length ∧ seek N i ((cuts.take 10).drop k) k = seek N i (cuts.take 10) 0) (fun k => 10 - k) 0
          (wks rfl (by simp) ⟨rfl, rfl, rfl, rfl, rfl, rfl, trivial⟩) ⟨by simp, by simp, rfl⟩ fun k hk => ?_
        obtain ⟨k1, k2, k3⟩ := hk
        simp only [f6l0, ↓gos, gop, Nat.reduceBEq, Nat.reduceAdd, Nat.reduceSub, Nat.reduceLeDiff, Nat.reduceMul, Int.reduceLE, Int.reduceLT, Int.reduceNe, Int.reduceToNat]
        have hcd : k < cuts.length → k < 10 → (cuts.take 10).drop k = cuts.getD k 0 :: (cuts.take 10).drop (k + 1) := fun h1 h2 => by
          have : k < (cuts.take 10).length := by rw [List.length_take]; omega
          rw [List.drop_eq_getElem_cons this, List.getElem_take, List.getD_eq_getElem?_getD, List.getElem?_eq_getElem h1]; rfl
        have hnone : cuts.length ≤ k ∨ 10 ≤ k → seek N i (cuts.take 10) 0 = none := fun h => by
          rw [← k3, List.drop_of_length_le (by rw [List.length_take]; omega)]; rfl
        have hti := hits i hi
        have hnx := its_next R N cuts i
        have hel := (en_len (hRok i hil).1).2.1
        refine ⟨fun h2 => ⟨fun h3 => ⟨fun h4 => ?_, fun h4 v hv => ?_⟩, fun h3 => ?_⟩, fun h2 => ?_⟩
        · have hcd := hcd (by omega) (by omega)
          refine optP_at 0 (by omega) ?_
          rw [hcd, seek] at k3
          generalize cuts.getD k 0 = c at k3
          simp only [num, ↓gos, gop, Nat.reduceBEq, Nat.reduceAdd, Nat.reduceSub, Nat.reduceLeDiff, Nat.reduceMul, Int.reduceLE, Int.reduceLT, Int.reduceNe, Int.reduceToNat]
          intro w hw w1 hw1
          have hwb := wrap_u64_bd c
          rw [← hw] at hwb
          rw [wrap_u64 (by omega) (by omega)] at hw1
          subst hw1
          refine ⟨by omega, fun r hr r2 hr2 => ?_⟩
          have hrb := tmod_range w (N : Nat) hwb.1 (by omega)
          rw [← hr] at hrb
          rw [wrap_i64 (by omega) (by omega)] at hr2
          subst hr2
          rw [← hw, ← hr] at k3
          refine ⟨fun he => ?_, fun hne v hv => ?_⟩
          · rw [if_pos ⟨by omega, he⟩] at k3
            refine ⟨by omega, fun e he2 => ?_⟩
            rw [Int.tmod_eq_emod_of_nonneg (by omega)] at he2
            by_cases hk2 : k % 2 = 0
            · have he3 : e = 0 := by omega
              subst he3
              rw [if_pos hk2] at k3
              rw [← k3] at hnx
              simp only [↓gos, gop, Nat.reduceBEq, Nat.reduceAdd, Nat.reduceSub, Nat.reduceLeDiff, Nat.reduceMul, Int.reduceLE, Int.reduceLT, Int.reduceNe, Int.reduceToNat]
              refine ⟨by simp; omega, by omega, optP_at 0 (by omega) ?_⟩
              simp only [ri, ↓gos, gop, Nat.reduceBEq, Nat.reduceAdd, Nat.reduceSub, Nat.reduceLeDiff, Nat.reduceMul, Int.reduceLE, Int.reduceLT, Int.reduceNe, Int.reduceToNat]
              have hen : (Utf8.encode ((R.getD i 0 : Nat) : Int)).data.toList = en (R.getD i 0 : Nat) := rfl
              rw [hen]
              refine ⟨by simp only [List.length_append, List.length_cons, List.length_nil]; omega, fun v hv => ?_⟩
              rw [wrap_i64 (by omega) (by omega)] at hv
              have hv : v = ((i + 1 : Nat) : Int) := by omega
              subst hv
              have htx : txt (its R N cuts (i + 1)) = txt (its R N cuts i) ++ [13, 10] ++ [32] ++ en (R.getD i 0 : Nat) := by rw [hnx, txt_app]; simp [txt]
              refine rnd_d 1 (i + 1) rfl (by simp) ⟨rfl, rfl, by rw [htx]; rfl, rfl, rfl, rfl, rfl, rfl, rfl, rfl, trivial⟩ rfl (by omega) (by omega)
            · have he3 : e = 1 := by omega
              subst he3
              rw [if_neg hk2] at k3
              rw [← k3] at hnx
              simp only [↓gos, gop, Nat.reduceBEq, Nat.reduceAdd, Nat.reduceSub, Nat.reduceLeDiff, Nat.reduceMul, Int.reduceLE, Int.reduceLT, Int.reduceNe, Int.reduceToNat]
              refine ⟨by simp; omega, by omega, optP_at 0 (by omega) ?_⟩
              simp only [ri, ↓gos, gop, Nat.reduceBEq, Nat.reduceAdd, Nat.reduceSub, Nat.reduceLeDiff, Nat.reduceMul, Int.reduceLE, Int.reduceLT, Int.reduceNe, Int.reduceToNat]
              have hen : (Utf8.encode ((R.getD i 0 : Nat) : Int)).data.toList = en (R.getD i 0 : Nat) := rfl
              rw [hen]
              refine ⟨by simp only [List.length_append, List.length_cons, List.length_nil]; omega, fun v hv => ?_⟩
              rw [wrap_i64 (by omega) (by omega)] at hv
              have hv : v = ((i + 1 : Nat) : Int) := by omega
              subst hv
              have htx : txt (its R N cuts (i + 1)) = txt (its R N cuts i) ++ [13, 10] ++ [9] ++ en (R.getD i 0 : Nat) := by rw [hnx, txt_app]; simp [txt]
              refine rnd_d 1 (i + 1) rfl (by simp) ⟨rfl, rfl, by rw [htx]; rfl, rfl, rfl, rfl, rfl, rfl, rfl, rfl, trivial⟩ rfl (by omega) (by omega)
          · rw [if_neg (fun q => hne q.2)] at k3
            rw [wrap_i64 (by omega) (by omega)] at hv
            have hv : v = ((k + 1 : Nat) : Int) := by omega
            subst hv
            exact rnd_s (k + 1) rfl (by simp) ⟨rfl, rfl, rfl, rfl, rfl, rfl, trivial⟩ ⟨by omega, by omega, k3⟩ (by omega)
        · have hcd := hcd (by omega) (by omega)
          rw [hcd, seek, if_neg (by omega)] at k3
          rw [wrap_i64 (by omega) (by omega)] at hv
          have hv : v = ((k + 1 : Nat) : Int) := by omega
          subst hv
          exact rnd_s (k + 1) rfl (by simp) ⟨rfl, rfl, rfl, rfl, rfl, rfl, trivial⟩ ⟨by omega, by omega, k3⟩ (by omega)
        · refine ⟨by omega, optP_at 0 (by omega) ?_⟩
          simp only [ri, ↓gos, gop, Nat.reduceBEq, Nat.reduceAdd, Nat.reduceSub, Nat.reduceLeDiff, Nat.reduceMul, Int.reduceLE, Int.reduceLT, Int.reduceNe, Int.reduceToNat]
          have hno := hnone (by omega)
          rw [hno] at hnx
          have hen : (Utf8.encode ((R.getD i 0 : Nat) : Int)).data.toList = en (R.getD i 0 : Nat) := rfl
          rw [hen]
          refine ⟨by omega, fun v hv => ?_⟩
          rw [wrap_i64 (by omega) (by omega)] at hv
          have hv : v = ((i + 1 : Nat) : Int) := by omega
          subst hv
          have htx : txt (its R N cuts (i + 1)) = txt (its R N cuts i) ++ en (R.getD i 0 : Nat) := by rw [hnx, txt_app]; simp [txt]
          refine rnd_s (i + 1) rfl (by simp) ⟨rfl, by rw [htx]; rfl, rfl, rfl, rfl, trivial⟩ (by omega) (by omega)
        · refine ⟨by omega, optP_at 0 (by omega) ?_⟩
          simp only [ri, ↓gos, gop, Nat.reduceBEq, Nat.reduceAdd, Nat.reduceSub, Nat.reduceLeDiff, Nat.reduceMul, Int.reduceLE, Int.reduceLT, Int.reduceNe, Int.reduceToNat]
          have hno := hnone (by omega)
          rw [hno] at hnx
          have hen : (Utf8.encode ((R.getD i 0 : Nat) : Int)).data.toList = en (R.getD i 0 : Nat) := rfl
          rw [hen]
          refine ⟨by omega, fun v hv => ?_⟩
          rw [wrap_i64 (by omega) (by omega)] at hv
          have hv : v = ((i + 1 : Nat) : Int) := by omega
          subst hv
          have htx : txt (its R N cuts (i + 1)) = txt (its R N cuts i) ++ en (R.getD i 0 : Nat) := by rw [hnx, txt_app]; simp [txt]
          refine rnd_s (i + 1) rfl (by simp) ⟨rfl, by rw [htx]; rfl, rfl, rfl, rfl, trivial⟩ (by omega) (by omega)
      · have hiN : i = N := by omega
        subst hiN
        have hti := hits i (Nat.le_refl _)
        refine ⟨by omega, ?_⟩
        obtain ⟨t0, hN0⟩ : ∃ m, i = m + 1 := ⟨i - 1, by omega⟩
        have hit : its R i cuts i = (none, 120) :: (its R i cuts i).tail := by
          rw [hN0, its, List.range_succ_eq_map, List.map_cons, List.tail_cons, ← hRR]
          rw [show seek (t0 + 1) 0 (cuts.take 10) 0 = none from seek_zero _ _ _]
          rfl
        have htail : okT (its R i cuts i).tail := fun x hx => hti.1 x (List.mem_of_mem_tail hx)
        have htx : txt (its R i cuts i) = 120 :: txt (its R i cuts i).tail := by
          rw [hit, txt, List.tail_cons]; rfl
        have hch : chars (its R i cuts i).tail = cs := by
          have hchR : chars (its R i cuts i) = R := by
            rw [chars, its, List.map_map]
            refine List.ext_getElem (by simp [hN]) fun j h1 h2 => ?_
            simp [List.getD_eq_getElem?_getD, List.getElem?_eq_getElem h2]
          have h3 : (chars (its R i cuts i)).tail = chars (its R i cuts i).tail := by unfold chars; rw [List.map_tail]
          rw [← h3, hchR, ← hRR]; rfl
        have hlen := hti.2
        rw [htx] at hlen ⊢
        simp only [List.length_cons] at hlen
        have haw := any_where 120 (its R i cuts i).tail htail rfl _ (Nat.le_refl _)
        rw [hch, ← hcs] at haw
        have hus : unfoldR (120 :: txt (its R i cuts i).tail ++ [13, 10]) = ([120 :: s], 0) := unfoldR_good (R := some [120 :: s]) (by simp; omega) haw.2 haw.1
        have hu := unfold14 (120 :: txt (its R i cuts i).tail ++ [13, 10]) (by simp; omega)
        rw [hus] at hu
        refine call_new hu (fun d hd => by simp at hd; subst hd; rfl) ?_
        simp only [DV.ren, DV.ren.renAll, renO, ↓gos, gop, Nat.reduceBEq, Nat.reduceAdd, Nat.reduceSub, Nat.reduceLeDiff, Nat.reduceMul, Int.reduceLE, Int.reduceLT, Int.reduceNe, Int.reduceToNat]
        refine call_ret awake12 rfl rfl ?_
        simp only [↓gos, gop, Nat.reduceBEq, Nat.reduceAdd, Nat.reduceSub, Nat.reduceLeDiff, Nat.reduceMul, Int.reduceLE, Int.reduceLT, Int.reduceNe, Int.reduceToNat]
        refine ⟨by omega, call_ret (plain62 [120 :: s] [120 :: s] (by simp) (by simp)) rfl rfl ?_⟩
        rw [decide_eq_true rfl]
        simp only [↓gos, gop, Nat.reduceBEq, Nat.reduceAdd, Nat.reduceSub, Nat.reduceLeDiff, Nat.reduceMul, Int.reduceLE, Int.reduceLT, Int.reduceNe, Int.reduceToNat]
        exact endb rfl
end Go.Proofs.Ut
