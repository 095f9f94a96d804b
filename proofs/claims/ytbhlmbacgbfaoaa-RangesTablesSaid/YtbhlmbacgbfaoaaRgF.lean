import Derived.Test.YtbhlmbacgbfaoaaRgE
set_option linter.all false
namespace Go.Proofs.Rg
open Go.Ai Classical
set_option linter.unusedSimpArgs false
set_option maxHeartbeats 1000000
set_option maxRecDepth 100000
/-- One range more, behind those that begin no later. -/
def lastR (out : List (Int × Int)) : Int × Int := out.getD (out.length - 1) (0, 0)
def mg (out : List (Int × Int)) (r : Int × Int) : List (Int × Int) :=
  if out.length = 0 then [r] else if r.1 ≤ (lastR out).2 + 1 then out.set (out.length - 1) ((lastR out).1, max (lastR out).2 r.2) else out ++ [r]
theorem mg_len (out : List (Int × Int)) (r : Int × Int) : (mg out r).length ≤ out.length + 1 := by
  unfold mg; split
  · simp
  · split <;> simp
theorem lastR_mem {out : List (Int × Int)} (h : out.length ≠ 0) : lastR out ∈ out := by
  unfold lastR
  have : out.length - 1 < out.length := by omega
  simp [this]
theorem mg_mem {out : List (Int × Int)} {r : Int × Int} {P : Int × Int → Prop} (ho : ∀ x ∈ out, P x) (hr : P r) (hm : out.length ≠ 0 → P ((lastR out).1, max (lastR out).2 r.2)) : ∀ x ∈ mg out r, P x := by
  unfold mg
  split
  · simpa using hr
  · rename_i h
    split
    · intro x hx
      rcases List.mem_or_eq_of_mem_set hx with hx | hx
      · exact ho x hx
      · subst hx; exact hm h
    · intro x hx
      rcases List.mem_append.1 hx with hx | hx
      · exact ho x hx
      · simp at hx; subst hx; exact hr
theorem mx_eq (a b : Int) : (if b > a then b else a) = max a b := by rw [Int.max_def]; split <;> split <;> omega
def I64 (r : Int × Int) : Prop := -9223372036854775808 ≤ r.1 ∧ r.1 ≤ 9223372036854775807 ∧ -9223372036854775808 ≤ r.2 ∧ r.2 ≤ 9223372036854775807
def JoinR (a b J : List (Int × Int)) : Prop := (Rt a ∧ Rt b → ∃ s : List (Int × Int), s.Perm (a ++ b) ∧ s.Pairwise (fun x y => x.1 ≤ y.1) ∧ J = s.foldl mg []) ∧ (¬ (Rt a ∧ Rt b) → J = [])
theorem join_calls (a b : List (Int × Int)) (ha : a.length < 100000000) (hb : b.length < 100000000) (hai : ∀ r ∈ a, I64 r) (hbi : ∀ r ∈ b, I64 r) : ACalls E0 14 [] [.sl 2 (a.map rg), .sl 2 (b.map rg)] fun h d => ∃ J, JoinR a b J ∧ h = [.arr 2 (J.map rg)] ∧ d = .osl 2 0 0 J.length none := by
  refine acalls_go c14 (by simp [f14]) ?_
  simp only [f14, ↓gos, gop, Nat.reduceBEq, Nat.reduceAdd, Nat.reduceSub, Nat.reduceLeDiff, Nat.reduceMul, Int.reduceLE, Int.reduceLT, Int.reduceNe, Int.reduceToNat]
  refine call_ret (right_calls a (by omega)) rfl rfl ?_
  by_cases h1 : Rt a
  · simp only [h1, decide_true, ↓gos, gop, Nat.reduceBEq, Nat.reduceAdd, Nat.reduceSub, Nat.reduceLeDiff, Nat.reduceMul, Int.reduceLE, Int.reduceLT, Int.reduceNe, Int.reduceToNat]
    refine call_ret (right_calls b (by omega)) rfl rfl ?_
    by_cases h2 : Rt b
    · simp only [h2, decide_true, ↓gos, gop, Nat.reduceBEq, Nat.reduceAdd, Nat.reduceSub, Nat.reduceLeDiff, Nat.reduceMul, Int.reduceLE, Int.reduceLT, Int.reduceNe, Int.reduceToNat]
      have hcc := concat_calls [a, b] (by simp) (by simp; omega)
      simp only [List.map_cons, List.map_nil, List.flatten_cons, List.flatten_nil, List.append_nil] at hcc
      refine call_lend hcc rfl (by simp [DV.free, freeO, rg]) ?_
      simp only [DV.ren, renO, ↓gos, gop, Nat.reduceBEq, Nat.reduceAdd, Nat.reduceSub, Nat.reduceLeDiff, Nat.reduceMul, Int.reduceLE, Int.reduceLT, Int.reduceNe, Int.reduceToNat]
      refine call_in1 (i := 2) rfl (sort_calls (a ++ b) (by simp; omega)) (by simp [DV.dn, DV.low, DV.low.lowAll]) (by simp [DV.inL, DV.inL.inAll]) fun h' d hp => ?_
      obtain ⟨rfl, s, hperm, hsort, rfl⟩ := hp
      have hlen : s.length = (a ++ b).length := hperm.length_eq
      refine ⟨_, rfl, rfl, ?_⟩
      simp only [↓gos, gop, Nat.reduceBEq, Nat.reduceAdd, Nat.reduceSub, Nat.reduceLeDiff, Nat.reduceMul, Int.reduceLE, Int.reduceLT, Int.reduceNe, Int.reduceToNat]
      have hsi : ∀ r ∈ s, I64 r := fun r hr => by
        rcases List.mem_append.1 (hperm.mem_iff.1 hr) with h | h
        · exact hai r h
        · exact hbi r h
      have hn : s.length < 300000000 := by rw [hlen]; simp; omega
      rw [← hlen]
      refine goN_lp (γ := Nat × List (Int × Int)) (fun g => [(6, .osl 2 3 0 g.2.length none), (24, .osl 2 2 0 s.length none), (25, .int .i64 s.length), (26, .int .i64 (g.1 : Nat))])
        (fun g => [.arr 2 [], .arr 1 [[.sl 2 (a.map rg)], [.sl 2 (b.map rg)]], .arr 2 (s.map rg), .arr 2 (g.2.map rg)]) (fun g => g.1 ≤ s.length ∧ g.2 = (s.take g.1).foldl mg [] ∧ g.2.length ≤ g.1 ∧ ∀ r ∈ g.2, I64 r) (fun g => s.length - g.1) (0, []) (wks rfl (Nat.zero_le _) ⟨rfl, rfl, rfl, rfl, trivial⟩) (by simp) fun g hg => ?_
      obtain ⟨i, out⟩ := g
      obtain ⟨hi, hout, holen, hoi⟩ := hg
      simp only at hi hout holen hoi
      simp only [f14l0, rg, ↓gos, gop, Nat.reduceBEq, Nat.reduceAdd, Nat.reduceSub, Nat.reduceLeDiff, Nat.reduceMul, Int.reduceLE, Int.reduceLT, Int.reduceNe, Int.reduceToNat]
      refine ⟨fun g1 => ⟨by omega, optP_at (0, 0) (by omega) fun v hv => ?_⟩, fun g1 => end_rowP rfl ⟨out, ⟨fun _ => ⟨s, hperm, hsort, ?_⟩, fun q => absurd ⟨h1, h2⟩ q⟩, rfl, rfl⟩⟩
      · have hlt : i < s.length := by omega
        have hri : s[i]? = some (s.getD i (0, 0)) := by simp [hlt]
        have hrI : I64 (s.getD i (0, 0)) := hsi _ (List.mem_of_getElem? hri)
        have hnext : (s.take (i + 1)).foldl mg [] = mg out (s.getD i (0, 0)) := by
          rw [List.take_add_one, hri, hout]; simp
        generalize s.getD i (0, 0) = r at hri hrI hnext ⊢
        rw [wrap_i64 (by omega) (by omega)] at hv
        have hmgI : ∀ x ∈ mg out r, I64 x := mg_mem hoi hrI fun h => by
          have := hoi _ (lastR_mem h)
          unfold I64 at *
          simp only
          omega
        have hml := mg_len out r
        refine ⟨fun g2 => ?_, fun g2 => ⟨by omega, by omega, fun v3 hv3 => ?_⟩⟩
        · have hne : out.length ≠ 0 := by omega
          have hvl : v.toNat = out.length - 1 := by omega
          have hol : out[v.toNat]? = some (lastR out) := by
            unfold lastR
            have : out.length - 1 < out.length := by omega
            rw [hvl]; simp [this]
          have hqI := hoi _ (lastR_mem hne)
          have upd : ∀ (L : List (Nat × DV)) (H : List AObj), r.1 ≤ (lastR out).2 + 1 → ∀ x : Int, x = max (lastR out).2 r.2 → (List.map rg out).set v.toNat [.int .i64 (lastR out).1, .int .i64 x] = (mg out r).map rg := fun L H hle x hx => by
            unfold mg
            rw [if_neg hne, if_pos hle, hvl, List.map_set, hx]; rfl
          refine ⟨by omega, by omega, optP_in _ hol ⟨fun g3 => ⟨by omega, by omega, optP_in _ hol fun v1 hv1 => ⟨by omega, by omega, optP_in _ hol fun v2 hv2 => ?_⟩⟩, fun g3 => ⟨by omega, by omega, optP_in _ hol fun v1 hv1 => ⟨fun g4 => ⟨by omega, by omega, optP_in _ hol fun v2 hv2 => ⟨by omega, by omega, optP_in _ hol fun v3 hv3 => ?_⟩⟩, fun g4 => ⟨by omega, by omega, fun v2 hv2 => ?_⟩⟩⟩⟩⟩
          · rw [wrap_i64 (by omega) (by omega)] at hv2
            rw [mx_eq] at hv1
            have hle : r.1 ≤ (lastR out).2 + 1 := by unfold I64 at hrI; omega
            refine rnd_d 4 (i + 1, mg out r) ?_ (Nat.zero_le _) ⟨?_, rfl, rfl, rfl, rfl, rfl, ?_, rfl, trivial⟩ rfl ⟨by simp only; omega, hnext.symm, by simp only; omega, hmgI⟩ (by simp only; omega)
            · rw [upd [] [] hle v1 hv1]; rfl
            · have : (mg out r).length = out.length := by unfold mg; rw [if_neg hne, if_pos hle]; simp
              simp only [this]; rfl
            · show DV.int .i64 v2 = _
              rw [hv2]; rfl
          · rw [wrap_i64 (by omega) (by omega)] at hv3
            rw [mx_eq] at hv2
            unfold I64 at hqI
            rw [wrap_i64 (by omega) (by omega)] at hv1
            have hle : r.1 ≤ (lastR out).2 + 1 := by omega
            refine rnd_d 4 (i + 1, mg out r) ?_ (Nat.zero_le _) ⟨?_, rfl, rfl, rfl, rfl, rfl, ?_, rfl, trivial⟩ rfl ⟨by simp only; omega, hnext.symm, by simp only; omega, hmgI⟩ (by simp only; omega)
            · rw [upd [] [] hle v2 hv2]; rfl
            · have : (mg out r).length = out.length := by unfold mg; rw [if_neg hne, if_pos hle]; simp
              simp only [this]; rfl
            · show DV.int .i64 v3 = _
              rw [hv3]; rfl
          · rw [wrap_i64 (by omega) (by omega)] at hv2
            unfold I64 at hqI
            rw [wrap_i64 (by omega) (by omega)] at hv1
            have hmg : mg out r = out ++ [r] := by unfold mg; rw [if_neg hne, if_neg (by omega)]
            refine rnd_d 4 (i + 1, mg out r) ?_ (Nat.zero_le _) ⟨?_, rfl, rfl, rfl, rfl, rfl, ?_, rfl, trivial⟩ rfl ⟨by simp only; omega, hnext.symm, by simp only; omega, hmgI⟩ (by simp only; omega)
            · have e : List.take out.length (out.map rg) = out.map rg := List.take_of_length_le (by simp)
              simp only [e, hmg, List.map_append]; rfl
            · simp [hmg, slots]
            · show DV.int .i64 v2 = _
              rw [hv2]; rfl
        · rw [wrap_i64 (by omega) (by omega)] at hv3
          have h0 : out.length = 0 := by omega
          have hmg : mg out r = [r] := by unfold mg; rw [if_pos h0]
          obtain rfl : out = [] := List.eq_nil_of_length_eq_zero h0
          refine rnd_d 4 (i + 1, mg [] r) ?_ (Nat.zero_le _) ⟨?_, rfl, rfl, rfl, rfl, rfl, ?_, rfl, trivial⟩ rfl ⟨by simp only; omega, hnext.symm, by simp only; omega, hmgI⟩ (by simp only; omega)
          · simp only [hmg]; rfl
          · simp [hmg, slots]
          · show DV.int .i64 v3 = _
            rw [hv3]; rfl
      · rw [hout, List.take_of_length_le (by omega)]
    · simp only [h2, decide_false, ↓gos, gop, Nat.reduceBEq, Nat.reduceAdd, Nat.reduceSub, Nat.reduceLeDiff, Nat.reduceMul, Int.reduceLE, Int.reduceLT, Int.reduceNe, Int.reduceToNat]
      exact end_rowP rfl ⟨[], ⟨fun q => absurd q.2 h2, fun _ => rfl⟩, rfl, rfl⟩
  · simp only [h1, decide_false, ↓gos, gop, Nat.reduceBEq, Nat.reduceAdd, Nat.reduceSub, Nat.reduceLeDiff, Nat.reduceMul, Int.reduceLE, Int.reduceLT, Int.reduceNe, Int.reduceToNat]
    exact end_rowP rfl ⟨[], ⟨fun q => absurd q.1 h1, fun _ => rfl⟩, rfl, rfl⟩
end Go.Proofs.Rg
