import Derived.Test.YtbhlmbacgbfaoaaRgC
set_option linter.all false
namespace Go.Proofs.Rg
open Go.Ai Classical
set_option linter.unusedSimpArgs false
set_option maxHeartbeats 1000000
theorem kept_calls (l : List (Int × Int)) (m : Int × Int) (hl : l.length < 1000000000) : ACalls E0 16 [.arr 2 ((l ++ [m, m, m]).map rg)] [.osl 2 0 0 l.length (some (l.length + 3)), .sl 2 (l.map rg), .agg (rg m)] fun h d => h = [.arr 2 ((l ++ [m, m, m]).map rg)] ∧ d = .bool true := by
  refine acalls_go c16 (by simp [f16]) ?_
  simp only [f16, rg, ↓gos, gop, Nat.reduceBEq, Nat.reduceAdd, Nat.reduceSub, Nat.reduceLeDiff, Nat.reduceMul, Int.reduceLE, Int.reduceLT, Int.reduceNe, Int.reduceToNat]
  refine call_ret (plain_calls l l (by omega) (by omega)) ?_ rfl ?_
  · have : DV.dn [] [AObj.arr 2 (List.map rg (l ++ [m, m, m])), AObj.box [DV.int IntKind.i64 m.fst, DV.int IntKind.i64 m.snd]] (.osl 2 0 0 l.length (some (l.length + 3))) = .sl 2 (((l ++ [m, m, m]).map rg).take l.length) := dn_oslc rfl (by simp)
    rw [List.map_cons, this]
    simp [DV.dn, DV.low]
  simp only [decide_true, ↓gos, gop, Nat.reduceBEq, Nat.reduceAdd, Nat.reduceSub, Nat.reduceLeDiff, Nat.reduceMul, Int.reduceLE, Int.reduceLT, Int.reduceNe, Int.reduceToNat]
  intro v hv
  rw [wrap_i64 (by omega) (by omega)] at hv
  refine ⟨fun h => by omega, fun h v1 hv1 => ?_⟩
  rw [wrap_i64 (by omega) (by omega)] at hv1
  have e1 : v1.toNat = l.length + 3 := by omega
  refine ⟨by omega, by omega, ?_⟩
  rw [e1]
  refine goN_lp (γ := Nat) (fun j => [(5, .ptr 1 0), (7, .osl 2 0 0 (l.length + 3) (some (l.length + 3))), (8, .int .i64 ((l.length + j : Nat) : Int))]) (fun j => [.arr 2 ((l ++ [m, m, m]).map rg), .box (rg m)]) (fun j => j ≤ 3) (fun j => 3 - j) 0 (wks rfl (by simp) ⟨rfl, rfl, rfl, trivial⟩) (by omega) fun j hj => ?_
  simp only [f16l0, rg, ↓gos, gop, Nat.reduceBEq, Nat.reduceAdd, Nat.reduceSub, Nat.reduceLeDiff, Nat.reduceMul, Int.reduceLE, Int.reduceLT, Int.reduceNe, Int.reduceToNat]
  refine ⟨fun h2 => ⟨by omega, optP_in m ?_ ?_⟩, fun h2 => end_in1 rfl rfl ⟨rfl, rfl⟩⟩
  · have : (l ++ [m, m, m])[l.length + j]? = some m := by
      rw [List.getElem?_append_right (by omega)]
      have : l.length + j - l.length = j := by omega
      rw [this]
      have : j = 0 ∨ j = 1 ∨ j = 2 := by omega
      rcases this with rfl | rfl | rfl <;> rfl
    exact this
  · simp only [rg, ↓gos, gop, Nat.reduceBEq, Nat.reduceAdd, Nat.reduceSub, Nat.reduceLeDiff, Nat.reduceMul, Int.reduceLE, Int.reduceLT, Int.reduceNe, Int.reduceToNat]
    intro v2 hv2
    rw [wrap_i64 (by omega) (by omega)] at hv2
    refine rnd_s (j + 1) rfl (by simp) ⟨rfl, rfl, ?_, trivial⟩ (by omega) (by omega)
    show DV.int .i64 v2 = _
    rw [hv2]; rfl
/-- Ranges as the statement makes them. -/
structure Spr (L : List (Int × Int)) (at_ : Int) (k : Nat) : Prop where
  rt : Rt L
  len : L.length ≤ k
  at0 : 0 ≤ at_
  atk : at_ ≤ k * 10
  lo : ∀ r ∈ L, 0 < r.1 ∧ r.2 ≤ at_
theorem spread_calls (l : List Int) : ACalls E0 17 [] [.sl 1 (l.map num)] fun h d => ∃ L a, Spr L a 30 ∧ h = [.arr 2 (L.map rg)] ∧ d = .osl 2 0 0 L.length none := by
  refine acalls_go c17 (by simp [f17]) ?_
  simp only [f17, rg, ↓gos, gop, Nat.reduceBEq, Nat.reduceAdd, Nat.reduceSub, Nat.reduceLeDiff, Nat.reduceMul, Int.reduceLE, Int.reduceLT, Int.reduceNe, Int.reduceToNat]
  refine goN_lp (γ := List (Int × Int) × Int × Nat) (fun g => [(0, .sl 1 (l.map num)), (3, .osl 2 1 0 g.1.length none), (4, .int .i64 g.2.1), (5, .int .i64 ((2 * g.2.2 : Nat) : Int))]) (fun g => [.arr 2 [], .arr 2 (g.1.map rg)]) (fun g => Spr g.1 g.2.1 g.2.2 ∧ g.2.2 ≤ 30 ∧ (∀ r ∈ g.1.getLast?, r.2 = g.2.1)) (fun g => 60 - g.2.2) ([], 0, 0) (wks rfl (Nat.zero_le _) ⟨rfl, rfl, rfl, rfl, trivial⟩) ?_ fun g hg => ?_
  · exact ⟨⟨fun j hj => by simp at hj, by simp, by simp, by simp, by simp⟩, by simp, by simp⟩
  simp only [f17l0, num, rg, ↓gos, gop, Nat.reduceBEq, Nat.reduceAdd, Nat.reduceSub, Nat.reduceLeDiff, Nat.reduceMul, Int.reduceLE, Int.reduceLT, Int.reduceNe, Int.reduceToNat]
  obtain ⟨acc, a, k⟩ := g
  obtain ⟨hS, hk, hlast⟩ := hg
  simp only at hS hk hlast ⊢
  have ha0 := hS.at0
  have hak := hS.atk
  have hal := hS.len
  have fin : finE 0 (fun h d => ∃ L a, Spr L a 30 ∧ h = [AObj.arr 2 (List.map rg L)] ∧ d = DV.osl 2 0 0 L.length none) (some [DV.osl 2 1 0 acc.length none]) [AObj.arr 2 [], AObj.arr 2 (List.map rg acc)] :=
    end_rowP rfl ⟨acc, a, ⟨hS.rt, by omega, hS.at0, by omega, hS.lo⟩, rfl, rfl⟩
  intro v hv
  rw [wrap_i64 (by omega) (by omega)] at hv
  refine ⟨fun h1 => ⟨fun h2 => optP_at 0 (by omega) fun v1 hv1 v2 hv2 v3 hv3 v4 hv4 v5 hv5 v6 hv6 => ?_, fun _ => fin⟩, fun _ => fin⟩
  have r1 := u64_range (l.getD (2 * k) 0)
  rw [← hv1] at r1
  have r2 := tmod_range v1 5 r1.1 (by omega)
  rw [← hv2] at r2
  rw [wrap_i64 (by omega) (by omega)] at hv3
  rw [wrap_i64 (by omega) (by omega)] at hv4
  rw [wrap_i64 (by omega) (by omega)] at hv5
  rw [wrap_i64 (by omega) (by omega)] at hv6
  refine ⟨by omega, optP_at 0 (by omega) fun v7 hv7 v8 hv8 v9 hv9 v10 hv10 => ?_⟩
  have r7 := u64_range (l.getD v6.toNat 0)
  rw [← hv7] at r7
  have r8 := tmod_range v7 6 r7.1 (by omega)
  rw [← hv8] at r8
  rw [wrap_i64 (by omega) (by omega)] at hv9
  rw [wrap_i64 (by omega) (by omega)] at hv10
  refine ⟨by omega, by omega, fun v11 hv11 => ?_⟩
  rw [wrap_i64 (by omega) (by omega)] at hv11
  refine rnd_d 2 (acc ++ [(v5, v10)], v10, k + 1) ?_ (Nat.zero_le _) ⟨rfl, rfl, ?_, rfl, rfl, rfl, ?_, rfl, trivial⟩ rfl ⟨⟨fun j hj => ?_, ?_, ?_, ?_, ?_⟩, ?_, ?_⟩ ?_
  · simp [rg]
  · simp [slots]
  · show DV.int .i64 v11 = _
    rw [hv11]; rfl
  · simp only [List.length_append, List.length_cons, List.length_nil, Nat.zero_add] at hj
    by_cases hja : j = acc.length
    · subst hja
      have e1 : (acc ++ [(v5, v10)]).getD acc.length (0, 0) = (v5, v10) := by simp
      refine ⟨by rw [e1]; simp only; omega, fun hp => ?_⟩
      rw [e1]
      have e2 : (acc ++ [(v5, v10)]).getD (acc.length - 1) (0, 0) = acc.getD (acc.length - 1) (0, 0) := by
        simp [List.getElem?_append_left (show acc.length - 1 < acc.length by omega)]
      rw [e2]
      have e3 : acc.getLast? = some (acc.getD (acc.length - 1) (0, 0)) := by
        rw [List.getLast?_eq_getElem?]
        simp [show acc.length - 1 < acc.length by omega]
      have := hlast _ (by rw [e3]; exact rfl)
      rw [this]; simp only; omega
    · have hjl : j < acc.length := by omega
      have := hS.rt j hjl
      unfold okAt at this ⊢
      have e1 : (acc ++ [(v5, v10)]).getD j (0, 0) = acc.getD j (0, 0) := by simp [List.getElem?_append_left hjl]
      have e2 : (acc ++ [(v5, v10)]).getD (j - 1) (0, 0) = acc.getD (j - 1) (0, 0) := by simp [List.getElem?_append_left (show j - 1 < acc.length by omega)]
      rw [e1, e2]; exact this
  · simp; omega
  · show 0 ≤ v10; omega
  · show v10 ≤ ((k + 1 : Nat) : Int) * 10; omega
  · intro r hr
    rw [List.mem_append] at hr
    rcases hr with hr | hr
    · have := hS.lo r hr
      exact ⟨this.1, by show r.2 ≤ v10; omega⟩
    · simp only [List.mem_singleton] at hr
      subst hr
      exact ⟨by show 0 < v5; omega, Int.le_refl _⟩
  · show k + 1 ≤ 30; omega
  · intro r hr
    simp at hr
    subst hr; rfl
  · show 60 - (k + 1) < 60 - k; omega
end Go.Proofs.Rg
