/- strings.Join, of a separator of one sign. -/
import Derived.Test.YtgamnnfndidclaaGreatDoorAiGrow2
import Derived.Test.YtgamnnfndidclaaGreatDoorProg
import Derived.Tactics
import Derived.Tactics2
import Derived.Defers
import Derived.Laws.Pointers
import Derived.Laws.LoneSync
import Derived.RegionTactic
import Derived.RegionCalls
import Derived.ChangeAlike
import Derived.KernelRfl
import Derived.Test.YtgamnnfndidclaaGreatDoorYFoUtF
import Derived.Test.YtgamnnfndidclaaGreatDoorAiUn
import Derived.Test.YtgamnnfndidclaaGreatDoorYN
import Derived.Test.YtgamnnfndidclaaGreatDoorYFoUtD
import Derived.Test.YtgamnnfndidclaaGreatDoorYO3
open Nat renaming reduceBEq → qA, reduceAdd → qB, reduceSub → qC, reduceLeDiff → qD, reduceMul → qE
open Int renaming reduceLE → qF, reduceLT → qG, reduceNe → qH, reduceToNat → qI
open Int renaming reduceEq → rA, reduceAdd → rB, reduceSub → rC, reduceMul → rD, reduceMod → rE, reduceDiv → rF, reduceTDiv → rG, reducePow → rH
open Nat renaming reducePow → rI
set_option linter.all false
namespace Go.Proofs.Ut
open Go.Ai
set_option maxRecDepth 100000
set_option linter.all false
theorem grow190 (n : Nat) (h0 : 0 < n) (hn : n ≤ 281474976710656) : ACalls ED 190 (Bld false 169 5 []) [.ptr 1 0, .int .i64 n] (fun h' d => h' = Bld true 169 5 [] ∧ d = .undef) :=
  grow_prim (E := ED) Tryz.lays165 Tryz.extra165 rfl rfl rfl ⟨Tryz.f190, Tryz.func190, by kernel_rfl, by kernel_rfl⟩ n h0 hn
def tails (sep : UInt8) (l : List (List UInt8)) : List UInt8 := (l.map (sep :: ·)).flatten
def joinF (sep : UInt8) : List (List UInt8) → List UInt8
  | [] => []
  | x :: tl => x ++ tails sep tl
def tot (l : List (List UInt8)) : Nat := (l.map List.length).sum
theorem tails_len (sep : UInt8) : ∀ l, (tails sep l).length = l.length + tot l
  | [] => rfl
  | x :: l => by
    have := tails_len sep l
    simp only [tails, tot, List.map_cons, List.flatten_cons, List.length_append, List.length_cons, List.sum_cons] at *
    omega
theorem tails_take (sep : UInt8) (l : List (List UInt8)) (i : Nat) (h : i < l.length) : tails sep (l.take (i + 1)) = tails sep (l.take i) ++ sep :: l.getD i [] := by
  rw [take_getD h []]
  simp [tails]
theorem tot_take (l : List (List UInt8)) (i : Nat) (h : i < l.length) : tot (l.take (i + 1)) = tot (l.take i) + (l.getD i []).length := by
  rw [take_getD h []]
  simp [tot]
theorem tot_le : ∀ (l : List (List UInt8)) (i : Nat), tot (l.take i) ≤ tot l
  | [], i => by simp
  | x :: l, 0 => by simp [tot]
  | x :: l, i + 1 => by
    have := tot_le l i
    simp only [tot, List.take_succ_cons, List.map_cons, List.sum_cons] at *
    omega
theorem tails_le (sep : UInt8) (l : List (List UInt8)) (i : Nat) : (tails sep (l.take i)).length ≤ (tails sep l).length := by
  rw [tails_len, tails_len]
  have := tot_le l i
  have : (l.take i).length ≤ l.length := by simp; omega
  omega
theorem join149 (l : List (List UInt8)) (hl : l.length < 1000000000) (hw : (joinF 59 l).length < 1000000000) : DRet 149 [.sl 1 (l.map sv), .str [59]] (.str (joinF 59 l)) := by
  refine acalls_go c149 (by simp [f149]) ?_
  simp only [f149, ↓gos, gop, qA, qB, qC, qD, qE, qF, qG, qH, qI]
  cases l with
  | nil =>
    simp only [↓gos, gop, qA, qB, qC, qD, qE, qF, qG, qH, qI]
    exact ends rfl
  | cons x tl =>
    cases tl with
    | nil =>
      simp only [sv, ↓gos, gop, qA, qB, qC, qD, qE, qF, qG, qH, qI]
      refine ⟨fun h => by omega, fun _ => ends ?_⟩
      simp [joinF, tails]
    | cons y tl =>
      simp only [List.length_cons] at hl
      simp only [sv, ↓gos, gop, qA, qB, qC, qD, qE, qF, qG, qH, qI]
      refine ⟨fun h => by omega, fun _ => ?_⟩
      intro v hv
      rw [wrap_i64 (by omega) (by omega)] at hv
      have hv : v = ((tl.length + 1 : Nat) : Int) := by rw [hv]; omega
      subst hv
      refine chk_i (by omega) ?_
      intro v1 hv1
      have hb : 1 < 9223372036854775807 / (tl.length + 1) := (Nat.le_div_iff_mul_le (by omega)).2 (by omega)
      have hb2 := Nat.div_le_self 9223372036854775807 (tl.length + 1)
      rw [Int.tdiv_eq_ediv_of_nonneg (by decide), show (9223372036854775807 : Int) = ((9223372036854775807 : Nat) : Int) from rfl, ← Int.natCast_ediv] at hv1
      generalize 9223372036854775807 / (tl.length + 1) = q at *
      rw [wrap_i64 (by omega) (by omega)] at hv1
      refine ⟨fun h => by omega, fun _ => ?_⟩
      clear hv1 hb hb2
      intro v2 hv2 v3 hv3 v4 hv4
      rw [wrap_i64 (by omega) (by omega)] at hv2
      rw [hv2, wrap_i64 (by omega) (by omega)] at hv3
      rw [hv3, wrap_i64 (by omega) (by omega)] at hv4
      have hv4 : v4 = ((tl.length + 1 + tot ([x, y] ++ tl |>.take 0) : Nat) : Int) := by rw [hv4]; simp [tot]
      subst hv4
      clear hv2 hv3
      have hL : (joinF 59 (x :: y :: tl)).length = tl.length + 1 + tot (x :: y :: tl) := by
        simp only [joinF, List.length_append, tails_len, tot, List.map_cons, List.sum_cons, List.length_cons]; omega
      generalize hl2 : x :: y :: tl = l2 at *
      have hll : l2.length = tl.length + 2 := by rw [← hl2]; rfl
      have hlv : [DV.str x] :: [DV.str y] :: List.map sv tl = l2.map sv := by rw [← hl2]; rfl
      simp only [hlv]
      refine goN_lp (γ := Nat) (fun i => [(41, .int .i64 i), (40, .int .i64 (tl.length + 1 + 1 : Nat)), (39, .sl 1 (l2.map sv)), (5, .int .i64 (tl.length + 1 + tot (l2.take i) : Nat)), (1, .str [59]), (0, .sl 1 (l2.map sv))])
        (fun _ => []) (fun i => i ≤ l2.length) (fun i => l2.length - i) 0 (wks rfl (by simp) ⟨rfl, rfl, rfl, by simp [slots, tot], rfl, rfl, trivial⟩) (by omega) fun i hi => ?_
      simp only [f149l0, ↓gos, gop, qA, qB, qC, qD, qE, qF, qG, qH, qI]
      have htt := tot_le l2 i
      refine ⟨fun h5 => ?_, fun h5 => ?_⟩
      · refine optP_at [] (by omega) ?_
        have ht := tot_take l2 i (by omega)
        have htl := tot_le l2 (i + 1)
        simp only [sv, ↓gos, gop, qA, qB, qC, qD, qE, qF, qG, qH, qI]
        intro v hv
        rw [wrap_i64 (by omega) (by omega)] at hv
        refine ⟨fun h => by omega, fun _ => ?_⟩
        intro v2 hv2 v3 hv3
        rw [wrap_i64 (by omega) (by omega)] at hv2 hv3
        have e2 : v2 = (tl.length + 1 + tot (l2.take (i + 1)) : Nat) := by rw [hv2, ht]; omega
        have e3 : v3 = ((i + 1 : Nat) : Int) := by rw [hv3]; rfl
        subst e2 e3
        exact rnd_s (i + 1) rfl (by simp) ⟨rfl, rfl, rfl, rfl, rfl, rfl, trivial⟩ (by omega) (by omega)
      · have hi2 : i = tl.length + 2 := by omega
        subst hi2
        have ht : tot (l2.take (tl.length + 2)) = tot l2 := by rw [List.take_of_length_le (by omega)]
        rw [ht]
        refine call_bld (gr := false) (gr' := true) (m := 0) (l := 1) rfl rfl rfl (grow190 _ (by omega) (by omega)) ?_
        subst hl2
        simp only [Buf, sv, List.map_cons, ↓gos, gop, qA, qB, qC, qD, qE, qF, qG, qH, qI]
        have hxl : x.length ≤ (joinF 59 (x :: y :: tl)).length := by simp [joinF]
        refine call_bld (gr := true) (gr' := true) (m := 0) (l := 1) rfl rfl rfl (ws58 true [] x (by simp; omega)) ?_
        simp only [Buf, List.nil_append, ↓gos, gop, qA, qB, qC, qD, qE, qF, qG, qH, qI]
        refine chk_i (by omega) ?_
        have hr : List.take (tl.length + 1 + 1 - 1) ([DV.str y] :: List.map sv tl) = (y :: tl).map sv := by
          rw [List.take_of_length_le (by simp)]; rfl
        have hJ : joinF 59 (x :: y :: tl) = x ++ tails 59 (y :: tl) := rfl
        generalize hr2 : y :: tl = r at *
        have hrl : r.length = tl.length + 1 := by rw [← hr2]; rfl
        rw [hr]
        have hm : ((r.map sv).length : Int) = ((r.length : Nat) : Int) := by simp
        rw [hm]
        clear hr hlv hL hll hi htt ht
        refine goN_lp (γ := Nat) (fun i => [(65, .int .i64 i), (64, .int .i64 r.length), (63, .sl 1 (r.map sv)), (8, .ptr 1 0), (1, .str [59])])
          (fun i => [.gbuf 5 (x ++ tails 59 (r.take i)), .box [.self 1 169 2, .hdr 0 5 (x ++ tails 59 (r.take i)).length]]) (fun i => i ≤ r.length) (fun i => r.length - i) 0
          (wks (by simp [tails]) (by simp) ⟨rfl, rfl, rfl, rfl, rfl, trivial⟩) (by omega) fun i hi => ?_
        simp only [f149l1, ↓gos, gop, qA, qB, qC, qD, qE, qF, qG, qH, qI]
        refine ⟨fun h5 => ?_, fun h5 => ?_⟩
        · refine optP_at [] (by omega) ?_
          have h1 := tails_take 59 r i (by omega)
          have h2 := tails_le 59 r (i + 1)
          have h3 : (x ++ tails 59 r).length < 1000000000 := by rw [← hJ]; exact hw
          rw [h1] at h2
          simp only [List.length_append, List.length_cons] at h2 h3
          simp only [sv, ↓gos, gop, qA, qB, qC, qD, qE, qF, qG, qH, qI]
          refine call_bld (gr := true) (gr' := true) (m := 0) (l := 1) rfl rfl rfl (ws58 true _ [59] (by simp; omega)) ?_
          simp only [Buf, ↓gos, gop, qA, qB, qC, qD, qE, qF, qG, qH, qI]
          refine call_bld (gr := true) (gr' := true) (m := 0) (l := 1) rfl rfl rfl (ws58 true _ _ (by simp only [List.length_append, List.length_cons, List.length_nil]; omega)) ?_
          simp only [Buf, ↓gos, gop, qA, qB, qC, qD, qE, qF, qG, qH, qI]
          intro v3 hv3
          rw [wrap_i64 (by omega) (by omega)] at hv3
          have e3 : v3 = ((i + 1 : Nat) : Int) := by rw [hv3]; rfl
          subst e3
          refine rnd_s (i + 1) ?_ (by simp) ⟨rfl, rfl, rfl, rfl, rfl, trivial⟩ (by omega) (by omega)
          simp only [h1, List.append_assoc, List.cons_append, List.nil_append]
        · have hi2 : i = r.length := by omega
          subst hi2
          rw [List.take_length, ← hJ]
          refine call_bstr (gr := true) (m := 0) (l := 1) rfl rfl (str60 true _) ?_
          simp only [↓gos, gop, qA, qB, qC, qD, qE, qF, qG, qH, qI]
          exact ends rfl
end Go.Proofs.Ut

/- sync.Once.Do of one goroutine, not yet done and the lock free: the lock is taken, the function is called, 'done' is stored, the lock is let go. After the kit's worked proof over toys/lazy. -/
namespace Go.Proofs.Ut
open Go.Proofs
set_option maxRecDepth 100000
theorem o_disable (w : World) : (callFunc 342 #[]).run Tryz.prog w = .ok (.value (.tuple #[])) w := run_call_mark0 Tryz.func342 (by kernel_rfl) (by kernel_rfl) (by kernel_rfl) .disable (by kernel_rfl) w
theorem o_enable (w : World) : (callFunc 344 #[]).run Tryz.prog w = .ok (.value (.tuple #[])) w := run_call_mark0 Tryz.func344 (by kernel_rfl) (by kernel_rfl) (by kernel_rfl) .enable (by kernel_rfl) w
theorem o_acquire (a : Addr) (w : World) : (callFunc 345 #[.pointer (some a)]).run Tryz.prog w = .ok (.value (.tuple #[])) w := run_call_marked Tryz.func345 (by kernel_rfl) (by kernel_rfl) (by kernel_rfl) .acquire (by kernel_rfl) a w
theorem o_releaseMerge (a : Addr) (w : World) : (callFunc 347 #[.pointer (some a)]).run Tryz.prog w = .ok (.value (.tuple #[])) w := run_call_marked Tryz.func347 (by kernel_rfl) (by kernel_rfl) (by kernel_rfl) .releaseMerge (by kernel_rfl) a w
theorem o_store (a : Addr) (x : Value) (u : FrameMode) (w : World) (hc : w.cell? a = some x) (hz : w.frozen? a = false) :
    CallsD Tryz.prog 312 #[.pointer (some a), .bool true] u w fun e u' w' => u' = u ∧ (e = .returned (.tuple #[]) ∧ w' = w.drew.setCell a (.int .u32 1)) := by
  have hc' : w.drew.cell? a = some x := by go_simp
  have hz' : w.drew.frozen? a = false := by go_simp
  have hst := run_call_store (P := Tryz.prog) Tryz.func333 (by kernel_rfl) (by kernel_rfl) (by kernel_rfl) (by kernel_rfl) (k := .u32) (y := 1) hc' hz'
  go_enter_d Tryz.func312, Tryz.ntmps312
  go_wp2
  go_region_calls
  all_goals (go_end0; exact ⟨rfl, rfl⟩)
theorem o_unlock (a : Addr) (u : FrameMode) (w : World) (hc : w.cell? a = some (.int .i32 1)) (hz : w.frozen? a = false) :
    CallsD Tryz.prog 311 #[.pointer (some a)] u w fun e u' w' => u' = u ∧ (e = .returned (.tuple #[]) ∧ w' = w.setCell a (.int .i32 0)) := by
  have hd := o_disable
  have he := o_enable
  have hr := o_releaseMerge
  have hadd := run_call_add (P := Tryz.prog) Tryz.func348 (by kernel_rfl) (by kernel_rfl) (by kernel_rfl) .i32 (by kernel_rfl) (y := -1) (s := 0) hc hz (by simp [go_sem]; rfl)
  have hcv := run_convert_to_unsafe (P := Tryz.prog) (src := 347) (dst := 272) Tryz.underlying347 Tryz.underlying272 (by kernel_rfl) hc
  go_enter_d Tryz.func311, Tryz.ntmps311
  go_wp2
  go_end0
  go_wp2
  go_end0
  exact ⟨rfl, rfl⟩
theorem o_lock (a : Addr) (w : World) (hc : w.cell? a = some (.int .i32 0)) (hz : w.frozen? a = false) :
    Calls Tryz.prog 310 #[.pointer (some a)] w fun e w' => e = .returned (.tuple #[]) ∧ w' = w.setCell a (.int .i32 1) := by
  have hd := o_disable
  have he := o_enable
  have ha := o_acquire
  have hcas := run_call_cas_hit (P := Tryz.prog) Tryz.func343 (by kernel_rfl) (by kernel_rfl) (by kernel_rfl) .i32 (by kernel_rfl) (y := 1) hc hz
  have hc' : (w.setCell a (.int .i32 1)).cell? a = some (.int .i32 1) := World.cell?_setCell_same w a _ hc
  have hcv := run_convert_to_unsafe (P := Tryz.prog) (src := 347) (dst := 272) Tryz.underlying347 Tryz.underlying272 (by kernel_rfl) hc'
  go_enter Tryz.func310, Tryz.ntmps310
  go_wp2
  first | go_end0 | (simp only [Exit.inBlock, Exit.then]; refine bodyPost_ret (results_none rfl _ _ _) rfl ?_) | refine bodyPost_ret (results_none rfl _ _ _) rfl ?_
  go_wp2
  go_end0
  exact ⟨rfl, rfl⟩
end Go.Proofs.Ut

/- sync.Once.Do, the slow road: whatever function is called between. -/
namespace Go.Proofs.Ut
open Go.Proofs
set_option maxRecDepth 100000
theorem o_load (a : Addr) (d : Int) (w : World) (h0 : w.cell? a = some (.int .u32 d)) :
    Calls Tryz.prog 276 #[.pointer (some a)] w fun e w' => e = .returned (.bool (d != 0)) ∧ w' = w := by
  have hl := run_call_load (P := Tryz.prog) Tryz.func309 (by kernel_rfl) (by kernel_rfl) (by kernel_rfl) .u32 (by kernel_rfl) h0
  go_enter Tryz.func276, Tryz.ntmps276
  go_wp2
  go_ret
  exact ⟨rfl, rfl⟩
set_option maxHeartbeats 1600000 in
theorem o_slow (b : Nat) (w : World) {Q : World → Prop}
    (h0 : w.cell? ⟨b, 0, none⟩ = some (.int .u32 0)) (h1 : w.cell? ⟨b, 1, none⟩ = some (.int .i32 0)) (f1 : w.frozen? ⟨b, 1, none⟩ = false)
    (hf : Calls Tryz.prog 228 #[.pointer (some ⟨b, 0, none⟩)] (w.setCell ⟨b, 1, none⟩ (.int .i32 1)) fun e w' => e = .returned (.tuple #[]) ∧
      w'.cell? ⟨b, 0, none⟩ = some (.int .u32 0) ∧ w'.cell? ⟨b, 1, none⟩ = some (.int .i32 1) ∧ w'.frozen? ⟨b, 0, none⟩ = false ∧ w'.frozen? ⟨b, 1, none⟩ = false ∧ Q w') :
    Calls Tryz.prog 277 #[.pointer (some ⟨b, 0, none⟩), .func (.func 228) #[.pointer (some ⟨b, 0, none⟩)] #[]] w fun e w' => e = .returned (.tuple #[]) ∧
      ∃ w1, Q w1 ∧ w' = (w1.drew.setCell ⟨b, 0, none⟩ (.int .u32 1)).setCell ⟨b, 1, none⟩ (.int .i32 0) := by
  have h0' : (w.setCell ⟨b, 1, none⟩ (.int .i32 1)).cell? ⟨b, 0, none⟩ = some (.int .u32 0) := (World.cell?_setCell_other _ ⟨b, 1, none⟩ ⟨b, 0, none⟩ _ (by simp)).trans h0
  have hnot : ∀ (x : Bool) (w : World), (Op.unary .not (.bool x)).run Tryz.prog w = .ok (.bool (!x)) w := fun _ _ => rfl
  go_enter_defers Tryz.func277, Tryz.ntmps277
  go_wp2_with (first | (go_at_call 276; refine (o_load _ _ _ h0').mono ?_; rintro e w' ⟨rfl, rfl⟩) | (go_at_call 310; refine (o_lock ⟨b, 1, none⟩ _ (by go_simp) (by go_simp)).mono ?_; rintro e w' ⟨rfl, rfl⟩) | (go_at_call 228; refine hf.mono ?_; rintro e w1 ⟨rfl, c0, c1, z0, z1, hq⟩))
  go_wp2
  refine leaves_cons (f := 312) (args := #[.pointer (some ⟨b, 0, none⟩), .bool true]) (by simp) (by simp [go_sem]) ?_
  refine (o_store ⟨b, 0, none⟩ (.int .u32 0) .returning _ c0 z0).mono ?_
  rintro e u' w'' ⟨rfl, rfl, rfl⟩
  refine leaves_cons (f := 311) (args := #[.pointer (some ⟨b, 1, none⟩)]) (by simp [settle]) (by simp [go_sem]) ?_
  refine (o_unlock ⟨b, 1, none⟩ _ _ ?_ (by simp [z1])).mono ?_
  · refine (World.cell?_setCell_other _ ⟨b, 0, none⟩ ⟨b, 1, none⟩ _ (by simp)).trans ?_
    rw [World.cell?_drew]
    exact c1
  rintro e u' w'' ⟨rfl, rfl, rfl⟩
  simp [Leaves, settle, results, Tryz.results277]
  exact ⟨_, hq, rfl⟩
set_option maxHeartbeats 1600000 in
theorem o_do (b : Nat) (w : World) {Q : World → Prop}
    (h0 : w.cell? ⟨b, 0, none⟩ = some (.int .u32 0)) (h1 : w.cell? ⟨b, 1, none⟩ = some (.int .i32 0)) (f1 : w.frozen? ⟨b, 1, none⟩ = false)
    (hf : Calls Tryz.prog 228 #[.pointer (some ⟨b, 0, none⟩)] (w.setCell ⟨b, 1, none⟩ (.int .i32 1)) fun e w' => e = .returned (.tuple #[]) ∧
      w'.cell? ⟨b, 0, none⟩ = some (.int .u32 0) ∧ w'.cell? ⟨b, 1, none⟩ = some (.int .i32 1) ∧ w'.frozen? ⟨b, 0, none⟩ = false ∧ w'.frozen? ⟨b, 1, none⟩ = false ∧ Q w') :
    Calls Tryz.prog 227 #[.pointer (some ⟨b, 0, none⟩), .func (.func 228) #[.pointer (some ⟨b, 0, none⟩)] #[]] w fun e w' => e = .returned (.tuple #[]) ∧
      ∃ w1, Q w1 ∧ w' = (w1.drew.setCell ⟨b, 0, none⟩ (.int .u32 1)).setCell ⟨b, 1, none⟩ (.int .i32 0) := by
  have hnot : ∀ (x : Bool) (w : World), (Op.unary .not (.bool x)).run Tryz.prog w = .ok (.bool (!x)) w := fun _ _ => rfl
  go_enter Tryz.func227, Tryz.ntmps227
  go_wp2_with (first | (go_at_call 276; refine (o_load _ _ _ h0).mono ?_; rintro e w' ⟨rfl, rfl⟩) | (go_at_call 277; refine (o_slow b _ h0 h1 f1 hf).mono ?_; rintro e w' ⟨rfl, w1, hq, rfl⟩))
  go_end0
  exact ⟨rfl, _, hq, rfl⟩
end Go.Proofs.Ut

/- sync.Once.Do as a contract of ours: the function that is handed in finds 'done' not set and the lock taken; behind it 'done' is set and the lock is free. -/
namespace Go.Ai
open Go.Proofs Go.Shelf Go.RowKit
theorem setCell_size (w : World) (a : Addr) (v : Value) : (w.setCell a v).heap.size = w.heap.size := by simp [World.setCell]
theorem frozen_of {w : World} {b o : Nat} {vs : Array Value} {t : TypeId} {fz : Nat × Nat} (h : w.heap[b]? = some (.cells vs t fz)) (hf : Thaw fz vs.size) (ho : o < vs.size) : w.frozen? ⟨b, o, none⟩ = false := by
  have := hf o ho
  simpa [World.frozen?, h] using this
theorem HRep.cell {E : Env} {w : World} {ok : Nat → Prop} {β : Loc} {h : List AObj} (hg : E.G w) (hN : E.N ≤ w.heap.size) (hh : HRep E.N w ok β h) {l b o : Nat} {cs : List DV} (hl : h[l]? = some (.box cs)) (hb : β l = some (b, 0)) (k : IntKind) (n : Int) :
    HRep E.N (w.setCell ⟨b, o, none⟩ (.int k n)) ok β (h.set l (.box (cs.set o (.int k n)))) ∧ E.G (w.setCell ⟨b, o, none⟩ (.int k n)) ∧ Ev w ok β (w.setCell ⟨b, o, none⟩ (.int k n)) ok β := by
  have hs : SRep E ⟨w, ok, β, h, 0, by omega, fun _ => undef⟩ { tmps := #[], defers := [] } w ok β ⟨fun _ => .undef, h⟩ := ⟨hg, Ev.refl _ _ _, hh, fun l cs hl => ⟨rfl, cs, hl⟩, Nat.le_refl _, fun s => .undef _, rfl, rfl, hN⟩
  obtain ⟨b', vs, t, fz, h1, h2, h3, h4, h5⟩ := hh.obj l _ hl
  rw [hb] at h1
  injection h1 with h1; injection h1 with e1 _
  subst e1
  have hw : (w.setCell ⟨b, o, none⟩ (.int k n)).heap[b]? = some (.cells (vs.setIfInBounds o (.int k n)) t fz) := by simp [World.setCell, Array.getElem?_modify, h2]
  have hot : ∀ k', k' ≠ b → (w.setCell ⟨b, o, none⟩ (.int k n)).heap[k']? = w.heap[k']? := fun k' hk => Below.heap_setCell _ _ _ _ hk
  have hsh : (w.setCell ⟨b, o, none⟩ (.int k n)).shape? b = w.shape? b := by simp [World.shape?, hw, h2]
  have := hs.write l b 0 (.box (cs.set o (.int k n))) (.box cs) (w' := w.setCell ⟨b, o, none⟩ (.int k n)) hb hl (fun _ _ => ⟨_, rfl⟩) rfl rfl rfl (by simp [World.setCell]) hot hsh
    ⟨b, _, t, fz, hb, hw, by simpa using h3, by simpa using h4, fun i v d hv hd => by
      rw [List.getElem?_set] at hd
      rw [Array.getElem?_setIfInBounds] at hv
      by_cases e : o = i
      · subst e
        simp only [if_true] at hd hv
        split at hd
        · split at hv
          · injection hd with hd; injection hv with hv; subst hd; subst hv; exact .int _ _
          · cases hv
        · cases hd
      · rw [if_neg e] at hd hv
        exact (h5 i v d hv hd).mono (fun _ q => q) (fun k' hk => hot k' fun e' => hh.dis l b 0 hb (e' ▸ hk)) (fun l' x hx => ⟨hx, by
          by_cases e' : x.1 = b
          · rw [e', hsh]
          · simp [World.shape?, hot _ e']⟩)⟩
  exact ⟨this.heap, this.g, this.ev⟩
theorem HRep.drew {E : Env} {w : World} {ok : Nat → Prop} {β : Loc} {h : List AObj} (hg : E.G w) (hN : E.N ≤ w.heap.size) (hh : HRep E.N w ok β h) :
    HRep E.N w.drew ok β h ∧ E.G w.drew ∧ Ev w ok β w.drew ok β := by
  have hs : SRep E ⟨w, ok, β, h, 0, by omega, fun _ => undef⟩ { tmps := #[], defers := [] } w ok β ⟨fun _ => .undef, h⟩ := ⟨hg, Ev.refl _ _ _, hh, fun l cs hl => ⟨rfl, cs, hl⟩, Nat.le_refl _, fun s => .undef _, rfl, rfl, hN⟩
  have := hs.drewN 1
  exact ⟨this.heap, this.g, this.ev⟩
end Go.Ai
namespace Go.Proofs.Ut
open Go.Ai Go.Proofs
theorem once67 {rest : List DV} {hs : List AObj} {post : List DV → List AObj → Prop}
    (h68 : ACalls ED 228 (.box (.int .u32 0 :: .int .i32 1 :: rest) :: hs) [.ptr 0 0] (fun h' d => d = .tup [] ∧ ∃ rest' hs', h' = .box (.int .u32 0 :: .int .i32 1 :: rest') :: hs' ∧ post rest' hs')) :
    ACalls ED 227 (.box (.int .u32 0 :: .int .i32 0 :: rest) :: hs) [.ptr 0 0, .bnd 228 [.ptr 0 0]] (fun h' d => d = .tup [] ∧ ∃ rest' hs', h' = .box (.int .u32 1 :: .int .i32 0 :: rest') :: hs' ∧ post rest' hs') := by
  refine ⟨⟨Tryz.f227, Tryz.func227, by kernel_rfl, by kernel_rfl⟩, fun w ok β vs hG hN hh hl hv => ?_⟩
  obtain ⟨v0, v1, rfl⟩ : ∃ v0 v1, vs = [v0, v1] := by
    match vs, hl with
    | [v0, v1], _ => exact ⟨v0, v1, rfl⟩
  obtain ⟨b, cur, t, fz, g1, g2, g3, g4, g5⟩ := hh.obj 0 _ rfl
  have r0 := hv 0 v0 _ rfl rfl
  have r1 := hv 1 v1 _ rfl rfl
  have ptr_eq : ∀ u, Rep w ok β u (.ptr 0 0) → u = .pointer (some ⟨b, 0, none⟩) := fun u hu => by
    cases hu with
    | ptr l o b' x h => rw [g1] at h; injection h with h; injection h with e1 e2; subst e1; subst e2; rfl
  obtain rfl := ptr_eq v0 r0
  obtain rfl : v1 = .func (.func 228) #[.pointer (some ⟨b, 0, none⟩)] #[] := by
    cases r1 with
    | bnd f us ds hl' hu =>
      match us, hl' with
      | [u], _ => rw [ptr_eq u (hu 0 u _ rfl rfl)]
  have hsz : cur.size = rest.length + 2 := by simpa using g4
  have c0 : w.cell? ⟨b, 0, none⟩ = some (.int .u32 0) := by
    have hx : cur[0]? = some cur[0] := Array.getElem?_eq_getElem (by omega)
    have := g5 0 _ _ hx rfl
    have e : cur[0] = .int .u32 0 := this.int_inv
    simp [World.cell?, g2, hx, e]
  have c1 : w.cell? ⟨b, 1, none⟩ = some (.int .i32 0) := by
    have hx : cur[1]? = some cur[1] := Array.getElem?_eq_getElem (by omega)
    have := g5 1 _ _ hx rfl
    have e : cur[1] = .int .i32 0 := this.int_inv
    simp [World.cell?, g2, hx, e]
  obtain ⟨k1, k2, k3⟩ := HRep.cell (o := 1) hG hN hh (l := 0) rfl g1 .i32 1
  have hN1 : ED.N ≤ (w.setCell ⟨b, 1, none⟩ (.int .i32 1)).heap.size := by rw [setCell_size]; exact hN
  have hf := h68.2 (w.setCell ⟨b, 1, none⟩ (.int .i32 1)) ok β [.pointer (some ⟨b, 0, none⟩)] k2 hN1 k1 rfl (fun i v d hi hd => by
    cases i with
    | zero => simp at hi hd; subst hi; subst hd; exact .ptr 0 0 b 0 g1
    | succ i => simp at hi)
  refine (o_do b w (Q := fun w1 => ∃ ok' β' rest' hs', ED.G w1 ∧ Ev (w.setCell ⟨b, 1, none⟩ (.int .i32 1)) ok β w1 ok' β' ∧ HRep ED.N w1 ok' β' (.box (.int .u32 0 :: .int .i32 1 :: rest') :: hs') ∧ post rest' hs' ∧
    (∀ (l : Nat) cs, (AObj.box (.int .u32 0 :: .int .i32 1 :: rest) :: hs)[l]? = some (.box cs) → β' l = β l ∧ ∃ cs', (AObj.box (.int .u32 0 :: .int .i32 1 :: rest') :: hs')[l]? = some (.box cs')) ∧ hs.length ≤ hs'.length) c0 c1 (frozen_of g2 g3 (by omega)) (hf.mono ?_)).mono ?_
  · rintro e w' ⟨v, ok', β', h', d, rfl, ⟨rfl, rest', hs', rfl, hp⟩, hG', hE', hH', hR', hfix, hlen, _⟩
    obtain ⟨b2, cur2, t2, fz2, q1, q2, q3, q4, q5⟩ := hH'.obj 0 _ rfl
    obtain ⟨e0, _⟩ := hfix 0 _ rfl
    rw [e0, g1] at q1
    injection q1 with q1; injection q1 with q1 _
    subst q1
    have hsz2 : cur2.size = rest'.length + 2 := by simpa using q4
    have x0 : cur2[0]? = some cur2[0] := Array.getElem?_eq_getElem (by omega)
    have x1 : cur2[1]? = some cur2[1] := Array.getElem?_eq_getElem (by omega)
    have e0' : cur2[0] = .int .u32 0 := (q5 0 _ _ x0 rfl).int_inv
    have e1' : cur2[1] = .int .i32 1 := (q5 1 _ _ x1 rfl).int_inv
    refine ⟨?_, by simp [World.cell?, q2, x0, e0'], by simp [World.cell?, q2, x1, e1'], frozen_of q2 q3 (by omega), frozen_of q2 q3 (by omega), ok', β', rest', hs', hG', hE', hH', hp, hfix, by simpa using hlen⟩
    cases hR' with
    | tup us ds hl' hu =>
      match us, hl' with
      | [], _ => rfl
  · rintro e w' ⟨rfl, w1, ⟨ok', β', rest', hs', hG', hE', hH', hp, hfix, hlen⟩, rfl⟩
    obtain ⟨e0, _⟩ := hfix 0 _ rfl
    have hb' : β' 0 = some (b, 0) := e0.trans g1
    have hN' : ED.N ≤ w1.heap.size := Nat.le_trans hN1 hE'.size
    obtain ⟨d1, d2, d3⟩ := HRep.drew hG' hN' hH'
    obtain ⟨a1, a2, a3⟩ := HRep.cell (o := 0) d2 hN' d1 (l := 0) rfl hb' .u32 1
    obtain ⟨m1, m2, m3⟩ := HRep.cell (o := 1) a2 (by rw [setCell_size]; exact hN') a1 (l := 0) rfl hb' .i32 0
    refine ⟨.tuple #[], ok', β', _, .tup [], rfl, ⟨rfl, rest', hs', rfl, hp⟩, m2, ((((k3.trans hE').trans d3).trans a3).trans m3), m1, .tup [] [] rfl (fun i v d hi => by simp at hi), fun l cs hl => ?_, by simpa using hlen, fun h => by cases h⟩
    cases l with
    | zero => exact ⟨e0, _, rfl⟩
    | succ l =>
      obtain ⟨f1, cs', f2⟩ := hfix (l + 1) cs (by simpa using hl)
      exact ⟨f1, cs', by simpa using f2⟩
end Go.Proofs.Ut

/- strings.Replacer as fold.Value lays it: five bytes, each with its replacement. -/
namespace Go.Proofs.Ut
open Go.Ai
set_option maxRecDepth 100000
set_option linter.all false
def ON : List (List DV) := [[.str [92]], [.str [92, 92]], [.str [44]], [.str [92, 44]], [.str [59]], [.str [92, 59]], [.str [10]], [.str [92, 110]], [.str [13]], [.str []]]
def tb (f : Nat → DV) : List DV := (List.range 257).map f
def up1 (f : Nat → DV) (o : Nat) (d : DV) (i : Nat) : DV := if i = o then d else f i
theorem tb_rep (d : DV) : List.replicate 257 d = tb fun _ => d := by
  unfold tb
  rw [List.map_const', List.length_range]
theorem tb_len (f : Nat → DV) : (tb f).length = 257 := by simp [tb]
theorem tb_drop (f : Nat → DV) : (tb f).drop 257 = [] := List.drop_of_length_le (by rw [tb_len]; exact Nat.le_refl _)
theorem tb_get (f : Nat → DV) {i : Nat} (h : i ≤ 256) : (tb f)[i]? = some (f i) := by simp [tb, Nat.lt_succ_iff.2 h]
theorem tb_put (f : Nat → DV) {o : Nat} (d : DV) (h : o ≤ 256) : (tb f).take o ++ [d] ++ (tb f).drop (o + 1) = tb (up1 f o d) := by
  have e : (tb f).set o d = (tb f).take o ++ d :: (tb f).drop (o + 1) := by rw [List.set_eq_take_append_cons_drop, if_pos (by rw [tb_len]; omega)]
  rw [List.append_assoc, List.singleton_append, ← e]
  refine List.ext_getElem? fun i => ?_
  rw [List.getElem?_set, tb_len]
  by_cases e : o = i
  · subst e; rw [if_pos rfl, if_pos (by omega), tb_get _ h]; simp [up1]
  · rw [if_neg e]
    by_cases hi : i ≤ 256
    · rw [tb_get _ hi, tb_get _ hi]; simp [up1, Ne.symm e]
    · rw [List.getElem?_eq_none (by rw [tb_len]; omega), List.getElem?_eq_none (by rw [tb_len]; omega)]
theorem tb_all (p : DV → Bool) (f : Nat → DV) (h : ∀ i, p (f i) = true) : (tb f).all p = true := by simp [tb, h]
def noNil : DV → Bool
  | .nils _ => false
  | _ => true
theorem own_no : ∀ (l : List DV) (h : List AObj), l.all noNil = true → ownCells l h = (l, h)
  | [], h, _ => rfl
  | d :: l, h, ha => by
    simp only [List.all_cons, Bool.and_eq_true] at ha
    have e : ownCell d h = (d, h) := by cases d <;> first | rfl | cases ha.1
    simp only [ownCells, e, own_no l h ha.2]
theorem ocP_tb (f : Nat → DV) (hf : ∀ i, noNil (f i) = true) (h : List AObj) (K : List DV → List AObj → Prop) : ocP (tb f) h K = K (tb f) h := by
  unfold ocP
  rw [own_no _ _ (tb_all noNil f hf)]
theorem b13 : bt [13] 0 = 13 := rfl
theorem b10 : bt [10] 0 = 10 := rfl
theorem b59 : bt [59] 0 = 59 := rfl
theorem b44 : bt [44] 0 = 44 := rfl
theorem b92 : bt [92] 0 = 92 := rfl
def T0 : Nat → DV := fun _ => .emp true 1
def tabG (tr p92 p44 p59 p10 : Nat) (i : Nat) : DV :=
  if i = 256 then .osl 1 tr 0 5 (some 5) else if i = 92 then .osl 1 p92 0 2 none else if i = 44 then .osl 1 p44 0 2 none else if i = 59 then .osl 1 p59 0 2 none
  else if i = 10 then .osl 1 p10 0 2 none else if i = 13 then .emp false 1 else .emp true 1
theorem tb_map (f : Nat → DV) (g : DV → DV) : (tb f).map g = tb fun i => g (f i) := by simp [tb]
theorem tabG_all (p : DV → Bool) (tr p92 p44 p59 p10 : Nat) (h1 : p (.osl 1 tr 0 5 (some 5)) = true) (h2 : p (.osl 1 p92 0 2 none) = true) (h3 : p (.osl 1 p44 0 2 none) = true) (h4 : p (.osl 1 p59 0 2 none) = true)
    (h5 : p (.osl 1 p10 0 2 none) = true) (h6 : p (.emp false 1) = true) (h7 : p (.emp true 1) = true) : (tb (tabG tr p92 p44 p59 p10)).all p = true := by
  refine tb_all _ _ fun i => ?_
  unfold tabG
  repeat' split
  all_goals assumption
theorem tabG_ren (ρ : Nat → Nat) (tr p92 p44 p59 p10 : Nat) : (tb (tabG tr p92 p44 p59 p10)).map (DV.ren ρ) = tb (tabG (ρ tr) (ρ p92) (ρ p44) (ρ p59) (ρ p10)) := by
  rw [tb_map]
  congr 1
  funext i
  unfold tabG
  repeat' split
  all_goals rfl
def byB (bs : List UInt8) : List (List DV) := bs.map fun b => [.int .u8 b.toNat]
def RR : List AObj := [.arr 1 [[.str [13]], [.str [10]], [.str [59]], [.str [44]], [.str [92]]], .arr 1 (byB [92, 110]), .arr 1 (byB [92, 59]), .arr 1 (byB [92, 44]), .arr 1 (byB [92, 92])]
set_option maxHeartbeats 4000000 in
theorem build94 : ACalls ED 278 [.box [.int .u32 0, .int .i32 1, .int .u32 0, .nili, .osl 1 1 0 10 none], .arr 1 ON] [.ptr 0 0] 
    (fun h' d => h' = .box [.int .u32 0, .int .i32 1, .int .u32 0, .nili, .osl 1 1 0 10 none] :: .arr 1 ON :: .box (tb (tabG 3 7 6 5 4)) :: RR ∧ d = .ifc 319 [.ptr 2 0]) := by
  refine acalls_go c278 (by simp [f278]) ?_
  simp only [f278, forall_eq, IntKind.wrap, IntKind.bits, IntKind.signed, rA, rB, rC, rD, rE, rF, rG, rH, rI, Int.reduceNeg, reduceIte, reduceCtorEq, ge_iff_le, Nat.reduceEqDiff, ↓gos, gop, qA, qB, qC, qD, qE, qF, qG, qH, qI]
  refine goN_un 6 ?_
  simp only [f278l0, ON, forall_eq, IntKind.wrap, IntKind.bits, IntKind.signed, rA, rB, rC, rD, rE, rF, rG, rH, rI, Int.reduceNeg, reduceIte, reduceCtorEq, ge_iff_le, Nat.reduceEqDiff, ↓gos, gop, qA, qB, qC, qD, qE, qF, qG, qH, qI]
  iterate 5 (refine un_go ?_; simp only [f278l0, forall_eq, IntKind.wrap, IntKind.bits, IntKind.signed, rA, rB, rC, rD, rE, rF, rG, rH, rI, Int.reduceNeg, reduceIte, reduceCtorEq, ge_iff_le, Nat.reduceEqDiff, ↓gos, gop, qA, qB, qC, qD, qE, qF, qG, qH, qI])
  have o0 : ∀ h K, ocP (tb T0) h K = K (tb T0) h := fun h K => ocP_tb _ (fun _ => rfl) h K
  have n1 : ∀ i, noNil (up1 T0 256 (.osl 1 2 0 0 (some 5)) i) = true := fun i => by unfold up1; split <;> rfl
  have o1 : ∀ h K, ocP (tb (up1 T0 256 (.osl 1 2 0 0 (some 5)))) h K = K (tb (up1 T0 256 (.osl 1 2 0 0 (some 5)))) h := fun h K => ocP_tb _ n1 h K
  have a1 : (tb (up1 T0 256 (.osl 1 2 0 0 (some 5)))).all DV.one = true := tb_all _ _ fun i => by unfold up1; split <;> rfl
  have r5 : List.replicate 5 [DV.str []] = [[.str []], [.str []], [.str []], [.str []], [.str []]] := rfl
  have e0 : List.replicate 257 (DV.emp true 1) = tb T0 := tb_rep _
  have e1 : (tb T0).take 256 ++ [.osl 1 2 0 0 (some 5)] ++ (tb T0).drop 257 = tb (up1 T0 256 (.osl 1 2 0 0 (some 5))) := tb_put _ _ (by omega)
  rw [tb_drop, List.append_nil] at e1
  simp only [e0, e1, o0, o1, a1, tb_len, tb_drop, forall_eq, IntKind.wrap, IntKind.bits, IntKind.signed, rA, rB, rC, rD, rE, rF, rG, rH, rI, Int.reduceNeg, reduceIte, reduceCtorEq, ge_iff_le, Nat.reduceEqDiff, ↓gos, gop, qA, qB, qC, qD, qE, qF, qG, qH, qI]
  refine goN_un 6 ?_
  simp only [f278l3, tb_get, tb_put, tb_len, knm_emp, up1, T0, b13, b10, b59, b44, b92, r5, forall_eq, IntKind.wrap, IntKind.bits, IntKind.signed, rA, rB, rC, rD, rE, rF, rG, rH, rI, Int.reduceNeg, reduceIte, reduceCtorEq, ge_iff_le, Nat.reduceEqDiff, ↓gos, gop, qA, qB, qC, qD, qE, qF, qG, qH, qI]
  refine .inr ⟨_, rfl, by simp, [13], rfl, ?_⟩
  refine s2b_emp ?_
  simp only [tb_get, tb_put, tb_len, knm_emp, up1, T0, b13, b10, b59, b44, b92, r5, forall_eq, IntKind.wrap, IntKind.bits, IntKind.signed, rA, rB, rC, rD, rE, rF, rG, rH, rI, Int.reduceNeg, reduceIte, reduceCtorEq, ge_iff_le, Nat.reduceEqDiff, ↓gos, gop, qA, qB, qC, qD, qE, qF, qG, qH, qI]
  refine un_go ?_
  simp only [f278l3, tb_get, tb_put, tb_len, knm_emp, up1, T0, b13, b10, b59, b44, b92, r5, forall_eq, IntKind.wrap, IntKind.bits, IntKind.signed, rA, rB, rC, rD, rE, rF, rG, rH, rI, Int.reduceNeg, reduceIte, reduceCtorEq, ge_iff_le, Nat.reduceEqDiff, ↓gos, gop, qA, qB, qC, qD, qE, qF, qG, qH, qI]
  refine .inr ⟨_, rfl, by simp, [10], rfl, ?_⟩
  refine s2b_osl ?_
  simp only [tb_get, tb_put, tb_len, knm_emp, up1, T0, b13, b10, b59, b44, b92, r5, forall_eq, IntKind.wrap, IntKind.bits, IntKind.signed, rA, rB, rC, rD, rE, rF, rG, rH, rI, Int.reduceNeg, reduceIte, reduceCtorEq, ge_iff_le, Nat.reduceEqDiff, ↓gos, gop, qA, qB, qC, qD, qE, qF, qG, qH, qI]
  refine un_go ?_
  simp only [f278l3, tb_get, tb_put, tb_len, knm_emp, up1, T0, b13, b10, b59, b44, b92, r5, forall_eq, IntKind.wrap, IntKind.bits, IntKind.signed, rA, rB, rC, rD, rE, rF, rG, rH, rI, Int.reduceNeg, reduceIte, reduceCtorEq, ge_iff_le, Nat.reduceEqDiff, ↓gos, gop, qA, qB, qC, qD, qE, qF, qG, qH, qI]
  refine .inr ⟨_, rfl, by simp, [59], rfl, ?_⟩
  refine s2b_osl ?_
  simp only [tb_get, tb_put, tb_len, knm_emp, up1, T0, b13, b10, b59, b44, b92, r5, forall_eq, IntKind.wrap, IntKind.bits, IntKind.signed, rA, rB, rC, rD, rE, rF, rG, rH, rI, Int.reduceNeg, reduceIte, reduceCtorEq, ge_iff_le, Nat.reduceEqDiff, ↓gos, gop, qA, qB, qC, qD, qE, qF, qG, qH, qI]
  refine un_go ?_
  simp only [f278l3, tb_get, tb_put, tb_len, knm_emp, up1, T0, b13, b10, b59, b44, b92, r5, forall_eq, IntKind.wrap, IntKind.bits, IntKind.signed, rA, rB, rC, rD, rE, rF, rG, rH, rI, Int.reduceNeg, reduceIte, reduceCtorEq, ge_iff_le, Nat.reduceEqDiff, ↓gos, gop, qA, qB, qC, qD, qE, qF, qG, qH, qI]
  refine .inr ⟨_, rfl, by simp, [44], rfl, ?_⟩
  refine s2b_osl ?_
  simp only [tb_get, tb_put, tb_len, knm_emp, up1, T0, b13, b10, b59, b44, b92, r5, forall_eq, IntKind.wrap, IntKind.bits, IntKind.signed, rA, rB, rC, rD, rE, rF, rG, rH, rI, Int.reduceNeg, reduceIte, reduceCtorEq, ge_iff_le, Nat.reduceEqDiff, ↓gos, gop, qA, qB, qC, qD, qE, qF, qG, qH, qI]
  refine un_go ?_
  simp only [f278l3, tb_get, tb_put, tb_len, knm_emp, up1, T0, b13, b10, b59, b44, b92, r5, forall_eq, IntKind.wrap, IntKind.bits, IntKind.signed, rA, rB, rC, rD, rE, rF, rG, rH, rI, Int.reduceNeg, reduceIte, reduceCtorEq, ge_iff_le, Nat.reduceEqDiff, ↓gos, gop, qA, qB, qC, qD, qE, qF, qG, qH, qI]
  refine .inr ⟨_, rfl, by simp, [92], rfl, ?_⟩
  refine s2b_osl ?_
  simp only [tb_get, tb_put, tb_len, knm_emp, up1, T0, b13, b10, b59, b44, b92, r5, forall_eq, IntKind.wrap, IntKind.bits, IntKind.signed, rA, rB, rC, rD, rE, rF, rG, rH, rI, Int.reduceNeg, reduceIte, reduceCtorEq, ge_iff_le, Nat.reduceEqDiff, ↓gos, gop, qA, qB, qC, qD, qE, qF, qG, qH, qI]
  refine un_go ?_
  simp only [f278l3, tb_get, tb_put, tb_len, knm_emp, up1, T0, b13, b10, b59, b44, b92, r5, forall_eq, IntKind.wrap, IntKind.bits, IntKind.signed, rA, rB, rC, rD, rE, rF, rG, rH, rI, Int.reduceNeg, reduceIte, reduceCtorEq, ge_iff_le, Nat.reduceEqDiff, ↓gos, gop, qA, qB, qC, qD, qE, qF, qG, qH, qI]
  have eF : (up1 (up1 (up1 (up1 (up1 (up1 (up1 (up1 (up1 (up1 (up1 T0 256 (.osl 1 2 0 0 (some 5))) 256 (.osl 1 2 0 1 (some 5))) 13 (.emp false 1)) 256 (.osl 1 2 0 2 (some 5))) 10 (.osl 1 9 0 2 none)) 256 (.osl 1 2 0 3 (some 5))) 59 (.osl 1 12 0 2 none)) 256 (.osl 1 2 0 4 (some 5))) 44 (.osl 1 15 0 2 none)) 256 (.osl 1 2 0 5 (some 5))) 92 (.osl 1 18 0 2 none)) = tabG 2 18 15 12 9 := by
    funext i
    simp only [up1, T0, tabG]
    repeat' split
    all_goals first | rfl | omega
  rw [eF]
  refine end_h [0, 1, 3, 2, 9, 12, 15, 18] (by decide) (by decide) (fun i hi => by match i, hi with | 0, _ => rfl | 1, _ => rfl) (by decide) rfl ?_ ?_ rfl ⟨rfl, rfl⟩
  · intro l hl
    simp only [List.mem_cons, List.not_mem_nil, or_false] at hl
    rcases hl with rfl | rfl | rfl | rfl | rfl | rfl | rfl | rfl
    all_goals first | rfl | exact tabG_all _ _ _ _ _ _ rfl rfl rfl rfl rfl rfl rfl
  · simp only [List.map_cons, List.map_nil, List.getD_cons_zero, List.getD_cons_succ, renO, tabG_ren]
    rfl
end Go.Proofs.Ut
