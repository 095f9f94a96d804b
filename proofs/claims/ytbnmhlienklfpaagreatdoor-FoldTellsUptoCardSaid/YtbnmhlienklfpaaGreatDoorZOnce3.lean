/- sync.Once.Do of one goroutine, not yet done and the lock free: the lock is taken, the function is called, 'done' is stored, the lock is let go. After the kit's worked proof over toys/lazy. -/
import Derived.Test.YtbnmhlienklfpaaGreatDoorProg
import Derived.Tactics
import Derived.Tactics2
import Derived.Defers
import Derived.Laws.Pointers
import Derived.Laws.LoneSync
import Derived.RegionTactic
import Derived.RegionCalls
import Derived.ChangeAlike
import Derived.KernelRfl
import Derived.Test.YtbnmhlienklfpaaGreatDoorZFoUtF
import Derived.Test.YtbnmhlienklfpaaGreatDoorAiUn
import Derived.Test.YtbnmhlienklfpaaGreatDoorAiHand3
set_option linter.all false
namespace Go.Proofs.Ut
open Go.Proofs
set_option maxRecDepth 100000
theorem o_disable (w : World) : (callFunc 143 #[]).run Tryz.prog w = .ok (.value (.tuple #[])) w := run_call_mark0 Tryz.func143 (by kernel_rfl) (by kernel_rfl) (by kernel_rfl) .disable (by kernel_rfl) w
theorem o_enable (w : World) : (callFunc 145 #[]).run Tryz.prog w = .ok (.value (.tuple #[])) w := run_call_mark0 Tryz.func145 (by kernel_rfl) (by kernel_rfl) (by kernel_rfl) .enable (by kernel_rfl) w
theorem o_acquire (a : Addr) (w : World) : (callFunc 146 #[.pointer (some a)]).run Tryz.prog w = .ok (.value (.tuple #[])) w := run_call_marked Tryz.func146 (by kernel_rfl) (by kernel_rfl) (by kernel_rfl) .acquire (by kernel_rfl) a w
theorem o_releaseMerge (a : Addr) (w : World) : (callFunc 148 #[.pointer (some a)]).run Tryz.prog w = .ok (.value (.tuple #[])) w := run_call_marked Tryz.func148 (by kernel_rfl) (by kernel_rfl) (by kernel_rfl) .releaseMerge (by kernel_rfl) a w
theorem o_store (a : Addr) (x : Value) (u : FrameMode) (w : World) (hc : w.cell? a = some x) (hz : w.frozen? a = false) :
    CallsD Tryz.prog 115 #[.pointer (some a), .bool true] u w fun e u' w' => u' = u ∧ (e = .returned (.tuple #[]) ∧ w' = w.drew.setCell a (.int .u32 1)) := by
  have hc' : w.drew.cell? a = some x := by go_simp
  have hz' : w.drew.frozen? a = false := by go_simp
  have hst := run_call_store (P := Tryz.prog) Tryz.func130 (by kernel_rfl) (by kernel_rfl) (by kernel_rfl) (by kernel_rfl) (k := .u32) (y := 1) hc' hz'
  go_enter_d Tryz.func115, Tryz.ntmps115
  go_wp2
  go_region_calls
  all_goals (go_end0; exact ⟨rfl, rfl⟩)
theorem o_unlock (a : Addr) (u : FrameMode) (w : World) (hc : w.cell? a = some (.int .i32 1)) (hz : w.frozen? a = false) :
    CallsD Tryz.prog 114 #[.pointer (some a)] u w fun e u' w' => u' = u ∧ (e = .returned (.tuple #[]) ∧ w' = w.setCell a (.int .i32 0)) := by
  have hd := o_disable
  have he := o_enable
  have hr := o_releaseMerge
  have hadd := run_call_add (P := Tryz.prog) Tryz.func149 (by kernel_rfl) (by kernel_rfl) (by kernel_rfl) .i32 (by kernel_rfl) (y := -1) (s := 0) hc hz (by simp [go_sem]; rfl)
  have hcv := run_convert_to_unsafe (P := Tryz.prog) (src := 211) (dst := 131) Tryz.underlying211 Tryz.underlying131 (by kernel_rfl) hc
  go_enter_d Tryz.func114, Tryz.ntmps114
  go_wp2
  go_end0
  go_wp2
  go_end0
  exact ⟨rfl, rfl⟩
theorem o_lock (a : Addr) (w : World) (hc : w.cell? a = some (.int .i32 0)) (hz : w.frozen? a = false) :
    Calls Tryz.prog 113 #[.pointer (some a)] w fun e w' => e = .returned (.tuple #[]) ∧ w' = w.setCell a (.int .i32 1) := by
  have hd := o_disable
  have he := o_enable
  have ha := o_acquire
  have hcas := run_call_cas_hit (P := Tryz.prog) Tryz.func144 (by kernel_rfl) (by kernel_rfl) (by kernel_rfl) .i32 (by kernel_rfl) (y := 1) hc hz
  have hc' : (w.setCell a (.int .i32 1)).cell? a = some (.int .i32 1) := World.cell?_setCell_same w a _ hc
  have hcv := run_convert_to_unsafe (P := Tryz.prog) (src := 211) (dst := 131) Tryz.underlying211 Tryz.underlying131 (by kernel_rfl) hc'
  go_enter Tryz.func113, Tryz.ntmps113
  go_wp2
  first | go_end0 | (simp only [Exit.inBlock, Exit.then]; refine bodyPost_ret (results_none rfl _ _ _) rfl ?_) | refine bodyPost_ret (results_none rfl _ _ _) rfl ?_
  go_wp2
  go_end0
  exact ⟨rfl, rfl⟩
end Go.Proofs.Ut

/- sync.Once.Do, the slow road: whatever function is called between. -/
namespace Go.Proofs.Ut
open Go.Proofs
set_option maxRecDepth 100000
theorem o_load (a : Addr) (d : Int) (w : World) (h0 : w.cell? a = some (.int .u32 d)) :
    Calls Tryz.prog 92 #[.pointer (some a)] w fun e w' => e = .returned (.bool (d != 0)) ∧ w' = w := by
  have hl := run_call_load (P := Tryz.prog) Tryz.func112 (by kernel_rfl) (by kernel_rfl) (by kernel_rfl) .u32 (by kernel_rfl) h0
  go_enter Tryz.func92, Tryz.ntmps92
  go_wp2
  go_ret
  exact ⟨rfl, rfl⟩
set_option maxHeartbeats 1600000 in
theorem o_slow (b : Nat) (w : World) {Q : World → Prop}
    (h0 : w.cell? ⟨b, 0, none⟩ = some (.int .u32 0)) (h1 : w.cell? ⟨b, 1, none⟩ = some (.int .i32 0)) (f1 : w.frozen? ⟨b, 1, none⟩ = false)
    (hf : Calls Tryz.prog 68 #[.pointer (some ⟨b, 0, none⟩)] (w.setCell ⟨b, 1, none⟩ (.int .i32 1)) fun e w' => e = .returned (.tuple #[]) ∧
      w'.cell? ⟨b, 0, none⟩ = some (.int .u32 0) ∧ w'.cell? ⟨b, 1, none⟩ = some (.int .i32 1) ∧ w'.frozen? ⟨b, 0, none⟩ = false ∧ w'.frozen? ⟨b, 1, none⟩ = false ∧ Q w') :
    Calls Tryz.prog 93 #[.pointer (some ⟨b, 0, none⟩), .func (.func 68) #[.pointer (some ⟨b, 0, none⟩)] #[]] w fun e w' => e = .returned (.tuple #[]) ∧
      ∃ w1, Q w1 ∧ w' = (w1.drew.setCell ⟨b, 0, none⟩ (.int .u32 1)).setCell ⟨b, 1, none⟩ (.int .i32 0) := by
  have h0' : (w.setCell ⟨b, 1, none⟩ (.int .i32 1)).cell? ⟨b, 0, none⟩ = some (.int .u32 0) := (World.cell?_setCell_other _ ⟨b, 1, none⟩ ⟨b, 0, none⟩ _ (by simp)).trans h0
  have hnot : ∀ (x : Bool) (w : World), (Op.unary .not (.bool x)).run Tryz.prog w = .ok (.bool (!x)) w := fun _ _ => rfl
  go_enter_defers Tryz.func93, Tryz.ntmps93
  go_wp2_with (first | (go_at_call 92; refine (o_load _ _ _ h0').mono ?_; rintro e w' ⟨rfl, rfl⟩) | (go_at_call 113; refine (o_lock ⟨b, 1, none⟩ _ (by go_simp) (by go_simp)).mono ?_; rintro e w' ⟨rfl, rfl⟩) | (go_at_call 68; refine hf.mono ?_; rintro e w1 ⟨rfl, c0, c1, z0, z1, hq⟩))
  go_wp2
  refine leaves_cons (f := 115) (args := #[.pointer (some ⟨b, 0, none⟩), .bool true]) (by simp) (by simp [go_sem]) ?_
  refine (o_store ⟨b, 0, none⟩ (.int .u32 0) .returning _ c0 z0).mono ?_
  rintro e u' w'' ⟨rfl, rfl, rfl⟩
  refine leaves_cons (f := 114) (args := #[.pointer (some ⟨b, 1, none⟩)]) (by simp [settle]) (by simp [go_sem]) ?_
  refine (o_unlock ⟨b, 1, none⟩ _ _ ?_ (by simp [z1])).mono ?_
  · refine (World.cell?_setCell_other _ ⟨b, 0, none⟩ ⟨b, 1, none⟩ _ (by simp)).trans ?_
    rw [World.cell?_drew]
    exact c1
  rintro e u' w'' ⟨rfl, rfl, rfl⟩
  simp [Leaves, settle, results, Tryz.results93]
  exact ⟨_, hq, rfl⟩
set_option maxHeartbeats 1600000 in
theorem o_do (b : Nat) (w : World) {Q : World → Prop}
    (h0 : w.cell? ⟨b, 0, none⟩ = some (.int .u32 0)) (h1 : w.cell? ⟨b, 1, none⟩ = some (.int .i32 0)) (f1 : w.frozen? ⟨b, 1, none⟩ = false)
    (hf : Calls Tryz.prog 68 #[.pointer (some ⟨b, 0, none⟩)] (w.setCell ⟨b, 1, none⟩ (.int .i32 1)) fun e w' => e = .returned (.tuple #[]) ∧
      w'.cell? ⟨b, 0, none⟩ = some (.int .u32 0) ∧ w'.cell? ⟨b, 1, none⟩ = some (.int .i32 1) ∧ w'.frozen? ⟨b, 0, none⟩ = false ∧ w'.frozen? ⟨b, 1, none⟩ = false ∧ Q w') :
    Calls Tryz.prog 67 #[.pointer (some ⟨b, 0, none⟩), .func (.func 68) #[.pointer (some ⟨b, 0, none⟩)] #[]] w fun e w' => e = .returned (.tuple #[]) ∧
      ∃ w1, Q w1 ∧ w' = (w1.drew.setCell ⟨b, 0, none⟩ (.int .u32 1)).setCell ⟨b, 1, none⟩ (.int .i32 0) := by
  have hnot : ∀ (x : Bool) (w : World), (Op.unary .not (.bool x)).run Tryz.prog w = .ok (.bool (!x)) w := fun _ _ => rfl
  go_enter Tryz.func67, Tryz.ntmps67
  go_wp2_with (first | (go_at_call 92; refine (o_load _ _ _ h0).mono ?_; rintro e w' ⟨rfl, rfl⟩) | (go_at_call 93; refine (o_slow b _ h0 h1 f1 hf).mono ?_; rintro e w' ⟨rfl, w1, hq, rfl⟩))
  go_end0
  exact ⟨rfl, _, hq, rfl⟩
end Go.Proofs.Ut

/- sync.Once.Do as a contract of ours: the function that is handed in finds 'done' not set and the lock taken; behind it 'done' is set and the lock is free. -/
namespace Go.Ai
open Go.Proofs Go.Shelf Go.RowKit
theorem setCell_size (w : World) (a : Addr) (v : Value) : (w.setCell a v).heap.size = w.heap.size := by simp [World.setCell]
theorem frozen_of {w : World} {b o : Nat} {vs : Array Value} {t : TypeId} {fz : Nat × Nat} (h : w.heap[b]? = some (.cells vs t fz)) (hf : Thaw fz vs.size) (ho : o < vs.size) : w.frozen? ⟨b, o, none⟩ = false := by
  have := hf o ho
  simpa [World.frozen?, h] using this
/-- One cell of a variable of the call's own is written. -/
theorem HRep.cell {E : Env} {w : World} {ok : Nat → Prop} {β : Loc} {h : List AObj} (hg : E.G w) (hN : E.N ≤ w.heap.size) (hh : HRep E.N w ok β h) {l b o : Nat} {cs : List DV} (hl : h[l]? = some (.box cs)) (hb : β l = some (b, 0)) (k : IntKind) (n : Int) :
    HRep E.N (w.setCell ⟨b, o, none⟩ (.int k n)) ok β (h.set l (.box (cs.set o (.int k n)))) ∧ E.G (w.setCell ⟨b, o, none⟩ (.int k n)) ∧ Ev w ok β (w.setCell ⟨b, o, none⟩ (.int k n)) ok β := by
  have hs : SRep E ⟨w, ok, β, h, 0⟩ { tmps := #[], defers := [] } w ok β ⟨fun _ => .undef, h⟩ := ⟨hg, Ev.refl _ _ _, hh, fun l cs hl => ⟨rfl, cs, hl⟩, Nat.le_refl _, fun s => .undef _, rfl, rfl, hN⟩
  obtain ⟨b', vs, t, fz, h1, h2, h3, h4, h5⟩ := hh.obj l _ hl
  rw [hb] at h1
  injection h1 with h1; injection h1 with e1 _
  subst e1
  have hw : (w.setCell ⟨b, o, none⟩ (.int k n)).heap[b]? = some (.cells (vs.setIfInBounds o (.int k n)) t fz) := by simp [World.setCell, Array.getElem?_modify, h2]
  have hot : ∀ k', k' ≠ b → (w.setCell ⟨b, o, none⟩ (.int k n)).heap[k']? = w.heap[k']? := fun k' hk => Below.heap_setCell _ _ _ _ hk
  have hsh : (w.setCell ⟨b, o, none⟩ (.int k n)).shape? b = w.shape? b := by simp [World.shape?, hw, h2]
  have := hs.write l b 0 (.box (cs.set o (.int k n))) (.box cs) (w' := w.setCell ⟨b, o, none⟩ (.int k n)) hb hl (fun _ _ => ⟨_, rfl⟩) rfl rfl rfl (by simp [World.setCell]) hot hsh
    ⟨b, _, t, fz, hb, hw, by simpa using h3, by simpa using h4, fun i v d hv hd => by
      rw [List.getElem?_set] at hd
      rw [Array.getElem?_setIfInBounds] at hv
      by_cases e : o = i
      · subst e
        simp only [if_true] at hd hv
        split at hd
        · split at hv
          · injection hd with hd; injection hv with hv; subst hd; subst hv; exact .int _ _
          · cases hv
        · cases hd
      · rw [if_neg e] at hd hv
        exact (h5 i v d hv hd).mono (fun _ q => q) (fun k' hk => hot k' fun e' => hh.dis l b 0 hb (e' ▸ hk)) (fun l' x hx => ⟨hx, by
          by_cases e' : x.1 = b
          · rw [e', hsh]
          · simp [World.shape?, hot _ e']⟩)⟩
  exact ⟨this.heap, this.g, this.ev⟩
theorem HRep.drew {E : Env} {w : World} {ok : Nat → Prop} {β : Loc} {h : List AObj} (hg : E.G w) (hN : E.N ≤ w.heap.size) (hh : HRep E.N w ok β h) :
    HRep E.N w.drew ok β h ∧ E.G w.drew ∧ Ev w ok β w.drew ok β := by
  have hs : SRep E ⟨w, ok, β, h, 0⟩ { tmps := #[], defers := [] } w ok β ⟨fun _ => .undef, h⟩ := ⟨hg, Ev.refl _ _ _, hh, fun l cs hl => ⟨rfl, cs, hl⟩, Nat.le_refl _, fun s => .undef _, rfl, rfl, hN⟩
  have := hs.drewN 1
  exact ⟨this.heap, this.g, this.ev⟩
end Go.Ai
namespace Go.Proofs.Ut
open Go.Ai Go.Proofs
theorem once67 {rest : List DV} {hs : List AObj} {post : List DV → List AObj → Prop}
    (h68 : ACalls ED 68 (.box (.int .u32 0 :: .int .i32 1 :: rest) :: hs) [.ptr 0 0] (fun h' d => d = .tup [] ∧ ∃ rest' hs', h' = .box (.int .u32 0 :: .int .i32 1 :: rest') :: hs' ∧ post rest' hs')) :
    ACalls ED 67 (.box (.int .u32 0 :: .int .i32 0 :: rest) :: hs) [.ptr 0 0, .bnd 68 [.ptr 0 0]] (fun h' d => d = .tup [] ∧ ∃ rest' hs', h' = .box (.int .u32 1 :: .int .i32 0 :: rest') :: hs' ∧ post rest' hs') := by
  refine ⟨⟨Tryz.f67, Tryz.func67, by kernel_rfl, by kernel_rfl⟩, fun w ok β vs hG hN hh hl hv => ?_⟩
  obtain ⟨v0, v1, rfl⟩ : ∃ v0 v1, vs = [v0, v1] := by
    match vs, hl with
    | [v0, v1], _ => exact ⟨v0, v1, rfl⟩
  obtain ⟨b, cur, t, fz, g1, g2, g3, g4, g5⟩ := hh.obj 0 _ rfl
  have r0 := hv 0 v0 _ rfl rfl
  have r1 := hv 1 v1 _ rfl rfl
  have ptr_eq : ∀ u, Rep w ok β u (.ptr 0 0) → u = .pointer (some ⟨b, 0, none⟩) := fun u hu => by
    cases hu with
    | ptr l o b' x h => rw [g1] at h; injection h with h; injection h with e1 e2; subst e1; subst e2; rfl
  obtain rfl := ptr_eq v0 r0
  obtain rfl : v1 = .func (.func 68) #[.pointer (some ⟨b, 0, none⟩)] #[] := by
    cases r1 with
    | bnd f us ds hl' hu =>
      match us, hl' with
      | [u], _ => rw [ptr_eq u (hu 0 u _ rfl rfl)]
  have hsz : cur.size = rest.length + 2 := by simpa using g4
  have c0 : w.cell? ⟨b, 0, none⟩ = some (.int .u32 0) := by
    have hx : cur[0]? = some cur[0] := Array.getElem?_eq_getElem (by omega)
    have := g5 0 _ _ hx rfl
    have e : cur[0] = .int .u32 0 := this.int_inv
    simp [World.cell?, g2, hx, e]
  have c1 : w.cell? ⟨b, 1, none⟩ = some (.int .i32 0) := by
    have hx : cur[1]? = some cur[1] := Array.getElem?_eq_getElem (by omega)
    have := g5 1 _ _ hx rfl
    have e : cur[1] = .int .i32 0 := this.int_inv
    simp [World.cell?, g2, hx, e]
  obtain ⟨k1, k2, k3⟩ := HRep.cell (o := 1) hG hN hh (l := 0) rfl g1 .i32 1
  have hN1 : ED.N ≤ (w.setCell ⟨b, 1, none⟩ (.int .i32 1)).heap.size := by rw [setCell_size]; exact hN
  have hf := h68.2 (w.setCell ⟨b, 1, none⟩ (.int .i32 1)) ok β [.pointer (some ⟨b, 0, none⟩)] k2 hN1 k1 rfl (fun i v d hi hd => by
    cases i with
    | zero => simp at hi hd; subst hi; subst hd; exact .ptr 0 0 b 0 g1
    | succ i => simp at hi)
  refine (o_do b w (Q := fun w1 => ∃ ok' β' rest' hs', ED.G w1 ∧ Ev (w.setCell ⟨b, 1, none⟩ (.int .i32 1)) ok β w1 ok' β' ∧ HRep ED.N w1 ok' β' (.box (.int .u32 0 :: .int .i32 1 :: rest') :: hs') ∧ post rest' hs' ∧
    (∀ (l : Nat) cs, (AObj.box (.int .u32 0 :: .int .i32 1 :: rest) :: hs)[l]? = some (.box cs) → β' l = β l ∧ ∃ cs', (AObj.box (.int .u32 0 :: .int .i32 1 :: rest') :: hs')[l]? = some (.box cs')) ∧ hs.length ≤ hs'.length) c0 c1 (frozen_of g2 g3 (by omega)) (hf.mono ?_)).mono ?_
  · rintro e w' ⟨v, ok', β', h', d, rfl, ⟨rfl, rest', hs', rfl, hp⟩, hG', hE', hH', hR', hfix, hlen, _⟩
    obtain ⟨b2, cur2, t2, fz2, q1, q2, q3, q4, q5⟩ := hH'.obj 0 _ rfl
    obtain ⟨e0, _⟩ := hfix 0 _ rfl
    rw [e0, g1] at q1
    injection q1 with q1; injection q1 with q1 _
    subst q1
    have hsz2 : cur2.size = rest'.length + 2 := by simpa using q4
    have x0 : cur2[0]? = some cur2[0] := Array.getElem?_eq_getElem (by omega)
    have x1 : cur2[1]? = some cur2[1] := Array.getElem?_eq_getElem (by omega)
    have e0' : cur2[0] = .int .u32 0 := (q5 0 _ _ x0 rfl).int_inv
    have e1' : cur2[1] = .int .i32 1 := (q5 1 _ _ x1 rfl).int_inv
    refine ⟨?_, by simp [World.cell?, q2, x0, e0'], by simp [World.cell?, q2, x1, e1'], frozen_of q2 q3 (by omega), frozen_of q2 q3 (by omega), ok', β', rest', hs', hG', hE', hH', hp, hfix, by simpa using hlen⟩
    cases hR' with
    | tup us ds hl' hu =>
      match us, hl' with
      | [], _ => rfl
  · rintro e w' ⟨rfl, w1, ⟨ok', β', rest', hs', hG', hE', hH', hp, hfix, hlen⟩, rfl⟩
    obtain ⟨e0, _⟩ := hfix 0 _ rfl
    have hb' : β' 0 = some (b, 0) := e0.trans g1
    have hN' : ED.N ≤ w1.heap.size := Nat.le_trans hN1 hE'.size
    obtain ⟨d1, d2, d3⟩ := HRep.drew hG' hN' hH'
    obtain ⟨a1, a2, a3⟩ := HRep.cell (o := 0) d2 hN' d1 (l := 0) rfl hb' .u32 1
    obtain ⟨m1, m2, m3⟩ := HRep.cell (o := 1) a2 (by rw [setCell_size]; exact hN') a1 (l := 0) rfl hb' .i32 0
    refine ⟨.tuple #[], ok', β', _, .tup [], rfl, ⟨rfl, rest', hs', rfl, hp⟩, m2, ((((k3.trans hE').trans d3).trans a3).trans m3), m1, .tup [] [] rfl (fun i v d hi => by simp at hi), fun l cs hl => ?_, by simpa using hlen, fun h => by cases h⟩
    cases l with
    | zero => exact ⟨e0, _, rfl⟩
    | succ l =>
      obtain ⟨f1, cs', f2⟩ := hfix (l + 1) cs (by simpa using hl)
      exact ⟨f1, cs', by simpa using f2⟩
end Go.Proofs.Ut
