/- Grow itself. -/
import Derived.Test.YtbhlmbacgbfaoaaDoorAiGrow
set_option linter.all false
namespace Go.Ai
open Go.Proofs Go.Shelf Go.RowKit
variable {P : Program} {ρ : Ren}

set_option maxHeartbeats 2000000 in
set_option maxRecDepth 1000000 in
theorem grow_walk (L : Lays.n165 P ρ) (X : Builder.Extra P ρ) {b : Nat} {p : Value} {fz : Nat × Nat} {w : World} (h : Hd w b (ρ.t 72) p (.slice none 0 0) fz) (n : Nat) (h0 : 0 < n) (hn : n ≤ 281474976710656) :
    Calls P (ρ.f 165) #[.pointer (some ⟨b, 0, none⟩), .int .i64 n] w fun e w' => e = .returned (.tuple #[]) ∧ Grown w w' b (ρ.t 72) (ρ.t 5) fz := by
  have mixed := L.mixed
  have t72 := L.t72; have a72 := L.a72; have z72 := L.z72; have v72 := L.v72; have u72 := run_underlying L.t72
  have t70 := L.t70; have a70 := L.a70; have z70 := L.z70; have v70 := L.v70; have u70 := run_underlying L.t70
  have t37 := L.t37; have a37 := L.a37; have z37 := L.z37; have v37 := L.v37; have u37 := run_underlying L.t37
  have t3 := L.t3; have a3 := L.a3; have z3 := L.z3; have v3 := L.v3; have u3 := run_underlying L.t3
  have t9 := L.t9; have a9 := L.a9; have z9 := L.z9; have v9 := L.v9; have u9 := run_underlying L.t9
  have t4 := L.t4; have a4 := L.a4; have z4 := L.z4; have v4 := L.v4; have u4 := run_underlying L.t4
  have t164 := L.t164; have a164 := L.a164; have z164 := L.z164; have v164 := L.v164; have u164 := run_underlying L.t164
  have t5 := X.t5; have a5 := X.a5; have z5 := X.z5; have v5 := X.v5; have u5 := run_underlying X.t5
  have e240 : ∀ args w, (callFunc (ρ.f 240) args).run P w = .ok (.enter (ρ.f 240) args) w := enters_of L.f240 (by kernel_rfl) rfl
  have e241 : ∀ args w, (callFunc (ρ.f 241) args).run P w = .ok (.enter (ρ.f 241) args) w := enters_of L.f241 (by kernel_rfl) rfl
  go_enter L.f165, Body.n165_ntmps ρ
  go_wp2_with (go_at_fn (ρ.f 240); refine (check_walk { L with } X.toX72 h).mono ?_; rintro e w1 ⟨rfl, k1, k2⟩)
  have c1 : w1.drew.cell? ⟨b, 1, none⟩ = some (.slice none 0 0) := by
    have : w1.drew.heap[b]? = _ := k1.1
    rw [Lib.cell_of_heap this]; rfl
  have hin := grow_in { L with } X k1.drew n h0 hn
  have hfin : ∀ w', Grown w1.drew w' b (ρ.t 72) (ρ.t 5) fz → Grown w w' b (ρ.t 72) (ρ.t 5) fz := fun w' ⟨v', g1, g2, g3, g4, g5⟩ =>
    ⟨v', g1, g2, (k2.drew).trans g3, fun g hg => Nat.le_trans k2.size (g4 g hg), g5⟩
  clear k1 k2 h
  go_region_o
  all_goals go_wp2_with (go_at_fn (ρ.f 241); refine hin.mono ?_; rintro e w' ⟨rfl, h1⟩)
  all_goals first
    | (go_end0; exact ⟨rfl, hfin _ h1⟩)
    | (exfalso; simp only [IntKind.wrap_i64] at *; omega)

theorem grow_prim {E : Env} {ρ : Ren} (L : Lays.n165 E.P ρ) (X : Builder.Extra E.P ρ) {f : Nat} (hf : ρ.f 165 = f) {T e : Nat} (hT : ρ.t 72 = T) (he : ρ.t 5 = e) (hent : Ent E.P f) (n : Nat) (h0 : 0 < n) (hn : n ≤ 281474976710656) :
    ACalls E f (Bld false T e []) [.ptr 1 0, .int .i64 n] (fun h' d => h' = Bld true T e [] ∧ d = .undef) := by
  subst hf; subst hT; subst he
  refine ⟨hent, fun w ok β vs hG hN hH hl hv => ?_⟩
  match vs, hl with
  | [v0, v1], _ =>
  have r0 := hv 0 v0 _ rfl rfl
  have r1 := hv 1 v1 _ rfl rfl
  obtain ⟨b, p, v, fz, h1, h2, h3, h4, h5, h6⟩ := bld_split hH
  obtain rfl := h6 rfl rfl
  cases r0 with
  | ptr l o b' x hb =>
  rw [h1] at hb; cases hb
  cases r1 with
  | int k m =>
  refine (grow_walk L X h2 n h0 hn).mono ?_
  rintro e w' ⟨rfl, v', k1, k2, k3, k4, k5⟩
  obtain ⟨β', e1, e2, e3, e4⟩ := bld_join (gr' := true) (bs' := []) hN hH h1 h5 k3 k1 k2 k5 (fun g hg => .inr (k4 g hg)) (fun h => by cases h)
  exact ⟨_, ok, β', _, _, rfl, ⟨rfl, rfl⟩, E.stable w w' hG e4, e1, e2, .undef _, fun l cs hl => by
    match l, hl with
    | 0, hl => simp [Bld, Buf] at hl
    | 1, hl => exact ⟨e3, _, rfl⟩, by simp [Bld], fun h => by cases h⟩
end Go.Ai
