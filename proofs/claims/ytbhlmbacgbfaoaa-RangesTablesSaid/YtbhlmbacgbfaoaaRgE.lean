import Derived.Test.YtbhlmbacgbfaoaaRgD
import Derived.Test.YtbhlmbacgbfaoaaAiSort
import Derived.Test.YtbhlmbacgbfaoaaTryShelf
import Derived.WalkKit
set_option linter.all false
namespace Go.Proofs
open Go.Shelf Go.RowKit Go.Lib Go.Sort
set_option maxHeartbeats 1000000
set_option linter.unusedSimpArgs false
theorem Try.nan39 (a : Int) (W : World) : Calls Try.prog 39 #[.int .i64 a] W fun e w' => e = .returned (.bool false) ∧ w' = W := by
  go_enter Try.func39, Try.ntmps39
  go_wp2
  go_ret
  exact ⟨by simp, rfl⟩
theorem Try.cmp33 (a b : Int) (W : World) : Calls Try.prog 33 #[.int .i64 a, .int .i64 b] W fun e w' => e = .returned (.int .i64 (Rg.cmpI a b)) ∧ w' = W := by
  have hn := fun x W' => Try.nan39 x W'
  by_cases h1 : a < b
  · go_enter Try.func33, Try.ntmps33
    go_wp2_with (go_at_call 39; refine (hn _ _).mono ?_; rintro e w' ⟨rfl, rfl⟩)
    go_ret
    exact ⟨by simp [Rg.cmpI, h1], rfl⟩
  · by_cases h2 : b < a
    · go_enter Try.func33, Try.ntmps33
      go_wp2_with (go_at_call 39; refine (hn _ _).mono ?_; rintro e w' ⟨rfl, rfl⟩)
      go_ret
      exact ⟨by simp [Rg.cmpI, h1, h2], rfl⟩
    · go_enter Try.func33, Try.ntmps33
      go_wp2_with (go_at_call 39; refine (hn _ _).mono ?_; rintro e w' ⟨rfl, rfl⟩)
      go_ret
      exact ⟨by unfold Rg.cmpI; rw [if_neg (by omega), if_neg (by omega)]; rfl, rfl⟩
def Try.encR (x : Int × Int) : List Value := [.int .i64 x.1, .int .i64 x.2]
theorem Try.closure32 (x y : Int × Int) (W : World) : Calls Try.prog 32 #[.agg #[.int .i64 x.1, .int .i64 x.2], .agg #[.int .i64 y.1, .int .i64 y.2]] W fun e w' => e = .returned (.int .i64 (Rg.cmpI x.1 y.1)) ∧ ∃ q os', w' = grow (W.drewN q) os' := by
  have hcon := fun W' => Try.cmp33 x.1 y.1 W'
  generalize Rg.cmpI x.1 y.1 = r at hcon ⊢
  go_enter Try.func32, Try.ntmps32
  go_wp2_with (go_at_call 33; refine (hcon _).mono ?_; rintro e w' ⟨rfl, rfl⟩)
  go_ret
  exact ⟨rfl, 0, _, by rw [alloc_eq_grow, alloc_eq_grow, grow_grow]; rfl⟩
theorem Try.ltLo (x y : Int × Int) : ltOf (fun x y : Int × Int => Rg.cmpI x.1 y.1) x y = decide (x.1 < y.1) := by
  unfold ltOf Rg.cmpI
  by_cases h1 : x.1 < y.1
  · simp [h1]
  · by_cases h2 : y.1 < x.1 <;> simp [h1, h2]
theorem Try.swoLo : SWO (ltOf fun x y : Int × Int => Rg.cmpI x.1 y.1) where
  irrefl x := by rw [Try.ltLo]; simp
  trans x y z h1 h2 := by rw [Try.ltLo] at *; simp at *; omega
  ntrans x y z h1 h2 := by rw [Try.ltLo] at *; simp at *; omega
namespace Rg
open Go.Ai
theorem ent31 : Ent Try.prog 31 := ⟨Try.f31, Try.func31, by kernel_rfl, by kernel_rfl⟩
theorem sort_calls (d : List (Int × Int)) (hd : d.length < 1000000000) : ACallsK E0 true 31 [.arr 2 (d.map rg)] [.osl 2 0 0 d.length none, .fn 32 []] fun h r => r = .tup [] ∧ ∃ d' : List (Int × Int), d'.Perm d ∧ d'.Pairwise (fun x y => x.1 ≤ y.1) ∧ h = [.arr 2 (d'.map rg)] := by
  have hs := sort_prim (E := E0) (f := 31) (g := 32) (k := 2) (by omega) (enc := Try.encR) (encD := rg) (fun _ => rfl) (fun _ => rfl) (fun x v hv => by simp [Try.encR] at hv; rcases hv with rfl | rfl <;> rfl)
    (fun w ok x i v d h1 h2 => by
      rcases i with _ | _ | i
      · simp [Try.encR, rg] at h1 h2; subst h1; subst h2; exact .int _ _
      · simp [Try.encR, rg] at h1 h2; subst h1; subst h2; exact .int _ _
      · simp [Try.encR] at h1)
    (fun w ok x i v d h1 h2 => by
      rcases i with _ | _ | i
      · simp [rg] at h1; subst h1; rw [h2.int_inv]; rfl
      · simp [rg] at h1; subst h1; rw [h2.int_inv]; rfl
      · simp [rg] at h1) ent31 (lt := ltOf fun x y : Int × Int => cmpI x.1 y.1)
    (fun p cap fv w => AnyF.slices_SortFunc_none Try.sortR p cap fv w)
    (fun blk off cap d w hH hb hsz => AnyQ.slices_SortFunc Try.sortR 2 Try.isAgg26 Try.sizeOf26 Try.encR (fun _ => rfl) (fun x v hv => by simp [Try.encR] at hv; rcases hv with rfl | rfl <;> rfl) (fun x y => cmpI x.1 y.1) Try.swoLo 32 #[] blk off cap d w
      (enters_of Try.func32 (by kernel_rfl) rfl) (fun _ _ _ _ x y => Try.closure32 x y _) hH hb hsz) d (by omega) none
  refine ⟨hs.1, fun w ok β vs hg hn hh hl hv => (hs.2 w ok β vs hg hn hh hl hv).mono ?_⟩
  rintro e w' ⟨v, ok', β', h', r, h1, ⟨h2, d', h3, h4, h5⟩, h6⟩
  refine ⟨v, ok', β', h', r, h1, ⟨h2, d', h3, h4.imp fun {x y} h => ?_, h5⟩, h6⟩
  rw [Try.ltLo] at h
  simpa using h
end Rg
end Go.Proofs
