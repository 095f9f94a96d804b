/- Grow by nothing. -/
import Derived.Test.YtgamnnfndidclaaGreatDoorYOnce2
import Derived.Test.YtgamnnfndidclaaGreatDoorYX2
open Nat renaming reduceBEq → qA, reduceAdd → qB, reduceSub → qC, reduceLeDiff → qD, reduceMul → qE
open Int renaming reduceLE → qF, reduceLT → qG, reduceNe → qH, reduceToNat → qI
set_option linter.all false
namespace Go.Ai
open Go.Proofs Go.Shelf Go.RowKit
variable {P : Program} {ρ : Ren}
set_option maxHeartbeats 2000000 in
set_option maxRecDepth 1000000 in
theorem grow0_walk (L : Lays.n165 P ρ) (X : Builder.Extra P ρ) {b : Nat} {p : Value} {fz : Nat × Nat} {w : World} (h : Hd w b (ρ.t 72) p (.slice none 0 0) fz) :
  Calls P (ρ.f 165) #[.pointer (some ⟨b, 0, none⟩), .int .i64 0] w fun e w' => e = .returned (.tuple #[]) ∧ Hd w' b (ρ.t 72) (.pointer (some ⟨b, 0, none⟩)) (.slice none 0 0) fz ∧ Beside w w' b none := by
 have mixed := L.mixed
 have t72 := L.t72; have a72 := L.a72; have z72 := L.z72; have v72 := L.v72; have u72 := run_underlying L.t72
 have t70 := L.t70; have a70 := L.a70; have z70 := L.z70; have v70 := L.v70; have u70 := run_underlying L.t70
 have t37 := L.t37; have a37 := L.a37; have z37 := L.z37; have v37 := L.v37; have u37 := run_underlying L.t37
 have t3 := L.t3; have a3 := L.a3; have z3 := L.z3; have v3 := L.v3; have u3 := run_underlying L.t3
 have t9 := L.t9; have a9 := L.a9; have z9 := L.z9; have v9 := L.v9; have u9 := run_underlying L.t9
 have t4 := L.t4; have a4 := L.a4; have z4 := L.z4; have v4 := L.v4; have u4 := run_underlying L.t4
 have t164 := L.t164; have a164 := L.a164; have z164 := L.z164; have v164 := L.v164; have u164 := run_underlying L.t164
 have t5 := X.t5; have a5 := X.a5; have z5 := X.z5; have v5 := X.v5; have u5 := run_underlying X.t5
 have e240 : ∀ args w, (callFunc (ρ.f 240) args).run P w = .ok (.enter (ρ.f 240) args) w := enters_of L.f240 (by kernel_rfl) rfl
 have e241 : ∀ args w, (callFunc (ρ.f 241) args).run P w = .ok (.enter (ρ.f 241) args) w := enters_of L.f241 (by kernel_rfl) rfl
 go_enter L.f165, Body.n165_ntmps ρ
 go_wp2_with (go_at_fn (ρ.f 240); refine (check_walk { L with } X.toX72 h).mono ?_; rintro e w1 ⟨rfl, k1, k2⟩)
 have c1 : w1.drew.cell? ⟨b, 1, none⟩ = some (.slice none 0 0) := by
  have : w1.drew.heap[b]? = _ := k1.1
  rw [Lib.cell_of_heap this]; rfl
 have hfin : Hd w1.drew b (ρ.t 72) (.pointer (some ⟨b, 0, none⟩)) (.slice none 0 0) fz ∧ Beside w w1.drew b none := ⟨k1.drew, k2.drew⟩
 clear k1 k2 h
 go_region_o
 all_goals go_wp2
 all_goals first
  | (go_end0; exact ⟨rfl, hfin.1, hfin.2⟩)
  | (exfalso; simp only [IntKind.wrap_i64] at *; omega)
theorem grow0_prim {E : Env} {ρ : Ren} (L : Lays.n165 E.P ρ) (X : Builder.Extra E.P ρ) {f : Nat} (hf : ρ.f 165 = f) {T e : Nat} (hT : ρ.t 72 = T) (hent : Ent E.P f) :
  ACalls E f (Bld false T e []) [.ptr 1 0, .int .i64 0] (fun h' d => h' = Bld false T e [] ∧ d = .undef) := by
 subst hf; subst hT
 refine ⟨hent, fun w ok β vs hG hN hH hl hv => ?_⟩
 match vs, hl with
 | [v0, v1], _ =>
 have r0 := hv 0 v0 _ rfl rfl
 have r1 := hv 1 v1 _ rfl rfl
 obtain ⟨b, p, v, fz, h1, h2, h3, h4, h5, h6⟩ := bld_split hH
 obtain rfl := h6 rfl rfl
 cases r0 with
 | ptr l o b' x hb =>
 rw [h1] at hb; cases hb
 cases r1 with
 | int k m =>
 refine (grow0_walk L X h2).mono ?_
 rintro e' w' ⟨rfl, k1, k3⟩
 obtain ⟨β', e1, e2, e3, e4⟩ := bld_join (gr' := false) (bs' := []) hN hH h1 h5 (by simpa [Value.ownBlock] using k3) k1 (World.ownsRow_nil _ _ _ _) h4 (fun g hg => by simp [Value.ownBlock] at hg) (fun _ h => absurd rfl h)
 exact ⟨_, ok, β', _, _, rfl, ⟨rfl, rfl⟩, E.stable w w' hG e4, e1, e2, .undef _, fun l cs hl => by
  match l, hl with
  | 0, hl => simp [Bld, Buf] at hl
  | 1, hl => exact ⟨e3, _, rfl⟩, by simp [Bld], fun h => by cases h⟩
end Go.Ai

namespace Go.Proofs.Ut
open Go.Ai
set_option maxRecDepth 100000
theorem grow190z : ACalls ED 190 (Bld false 169 5 []) [.ptr 1 0, .int .i64 0] (fun h' d => h' = Bld false 169 5 [] ∧ d = .undef) :=
 grow0_prim (E := ED) Tryz.lays165 Tryz.extra165 rfl rfl ⟨Tryz.f190, Tryz.func190, by kernel_rfl, by kernel_rfl⟩
theorem flat_tot : ∀ l : List (List UInt8), l.flatten.length = tot l
 | [] => rfl
 | x :: l => by
  have := flat_tot l
  simp only [tot, List.flatten_cons, List.length_append, List.map_cons, List.sum_cons] at *
  omega
theorem flat_le (l : List (List UInt8)) (i : Nat) : (l.take i).flatten.length ≤ l.flatten.length := by
 rw [flat_tot, flat_tot]; exact tot_le l i
theorem join149e (l : List (List UInt8)) (hl : l.length < 1000000000) (hw : l.flatten.length < 1000000000) : DRet 149 [.sl 1 (l.map sv), .str []] (.str l.flatten) := by
 refine acalls_go c149 (by simp [f149]) ?_
 simp only [f149, ↓gos, gop, qA, qB, qC, qD, qE, qF, qG, qH, qI]
 cases l with
 | nil =>
  simp only [↓gos, gop, qA, qB, qC, qD, qE, qF, qG, qH, qI]
  exact ends rfl
 | cons x tl =>
  cases tl with
  | nil =>
   simp only [sv, ↓gos, gop, qA, qB, qC, qD, qE, qF, qG, qH, qI]
   refine ⟨fun h => by omega, fun _ => ends ?_⟩
   simp
  | cons y tl =>
   simp only [List.length_cons] at hl
   simp only [sv, ↓gos, gop, qA, qB, qC, qD, qE, qF, qG, qH, qI]
   refine ⟨fun h => by omega, fun _ => ?_⟩
   have hL : (x :: y :: tl).flatten.length = tot (x :: y :: tl) := flat_tot _
   generalize hl2 : x :: y :: tl = l2 at *
   have hll : l2.length = tl.length + 2 := by rw [← hl2]; rfl
   have hlv : [DV.str x] :: [DV.str y] :: List.map sv tl = l2.map sv := by rw [← hl2]; rfl
   simp only [hlv]
   refine goN_lp (γ := Nat) (fun i => [(41, .int .i64 i), (40, .int .i64 (tl.length + 1 + 1 : Nat)), (39, .sl 1 (l2.map sv)), (5, .int .i64 (tot (l2.take i) : Nat)), (1, .str []), (0, .sl 1 (l2.map sv))])
    (fun _ => []) (fun i => i ≤ l2.length) (fun i => l2.length - i) 0 (wks rfl (by simp) ⟨rfl, rfl, rfl, rfl, rfl, rfl, trivial⟩) (by omega) fun i hi => ?_
   simp only [f149l0, ↓gos, gop, qA, qB, qC, qD, qE, qF, qG, qH, qI]
   have htt := tot_le l2 i
   refine ⟨fun h5 => ?_, fun h5 => ?_⟩
   ·refine optP_at [] (by omega) ?_
    have ht := tot_take l2 i (by omega)
    have htl := tot_le l2 (i + 1)
    simp only [sv, ↓gos, gop, qA, qB, qC, qD, qE, qF, qG, qH, qI]
    intro v hv
    rw [wrap_i64 (by omega) (by omega)] at hv
    refine ⟨fun h => by omega, fun _ => ?_⟩
    intro v2 hv2 v3 hv3
    rw [wrap_i64 (by omega) (by omega)] at hv2 hv3
    have e2 : v2 = (tot (l2.take (i + 1)) : Nat) := by rw [hv2, ht]; omega
    have e3 : v3 = ((i + 1 : Nat) : Int) := by rw [hv3]; rfl
    subst e2 e3
    exact rnd_s (i + 1) rfl (by simp) ⟨rfl, rfl, rfl, rfl, rfl, rfl, trivial⟩ (by omega) (by omega)
   ·have hi2 : i = tl.length + 2 := by omega
    subst hi2
    have ht : tot (l2.take (tl.length + 2)) = tot l2 := by rw [List.take_of_length_le (by omega)]
    rw [ht]
    have hxl : x.length ≤ l2.flatten.length := by rw [← hl2]; simp
    by_cases h0 : tot l2 = 0
    ·rw [h0]
     refine call_bld (gr := false) (gr' := false) (m := 0) (l := 1) rfl rfl rfl grow190z ?_
     subst hl2
     simp only [Buf, sv, List.map_cons, ↓gos, gop, qA, qB, qC, qD, qE, qF, qG, qH, qI]
     refine call_bld (gr := false) (gr' := false) (m := 0) (l := 1) rfl rfl rfl (ws58 false [] x (by simp; omega)) ?_
     simp only [Buf, List.nil_append, ↓gos, gop, qA, qB, qC, qD, qE, qF, qG, qH, qI]
     refine chk_i (by omega) ?_
     have hr : List.take (tl.length + 1 + 1 - 1) ([DV.str y] :: List.map sv tl) = (y :: tl).map sv := by
      rw [List.take_of_length_le (by simp)]; rfl
     have hJ : (x :: y :: tl).flatten = x ++ (y :: tl).flatten := rfl
     generalize hr2 : y :: tl = r at *
     have hrl : r.length = tl.length + 1 := by rw [← hr2]; rfl
     rw [hr]
     have hm : ((r.map sv).length : Int) = ((r.length : Nat) : Int) := by simp
     rw [hm]
     clear hr hlv hL hll hi htt ht
     refine goN_lp (γ := Nat) (fun i => [(65, .int .i64 i), (64, .int .i64 r.length), (63, .sl 1 (r.map sv)), (8, .ptr 1 0), (1, .str [])])
      (fun i => [.buf 5 (x ++ (r.take i).flatten), .box [.self 1 169 2, .hdr 0 5 (x ++ (r.take i).flatten).length]]) (fun i => i ≤ r.length) (fun i => r.length - i) 0
      (wks (by simp) (by simp) ⟨rfl, rfl, rfl, rfl, rfl, trivial⟩) (by omega) fun i hi => ?_
     simp only [f149l1, ↓gos, gop, qA, qB, qC, qD, qE, qF, qG, qH, qI]
     refine ⟨fun h5 => ?_, fun h5 => ?_⟩
     ·refine optP_at [] (by omega) ?_
      have h1 : (r.take (i + 1)).flatten = (r.take i).flatten ++ r.getD i [] := by rw [take_getD (show i < r.length by omega) []]; simp
      have h2 := flat_le r (i + 1)
      have h3 : (x ++ r.flatten).length < 1000000000 := by rw [← hJ]; exact hw
      rw [h1] at h2
      simp only [List.length_append] at h2 h3
      simp only [sv, ↓gos, gop, qA, qB, qC, qD, qE, qF, qG, qH, qI]
      refine call_bld (gr := false) (gr' := false) (m := 0) (l := 1) rfl rfl rfl (ws58 false _ [] (by simp only [List.length_append, List.length_cons, List.length_nil]; omega)) ?_
      simp only [Buf, List.append_nil, ↓gos, gop, qA, qB, qC, qD, qE, qF, qG, qH, qI]
      refine call_bld (gr := false) (gr' := false) (m := 0) (l := 1) rfl rfl rfl (ws58 false _ _ (by simp only [List.length_append, List.length_cons, List.length_nil]; omega)) ?_
      simp only [Buf, ↓gos, gop, qA, qB, qC, qD, qE, qF, qG, qH, qI]
      intro v3 hv3
      rw [wrap_i64 (by omega) (by omega)] at hv3
      have e3 : v3 = ((i + 1 : Nat) : Int) := by rw [hv3]; rfl
      subst e3
      refine rnd_s (i + 1) ?_ (by simp) ⟨rfl, rfl, rfl, rfl, rfl, trivial⟩ (by omega) (by omega)
      simp only [h1, List.append_assoc]
     ·have hi2 : i = r.length := by omega
      subst hi2
      rw [List.take_length, ← hJ]
      refine call_bstr (gr := false) (m := 0) (l := 1) rfl rfl (str60 false _) ?_
      simp only [↓gos, gop, qA, qB, qC, qD, qE, qF, qG, qH, qI]
      exact ends rfl
    ·refine call_bld (gr := false) (gr' := true) (m := 0) (l := 1) rfl rfl rfl (grow190 _ (by omega) (by omega)) ?_
     subst hl2
     simp only [Buf, sv, List.map_cons, ↓gos, gop, qA, qB, qC, qD, qE, qF, qG, qH, qI]
     refine call_bld (gr := true) (gr' := true) (m := 0) (l := 1) rfl rfl rfl (ws58 true [] x (by simp; omega)) ?_
     simp only [Buf, List.nil_append, ↓gos, gop, qA, qB, qC, qD, qE, qF, qG, qH, qI]
     refine chk_i (by omega) ?_
     have hr : List.take (tl.length + 1 + 1 - 1) ([DV.str y] :: List.map sv tl) = (y :: tl).map sv := by
      rw [List.take_of_length_le (by simp)]; rfl
     have hJ : (x :: y :: tl).flatten = x ++ (y :: tl).flatten := rfl
     generalize hr2 : y :: tl = r at *
     have hrl : r.length = tl.length + 1 := by rw [← hr2]; rfl
     rw [hr]
     have hm : ((r.map sv).length : Int) = ((r.length : Nat) : Int) := by simp
     rw [hm]
     clear hr hlv hL hll hi htt ht
     refine goN_lp (γ := Nat) (fun i => [(65, .int .i64 i), (64, .int .i64 r.length), (63, .sl 1 (r.map sv)), (8, .ptr 1 0), (1, .str [])])
      (fun i => [.gbuf 5 (x ++ (r.take i).flatten), .box [.self 1 169 2, .hdr 0 5 (x ++ (r.take i).flatten).length]]) (fun i => i ≤ r.length) (fun i => r.length - i) 0
      (wks (by simp) (by simp) ⟨rfl, rfl, rfl, rfl, rfl, trivial⟩) (by omega) fun i hi => ?_
     simp only [f149l1, ↓gos, gop, qA, qB, qC, qD, qE, qF, qG, qH, qI]
     refine ⟨fun h5 => ?_, fun h5 => ?_⟩
     ·refine optP_at [] (by omega) ?_
      have h1 : (r.take (i + 1)).flatten = (r.take i).flatten ++ r.getD i [] := by rw [take_getD (show i < r.length by omega) []]; simp
      have h2 := flat_le r (i + 1)
      have h3 : (x ++ r.flatten).length < 1000000000 := by rw [← hJ]; exact hw
      rw [h1] at h2
      simp only [List.length_append] at h2 h3
      simp only [sv, ↓gos, gop, qA, qB, qC, qD, qE, qF, qG, qH, qI]
      refine call_bld (gr := true) (gr' := true) (m := 0) (l := 1) rfl rfl rfl (ws58 true _ [] (by simp only [List.length_append, List.length_cons, List.length_nil]; omega)) ?_
      simp only [Buf, List.append_nil, ↓gos, gop, qA, qB, qC, qD, qE, qF, qG, qH, qI]
      refine call_bld (gr := true) (gr' := true) (m := 0) (l := 1) rfl rfl rfl (ws58 true _ _ (by simp only [List.length_append, List.length_cons, List.length_nil]; omega)) ?_
      simp only [Buf, ↓gos, gop, qA, qB, qC, qD, qE, qF, qG, qH, qI]
      intro v3 hv3
      rw [wrap_i64 (by omega) (by omega)] at hv3
      have e3 : v3 = ((i + 1 : Nat) : Int) := by rw [hv3]; rfl
      subst e3
      refine rnd_s (i + 1) ?_ (by simp) ⟨rfl, rfl, rfl, rfl, rfl, trivial⟩ (by omega) (by omega)
      simp only [h1, List.append_assoc]
     ·have hi2 : i = r.length := by omega
      subst hi2
      rw [List.take_length, ← hJ]
      refine call_bstr (gr := true) (m := 0) (l := 1) rfl rfl (str60 true _) ?_
      simp only [↓gos, gop, qA, qB, qC, qD, qE, qF, qG, qH, qI]
      exact ends rfl
def nameP (c : CT) (s : List UInt8) : CT × Int := match plains (splitF 59 false [] s) with
 | none => (c, 18)
 | some l => if l.length = 5 then (if (l.drop 2).flatten = [] then ({ c with family := l.getD 0 [], given := l.getD 1 [] }, 0) else (c, 12)) else (c, 12)
theorem plains_tot : ∀ {l a : List (List UInt8)}, plains l = some a → a.flatten.length ≤ l.flatten.length
 | [], a, h => by simp [plains] at h; subst h; simp
 | x :: l, a, h => by
  simp only [plains, Option.bind_eq_some_iff, Option.map_eq_some_iff] at h
  obtain ⟨y, hy, b, hb, rfl⟩ := h
  have h1 := plainF_len _ (Nat.le_refl _) hy
  have h2 := plains_tot hb
  simp only [List.flatten_cons, List.length_append]
  omega
theorem splitF_tot (sep : UInt8) : ∀ (s : List UInt8) (e : Bool) (cur : List UInt8), (splitF sep e cur s).flatten.length ≤ cur.length + s.length
 | [], e, cur => by simp [splitF]
 | x :: s, e, cur => by
  unfold splitF
  split
  ·have := splitF_tot sep s (escN e x) []
   simp at this ⊢; omega
  ·have := splitF_tot sep s (escN e x) (cur ++ [x])
   simp at this ⊢; omega
def ctx (c : CT) : List DV := [.str c.name, .str c.family, .str c.given, .str c.nick, .str c.jid, .str c.email, .str c.tel, .str c.note, .str c.uid, .osl 1 2 0 c.groups.length none, .osl 4 1 0 c.other.length none]
def HX (c : CT) : List AObj := [.box (ctx c), .arr 4 (c.other.map pv), .arr 1 (c.groups.map sv)]
theorem id3 : ∀ i, i < 3 → [0, 1, 2][i]? = some i
 | 0, _ => rfl | 1, _ => rfl | 2, _ => rfl | i + 3, h => by omega
theorem endX {c : CT} {D : DV} {ds : List DV} {tl : List AObj} (h1 : (rvd ds).inL [0, 1, 2].contains = true) (h2 : (rvd ds).ren ([0, 1, 2].idxOf ·) = D) : finE 3 (fun h d => h = HX c ∧ d = D) (some ds) (HX c ++ tl) :=
 end_h [0, 1, 2] (by decide) (Nat.le_refl _) id3 (by simp [HX]) h1 (by
  intro l hl
  simp only [List.mem_cons, List.not_mem_nil, or_false] at hl
  rcases hl with rfl | rfl | rfl
  ·rfl
  ·rfl
  ·rfl) rfl h2 ⟨rfl, rfl⟩
def AtX (g k : Nat) : Prop := ∀ (c : CT), ACalls ED g (HX c) [.ptr 0 0] fun h d => h = HX c ∧ d = .ptr 0 k
theorem atx107 : AtX 107 0 := fun c => by
 refine acalls_go c107 (by simp [f107]) ?_
 simp only [f107, HX, ↓gos, gop, qA, qB, qC, qD, qE, qF, qG, qH, qI]
 exact endX (tl := []) rfl rfl
theorem atx110 : AtX 110 3 := fun c => by
 refine acalls_go c110 (by simp [f110]) ?_
 simp only [f110, HX, ↓gos, gop, qA, qB, qC, qD, qE, qF, qG, qH, qI]
 exact endX (tl := []) rfl rfl
theorem atx113 : AtX 113 5 := fun c => by
 refine acalls_go c113 (by simp [f113]) ?_
 simp only [f113, HX, ↓gos, gop, qA, qB, qC, qD, qE, qF, qG, qH, qI]
 exact endX (tl := []) rfl rfl
theorem atx114 : AtX 114 6 := fun c => by
 refine acalls_go c114 (by simp [f114]) ?_
 simp only [f114, HX, ↓gos, gop, qA, qB, qC, qD, qE, qF, qG, qH, qI]
 exact endX (tl := []) rfl rfl
theorem atx117 : AtX 117 7 := fun c => by
 refine acalls_go c117 (by simp [f117]) ?_
 simp only [f117, HX, ↓gos, gop, qA, qB, qC, qD, qE, qF, qG, qH, qI]
 exact endX (tl := []) rfl rfl
theorem atx118 : AtX 118 8 := fun c => by
 refine acalls_go c118 (by simp [f118]) ?_
 simp only [f118, HX, ↓gos, gop, qA, qB, qC, qD, qE, qF, qG, qH, qI]
 exact endX (tl := []) rfl rfl
abbrev TkX (f : Nat) (c : CT) (xs : List DV) (c' : CT) (t : Bool) (e : Int) : Prop := ACalls ED f (HX c) (.ptr 0 0 :: xs) fun h d => h = HX c' ∧ d = .tup [.bool t, .int .i64 e]
theorem tx0 (c : CT) (s : List UInt8) (hs : s.length < 1000000000) : TkX 152 c [.str s, .eptr [.fn 107 []] 0] { c with name := plS s } true (plE s) := by
 refine acalls_go c152 (by simp [f152]) ?_
 simp only [f152, HX, ↓gos, gop, qA, qB, qC, qD, qE, qF, qG, qH, qI]
 refine call_ret (plain16 s hs) rfl rfl ?_
 simp only [↓gos, gop, qA, qB, qC, qD, qE, qF, qG, qH, qI]
 refine call_h (h1 := HX c) [0, 1, 2] [1, 2] (by simp) (by simp) rfl rfl rfl rfl (atx107 c) rfl ?_
 simp only [HX, ctx, List.foldl, setAll, renO, DV.ren, upL, ↓gos, gop, qA, qB, qC, qD, qE, qF, qG, qH, qI]
 exact endX (c := { c with name := plS s }) (tl := []) rfl rfl
theorem tx2 (c : CT) (s : List UInt8) (hs : s.length < 1000000000) : TkX 152 c [.str s, .eptr [.fn 110 []] 0] { c with nick := plS s } true (plE s) := by
 refine acalls_go c152 (by simp [f152]) ?_
 simp only [f152, HX, ↓gos, gop, qA, qB, qC, qD, qE, qF, qG, qH, qI]
 refine call_ret (plain16 s hs) rfl rfl ?_
 simp only [↓gos, gop, qA, qB, qC, qD, qE, qF, qG, qH, qI]
 refine call_h (h1 := HX c) [0, 1, 2] [1, 2] (by simp) (by simp) rfl rfl rfl rfl (atx110 c) rfl ?_
 simp only [HX, ctx, List.foldl, setAll, renO, DV.ren, upL, ↓gos, gop, qA, qB, qC, qD, qE, qF, qG, qH, qI]
 exact endX (c := { c with nick := plS s }) (tl := []) rfl rfl
theorem tx4 (c : CT) (s : List UInt8) (hs : s.length < 1000000000) : TkX 152 c [.str s, .eptr [.fn 113 []] 0] { c with email := plS s } true (plE s) := by
 refine acalls_go c152 (by simp [f152]) ?_
 simp only [f152, HX, ↓gos, gop, qA, qB, qC, qD, qE, qF, qG, qH, qI]
 refine call_ret (plain16 s hs) rfl rfl ?_
 simp only [↓gos, gop, qA, qB, qC, qD, qE, qF, qG, qH, qI]
 refine call_h (h1 := HX c) [0, 1, 2] [1, 2] (by simp) (by simp) rfl rfl rfl rfl (atx113 c) rfl ?_
 simp only [HX, ctx, List.foldl, setAll, renO, DV.ren, upL, ↓gos, gop, qA, qB, qC, qD, qE, qF, qG, qH, qI]
 exact endX (c := { c with email := plS s }) (tl := []) rfl rfl
theorem tx5 (c : CT) (s : List UInt8) (hs : s.length < 1000000000) : TkX 152 c [.str s, .eptr [.fn 114 []] 0] { c with tel := plS s } true (plE s) := by
 refine acalls_go c152 (by simp [f152]) ?_
 simp only [f152, HX, ↓gos, gop, qA, qB, qC, qD, qE, qF, qG, qH, qI]
 refine call_ret (plain16 s hs) rfl rfl ?_
 simp only [↓gos, gop, qA, qB, qC, qD, qE, qF, qG, qH, qI]
 refine call_h (h1 := HX c) [0, 1, 2] [1, 2] (by simp) (by simp) rfl rfl rfl rfl (atx114 c) rfl ?_
 simp only [HX, ctx, List.foldl, setAll, renO, DV.ren, upL, ↓gos, gop, qA, qB, qC, qD, qE, qF, qG, qH, qI]
 exact endX (c := { c with tel := plS s }) (tl := []) rfl rfl
theorem tx7 (c : CT) (s : List UInt8) (hs : s.length < 1000000000) : TkX 152 c [.str s, .eptr [.fn 117 []] 0] { c with note := plS s } true (plE s) := by
 refine acalls_go c152 (by simp [f152]) ?_
 simp only [f152, HX, ↓gos, gop, qA, qB, qC, qD, qE, qF, qG, qH, qI]
 refine call_ret (plain16 s hs) rfl rfl ?_
 simp only [↓gos, gop, qA, qB, qC, qD, qE, qF, qG, qH, qI]
 refine call_h (h1 := HX c) [0, 1, 2] [1, 2] (by simp) (by simp) rfl rfl rfl rfl (atx117 c) rfl ?_
 simp only [HX, ctx, List.foldl, setAll, renO, DV.ren, upL, ↓gos, gop, qA, qB, qC, qD, qE, qF, qG, qH, qI]
 exact endX (c := { c with note := plS s }) (tl := []) rfl rfl
theorem tx8 (c : CT) (s : List UInt8) (hs : s.length < 1000000000) : TkX 152 c [.str s, .eptr [.fn 118 []] 0] { c with uid := plS s } true (plE s) := by
 refine acalls_go c152 (by simp [f152]) ?_
 simp only [f152, HX, ↓gos, gop, qA, qB, qC, qD, qE, qF, qG, qH, qI]
 refine call_ret (plain16 s hs) rfl rfl ?_
 simp only [↓gos, gop, qA, qB, qC, qD, qE, qF, qG, qH, qI]
 refine call_h (h1 := HX c) [0, 1, 2] [1, 2] (by simp) (by simp) rfl rfl rfl rfl (atx118 c) rfl ?_
 simp only [HX, ctx, List.foldl, setAll, renO, DV.ren, upL, ↓gos, gop, qA, qB, qC, qD, qE, qF, qG, qH, qI]
 exact endX (c := { c with uid := plS s }) (tl := []) rfl rfl
theorem tx3 (c : CT) (s : List UInt8) (hs : s.length < 100000000) : TkX 111 c [.str s] (addrP c s).1 (addrP c s).2.1 (addrP c s).2.2 := by
 refine acalls_go c111 (by simp [f111]) ?_
 simp only [f111, HX, ↓gos, gop, qA, qB, qC, qD, qE, qF, qG, qH, qI]
 refine call_ret (cutp84 s SCH (by omega) (by decide)) rfl rfl ?_
 have hb : (behind SCH s).1.length ≤ s.length := by unfold behind; split <;> simp
 unfold addrP
 generalize behind SCH s = b at *
 obtain ⟨r, t⟩ := b
 simp only at hb
 cases t
 ·simp only [↓gos, gop, qA, qB, qC, qD, qE, qF, qG, qH, qI]
  exact endX (tl := []) rfl rfl
 ·simp only [↓gos, gop, qA, qB, qC, qD, qE, qF, qG, qH, qI]
  refine call_ret (plain16 r (by omega)) rfl rfl ?_
  simp only [plS]
  cases hp : plainF r with
  | none =>
   simp only [Option.isSome_none, Bool.false_eq_true, reduceIte, ↓gos, gop, qA, qB, qC, qD, qE, qF, qG, qH, qI]
   exact ⟨fun _ => endX (tl := []) rfl rfl, fun q => absurd q (by decide)⟩
  | some y =>
   have hyl : y.length ≤ r.length := plainF_len _ (Nat.le_refl _) hp
   simp only [Option.isSome_some, Option.getD_some, reduceIte, ↓gos, gop, qA, qB, qC, qD, qE, qF, qG, qH, qI]
   refine call_ret (bare_c y (by omega)) rfl rfl ?_
   simp only [ctx, ↓gos, gop, qA, qB, qC, qD, qE, qF, qG, qH, qI]
   exact endX (c := { c with jid := (bareR y).1 }) (tl := []) rfl rfl
theorem tx1 (c : CT) (s : List UInt8) (hs : s.length < 100000000) : TkX 108 c [.str s] (nameP c s).1 true (nameP c s).2 := by
 have hne := splitF_ne 59 s false []
 have hmem := splitF_mem 59 s false []
 have htot := splitF_tot 59 s false []
 have hll := splitF_len 59 s false []
 refine acalls_go c108 (by simp [f108]) ?_
 simp only [f108, HX, ↓gos, gop, qA, qB, qC, qD, qE, qF, qG, qH, qI]
 refine call_new (split26 s 59 hs) (by simp [DV.closed]) ?_
 unfold nameP
 generalize splitF 59 false [] s = l at *
 simp only [DV.ren, renO, ↓gos, gop, qA, qB, qC, qD, qE, qF, qG, qH, qI]
 refine goN_lp (γ := Nat × List (List UInt8)) (fun g => [(14, .int .i64 g.1), (13, .int .i64 l.length), (12, .osl 1 4 0 l.length none), (6, .osl 1 3 0 g.2.length none), (0, .ptr 0 0)]) (fun g => [.box (ctx c), .arr 4 (c.other.map pv), .arr 1 (c.groups.map sv), .arr 1 (g.2.map st1), .arr 1 (l.map st1)])
  (fun g => g.1 ≤ l.length ∧ plains (l.take g.1) = some g.2 ∧ g.2.length = g.1) (fun g => l.length - g.1) (0, [])
  (wks rfl (by simp) ⟨rfl, rfl, rfl, rfl, rfl, trivial⟩) ⟨by omega, by simp [plains], rfl⟩ fun g hg => ?_
 obtain ⟨i, acc⟩ := g
 obtain ⟨hi, hp, ha⟩ := hg
 simp only at hi hp ha
 simp only [f108l0, ↓gos, gop, qA, qB, qC, qD, qE, qF, qG, qH, qI]
 refine ⟨fun h => ?_, fun h => ?_⟩
 ·have h2 : i < l.length := by omega
  refine chk_i (by omega) (optP_at [] h2 ?_)
  have htk := take_getDq h2 []
  have hm : l.getD i [] ∈ l := by rw [List.getD_eq_getElem?_getD, List.getElem?_eq_getElem h2]; exact List.getElem_mem h2
  have hdr : l = l.take i ++ l.getD i [] :: l.drop (i + 1) := by
   rw [List.getD_eq_getElem?_getD, List.getElem?_eq_getElem h2]; simp
  generalize l.getD i [] = x at *
  have hx := hmem x hm
  simp only [List.length_nil] at hx
  simp only [st1, ↓gos, gop, qA, qB, qC, qD, qE, qF, qG, qH, qI]
  refine call_ret (plain16 x (by omega)) rfl rfl ?_
  cases hpx : plainF x with
  | none =>
   have hn : plains l = none := by rw [hdr]; exact plains_none hpx _ _
   simp only [hn, Option.isSome_none, Bool.false_eq_true, reduceIte, ↓gos, gop, qA, qB, qC, qD, qE, qF, qG, qH, qI]
   exact ⟨fun _ => endX rfl rfl, fun q => absurd q (by decide)⟩
  | some y =>
   have w1 : IntKind.i64.wrap ((i : Int) + 1) = ((i + 1 : Nat) : Int) := by rw [wrap_i64 (by omega) (by omega)]; rfl
   simp only [Option.isSome_some, Option.getD_some, reduceIte, w1, forall_eq, ↓gos, gop, qA, qB, qC, qD, qE, qF, qG, qH, qI]
   refine chk_i (by omega) (chk_i (by omega) ?_)
   refine rnd_d 5 (i + 1, acc ++ [y]) ?_ (by simp) ⟨rfl, rfl, rfl, rfl, rfl, rfl, by simp; rfl, rfl, rfl, rfl, trivial⟩ rfl ⟨by simp only; omega, by rw [htk, plains_snoc, hp, hpx]; rfl, by simp [ha]⟩ (by simp only; omega)
   simp only [List.map_append]
   rfl
 ·have h2 : i = l.length := by omega
  subst h2
  rw [List.take_length] at hp
  have hpt := plains_tot hp
  simp only [hp]
  refine ⟨fun h5 => ?_, fun h5 => ?_⟩
  ·have h5 : ¬ acc.length = 5 := by omega
   rw [if_neg h5]
   exact endX rfl rfl
  ·have h5 : acc.length = 5 := by omega
   rw [if_pos h5]
   match acc, h5 with
   | [a0, a1, a2, a3, a4], _ =>
   have hfl : [a2, a3, a4].flatten.length ≤ [a0, a1, a2, a3, a4].flatten.length := by simp; omega
   have hls : l.flatten.length ≤ s.length := by simpa using htot
   simp only [List.length_cons, List.length_nil, List.drop_succ_cons, List.drop_zero, List.getD_cons_zero, List.getD_cons_succ, ↓gos, gop, qA, qB, qC, qD, qE, qF, qG, qH, qI]
   refine call_frz [3] rfl ?_
   simp only [List.map_cons, List.map_nil, ↓gos, gop, qA, qB, qC, qD, qE, qF, qG, qH, qI]
   refine call_ret (join149e [a2, a3, a4] (by simp) (by omega)) rfl rfl ?_
   generalize [a2, a3, a4].flatten = j at *
   simp only [ctx, st1, ↓gos, gop, qA, qB, qC, qD, qE, qF, qG, qH, qI]
   refine ⟨fun h => ?_, fun h => ?_⟩
   ·rw [if_neg h]
    exact endX rfl rfl
   ·rw [if_pos h]
    exact endX rfl rfl
theorem emp_split {E : Env} {f : Nat} {h : List AObj} {sz : Nat} {post : List AObj → DV → Prop} (h1 : ACalls E f h [.emp true sz] post) (h2 : ACalls E f h [.emp false sz] post) : ACalls E f h [.sl sz []] post :=
 ⟨h1.1, fun w ok β vs hG hN hH hlen hv => by
  match vs, hlen with
  | [v], _ =>
  have r := hv 0 v _ rfl rfl
  cases r with
  | sl A n c _ _ b x vs' hn hnc hsz hes hA hc h1' h' =>
   have hn : n = 0 := by simpa using hn
   subst hn
   cases A with
   | none =>
    refine h1.2 w ok β _ hG hN hH rfl fun i v d q1 q2 => ?_
    cases i with
    | zero => cases q1; cases q2; exact .emp0 _ _
    | succ i => simp at q1
   | some A =>
    refine h2.2 w ok β _ hG hN hH rfl fun i v d q1 q2 => ?_
    cases i with
    | zero => cases q1; cases q2; exact .emp1 _ _ _
    | succ i => simp at q1⟩
theorem clone119 (l : List (List DV)) (hl : l.length < 1000000000) : DRet 119 [.sl 2 l] (.sl 2 l) := by
 cases l with
 | nil =>
  refine emp_split ?_ ?_
  ·refine acalls_goF c119 (by simp [f119]) ?_
   simp only [f119, finF_e, finF_en, ↓gos, gop, qA, qB, qC, qD, qE, qF, qG, qH, qI]
   exact end_fc [0, 1] rfl rfl ⟨rfl, rfl⟩
  ·refine acalls_goF c119 (by simp [f119]) ?_
   simp only [f119, finF_e, finF_en, ↓gos, gop, qA, qB, qC, qD, qE, qF, qG, qH, qI]
   exact end_fc [0, 1, 2] rfl rfl ⟨rfl, rfl⟩
 | cons x l =>
  refine acalls_goF c119 (by simp [f119]) ?_
  simp only [f119, finF_e, finF_en, ↓gos, gop, qA, qB, qC, qD, qE, qF, qG, qH, qI]
  refine chk_i (by simp) ?_
  simp only [List.length_cons] at hl
  refine chk_i (by omega) (chk_i (by omega) ?_)
  have e : frzD [1] [.arr 2 [], .arr 2 (x :: l)] (.osl 2 1 0 (l.length + 1) none) = .sl 2 (x :: l) := frz_row (F := [1]) (sz := 2) (i := 1) (n := l.length + 1) (c := none) rfl (by simp) rfl
  exact end_fc [1] (D := .sl 2 (x :: l)) e rfl ⟨rfl, rfl⟩
theorem own57 (p : PR) (hp : p.ps.length < 1000000000) : DRet 57 [.agg (pv p)] (.agg (pv p)) := by
 refine acalls_goF c57 (by simp [f57]) ?_
 simp only [f57, pv, finF_e, finF_en, ↓gos, gop, qA, qB, qC, qD, qE, qF, qG, qH, qI]
 refine call_clo (clone119 _ (by simpa using hp)) rfl rfl ?_
 simp only [finF_e, finF_en, ↓gos, gop, qA, qB, qC, qD, qE, qF, qG, qH, qI]
 exact end_fc [] rfl rfl ⟨rfl, rfl⟩
def takeP (c : CT) (s : List UInt8) : Nat → CT × Bool × Int
 | 0 => ({ c with name := plS s }, true, plE s)
 | 1 => ((nameP c s).1, true, (nameP c s).2)
 | 2 => ({ c with nick := plS s }, true, plE s)
 | 3 => addrP c s
 | 4 => ({ c with email := plS s }, true, plE s)
 | 5 => ({ c with tel := plS s }, true, plE s)
 | 7 => ({ c with note := plS s }, true, plE s)
 | 8 => ({ c with uid := plS s }, true, plE s)
 | _ => (c, false, 0)
theorem takes_at (c : CT) (s : List UInt8) (hs : s.length < 100000000) : ∀ k, k < 9 → k ≠ 6 → TkX (kf k) c (.str s :: kc k) (takeP c s k).1 (takeP c s k).2.1 (takeP c s k).2.2 :=
 nine (fun _ => tx0 c s (by omega)) (fun _ => tx1 c s hs) (fun _ => tx2 c s (by omega)) (fun _ => tx3 c s hs) (fun _ => tx4 c s (by omega)) (fun _ => tx5 c s (by omega)) (fun h => absurd rfl h) (fun _ => tx7 c s (by omega)) (fun _ => tx8 c s (by omega))
end Go.Proofs.Ut
