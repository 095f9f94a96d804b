/- strings.NewReplacer(..).Replace as fold.Value calls it. -/
import Derived.Test.YtgamnnfndidclaaGreatDoorYS
import Derived.Test.YtgamnnfndidclaaGreatDoorYFoUtD
import Derived.Test.YtgamnnfndidclaaGreatDoorYOnce2
open Nat renaming reduceBEq → qA, reduceAdd → qB, reduceSub → qC, reduceLeDiff → qD, reduceMul → qE
open Int renaming reduceLE → qF, reduceLT → qG, reduceNe → qH, reduceToNat → qI
set_option linter.all false
namespace Go.Proofs.Ut
open Go.Ai
set_option maxRecDepth 100000
theorem ocP_ctv (c : CT) (h : List AObj) (K : List DV → List AObj → Prop) : ocP (ctv c) h K = K (ctv c) h := by simp only [ctv, ↓gos, gop, qA, qB, qC, qD, qE, qF, qG, qH, qI]
theorem ctv_one (c : CT) : (ctv c).all DV.one = true := rfl
theorem box_clo {cs : List DV} {D : DV} {tl : List AObj} (hcl : cs.all DV.closed = true) (hD : D.closed = true) : finE 1 (fun h d => h = [AObj.box cs] ∧ d = D) (some [D]) (.box cs :: tl) :=
 end_h [0] (by simp) (Nat.le_refl _) id0 (by simp) (closed_inL hD) (by
  intro l hl
  simp at hl; subst hl
  exact List.all_eq_true.2 fun d hd => closed_inL (List.all_eq_true.1 hcl d hd)) rfl rfl ⟨by
  simp only [List.map_cons, List.map_nil, List.getD_cons_zero, renO]
  rw [map_same fun d hd => closed_ren (List.all_eq_true.1 hcl d hd)], closed_ren hD⟩
def kn (name : List UInt8) (g : Nat) : List DV := [.str name, .fn 152 [.eptr [.fn g []] 0], .fn 153 [.eptr [.fn g []] 0]]
theorem text106 (name : List UInt8) (g : Nat) : DRet 106 [.str name, .fn g []] (.agg (kn name g)) := by
 refine acalls_goF c106 (by simp [f106]) ?_
 simp only [f106, finF_e, finF_en, ↓gos, gop, qA, qB, qC, qD, qE, qF, qG, qH, qI]
 exact end_fc [0] rfl rfl ⟨rfl, rfl⟩
def KNS : List (List UInt8) := [[70, 78], [78], [78, 73, 67, 75, 78, 65, 77, 69], [73, 77, 80, 80], [69, 77, 65, 73, 76], [84, 69, 76], [67, 65, 84, 69, 71, 79, 82, 73, 69, 83], [78, 79, 84, 69], [85, 73, 68]]
def kf (k : Nat) : Nat := match k with | 1 => 108 | 3 => 111 | 6 => 115 | _ => 152
def kg (k : Nat) : Nat := match k with | 1 => 109 | 3 => 112 | 6 => 116 | _ => 153
def kc (k : Nat) : List DV := match k with
 | 0 => [.eptr [.fn 107 []] 0] | 2 => [.eptr [.fn 110 []] 0] | 4 => [.eptr [.fn 113 []] 0] | 5 => [.eptr [.fn 114 []] 0] | 7 => [.eptr [.fn 117 []] 0] | 8 => [.eptr [.fn 118 []] 0] | _ => []
def knv (k : Nat) : List DV := [.str (KNS.getD k []), .fn (kf k) (kc k), .fn (kg k) (kc k)]
def kns : List (List DV) := [knv 0, knv 1, knv 2, knv 3, knv 4, knv 5, knv 6, knv 7, knv 8]
theorem nine {p : Nat → Prop} (h0 : p 0) (h1 : p 1) (h2 : p 2) (h3 : p 3) (h4 : p 4) (h5 : p 5) (h6 : p 6) (h7 : p 7) (h8 : p 8) : ∀ k, k < 9 → p k
 | 0, _ => h0 | 1, _ => h1 | 2, _ => h2 | 3, _ => h3 | 4, _ => h4 | 5, _ => h5 | 6, _ => h6 | 7, _ => h7 | 8, _ => h8
 | k + 9, h => by omega
theorem kns_at : ∀ k, k < 9 → kns[k]? = some (knv k) := nine rfl rfl rfl rfl rfl rfl rfl rfl rfl
theorem kc_closed : ∀ k, k < 9 → (kc k).all DV.closed = true := nine rfl rfl rfl rfl rfl rfl rfl rfl rfl
theorem knv_closed : ∀ k, k < 9 → (DV.agg (knv k)).closed = true := nine rfl rfl rfl rfl rfl rfl rfl rfl rfl
theorem all56 : DRet 56 [] (.sl 3 kns) := by
 refine acalls_goF c56 (by simp [f56]) ?_
 simp only [f56, finF_e, finF_en, ↓gos, gop, qA, qB, qC, qD, qE, qF, qG, qH, qI]
 refine call_clo (text106 (KNS.getD 0 []) 107) rfl rfl ?_
 simp only [finF_e, finF_en, ↓gos, gop, qA, qB, qC, qD, qE, qF, qG, qH, qI]
 refine call_clo (text106 (KNS.getD 2 []) 110) rfl rfl ?_
 simp only [finF_e, finF_en, ↓gos, gop, qA, qB, qC, qD, qE, qF, qG, qH, qI]
 refine call_clo (text106 (KNS.getD 4 []) 113) rfl rfl ?_
 simp only [finF_e, finF_en, ↓gos, gop, qA, qB, qC, qD, qE, qF, qG, qH, qI]
 refine call_clo (text106 (KNS.getD 5 []) 114) rfl rfl ?_
 simp only [finF_e, finF_en, ↓gos, gop, qA, qB, qC, qD, qE, qF, qG, qH, qI]
 refine call_clo (text106 (KNS.getD 7 []) 117) rfl rfl ?_
 simp only [finF_e, finF_en, ↓gos, gop, qA, qB, qC, qD, qE, qF, qG, qH, qI]
 refine call_clo (text106 (KNS.getD 8 []) 118) rfl rfl ?_
 simp only [kn, finF_e, finF_en, ↓gos, gop, qA, qB, qC, qD, qE, qF, qG, qH, qI]
 exact end_fc [1] (D := .sl 3 kns) rfl rfl ⟨rfl, rfl⟩
theorem same105 (nm : List UInt8) (k : Nat) (hk : k < 9) : ACalls ED 105 [.box [.str nm]] [.agg (knv k), .ptr 0 0] (fun h d => h = [.box [.str nm]] ∧ d = .bool (decide (KNS.getD k [] = nm))) := by
 refine acalls_go c105 (by simp [f105]) ?_
 simp only [f105, knv, ↓gos, gop, qA, qB, qC, qD, qE, qF, qG, qH, qI]
 refine ⟨fun h => ?_, fun h => ?_⟩
 ·rw [decide_eq_true h]; exact box_clo rfl rfl
 ·rw [decide_eq_false h]; exact box_clo rfl rfl
def knI (nm : List UInt8) : Nat → Int
 | 0 => -1
 | k + 1 => if 0 ≤ knI nm k then knI nm k else if KNS.getD k [] = nm then k else -1
theorem index104 (nm : List UInt8) : ACalls ED 104 [.box [.str nm]] [.sl 3 kns, .fn 105 [.ptr 0 0]] (fun h d => h = [.box [.str nm]] ∧ d = .int .i64 (knI nm 9)) := by
 refine acalls_go c104 (by simp [f104]) ?_
 simp only [f104, ↓gos, gop, qA, qB, qC, qD, qE, qF, qG, qH, qI]
 refine goN_lp (γ := Nat) (fun i => [(8, .int .i64 i), (7, .int .i64 9), (1, .fn 105 [.ptr 0 0]), (0, .sl 3 kns)]) (fun _ => [.box [.str nm]]) (fun i => i ≤ 9 ∧ knI nm i = -1) (fun i => 9 - i) 0
  (wks rfl (by simp) ⟨rfl, rfl, rfl, rfl, trivial⟩) ⟨by omega, rfl⟩ fun i ⟨hi, ht⟩ => ?_
 simp only [f104l0, ↓gos, gop, qA, qB, qC, qD, qE, qF, qG, qH, qI]
 refine ⟨fun h => ?_, fun h => ?_⟩
 ·have h2 : i < 9 := by omega
  refine optP_in (knv i) (kns_at i h2) ?_
  have e : List.take 3 (knv i) = knv i := rfl
  rw [e]
  refine chk_i (Nat.le_refl 3) ?_
  refine call_h (h1 := [.box [.str nm]]) (ds1 := [.agg (knv i), .ptr 0 0]) [0] [] (by simp) (by simp) rfl rfl (by
   rw [List.map_cons]
   rw [show DV.dn [0] _ (.agg (knv i)) = .agg (knv i) from closed_low (knv_closed i h2)]
   rfl) (by
   simp only [List.all_cons, List.all_nil, Bool.and_true, Bool.and_eq_true]
   exact ⟨⟨closed_inL (knv_closed i h2), rfl⟩, rfl⟩) (same105 nm i h2) rfl ?_
  have hk : knI nm (i + 1) = if KNS.getD i [] = nm then (i : Int) else -1 := by rw [knI, if_neg (by omega)]
  by_cases hd : KNS.getD i [] = nm
  ·rw [decide_eq_true hd]
   simp only [List.foldl, setAll, renO, DV.ren, upL, ↓gos, gop, qA, qB, qC, qD, qE, qF, qG, qH, qI]
   have hi9 : knI nm 9 = i := by
    rw [if_pos hd] at hk
    have : ∀ n, knI nm (i + 1 + n) = i := fun n => by
     induction n with
     | zero => exact hk
     | succ n ih => rw [show i + 1 + (n + 1) = (i + 1 + n) + 1 from rfl, knI, if_pos (by omega), ih]
    have := this (9 - (i + 1))
    rwa [show i + 1 + (9 - (i + 1)) = 9 by omega] at this
   rw [hi9]
   exact box_clo rfl rfl
  ·rw [decide_eq_false hd]
   simp only [List.foldl, setAll, renO, DV.ren, upL, ↓gos, gop, qA, qB, qC, qD, qE, qF, qG, qH, qI]
   rw [if_neg hd] at hk
   intro v hv
   rw [wrap_i64 (by omega) (by omega)] at hv
   have e3 : v = ((i + 1 : Nat) : Int) := by rw [hv]; rfl
   subst e3
   exact rnd_s (i + 1) rfl (by simp) ⟨rfl, rfl, rfl, rfl, trivial⟩ ⟨by omega, hk⟩ (by omega)
 ·have h2 : i = 9 := by omega
  subst h2
  rw [ht]
  exact box_clo rfl rfl
theorem knI_le (nm : List UInt8) : ∀ k, -1 ≤ knI nm k ∧ knI nm k < (k : Int)
 | 0 => ⟨by simp [knI], by simp [knI]⟩
 | k + 1 => by
  have := knI_le nm k
  rw [knI]
  split
  ·omega
  ·split <;> omega
def foundK (nm : List UInt8) : List DV := if 0 ≤ knI nm 9 then knv (knI nm 9).toNat else [.str [], .nilfn, .nilfn]
theorem find55 (nm : List UInt8) : DRet 55 [.sl 3 kns, .str nm] (.tup [.agg (foundK nm), .bool (decide (0 ≤ knI nm 9))]) := by
 have hi := knI_le nm 9
 refine acalls_goF c55 (by simp [f55]) ?_
 simp only [f55, finF_e, finF_en, ↓gos, gop, qA, qB, qC, qD, qE, qF, qG, qH, qI]
 refine call_h (h1 := [.box [.str nm]]) (ds1 := [.sl 3 kns, .fn 105 [.ptr 0 0]]) [0] [] (by simp) (by simp) rfl rfl rfl rfl (index104 nm) rfl ?_
 unfold foundK
 generalize knI nm 9 = n at *
 simp only [List.foldl, setAll, renO, DV.ren, upL, finF_e, finF_en, ↓gos, gop, qA, qB, qC, qD, qE, qF, qG, qH, qI]
 refine ⟨fun h => ?_, fun h => ?_⟩
 ·rw [if_neg (by omega), decide_eq_false (by omega)]
  exact end_fc [] rfl rfl ⟨rfl, rfl⟩
 ·rw [if_pos (by omega), decide_eq_true (by omega)]
  have h2 : n.toNat < 9 := by omega
  refine chk_i (by omega) (optP_in (knv n.toNat) (kns_at _ h2) ?_)
  have h1 := kc_closed _ h2
  simp only [knv, finF_e, finF_en, ↓gos, gop, qA, qB, qC, qD, qE, qF, qG, qH, qI]
  refine end_fc [] (D := .tup [.agg (knv n.toNat), .bool true]) ?_ ?_ ⟨rfl, rfl⟩
  ·show DV.tup [frzD _ _ (.agg (knv n.toNat)), frzD _ _ (.bool true)] = _
   rw [show frzD _ _ (.agg (knv n.toNat)) = .agg (knv n.toNat) from closed_low (knv_closed _ h2)]
   rfl
  ·show ((DV.agg (knv n.toNat)).closed && _) = true
   rw [knv_closed _ h2]
   rfl
def plE (s : List UInt8) : Int := if (plainF s).isSome then 0 else 18
def plS (s : List UInt8) : List UInt8 := (plainF s).getD []
def SCH : List UInt8 := [120, 109, 112, 112, 58]
theorem plainF_len : ∀ (n : Nat) {s a : List UInt8}, s.length ≤ n → plainF s = some a → a.length ≤ s.length
 | _, [], a, _, h => by simp [plainF] at h; subst h; simp
 | 0, x :: s, a, hl, _ => by simp at hl
 | n + 1, x :: s, a, hl, h => by
  unfold plainF at h
  split at h
  ·cases s with
   | nil => cases h
   | cons c t =>
    simp only [Option.bind_eq_some_iff, Option.map_eq_some_iff] at h
    obtain ⟨y, _, b, hb, rfl⟩ := h
    have := plainF_len n (s := t) (by simp at hl; omega) hb
    simp only [List.length_cons]; omega
  ·simp only [Option.map_eq_some_iff] at h
   obtain ⟨b, hb, rfl⟩ := h
   have := plainF_len n (s := s) (by simpa using hl) hb
   simp only [List.length_cons]; omega
def addrP (c : CT) (s : List UInt8) : CT × Bool × Int :=
 if (behind SCH s).2 = true then (if (plainF (behind SCH s).1).isSome = true then ({ c with jid := (bareR (plS (behind SCH s).1)).1 }, true, (bareR (plS (behind SCH s).1)).2) else (c, true, 18)) else (c, false, 0)
end Go.Proofs.Ut
