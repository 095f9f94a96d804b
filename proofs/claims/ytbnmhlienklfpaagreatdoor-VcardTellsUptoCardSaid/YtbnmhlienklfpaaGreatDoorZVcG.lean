/- Cards, read. -/
import Derived.Test.YtbnmhlienklfpaaGreatDoorZVcE
set_option linter.all false
namespace Go.Proofs.Ut
open Go.Ai Go.Shelf Go.RowKit
set_option linter.unusedSimpArgs false
set_option linter.unusedVariables false
set_option maxHeartbeats 1000000
set_option maxRecDepth 100000
/-- A reader without an open card, and with one. -/
def HC (cards : List (List PR)) (v : Bool) : List AObj := [.arr 1 (cards.map cv), .box [.osl 1 0 0 cards.length none, .int .i64 60, .nilp, .bool v]]
def HO (cards : List (List PR)) (c : List PR) (v : Bool) : List AObj := [.arr 1 (cards.map cv), .box [.osl 1 0 0 cards.length none, .int .i64 60, .ptr 3 0, .bool v], .arr 4 (c.map pv), .box [.osl 4 2 0 c.length none, .int .i64 40]]
theorem add64 (c : List PR) (p : PR) (hc : c.length ≤ 40) : ACalls ED 72 [.arr 4 (c.map pv), .box [.osl 4 0 0 c.length none, .int .i64 40]] [.ptr 1 0, .agg (pv p)]
    (fun h' d => h' = (if 40 ≤ c.length then [.arr 4 (c.map pv), .box [.osl 4 0 0 c.length none, .int .i64 40]] else [.arr 4 ((c ++ [p]).map pv), .box [.osl 4 0 0 (c ++ [p]).length none, .int .i64 40]]) ∧ d = .bool (!decide (40 ≤ c.length))) := by
  refine acalls_go c72 (by simp [f72]) ?_
  simp only [f72, pv, ↓gos, gop, Nat.reduceBEq, Nat.reduceAdd, Nat.reduceSub, Nat.reduceLeDiff, Nat.reduceMul, Int.reduceLE, Int.reduceLT, Int.reduceNe, Int.reduceToNat]
  refine ⟨fun h => ?_, fun h => ?_⟩
  · rw [if_pos (by omega), decide_eq_true (by omega)]
    exact end_list rfl rfl ⟨rfl, rfl⟩
  · rw [if_neg (by omega), decide_eq_false (by omega)]
    refine ⟨by omega, by omega, ?_⟩
    refine end_list rfl rfl ⟨?_, rfl⟩
    simp [pv]
theorem i43 : List.idxOf 3 [0, 1, 2, 3] = 3 := by decide
theorem i42 : List.idxOf 2 [0, 1, 2, 3] = 2 := by decide
theorem end_HO {post : List AObj → DV → Prop} {cards : List (List PR)} {c : List PR} {v : Bool} {e : Int} {tl : List AObj} (hp : post (HO cards c v) (.int .i64 e)) :
    finE 4 post (some [.int .i64 e]) (.arr 1 (cards.map cv) :: .box [.osl 1 0 0 cards.length none, .int .i64 60, .ptr 3 0, .bool v] :: .arr 4 (c.map pv) :: .box [.osl 4 2 0 c.length none, .int .i64 40] :: tl) := by
  refine end_h [0, 1, 2, 3] (by decide) (by decide) (by decide) (by simp) rfl (by simp [inO, DV.inL]) ?_ rfl hp
  simp [renO, DV.ren, HO, i43, i42]
theorem end_HO2 {post : List AObj → DV → Prop} {cards : List (List PR)} {c : List PR} {v : Bool} {e : Int} {tl : List AObj} (hp : post (HO cards c v) (.int .i64 e)) :
    finE 2 post (some [.int .i64 e]) (.arr 1 (cards.map cv) :: .box [.osl 1 0 0 cards.length none, .int .i64 60, .ptr 3 0, .bool v] :: .arr 4 (c.map pv) :: .box [.osl 4 2 0 c.length none, .int .i64 40] :: tl) := by
  refine end_h [0, 1, 2, 3] (by decide) (by decide) (by decide) (by simp) rfl (by simp [inO, DV.inL]) ?_ rfl hp
  simp [renO, DV.ren, HO, i43, i42]
theorem end_HC {post : List AObj → DV → Prop} {cards : List (List PR)} {v : Bool} {e : Int} {tl : List AObj} (hp : post (HC cards v) (.int .i64 e)) :
    finE 2 post (some [.int .i64 e]) (.arr 1 (cards.map cv) :: .box [.osl 1 0 0 cards.length none, .int .i64 60, .nilp, .bool v] :: tl) := by
  refine end_h [0, 1] (by decide) (by decide) (by decide) (by simp) rfl (by simp [inO, DV.inL]) ?_ rfl hp
  simp [renO, DV.ren, HC]
theorem add62 (cards : List (List PR)) (c : List PR) (v : Bool) (hc : cards.length < 60) : ACalls ED 70 (HO cards c v) [.ptr 1 0, .osl 4 2 0 c.length none]
    (fun h' d => h' = [.arr 1 ((cards ++ [c]).map cv), .box [.osl 1 0 0 (cards ++ [c]).length none, .int .i64 60, .ptr 3 0, .bool v], .dead, .box [.sl 4 (c.map pv), .int .i64 40]] ∧ d = .bool true) := by
  refine acalls_go c70 (by simp [f70]) ?_
  simp only [f70, HO, ↓gos, gop, Nat.reduceBEq, Nat.reduceAdd, Nat.reduceSub, Nat.reduceLeDiff, Nat.reduceMul, Int.reduceLE, Int.reduceLT, Int.reduceNe, Int.reduceToNat]
  refine ⟨fun h => by exfalso; omega, fun h => ⟨by omega, by omega, ?_⟩⟩
  refine end_h [0, 1, 2, 3] (by decide) (by decide) (by decide) (by simp) rfl (by simp [inO, DV.inL]) rfl rfl ⟨?_, rfl⟩
  simp [renO, DV.ren, cv, i43]
def outS (cards : List (List PR)) (v : Bool) (s : List UInt8) : List AObj × Int :=
  if ef s BEG = false then (HC cards v, 20) else if 60 ≤ cards.length then (HC cards v, 4) else (HO cards [] false, 0)
theorem outside41 (cards : List (List PR)) (v : Bool) (s : List UInt8) (hs : s.length < 100000000) (hc : cards.length ≤ 60) : ACalls ED 44 (HC cards v) [.ptr 1 0, .str s]
    (fun h' d => h' = (outS cards v s).1 ∧ d = .int .i64 (outS cards v s).2) := by
  refine acalls_go c44 (by simp [f44]) ?_
  simp only [f44, HC, ↓gos, gop, Nat.reduceBEq, Nat.reduceAdd, Nat.reduceSub, Nat.reduceLeDiff, Nat.reduceMul, Int.reduceLE, Int.reduceLT, Int.reduceNe, Int.reduceToNat]
  refine call_ret (ef39 s BEG (by omega) (by decide) (by unfold plainT; decide)) rfl rfl ?_
  generalize hS : outS cards v s = S
  unfold outS at hS
  cases he : ef s BEG
  · simp only [↓gos, gop, Nat.reduceBEq, Nat.reduceAdd, Nat.reduceSub, Nat.reduceLeDiff, Nat.reduceMul, Int.reduceLE, Int.reduceLT, Int.reduceNe, Int.reduceToNat]
    rw [he, if_pos rfl] at hS
    subst hS
    exact end_HC ⟨rfl, rfl⟩
  · simp only [↓gos, gop, Nat.reduceBEq, Nat.reduceAdd, Nat.reduceSub, Nat.reduceLeDiff, Nat.reduceMul, Int.reduceLE, Int.reduceLT, Int.reduceNe, Int.reduceToNat]
    rw [he, if_neg (by simp)] at hS
    refine ⟨fun h => ?_, fun h => ?_⟩
    · rw [if_pos (by omega)] at hS
      subst hS
      exact end_HC ⟨rfl, rfl⟩
    · rw [if_neg (by omega)] at hS
      subst hS
      exact end_HO2 (c := []) ⟨rfl, rfl⟩
def inS (cards : List (List PR)) (c : List PR) (v : Bool) (x : PR × Bool) (en : Bool) : List AObj × Int :=
  if v = false then (if x.2 = false ∨ x.1.n ≠ VER ∨ x.1.v ≠ V40 then (HO cards c v, 20) else (HO cards c true, 0))
  else if en = true then ([.arr 1 ((cards ++ [c]).map cv), .box [.osl 1 0 0 (cards ++ [c]).length none, .int .i64 60, .nilp, .bool true], .dead, .box [.sl 4 (c.map pv), .int .i64 40]], 0)
  else if x.2 = false then (HO cards c v, 17) else if mayP x.1 = false then (HO cards c v, 20) else if 40 ≤ c.length then (HO cards c v, 4) else (HO cards (c ++ [x.1]) true, 0)
theorem within42 (cards : List (List PR)) (c : List PR) (v : Bool) (s : List UInt8) (hs : s.length < 100000000) (hc : cards.length < 60) (hcl : c.length ≤ 40) : ACalls ED 45 (HO cards c v) [.ptr 1 0, .str s]
    (fun h' d => h' = (inS cards c v (propL s) (ef s END)).1 ∧ d = .int .i64 (inS cards c v (propL s) (ef s END)).2) := by
  have hmax := prop_max s
  refine acalls_go c45 (by simp [f45]) ?_
  simp only [f45, HO, ↓gos, gop, Nat.reduceBEq, Nat.reduceAdd, Nat.reduceSub, Nat.reduceLeDiff, Nat.reduceMul, Int.reduceLE, Int.reduceLT, Int.reduceNe, Int.reduceToNat]
  refine call_new (prop61 s (by omega)) (by simp [DV.closed]) ?_
  generalize hS : inS cards c v (propL s) (ef s END) = S
  generalize propL s = x at hmax hS ⊢
  obtain ⟨p, b⟩ := x
  simp only at hmax
  simp only [DV.ren, DV.ren.renAll, renO, ↓gos, gop, Nat.reduceBEq, Nat.reduceAdd, Nat.reduceSub, Nat.reduceLeDiff, Nat.reduceMul, Int.reduceLE, Int.reduceLT, Int.reduceNe, Int.reduceToNat]
  unfold inS at hS
  cases v
  · simp only [↓gos, gop, Nat.reduceBEq, Nat.reduceAdd, Nat.reduceSub, Nat.reduceLeDiff, Nat.reduceMul, Int.reduceLE, Int.reduceLT, Int.reduceNe, Int.reduceToNat]
    rw [if_pos rfl] at hS
    refine ⟨fun h1 => ?_, fun h1 => ⟨fun h2 => ?_, fun h2 => ⟨fun h3 => ?_, fun h3 => ?_⟩⟩⟩
    · rw [if_pos (.inl h1)] at hS
      subst hS
      exact end_HO ⟨rfl, rfl⟩
    · rw [if_pos (.inr (.inl h2))] at hS
      subst hS
      exact end_HO ⟨rfl, rfl⟩
    · rw [if_pos (.inr (.inr h3))] at hS
      subst hS
      exact end_HO ⟨rfl, rfl⟩
    · rw [if_neg (by simp [h1]; exact ⟨h2, h3⟩)] at hS
      subst hS
      exact end_HO ⟨rfl, rfl⟩
  · simp only [↓gos, gop, Nat.reduceBEq, Nat.reduceAdd, Nat.reduceSub, Nat.reduceLeDiff, Nat.reduceMul, Int.reduceLE, Int.reduceLT, Int.reduceNe, Int.reduceToNat]
    rw [if_neg (by simp)] at hS
    refine call_ret (ef39 s END (by omega) (by decide) (by unfold plainT; decide)) rfl rfl ?_
    cases he : ef s END
    · rw [he, if_neg (by simp)] at hS
      cases b
      · simp only [↓gos, gop, Nat.reduceBEq, Nat.reduceAdd, Nat.reduceSub, Nat.reduceLeDiff, Nat.reduceMul, Int.reduceLE, Int.reduceLT, Int.reduceNe, Int.reduceToNat]
        rw [if_pos rfl] at hS
        subst hS
        exact end_HO ⟨rfl, rfl⟩
      · simp only [↓gos, gop, Nat.reduceBEq, Nat.reduceAdd, Nat.reduceSub, Nat.reduceLeDiff, Nat.reduceMul, Int.reduceLE, Int.reduceLT, Int.reduceNe, Int.reduceToNat]
        rw [if_neg (by simp)] at hS
        refine call_ret (may63 p) (by simp [DV.dn, DV.low, DV.low.lowAll, pv, Go.Ai.tkm]) rfl ?_
        cases hm : mayP p
        · simp only [↓gos, gop, Nat.reduceBEq, Nat.reduceAdd, Nat.reduceSub, Nat.reduceLeDiff, Nat.reduceMul, Int.reduceLE, Int.reduceLT, Int.reduceNe, Int.reduceToNat]
          rw [hm, if_pos rfl] at hS
          subst hS
          exact end_HO ⟨rfl, rfl⟩
        · simp only [↓gos, gop, Nat.reduceBEq, Nat.reduceAdd, Nat.reduceSub, Nat.reduceLeDiff, Nat.reduceMul, Int.reduceLE, Int.reduceLT, Int.reduceNe, Int.reduceToNat]
          rw [hm, if_neg (by simp)] at hS
          refine call_frz [4] rfl ?_
          simp only [↓gos, gop, Nat.reduceBEq, Nat.reduceAdd, Nat.reduceSub, Nat.reduceLeDiff, Nat.reduceMul, Int.reduceLE, Int.reduceLT, Int.reduceNe, Int.reduceToNat]
          have hadd := add64 c p hcl
          by_cases h40 : 40 ≤ c.length
          · rw [if_pos h40, decide_eq_true h40] at hadd
            refine call_h (ds1 := [.ptr 1 0, .agg (pv p)]) [2, 3] [2] (by decide) (by simp) rfl rfl rfl rfl hadd rfl ?_
            simp only [List.foldl_cons, List.foldl_nil, setAll, upL, renO, DV.ren, DV.ren.renAll, ↓gos, gop, Nat.reduceBEq, Nat.reduceAdd, Nat.reduceSub, Nat.reduceLeDiff, Nat.reduceMul, Int.reduceLE, Int.reduceLT, Int.reduceNe, Int.reduceToNat]
            rw [if_pos h40] at hS
            subst hS
            exact end_HO ⟨rfl, rfl⟩
          · rw [if_neg h40, decide_eq_false h40] at hadd
            refine call_h (ds1 := [.ptr 1 0, .agg (pv p)]) [2, 3] [2] (by decide) (by simp) rfl rfl rfl rfl hadd rfl ?_
            simp only [List.foldl_cons, List.foldl_nil, setAll, upL, renO, DV.ren, DV.ren.renAll, ↓gos, gop, Nat.reduceBEq, Nat.reduceAdd, Nat.reduceSub, Nat.reduceLeDiff, Nat.reduceMul, Int.reduceLE, Int.reduceLT, Int.reduceNe, Int.reduceToNat]
            rw [if_neg h40] at hS
            subst hS
            exact end_HO ⟨rfl, rfl⟩
    · simp only [↓gos, gop, Nat.reduceBEq, Nat.reduceAdd, Nat.reduceSub, Nat.reduceLeDiff, Nat.reduceMul, Int.reduceLE, Int.reduceLT, Int.reduceNe, Int.reduceToNat]
      rw [he, if_pos rfl] at hS
      refine call_h (ds1 := [.ptr 1 0, .osl 4 2 0 c.length none]) [0, 1, 2, 3] [0, 2] (by decide) (by simp) rfl rfl rfl rfl (add62 cards c true hc) rfl ?_
      simp only [List.foldl_cons, List.foldl_nil, setAll, upL, renO, DV.ren, DV.ren.renAll, ↓gos, gop, Nat.reduceBEq, Nat.reduceAdd, Nat.reduceSub, Nat.reduceLeDiff, Nat.reduceMul, Int.reduceLE, Int.reduceLT, Int.reduceNe, Int.reduceToNat]
      subst hS
      refine end_h [0, 1, 2, 3] (by decide) (by decide) (by decide) (by simp) rfl (by simp [inO, DV.inL]) rfl rfl ⟨?_, rfl⟩
      simp [renO, DV.ren]
end Go.Proofs.Ut

/- Cards of a text. -/
namespace Go.Proofs.Ut
open Go.Ai Go.Shelf Go.RowKit
set_option linter.unusedSimpArgs false
set_option linter.unusedVariables false
set_option maxHeartbeats 1000000
set_option maxRecDepth 100000
theorem flat_last (acc : List (List UInt8)) (t : List UInt8) (h : acc ≠ []) : (acc.dropLast ++ [acc.getLastD [] ++ t]).flatten.length = acc.flatten.length + t.length ∧ (acc.dropLast ++ [acc.getLastD [] ++ t]).length = acc.length := by
  obtain ⟨a, x, rfl⟩ : ∃ a x, acc = a ++ [x] := ⟨acc.dropLast, acc.getLast h, (List.dropLast_concat_getLast h).symm⟩
  rw [getLastD_app]
  simp [Nat.add_assoc]
theorem unf_len : ∀ n (s : List UInt8) acc l, s.length ≤ n → unfA acc s = some l → l.flatten.length ≤ acc.flatten.length + s.length ∧ l.length ≤ acc.length + s.length
  | n, s, acc, l, hn, h => by
    by_cases hs : s = []
    · subst hs
      rw [unfA_nil] at h
      injection h with h; subst h; simp
    · rw [unfA_step acc s hs] at h
      split at h
      · cases h
      rename_i h1
      simp only [Bool.or_eq_true, not_or, Bool.not_eq_true', Bool.not_eq_true] at h1
      obtain ⟨⟨h1, h2⟩, h3⟩ := h1
      have h1 : (cutE s).2.2 = true := by simpa using h1
      have hl := cutE_len s
      have hl2 := hl.2 h1
      have hl := hl.1
      generalize cutE s = c at h h1 h2 h3 hl hl2
      obtain ⟨row, rest, is⟩ := c
      simp only at h h1 h2 h3 hl hl2
      have hs0 : 0 < s.length := List.length_pos_iff.2 hs
      cases n with
      | zero => omega
      | succ n =>
        split at h
        · rename_i hm
          have hne : acc ≠ [] := by
            rintro rfl
            rw [hm] at h3; simp at h3
          have hf := flat_last acc row.tail hne
          have := unf_len n rest _ l (by omega) h
          rw [hf.1, hf.2] at this
          have ht : row.tail.length ≤ row.length := by simp
          omega
        · have := unf_len n rest _ l (by omega) h
          simp only [List.flatten_append, List.length_append, List.flatten_cons, List.flatten_nil, List.append_nil, List.length_cons, List.length_nil] at this
          omega
theorem flat_le {l : List (List UInt8)} {x : List UInt8} (h : x ∈ l) : x.length ≤ l.flatten.length := by
  induction l with
  | nil => simp at h
  | cons y l ih =>
    rw [List.flatten_cons, List.length_append]
    rcases List.mem_cons.1 h with rfl | h
    · omega
    · have := ih h; omega
theorem unfold_len (s : List UInt8) : (∀ x ∈ (unfoldR s).1, x.length ≤ s.length) ∧ (unfoldR s).1.length ≤ s.length ∧ (unfoldR s).1.length ≤ 20000 := by
  unfold unfoldR
  split
  · simp
  · split
    · simp
    · split
      · simp
      · rename_i l h
        have := unf_len _ _ _ _ (Nat.le_refl _) h
        simp only [List.flatten_nil, List.length_nil, Nat.zero_add] at this
        refine ⟨fun x hx => ?_, this.2, Nat.le_trans this.2 (by omega)⟩
        have h2 := flat_le hx
        exact Nat.le_trans h2 this.1
def rdC (lines : List (List UInt8)) (g : Nat × List (List PR) × Option (List PR) × Bool) : List AObj :=
  match g.2.2.1 with
  | none => [.arr 1 [], .arr 1 (lines.map sv), .arr 1 (g.2.1.map cv), .box [.osl 1 2 0 g.2.1.length none, .int .i64 60, .nilp, .bool g.2.2.2]]
  | some c => [.arr 1 [], .arr 1 (lines.map sv), .arr 1 (g.2.1.map cv), .box [.osl 1 2 0 g.2.1.length none, .int .i64 60, .ptr 5 0, .bool g.2.2.2], .arr 4 (c.map pv), .box [.osl 4 4 0 c.length none, .int .i64 40]]
abbrev postR (R : List (List PR) × Int × Int) : List AObj → DV → Prop := fun h' d => h' = [.arr 1 (R.1.map cv)] ∧ d = .tup [.osl 1 0 0 R.1.length none, .int .i64 R.2.1, .int .i64 R.2.2]
theorem read18 (s : List UInt8) (hs : s.length < 100000000) : ACalls ED 20 [] [.str s] (postR (readL s)) := by
  have hul := unfold_len s
  refine acalls_go c20 (by simp [f20]) ?_
  simp only [f20, ↓gos, gop, Nat.reduceBEq, Nat.reduceAdd, Nat.reduceSub, Nat.reduceLeDiff, Nat.reduceMul, Int.reduceLE, Int.reduceLT, Int.reduceNe, Int.reduceToNat]
  refine call_new (unfold14 s (by omega)) (by simp [DV.closed]) ?_
  generalize hR : readL s = R
  unfold readL at hR
  generalize unfoldR s = u at hR hul ⊢
  obtain ⟨lines, e⟩ := u
  simp only at hR hul
  simp only [DV.ren, DV.ren.renAll, renO, ↓gos, gop, Nat.reduceBEq, Nat.reduceAdd, Nat.reduceSub, Nat.reduceLeDiff, Nat.reduceMul, Int.reduceLE, Int.reduceLT, Int.reduceNe, Int.reduceToNat]
  refine ⟨fun he => ?_, fun he => ?_⟩
  · rw [if_neg he] at hR
    subst hR
    exact end_rowt rfl rfl ⟨rfl, rfl⟩
  · rw [if_pos he] at hR
    refine goN_lp (γ := Nat × List (List PR) × Option (List PR) × Bool) (fun g => [(23, .int .i64 g.1), (22, .int .i64 lines.length), (21, .osl 1 1 0 lines.length none), (5, .osl 1 1 0 lines.length none), (7, .ptr 3 0)]) (rdC lines)
      (fun g => g.1 ≤ lines.length ∧ rdL g.2.1 (g.2.2.1.map (·, g.2.2.2)) g.1 (lines.drop g.1) = R ∧ g.2.1.length ≤ 60 ∧ ∀ c, g.2.2.1 = some c → c.length ≤ 40 ∧ g.2.1.length < 60) (fun g => lines.length - g.1) (0, [], none, false)
      (wks rfl (by simp) ⟨rfl, rfl, rfl, rfl, rfl, trivial⟩) ⟨by simp, by simpa using hR, by simp, fun c h => by simp at h⟩ fun g hg => ?_
    obtain ⟨i, cards, card, v⟩ := g
    obtain ⟨g1, g2, g3, g4⟩ := hg
    simp only at g1 g2 g3 g4
    have hdrop : i < lines.length → lines.drop i = lines.getD i default :: lines.drop (i + 1) := fun h => by
      rw [List.drop_eq_getElem_cons h, List.getD_eq_getElem?_getD, List.getElem?_eq_getElem h]; rfl
    have hxl : i < lines.length → (lines.getD i default).length < 100000000 := fun h => by
      have := hul.1 _ (get_mem h default); omega
    obtain ⟨x, hx⟩ : ∃ x, lines.getD i default = x := ⟨_, rfl⟩
    rw [hx] at hdrop hxl
    cases card with
    | none =>
      simp only [f20l0, rdC, ↓gos, gop, Nat.reduceBEq, Nat.reduceAdd, Nat.reduceSub, Nat.reduceLeDiff, Nat.reduceMul, Int.reduceLE, Int.reduceLT, Int.reduceNe, Int.reduceToNat]
      refine ⟨fun h1 => ?_, fun h1 => ?_⟩
      · have h2 : i < lines.length := by omega
        refine ⟨by omega, optP_at default (by omega) ?_⟩
        rw [hx]
        simp only [sv, ↓gos, gop, Nat.reduceBEq, Nat.reduceAdd, Nat.reduceSub, Nat.reduceLeDiff, Nat.reduceMul, Int.reduceLE, Int.reduceLT, Int.reduceNe, Int.reduceToNat]
        rw [hdrop h2] at g2
        simp only [Option.map_none] at g2
        rw [rdL] at g2
        have hout := outside41 cards v x (hxl h2) g3
        generalize hS : outS cards v x = S at hout
        unfold outS at hS
        cases hef : ef x BEG
        · rw [hef, if_pos rfl] at hS g2
          subst hS; subst g2
          refine call_h (ds1 := [.ptr 1 0, .str x]) [2, 3] [2] (by decide) (by simp) rfl rfl rfl rfl hout rfl ?_
          simp only [HC, List.foldl_cons, List.foldl_nil, setAll, upL, renO, DV.ren, DV.ren.renAll, List.getElem?_nil, ↓gos, gop, Nat.reduceBEq, Nat.reduceAdd, Nat.reduceSub, Nat.reduceLeDiff, Nat.reduceMul, Int.reduceLE, Int.reduceLT, Int.reduceNe, Int.reduceToNat]
          refine ⟨fun _ w hw => ?_, fun h => absurd h (by decide)⟩
          rw [wrap_i64 (by omega) (by omega)] at hw
          subst hw
          exact end_rowt rfl rfl ⟨rfl, rfl⟩
        · rw [hef, if_neg (by simp)] at hS g2
          by_cases h60 : 60 ≤ cards.length
          · rw [if_pos h60] at hS g2
            subst hS; subst g2
            refine call_h (ds1 := [.ptr 1 0, .str x]) [2, 3] [2] (by decide) (by simp) rfl rfl rfl rfl hout rfl ?_
            simp only [HC, List.foldl_cons, List.foldl_nil, setAll, upL, renO, DV.ren, DV.ren.renAll, List.getElem?_nil, ↓gos, gop, Nat.reduceBEq, Nat.reduceAdd, Nat.reduceSub, Nat.reduceLeDiff, Nat.reduceMul, Int.reduceLE, Int.reduceLT, Int.reduceNe, Int.reduceToNat]
            refine ⟨fun _ w hw => ?_, fun h => absurd h (by decide)⟩
            rw [wrap_i64 (by omega) (by omega)] at hw
            subst hw
            exact end_rowt rfl rfl ⟨rfl, rfl⟩
          · rw [if_neg h60] at hS g2
            subst hS
            refine call_h (ds1 := [.ptr 1 0, .str x]) [2, 3] [2] (by decide) (by simp) rfl rfl rfl rfl hout rfl ?_
            simp only [HO, List.foldl_cons, List.foldl_nil, setAll, upL, renO, DV.ren, DV.ren.renAll, List.getElem?_nil, ↓gos, gop, Nat.reduceBEq, Nat.reduceAdd, Nat.reduceSub, Nat.reduceLeDiff, Nat.reduceMul, Int.reduceLE, Int.reduceLT, Int.reduceNe, Int.reduceToNat]
            intro w hw
            rw [wrap_i64 (by omega) (by omega)] at hw
            subst hw
            exact rnd_s (i + 1, cards, some [], false) rfl (by simp) ⟨rfl, rfl, rfl, rfl, rfl, trivial⟩ ⟨by simp; omega, g2, by simp; omega, fun c hc => by simp at hc; subst hc; simp; omega⟩ (by simp; omega)
      · have h2 : i = lines.length := by omega
        subst h2
        rw [List.drop_length] at g2
        simp only [Option.map_none] at g2
        rw [rdL] at g2
        subst g2
        exact end_rowt rfl rfl ⟨rfl, rfl⟩
    | some c =>
      obtain ⟨k40, k60⟩ := g4 c rfl
      simp only [f20l0, rdC, ↓gos, gop, Nat.reduceBEq, Nat.reduceAdd, Nat.reduceSub, Nat.reduceLeDiff, Nat.reduceMul, Int.reduceLE, Int.reduceLT, Int.reduceNe, Int.reduceToNat]
      refine ⟨fun h1 => ?_, fun h1 => ?_⟩
      · have h2 : i < lines.length := by omega
        refine ⟨by omega, optP_at default (by omega) ?_⟩
        rw [hx]
        simp only [sv, ↓gos, gop, Nat.reduceBEq, Nat.reduceAdd, Nat.reduceSub, Nat.reduceLeDiff, Nat.reduceMul, Int.reduceLE, Int.reduceLT, Int.reduceNe, Int.reduceToNat]
        rw [hdrop h2] at g2
        simp only [Option.map_some] at g2
        rw [rdL] at g2
        have hout := within42 cards c v x (hxl h2) k60 k40
        generalize hS : inS cards c v (propL x) (ef x END) = S at hout
        unfold inS at hS
        cases v
        · rw [if_pos rfl] at hS g2
          by_cases hb : (propL x).2 = false ∨ (propL x).1.n ≠ VER ∨ (propL x).1.v ≠ V40
          · rw [if_pos hb] at hS g2
            subst hS; subst g2
            refine call_h (ds1 := [.ptr 1 0, .str x]) [2, 3, 4, 5] [2, 4] (by decide) (by simp) rfl rfl rfl rfl hout rfl ?_
            simp only [HO, List.foldl_cons, List.foldl_nil, setAll, upL, renO, DV.ren, DV.ren.renAll, List.getElem?_nil, ↓gos, gop, Nat.reduceBEq, Nat.reduceAdd, Nat.reduceSub, Nat.reduceLeDiff, Nat.reduceMul, Int.reduceLE, Int.reduceLT, Int.reduceNe, Int.reduceToNat]
            refine ⟨fun _ w hw => ?_, fun h => absurd h (by decide)⟩
            rw [wrap_i64 (by omega) (by omega)] at hw
            subst hw
            exact end_rowt rfl rfl ⟨rfl, rfl⟩
          · rw [if_neg hb] at hS g2
            subst hS
            refine call_h (ds1 := [.ptr 1 0, .str x]) [2, 3, 4, 5] [2, 4] (by decide) (by simp) rfl rfl rfl rfl hout rfl ?_
            simp only [HO, List.foldl_cons, List.foldl_nil, setAll, upL, renO, DV.ren, DV.ren.renAll, List.getElem?_nil, ↓gos, gop, Nat.reduceBEq, Nat.reduceAdd, Nat.reduceSub, Nat.reduceLeDiff, Nat.reduceMul, Int.reduceLE, Int.reduceLT, Int.reduceNe, Int.reduceToNat]
            intro w hw
            rw [wrap_i64 (by omega) (by omega)] at hw
            subst hw
            exact rnd_s (i + 1, cards, some c, true) rfl (by simp) ⟨rfl, rfl, rfl, rfl, rfl, trivial⟩ ⟨by simp; omega, g2, by simp; omega, fun c' hc => by simp at hc; subst hc; exact ⟨k40, k60⟩⟩ (by simp; omega)
        · rw [if_neg (by simp)] at hS g2
          by_cases he1 : ef x END = true
          · rw [if_pos he1] at hS g2
            subst hS
            refine call_h (ds1 := [.ptr 1 0, .str x]) [2, 3, 4, 5] [2, 4] (by decide) (by simp) rfl rfl rfl rfl hout rfl ?_
            simp only [List.foldl_cons, List.foldl_nil, setAll, upL, renO, DV.ren, DV.ren.renAll, List.getElem?_nil, ↓gos, gop, Nat.reduceBEq, Nat.reduceAdd, Nat.reduceSub, Nat.reduceLeDiff, Nat.reduceMul, Int.reduceLE, Int.reduceLT, Int.reduceNe, Int.reduceToNat]
            intro w hw
            rw [wrap_i64 (by omega) (by omega)] at hw
            subst hw
            exact rnd_d 4 (i + 1, cards ++ [c], none, true) rfl (by simp) ⟨rfl, rfl, rfl, rfl, rfl, rfl, rfl, rfl, rfl, rfl, trivial⟩ (by simp [rdC, inO, DV.inL]) ⟨by simp; omega, g2, by simp; omega, fun c' hc => by simp at hc⟩ (by simp; omega)
          · rw [if_neg he1] at hS g2
            by_cases hp : (propL x).2 = false
            · rw [if_pos hp] at hS g2
              subst hS; subst g2
              refine call_h (ds1 := [.ptr 1 0, .str x]) [2, 3, 4, 5] [2, 4] (by decide) (by simp) rfl rfl rfl rfl hout rfl ?_
              simp only [HO, List.foldl_cons, List.foldl_nil, setAll, upL, renO, DV.ren, DV.ren.renAll, List.getElem?_nil, ↓gos, gop, Nat.reduceBEq, Nat.reduceAdd, Nat.reduceSub, Nat.reduceLeDiff, Nat.reduceMul, Int.reduceLE, Int.reduceLT, Int.reduceNe, Int.reduceToNat]
              refine ⟨fun _ w hw => ?_, fun h => absurd h (by decide)⟩
              rw [wrap_i64 (by omega) (by omega)] at hw
              subst hw
              exact end_rowt rfl rfl ⟨rfl, rfl⟩
            · rw [if_neg hp] at hS g2
              by_cases hm : mayP (propL x).1 = false
              · rw [if_pos hm] at hS g2
                subst hS; subst g2
                refine call_h (ds1 := [.ptr 1 0, .str x]) [2, 3, 4, 5] [2, 4] (by decide) (by simp) rfl rfl rfl rfl hout rfl ?_
                simp only [HO, List.foldl_cons, List.foldl_nil, setAll, upL, renO, DV.ren, DV.ren.renAll, List.getElem?_nil, ↓gos, gop, Nat.reduceBEq, Nat.reduceAdd, Nat.reduceSub, Nat.reduceLeDiff, Nat.reduceMul, Int.reduceLE, Int.reduceLT, Int.reduceNe, Int.reduceToNat]
                refine ⟨fun _ w hw => ?_, fun h => absurd h (by decide)⟩
                rw [wrap_i64 (by omega) (by omega)] at hw
                subst hw
                exact end_rowt rfl rfl ⟨rfl, rfl⟩
              · rw [if_neg hm] at hS g2
                by_cases h40 : 40 ≤ c.length
                · rw [if_pos h40] at hS g2
                  subst hS; subst g2
                  refine call_h (ds1 := [.ptr 1 0, .str x]) [2, 3, 4, 5] [2, 4] (by decide) (by simp) rfl rfl rfl rfl hout rfl ?_
                  simp only [HO, List.foldl_cons, List.foldl_nil, setAll, upL, renO, DV.ren, DV.ren.renAll, List.getElem?_nil, ↓gos, gop, Nat.reduceBEq, Nat.reduceAdd, Nat.reduceSub, Nat.reduceLeDiff, Nat.reduceMul, Int.reduceLE, Int.reduceLT, Int.reduceNe, Int.reduceToNat]
                  refine ⟨fun _ w hw => ?_, fun h => absurd h (by decide)⟩
                  rw [wrap_i64 (by omega) (by omega)] at hw
                  subst hw
                  exact end_rowt rfl rfl ⟨rfl, rfl⟩
                · rw [if_neg h40] at hS g2
                  subst hS
                  refine call_h (ds1 := [.ptr 1 0, .str x]) [2, 3, 4, 5] [2, 4] (by decide) (by simp) rfl rfl rfl rfl hout rfl ?_
                  simp only [HO, List.foldl_cons, List.foldl_nil, setAll, upL, renO, DV.ren, DV.ren.renAll, List.getElem?_nil, ↓gos, gop, Nat.reduceBEq, Nat.reduceAdd, Nat.reduceSub, Nat.reduceLeDiff, Nat.reduceMul, Int.reduceLE, Int.reduceLT, Int.reduceNe, Int.reduceToNat]
                  intro w hw
                  rw [wrap_i64 (by omega) (by omega)] at hw
                  subst hw
                  exact rnd_s (i + 1, cards, some (c ++ [(propL x).1]), true) rfl (by simp) ⟨rfl, rfl, rfl, rfl, rfl, trivial⟩ ⟨by simp; omega, g2, by simp; omega, fun c' hc => by simp at hc; subst hc; simp; omega⟩ (by simp; omega)
      · have h2 : i = lines.length := by omega
        subst h2
        rw [List.drop_length] at g2
        simp only [Option.map_some] at g2
        rw [rdL] at g2
        subst g2
        exact end_rowt rfl rfl ⟨rfl, rfl⟩
end Go.Proofs.Ut
