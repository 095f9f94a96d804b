/- The document's ReadCards. -/
import Derived.Test.YtbnmhlienklfpaaGreatDoorZH
set_option linter.all false
namespace Go.Proofs.Ut
open Go.Ai Go.Shelf Go.RowKit
set_option linter.unusedSimpArgs false
set_option linter.unusedVariables false
set_option maxHeartbeats 1000000
set_option maxRecDepth 100000
theorem up_beg (s : List UInt8) : decide (up s = BEG) = ef s BEG := by
  unfold ef; rw [ef_up]; rfl
def rcL (lines : List (List UInt8)) (g : Nat × List (List PR) × Option (List PR × Bool)) : List (Nat × DV) :=
  match g.2.2 with
  | none => [(11, .int .i64 g.1), (5, .osl 1 0 0 lines.length none), (7, .osl 1 1 0 g.2.1.length none), (9, .bool false), (10, .bool false)]
  | some (c, v) => [(11, .int .i64 g.1), (5, .osl 1 0 0 lines.length none), (7, .osl 1 1 0 g.2.1.length none), (9, .bool true), (10, .bool (!v)), (8, .osl 4 2 0 c.length none)]
def rcH (lines : List (List UInt8)) (g : Nat × List (List PR) × Option (List PR × Bool)) : List AObj :=
  match g.2.2 with
  | none => [.arr 1 (lines.map sv), .arr 1 (g.2.1.map cv)]
  | some (c, _) => [.arr 1 (lines.map sv), .arr 1 (g.2.1.map cv), .arr 4 (c.map pv)]
theorem read21 (s : List UInt8) (hs : s.length < 100000000) : ACalls ED 21 [] [.str s] (postR (readL s)) := by
  have hul := unfold_len s
  refine acalls_go c21 (by simp [f21]) ?_
  simp only [f21, ↓gos, gop, Nat.reduceBEq, Nat.reduceAdd, Nat.reduceSub, Nat.reduceLeDiff, Nat.reduceMul, Int.reduceLE, Int.reduceLT, Int.reduceNe, Int.reduceToNat]
  refine call_new (unf8 s (by omega)) (by simp [DV.closed]) ?_
  generalize hR : readL s = R
  unfold readL at hR
  generalize unfoldR s = u at hR hul ⊢
  obtain ⟨lines, e⟩ := u
  simp only at hR hul
  simp only [DV.ren, DV.ren.renAll, renO, ↓gos, gop, Nat.reduceBEq, Nat.reduceAdd, Nat.reduceSub, Nat.reduceLeDiff, Nat.reduceMul, Int.reduceLE, Int.reduceLT, Int.reduceNe, Int.reduceToNat]
  refine ⟨fun he => ?_, fun he => ?_⟩
  · rw [if_neg he] at hR
    subst hR
    exact end_rowt rfl rfl ⟨rfl, rfl⟩
  · rw [if_pos he] at hR
    refine goN_lp (γ := Nat × List (List PR) × Option (List PR × Bool)) (rcL lines) (rcH lines)
      (fun g => g.1 ≤ lines.length ∧ rdL g.2.1 g.2.2 g.1 (lines.drop g.1) = R ∧ g.2.1.length ≤ 60 ∧ ∀ c v, g.2.2 = some (c, v) → c.length ≤ 40 ∧ g.2.1.length < 60) (fun g => lines.length - g.1) (0, [], none)
      (wkp [1, 2] (by decide) (by simp) (fun i h => by omega) (by simp) rfl (by simp [inO]) ⟨rfl, rfl, rfl, rfl, rfl, rfl, rfl, rfl, rfl, rfl, trivial⟩) ⟨by simp, by simpa using hR, by simp, fun c v h => by simp at h⟩ fun g hg => ?_
    obtain ⟨i, cards, card⟩ := g
    obtain ⟨g1, g2, g3, g4⟩ := hg
    simp only at g1 g2 g3 g4
    have hdrop : i < lines.length → lines.drop i = lines.getD i default :: lines.drop (i + 1) := fun h => by
      rw [List.drop_eq_getElem_cons h, List.getD_eq_getElem?_getD, List.getElem?_eq_getElem h]; rfl
    have hxl : i < lines.length → (lines.getD i default).length < 100000000 := fun h => by
      have := hul.1 _ (get_mem h default); omega
    have hget : i < lines.length → lines[i]? = some (lines.getD i default) := fun h => by
      rw [List.getD_eq_getElem?_getD, List.getElem?_eq_getElem h]; rfl
    obtain ⟨x, hx⟩ : ∃ x, lines.getD i default = x := ⟨_, rfl⟩
    rw [hx] at hdrop hxl hget
    cases card with
    | none =>
      simp only [f21l0, rcL, rcH, ↓gos, gop, Nat.reduceBEq, Nat.reduceAdd, Nat.reduceSub, Nat.reduceLeDiff, Nat.reduceMul, Int.reduceLE, Int.reduceLT, Int.reduceNe, Int.reduceToNat]
      refine ⟨fun h1 => ⟨by omega, ?_⟩, fun h1 => ?_⟩
      · have h2 : i < lines.length := by omega
        rw [hget h2]
        refine ⟨x, rfl, ?_⟩
        have hxl := hxl h2
        simp only [sv, List.getElem?_cons_zero, ↓gos, gop, Nat.reduceBEq, Nat.reduceAdd, Nat.reduceSub, Nat.reduceLeDiff, Nat.reduceMul, Int.reduceLE, Int.reduceLT, Int.reduceNe, Int.reduceToNat]
        refine call_ret (upper46 x (by omega)) rfl rfl ?_
        simp only [↓gos, gop, Nat.reduceBEq, Nat.reduceAdd, Nat.reduceSub, Nat.reduceLeDiff, Nat.reduceMul, Int.reduceLE, Int.reduceLT, Int.reduceNe, Int.reduceToNat]
        rw [hget h2]
        refine ⟨by omega, ⟨x, rfl, ?_⟩⟩
        simp only [sv, List.getElem?_cons_zero, ↓gos, gop, Nat.reduceBEq, Nat.reduceAdd, Nat.reduceSub, Nat.reduceLeDiff, Nat.reduceMul, Int.reduceLE, Int.reduceLT, Int.reduceNe, Int.reduceToNat]
        refine call_new (parse47 x (by omega)) (by simp [DV.closed]) ?_
        rw [hdrop h2, rdL] at g2
        rw [← up_beg] at g2
        generalize onlyP (propL x) = q
        simp only [DV.ren, DV.ren.renAll, renO, ↓gos, gop, Nat.reduceBEq, Nat.reduceAdd, Nat.reduceSub, Nat.reduceLeDiff, Nat.reduceMul, Int.reduceLE, Int.reduceLT, Int.reduceNe, Int.reduceToNat]
        refine ⟨fun b1 w hw => ?_, fun b1 => ⟨fun b2 w hw => ?_, fun b2 w hw => ?_⟩⟩
        · rw [wrap_i64 (by omega) (by omega)] at hw
          have hw : w = ((i + 1 : Nat) : Int) := by omega
          subst hw
          rw [decide_eq_false (p := up x = BEG) b1, if_pos rfl] at g2
          subst g2
          exact end_rowt rfl rfl ⟨rfl, rfl⟩
        · rw [wrap_i64 (by omega) (by omega)] at hw
          have hw : w = ((i + 1 : Nat) : Int) := by omega
          subst hw
          rw [decide_eq_true (p := up x = BEG) b1, if_neg (by simp), if_pos (by omega)] at g2
          subst g2
          exact end_rowt rfl rfl ⟨rfl, rfl⟩
        · rw [wrap_i64 (by omega) (by omega)] at hw
          have hw : w = ((i + 1 : Nat) : Int) := by omega
          subst hw
          rw [decide_eq_true (p := up x = BEG) b1, if_neg (by simp), if_neg (by omega)] at g2
          exact rnd_p [0, 1, 5] (i + 1, cards, some ([], false)) (by decide) (by simp) (fun i h => by omega) (by simp) rfl (by simp [inO]) ⟨rfl, rfl, rfl, rfl, rfl, rfl, rfl, rfl, rfl, rfl, rfl, rfl, trivial⟩ ⟨by simp only; omega, g2, g3, fun c v hc => by injection hc with hc; injection hc with hc _; subst hc; exact ⟨by simp, by simp only; omega⟩⟩ (by simp only; omega)
      · have h2 : i = lines.length := by omega
        subst h2
        rw [List.drop_length] at g2
        rw [rdL] at g2
        subst g2
        exact end_rowt rfl rfl ⟨rfl, rfl⟩
    | some cvv =>
      obtain ⟨c, v⟩ := cvv
      obtain ⟨k40, k60⟩ := g4 c v rfl
      simp only [f21l0, rcL, rcH, ↓gos, gop, Nat.reduceBEq, Nat.reduceAdd, Nat.reduceSub, Nat.reduceLeDiff, Nat.reduceMul, Int.reduceLE, Int.reduceLT, Int.reduceNe, Int.reduceToNat]
      refine ⟨fun h1 => ⟨by omega, ?_⟩, fun h1 => ?_⟩
      · have h2 : i < lines.length := by omega
        rw [hget h2]
        refine ⟨x, rfl, ?_⟩
        have hxl := hxl h2
        simp only [sv, List.getElem?_cons_zero, ↓gos, gop, Nat.reduceBEq, Nat.reduceAdd, Nat.reduceSub, Nat.reduceLeDiff, Nat.reduceMul, Int.reduceLE, Int.reduceLT, Int.reduceNe, Int.reduceToNat]
        refine call_ret (upper46 x (by omega)) rfl rfl ?_
        simp only [↓gos, gop, Nat.reduceBEq, Nat.reduceAdd, Nat.reduceSub, Nat.reduceLeDiff, Nat.reduceMul, Int.reduceLE, Int.reduceLT, Int.reduceNe, Int.reduceToNat]
        rw [hget h2]
        refine ⟨by omega, ⟨x, rfl, ?_⟩⟩
        simp only [sv, List.getElem?_cons_zero, ↓gos, gop, Nat.reduceBEq, Nat.reduceAdd, Nat.reduceSub, Nat.reduceLeDiff, Nat.reduceMul, Int.reduceLE, Int.reduceLT, Int.reduceNe, Int.reduceToNat]
        refine call_new (parse47 x (by omega)) (by simp [DV.closed]) ?_
        rw [hdrop h2, rdL] at g2
        rw [← up_end] at g2
        unfold onlyP
        generalize propL x = q at g2
        obtain ⟨p, ok⟩ := q
        cases v <;> cases ok
        · simp only [Bool.false_eq_true, if_false, Bool.not_false, DV.ren, DV.ren.renAll, renO, ↓gos, gop, Nat.reduceBEq, Nat.reduceAdd, Nat.reduceSub, Nat.reduceLeDiff, Nat.reduceMul, Int.reduceLE, Int.reduceLT, Int.reduceNe, Int.reduceToNat]
          intro w hw
          rw [wrap_i64 (by omega) (by omega)] at hw
          have hw : w = ((i + 1 : Nat) : Int) := by omega
          subst hw
          rw [if_pos rfl, if_pos (.inl rfl)] at g2
          subst g2
          exact end_rowt rfl rfl ⟨rfl, rfl⟩
        · simp only [if_true, Bool.not_false, DV.ren, DV.ren.renAll, renO, ↓gos, gop, Nat.reduceBEq, Nat.reduceAdd, Nat.reduceSub, Nat.reduceLeDiff, Nat.reduceMul, Int.reduceLE, Int.reduceLT, Int.reduceNe, Int.reduceToNat]
          rw [if_pos rfl] at g2
          refine ⟨fun b1 w hw => ?_, fun b1 => ⟨fun b2 w hw => ?_, fun b2 w hw => ?_⟩⟩
          · rw [wrap_i64 (by omega) (by omega)] at hw
            have hw : w = ((i + 1 : Nat) : Int) := by omega
            subst hw
            rw [if_pos (.inr (.inl b1))] at g2
            subst g2
            exact end_rowt rfl rfl ⟨rfl, rfl⟩
          · rw [wrap_i64 (by omega) (by omega)] at hw
            have hw : w = ((i + 1 : Nat) : Int) := by omega
            subst hw
            rw [if_pos (.inr (.inr b2))] at g2
            subst g2
            exact end_rowt rfl rfl ⟨rfl, rfl⟩
          · rw [wrap_i64 (by omega) (by omega)] at hw
            have hw : w = ((i + 1 : Nat) : Int) := by omega
            subst hw
            rw [if_neg (fun q => q.elim (fun q => by cases q) fun q => q.elim (fun q => q b1) fun q => q b2)] at g2
            exact rnd_p [0, 1, 2] (i + 1, cards, some (c, true)) (by decide) (by simp) (fun i h => by omega) (by simp) rfl (by simp [inO]) ⟨rfl, rfl, rfl, rfl, rfl, rfl, rfl, rfl, rfl, rfl, rfl, rfl, trivial⟩ ⟨by simp only; omega, g2, g3, fun c' v hc => by injection hc with hc; injection hc with hc _; subst hc; exact ⟨k40, k60⟩⟩ (by simp only; omega)
        · simp only [Bool.false_eq_true, if_false, Bool.not_true, DV.ren, DV.ren.renAll, renO, ↓gos, gop, Nat.reduceBEq, Nat.reduceAdd, Nat.reduceSub, Nat.reduceLeDiff, Nat.reduceMul, Int.reduceLE, Int.reduceLT, Int.reduceNe, Int.reduceToNat]
          rw [if_neg (by simp)] at g2
          refine ⟨fun b1 => ?_, fun b1 w hw => ?_⟩
          · refine ⟨by omega, by omega, fun w hw => ?_⟩
            rw [wrap_i64 (by omega) (by omega)] at hw
            have hw : w = ((i + 1 : Nat) : Int) := by omega
            subst hw
            rw [decide_eq_true (p := up x = END) b1, if_pos rfl] at g2
            refine rnd_p [0, 1] (i + 1, cards ++ [c], none) (by decide) (by simp) (fun i h => by omega) (by simp) ?_ (by simp [inO]) ⟨rfl, rfl, rfl, rfl, by show DV.osl 1 1 0 (cards.length + 1) none = DV.osl 1 1 0 (cards ++ [c]).length none; rw [List.length_append]; rfl, rfl, rfl, rfl, rfl, rfl, trivial⟩ ⟨by simp only; omega, g2, by simp only [List.length_append, List.length_singleton]; omega, fun c' v hc => by cases hc⟩ (by simp only; omega)
            show _ = [AObj.arr 1 (lines.map sv), AObj.arr 1 ((cards ++ [c]).map cv)]
            rw [List.map_append]; rfl
          · rw [wrap_i64 (by omega) (by omega)] at hw
            have hw : w = ((i + 1 : Nat) : Int) := by omega
            subst hw
            rw [decide_eq_false (p := up x = END) b1, if_neg (by simp), if_pos rfl] at g2
            subst g2
            exact end_rowt rfl rfl ⟨rfl, rfl⟩
        · simp only [if_true, Bool.not_true, DV.ren, DV.ren.renAll, renO, ↓gos, gop, Nat.reduceBEq, Nat.reduceAdd, Nat.reduceSub, Nat.reduceLeDiff, Nat.reduceMul, Int.reduceLE, Int.reduceLT, Int.reduceNe, Int.reduceToNat]
          rw [if_neg (by simp)] at g2
          refine ⟨fun b1 => ?_, fun b1 => ?_⟩
          · refine ⟨by omega, by omega, fun w hw => ?_⟩
            rw [wrap_i64 (by omega) (by omega)] at hw
            have hw : w = ((i + 1 : Nat) : Int) := by omega
            subst hw
            rw [decide_eq_true (p := up x = END) b1, if_pos rfl] at g2
            refine rnd_p [0, 1] (i + 1, cards ++ [c], none) (by decide) (by simp) (fun i h => by omega) (by simp) ?_ (by simp [inO]) ⟨rfl, rfl, rfl, rfl, by show DV.osl 1 1 0 (cards.length + 1) none = DV.osl 1 1 0 (cards ++ [c]).length none; rw [List.length_append]; rfl, rfl, rfl, rfl, rfl, rfl, trivial⟩ ⟨by simp only; omega, g2, by simp only [List.length_append, List.length_singleton]; omega, fun c' v hc => by cases hc⟩ (by simp only; omega)
            show _ = [AObj.arr 1 (lines.map sv), AObj.arr 1 ((cards ++ [c]).map cv)]
            rw [List.map_append]; rfl
          · rw [decide_eq_false (p := up x = END) b1, if_neg (by simp), if_neg (by simp)] at g2
            have hmf : (p.n = FIR ∨ p.n = VER) → mayP p = false := fun h => by
              unfold mayP
              rcases h with h | h
              · rw [decide_eq_true h]; rfl
              · rw [decide_eq_true (p := p.n = VER) h]; simp
            refine ⟨fun b2 w hw => ?_, fun b2 => ⟨fun b3 w hw => ?_, fun b3 => ⟨fun b4 w hw => ?_, fun b4 => ⟨by omega, by omega, fun w hw => ?_⟩⟩⟩⟩
            · rw [wrap_i64 (by omega) (by omega)] at hw
              have hw : w = ((i + 1 : Nat) : Int) := by omega
              subst hw
              rw [if_pos (hmf (.inl b2))] at g2
              subst g2
              exact end_rowt rfl rfl ⟨rfl, rfl⟩
            · rw [wrap_i64 (by omega) (by omega)] at hw
              have hw : w = ((i + 1 : Nat) : Int) := by omega
              subst hw
              rw [if_pos (hmf (.inr b3))] at g2
              subst g2
              exact end_rowt rfl rfl ⟨rfl, rfl⟩
            · rw [wrap_i64 (by omega) (by omega)] at hw
              have hw : w = ((i + 1 : Nat) : Int) := by omega
              subst hw
              have hmt : mayP p = true := by
                unfold mayP
                rw [decide_eq_false (p := p.n = FIR) b2, decide_eq_false (p := p.n = VER) b3]; rfl
              rw [if_neg (by rw [hmt]; simp), if_pos (by omega)] at g2
              subst g2
              exact end_rowt rfl rfl ⟨rfl, rfl⟩
            · rw [wrap_i64 (by omega) (by omega)] at hw
              have hw : w = ((i + 1 : Nat) : Int) := by omega
              subst hw
              have hmt : mayP p = true := by
                unfold mayP
                rw [decide_eq_false (p := p.n = FIR) b2, decide_eq_false (p := p.n = VER) b3]; rfl
              rw [if_neg (by rw [hmt]; simp), if_neg (by omega)] at g2
              refine rnd_p [0, 1, 2] (i + 1, cards, some (c ++ [p], true)) (by decide) (by simp) (fun i h => by omega) (by simp) ?_ (by simp [inO]) ⟨rfl, rfl, rfl, rfl, rfl, rfl, rfl, rfl, rfl, rfl, by show DV.osl 4 2 0 (c.length + 1) none = DV.osl 4 2 0 (c ++ [p]).length none; rw [List.length_append]; rfl, rfl, trivial⟩ ⟨by simp only; omega, g2, g3, fun c' v hc => by injection hc with hc; injection hc with hc _; subst hc; exact ⟨by rw [List.length_append, List.length_singleton]; omega, k60⟩⟩ (by simp only; omega)
              show _ = [AObj.arr 1 (lines.map sv), AObj.arr 1 (cards.map cv), AObj.arr 4 ((c ++ [p]).map pv)]
              rw [List.map_append]; rfl
      · have h2 : i = lines.length := by omega
        subst h2
        rw [List.drop_length] at g2
        rw [rdL] at g2
        subst g2
        exact end_rowt rfl rfl ⟨rfl, rfl⟩
end Go.Proofs.Ut

/- Any text as cards, or which line is wrong, and why; any cards as a text, or why not: the law walked. -/
namespace Go.Proofs.Ut
open Go.Ai Go.Shelf Go.RowKit
set_option linter.unusedSimpArgs false
set_option linter.unusedVariables false
set_option maxHeartbeats 1000000
set_option maxRecDepth 100000
theorem tells5 (s : List UInt8) (l : List (List PR)) (hs : s.length < 1000000000) (hl : l.length < 1000000000) (hc : ∀ c ∈ l, c.length < 1000000000 ∧ wtS' c < 1000000000) : DRet 5 [.str s, .sl 1 (l.map cv)] (.bool true) := by
  refine acalls_go c5 (by simp [f5]) ?_
  simp only [f5, ↓gos, gop, Nat.reduceBEq, Nat.reduceAdd, Nat.reduceSub, Nat.reduceLeDiff, Nat.reduceMul, Int.reduceLE, Int.reduceLT, Int.reduceNe, Int.reduceToNat]
  refine ⟨fun _ => ?_, fun h5 => ⟨fun _ => ?_, fun h70 => ?_⟩⟩
  · refine call_ret awake19 rfl rfl ?_
    simp only [↓gos, gop, Nat.reduceBEq, Nat.reduceAdd, Nat.reduceSub, Nat.reduceLeDiff, Nat.reduceMul, Int.reduceLE, Int.reduceLT, Int.reduceNe, Int.reduceToNat]
    exact endb rfl
  · refine call_ret awake19 rfl rfl ?_
    simp only [↓gos, gop, Nat.reduceBEq, Nat.reduceAdd, Nat.reduceSub, Nat.reduceLeDiff, Nat.reduceMul, Int.reduceLE, Int.reduceLT, Int.reduceNe, Int.reduceToNat]
    exact endb rfl
  · refine goN_lp (γ := Nat × Nat) (fun g => [(6, .int .i64 g.1), (5, .int .i64 g.2), (0, .str s), (1, .sl 1 (l.map cv))]) (fun _ => []) (fun g => g.1 ≤ l.length ∧ (∀ c ∈ l.take g.1, wtS' c ≤ 8000) ∧ g.2 ≤ g.1 * 1000000000) (fun g => l.length - g.1) (0, 0)
      (wks rfl (by simp) ⟨rfl, rfl, rfl, rfl, trivial⟩) ⟨by simp, by simp, by simp⟩ fun g hg => ?_
    obtain ⟨i, n⟩ := g
    obtain ⟨hi, hok, hn⟩ := hg
    simp only at hi hok hn
    simp only [f5l0, ↓gos, gop, Nat.reduceBEq, Nat.reduceAdd, Nat.reduceSub, Nat.reduceLeDiff, Nat.reduceMul, Int.reduceLE, Int.reduceLT, Int.reduceNe, Int.reduceToNat]
    refine ⟨fun h1 => ?_, fun h1 => ?_⟩
    · have h2 : i < l.length := by omega
      have htk := take_getD h2 default
      have hm := hc _ (get_mem h2 default)
      have hget : l[i]? = some (l.getD i default) := by rw [List.getD_eq_getElem?_getD, List.getElem?_eq_getElem h2]; rfl
      generalize l.getD i default = c at htk hm hget
      simp only [hget, cv, ↓gos, gop, Nat.reduceBEq, Nat.reduceAdd, Nat.reduceSub, Nat.reduceLeDiff, Nat.reduceMul, Int.reduceLE, Int.reduceLT, Int.reduceNe, Int.reduceToNat]
      refine call_ret (small23 c hm.1 hm.2) rfl rfl ?_
      by_cases h8 : wtS' c ≤ 8000
      · rw [decide_eq_true h8]
        simp only [hget, cv, List.getElem?_cons_zero, ↓gos, gop, Nat.reduceBEq, Nat.reduceAdd, Nat.reduceSub, Nat.reduceLeDiff, Nat.reduceMul, Int.reduceLE, Int.reduceLT, Int.reduceNe, Int.reduceToNat]
        intro v hv w hw
        rw [wrap_i64 (by omega) (by omega)] at hv hw
        have hv : v = ((n + c.length : Nat) : Int) := by omega
        have hw : w = ((i + 1 : Nat) : Int) := by omega
        subst hv; subst hw
        refine rnd_s (i + 1, n + c.length) rfl (by simp) ⟨rfl, rfl, rfl, rfl, trivial⟩ ⟨by simp only; omega, fun d hd => ?_, by simp only; omega⟩ (by simp only; omega)
        rw [htk] at hd
        rcases List.mem_append.1 hd with hd | hd
        · exact hok d hd
        · rw [List.mem_singleton.1 hd]; exact h8
      · rw [decide_eq_false h8]
        simp only [↓gos, gop, Nat.reduceBEq, Nat.reduceAdd, Nat.reduceSub, Nat.reduceLeDiff, Nat.reduceMul, Int.reduceLE, Int.reduceLT, Int.reduceNe, Int.reduceToNat]
        refine call_ret awake19 rfl rfl ?_
        simp only [↓gos, gop, Nat.reduceBEq, Nat.reduceAdd, Nat.reduceSub, Nat.reduceLeDiff, Nat.reduceMul, Int.reduceLE, Int.reduceLT, Int.reduceNe, Int.reduceToNat]
        exact endb rfl
    · have h2 : i = l.length := by omega
      subst h2
      rw [List.take_length] at hok
      refine ⟨fun _ => ?_, fun h200 => ?_⟩
      · refine call_ret awake19 rfl rfl ?_
        simp only [↓gos, gop, Nat.reduceBEq, Nat.reduceAdd, Nat.reduceSub, Nat.reduceLeDiff, Nat.reduceMul, Int.reduceLE, Int.reduceLT, Int.reduceNe, Int.reduceToNat]
        exact endb rfl
      · have hr := read18 s (by omega)
        have hr2 := read21 s (by omega)
        have herr := read_err (s := s)
        have hwr := read_write (s := s)
        have hwt := read_wt s
        have hw1 := write24 l hl fun c hm => ⟨(hc c hm).1, fun p hp => by have := hok c hm; have := mem_wt hp; omega⟩
        have hw2 := write23 l hl fun c hm => ⟨(hc c hm).1, fun p hp => by have := hok c hm; have := mem_wt hp; omega⟩
        generalize readL s = R at hr hr2 herr hwr hwt
        generalize writeL l = X at hw1 hw2
        obtain ⟨y, at_, g⟩ := R
        obtain ⟨t, e⟩ := X
        simp only at herr hwr hwt
        have hsm : y.length < 1000000000 ∧ ∀ c ∈ y, small c := by
          by_cases hg : g = 0
          · obtain ⟨y1, y2, y3⟩ := small_ok (hwr hg) fun c hc p hp => by have := hwt c hc p hp; omega
            exact ⟨y1, y3⟩
          · rw [herr hg]; exact ⟨by simp, fun c hc => by simp at hc⟩
        refine call_new hr (by simp [DV.closed]) ?_
        simp only [DV.ren, DV.ren.renAll, renO, ↓gos, gop, Nat.reduceBEq, Nat.reduceAdd, Nat.reduceSub, Nat.reduceLeDiff, Nat.reduceMul, Int.reduceLE, Int.reduceLT, Int.reduceNe, Int.reduceToNat]
        refine call_new hr2 (by simp [DV.closed]) ?_
        simp only [DV.ren, DV.ren.renAll, renO, ↓gos, gop, Nat.reduceBEq, Nat.reduceAdd, Nat.reduceSub, Nat.reduceLeDiff, Nat.reduceMul, Int.reduceLE, Int.reduceLT, Int.reduceNe, Int.reduceToNat]
        refine call_ret hw1 rfl rfl ?_
        simp only [↓gos, gop, Nat.reduceBEq, Nat.reduceAdd, Nat.reduceSub, Nat.reduceLeDiff, Nat.reduceMul, Int.reduceLE, Int.reduceLT, Int.reduceNe, Int.reduceToNat]
        refine call_ret hw2 rfl rfl ?_
        simp only [↓gos, gop, Nat.reduceBEq, Nat.reduceAdd, Nat.reduceSub, Nat.reduceLeDiff, Nat.reduceMul, Int.reduceLE, Int.reduceLT, Int.reduceNe, Int.reduceToNat]
        refine call_ret awake19 rfl rfl ?_
        simp only [↓gos, gop, Nat.reduceBEq, Nat.reduceAdd, Nat.reduceSub, Nat.reduceLeDiff, Nat.reduceMul, Int.reduceLE, Int.reduceLT, Int.reduceNe, Int.reduceToNat]
        refine call_ret (same21 y y hsm.1 hsm.1 hsm.2 hsm.2) ?_ rfl ?_
        · rw [List.map_cons, List.map_cons, List.map_cons, List.map_nil, dn_osl (es := y.map cv) (by rfl) (by simp), dn_osl (es := y.map cv) (by rfl) (by simp)]
          rfl
        · rw [decide_eq_true rfl]
          simp only [↓gos, gop, Nat.reduceBEq, Nat.reduceAdd, Nat.reduceSub, Nat.reduceLeDiff, Nat.reduceMul, Int.reduceLE, Int.reduceLT, Int.reduceNe, Int.reduceToNat]
          exact endb rfl
end Go.Proofs.Ut
