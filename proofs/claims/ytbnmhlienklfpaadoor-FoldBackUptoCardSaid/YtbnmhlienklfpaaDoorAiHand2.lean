/- A list alone in a variable, handed down; what points into its row, handed back. -/
import Derived.Test.YtbnmhlienklfpaaDoorAiHand
set_option linter.all false
namespace Go.Ai
theorem call_l1 {E : Env} {L : List (Nat × DV)} {h : List AObj} {f sz n n' : Nat} {es es' : List (List DV)} {xs : List DV} {D DR : DV} {K : DV → St → Prop} {m l : Nat} (hm : h[m]? = some (.arr sz es)) (hl : h[l]? = some (.box [.osl sz m 0 n none]))
    (hx : xs.all DV.closed = true) (hc : ACalls E f [.arr sz es, .box [.osl sz 0 0 n none]] (.ptr 1 0 :: xs) (fun h' d => h' = [.arr sz es', .box [.osl sz 0 0 n' none]] ∧ d = D)) (hD : D.ren (upL h.length [m, l]) = DR)
    (hk : K DR (sta (kilS m L) (((kilH m h).set m (.arr sz es')).set l (.box [.osl sz m 0 n' none])))) : acall E true f (.ptr l 0 :: xs) K (sta L h) := by
  have hne : m ≠ l := fun e => by subst e; rw [hm] at hl; cases hl
  have hlt1 : m < h.length := (List.getElem?_eq_some_iff.1 hm).1
  have hlt2 : l < h.length := (List.getElem?_eq_some_iff.1 hl).1
  have g1 : h.getD m .dead = .arr sz es := by simp [hm]
  have g2 : h.getD l .dead = .box [.osl sz m 0 n none] := by simp [hl]
  have i0 : [m, l].idxOf? m = some 0 := by simp [List.idxOf?, List.findIdx?_cons]
  have i1 : [m, l].idxOf? l = some 1 := by simp [List.idxOf?, List.findIdx?_cons, hne]
  refine .inr (.inr ⟨false, [m, l], fun h' d => h' = [.arr sz es', .box [.osl sz 0 0 n' none]] ∧ d = D, .inl rfl, by simpa using hne, fun k hk => ?_, ?_, fun h' d hp => ?_⟩)
  · simp at hk; rcases hk with rfl | rfl
    · exact hlt1
    · exact hlt2
  · have e1 : (DV.ptr l 0 :: xs).map (DV.dn [m, l] (sta L h).h) = .ptr 1 0 :: xs := by
      rw [List.map_cons]
      refine congr (congrArg _ ?_) (map_same fun d hd => closed_low (List.all_eq_true.1 hx d hd))
      simp only [DV.dn, DV.low, i1]
    rw [e1, show (sta L h).h = h from rfl]
    simp only [List.map_cons, List.map_nil, g1, g2, lowO, DV.low, i0, i1]
    exact hc
  · obtain ⟨rfl, rfl⟩ := hp
    refine ⟨.inl ?_, ?_⟩
    · rw [Bool.and_eq_true]
      refine ⟨?_, ?_⟩
      · rw [List.all_cons, Bool.and_eq_true]
        refine ⟨by simp [DV.inL], List.all_eq_true.2 fun d hd => closed_inL (List.all_eq_true.1 hx d hd)⟩
      · simp only [show (sta L h).h = h from rfl, List.all_cons, List.all_nil, Bool.and_true, g1, g2, inO, DV.inL]
        simp
    · rw [show (sta L h).h = h from rfl, hD]
      have e : (sta L h).handed false [m, l] [.arr sz es', .box [.osl sz 0 0 n' none]] = sta (kilS m L) (((kilH m h).set m (.arr sz es')).set l (.box [.osl sz m 0 n' none])) := by
        unfold St.handed
        have e1 : (List.filter (fun l => !isBox (sta L h).h[l]?) [m, l]) = [m] := by simp [show (sta L h).h = h from rfl, hm, hl, isBox]
        simp only [e1, List.isEmpty_cons, Bool.or_self, Bool.false_eq_true, if_false]
        have e2 : (sta L h).kill [m].contains = sta (kilS m L) (kilH m h) := by
          have : ([m].contains) = fun l => l == m := contains1 m
          rw [this]; exact sta_kill
        rw [e2]
        simp only [List.map_cons, List.map_nil, renO, DV.ren, List.length_cons, List.length_nil, List.drop_succ_cons, List.drop_zero, List.append_nil, setAll]
        rfl
      rw [e]; exact hk
theorem end_l1 {post : List AObj → DV → Prop} {sz n : Nat} {es : List (List DV)} {tl : List AObj} {ds : List DV} (hds : (rvd ds).closed = true)
    (hp : post [.arr sz es, .box [.osl sz 0 0 n none]] (rvd ds)) : finE 2 post (some ds) (.arr sz es :: .box [.osl sz 0 0 n none] :: tl) := by
  refine ⟨ds, rfl, [0, 1], by simp, Nat.le_refl _, fun i h => ?_, fun l hl => ?_, closed_inL hds, fun l hl => ?_, ?_⟩
  · have : i = 0 ∨ i = 1 := by omega
    rcases this with rfl | rfl <;> rfl
  · simp at hl; rcases hl with rfl | rfl <;> simp
  · simp at hl; rcases hl with rfl | rfl
    · rfl
    · simp [inO, DV.inL]
  · rw [closed_ren hds]
    have e : [0, 1].map (fun l => renO (fun x => List.idxOf x [0, 1]) ((.arr sz es :: .box [.osl sz 0 0 n none] :: tl).getD l .dead)) = [.arr sz es, .box [.osl sz 0 0 n none]] := by
      simp [renO, DV.ren]
    rw [e]; exact hp
/-- What points into the row is handed back. -/
theorem end_l1a {post : List AObj → DV → Prop} {sz n j q : Nat} {es : List (List DV)} {tl : List AObj}
    (hp : post [.arr sz es, .box [.osl sz 0 0 n none]] (.aptr sz 0 j q)) : finE 2 post (some [.aptr sz 0 j q]) (.arr sz es :: .box [.osl sz 0 0 n none] :: tl) := by
  refine ⟨_, rfl, [0, 1], by simp, Nat.le_refl _, fun i h => ?_, fun l hl => ?_, by simp [rvd, DV.inL], fun l hl => ?_, ?_⟩
  · have : i = 0 ∨ i = 1 := by omega
    rcases this with rfl | rfl <;> rfl
  · simp at hl; rcases hl with rfl | rfl <;> simp
  · simp at hl; rcases hl with rfl | rfl
    · rfl
    · simp [inO, DV.inL]
  · have e : [0, 1].map (fun l => renO (fun x => List.idxOf x [0, 1]) ((.arr sz es :: .box [.osl sz 0 0 n none] :: tl).getD l .dead)) = [.arr sz es, .box [.osl sz 0 0 n none]] := by
      simp [renO, DV.ren]
    rw [e]
    exact hp
end Go.Ai
