/- A list alone in a variable, handed down; what points into its row, handed back. -/
import Derived.Test.YtgamnnfndidclaaGreatDoorAiHand
import Derived.Test.YtgamnnfndidclaaGreatDoorAiState
import Derived.Test.YtgamnnfndidclaaGreatDoorYFoUtF
import Derived.Test.YtgamnnfndidclaaGreatDoorAiUn
set_option linter.all false
namespace Go.Ai
theorem call_l1 {E : Env} {L : List (Nat × DV)} {h : List AObj} {f sz n n' : Nat} {es es' : List (List DV)} {xs : List DV} {D DR : DV} {K : DV → St → Prop} {m l : Nat} (hm : h[m]? = some (.arr sz es)) (hl : h[l]? = some (.box [.osl sz m 0 n none]))
    (hx : xs.all DV.closed = true) (hc : ACalls E f [.arr sz es, .box [.osl sz 0 0 n none]] (.ptr 1 0 :: xs) (fun h' d => h' = [.arr sz es', .box [.osl sz 0 0 n' none]] ∧ d = D)) (hD : D.ren (upL h.length [m, l]) = DR)
    (hk : K DR (sta (kilS m L) (((kilH m h).set m (.arr sz es')).set l (.box [.osl sz m 0 n' none])))) : acall E true f (.ptr l 0 :: xs) K (sta L h) := by
  have hne : m ≠ l := fun e => by subst e; rw [hm] at hl; cases hl
  have hlt1 : m < h.length := (List.getElem?_eq_some_iff.1 hm).1
  have hlt2 : l < h.length := (List.getElem?_eq_some_iff.1 hl).1
  have g1 : h.getD m .dead = .arr sz es := by simp [hm]
  have g2 : h.getD l .dead = .box [.osl sz m 0 n none] := by simp [hl]
  have i0 : [m, l].idxOf? m = some 0 := by simp [List.idxOf?, List.findIdx?_cons]
  have i1 : [m, l].idxOf? l = some 1 := by simp [List.idxOf?, List.findIdx?_cons, hne]
  refine .go ?_
  refine .inr (.inr ⟨false, [m, l], fun h' d => h' = [.arr sz es', .box [.osl sz 0 0 n' none]] ∧ d = D, .inl rfl, by simpa using hne, fun k hk => ?_, ?_, fun h' d hp => ?_⟩)
  · simp at hk; rcases hk with rfl | rfl
    · exact hlt1
    · exact hlt2
  · have e1 : (DV.ptr l 0 :: xs).map (DV.dn [m, l] (sta L h).h) = .ptr 1 0 :: xs := by
      rw [List.map_cons]
      refine congr (congrArg _ ?_) (map_same fun d hd => closed_low (List.all_eq_true.1 hx d hd))
      simp only [DV.dn, DV.low, i1]
    rw [e1, show (sta L h).h = h from rfl]
    simp only [List.map_cons, List.map_nil, g1, g2, lowO, DV.low, i0, i1]
    exact hc
  · obtain ⟨rfl, rfl⟩ := hp
    refine ⟨.inl ?_, ?_⟩
    · rw [Bool.and_eq_true]
      refine ⟨?_, ?_⟩
      · rw [List.all_cons, Bool.and_eq_true]
        refine ⟨by simp [DV.inL], List.all_eq_true.2 fun d hd => closed_inL (List.all_eq_true.1 hx d hd)⟩
      · simp only [show (sta L h).h = h from rfl, List.all_cons, List.all_nil, Bool.and_true, g1, g2, inO, DV.inL]
        simp
    · rw [show (sta L h).h = h from rfl, hD]
      have e : (sta L h).handed false [m, l] [.arr sz es', .box [.osl sz 0 0 n' none]] = sta (kilS m L) (((kilH m h).set m (.arr sz es')).set l (.box [.osl sz m 0 n' none])) := by
        unfold St.handed
        have e1 : (List.filter (fun l => !isBox (sta L h).h[l]?) [m, l]) = [m] := by simp [show (sta L h).h = h from rfl, hm, hl, isBox]
        simp only [e1, List.isEmpty_cons, Bool.or_self, Bool.false_eq_true, if_false]
        have e2 : (sta L h).kill [m].contains = sta (kilS m L) (kilH m h) := by
          have : ([m].contains) = fun l => l == m := contains1 m
          rw [this]; exact sta_kill
        rw [e2]
        simp only [List.map_cons, List.map_nil, renO, DV.ren, List.length_cons, List.length_nil, List.drop_succ_cons, List.drop_zero, List.append_nil, setAll]
        rfl
      rw [e]; exact hk
theorem end_l1 {post : List AObj → DV → Prop} {sz n : Nat} {es : List (List DV)} {tl : List AObj} {ds : List DV} (hds : (rvd ds).closed = true)
    (hp : post [.arr sz es, .box [.osl sz 0 0 n none]] (rvd ds)) : finE 2 post (some ds) (.arr sz es :: .box [.osl sz 0 0 n none] :: tl) := by
  refine ⟨ds, rfl, [0, 1], by simp, Nat.le_refl _, fun i h => ?_, fun l hl => ?_, closed_inL hds, fun l hl => ?_, ?_⟩
  · have : i = 0 ∨ i = 1 := by omega
    rcases this with rfl | rfl <;> rfl
  · simp at hl; rcases hl with rfl | rfl <;> simp
  · simp at hl; rcases hl with rfl | rfl
    · rfl
    · simp [inO, DV.inL]
  · rw [closed_ren hds]
    have e : [0, 1].map (fun l => renO (fun x => List.idxOf x [0, 1]) ((.arr sz es :: .box [.osl sz 0 0 n none] :: tl).getD l .dead)) = [.arr sz es, .box [.osl sz 0 0 n none]] := by
      simp [renO, DV.ren]
    rw [e]; exact hp
end Go.Ai

/- Places handed down and back, any of them. -/
namespace Go.Ai
theorem kill_or (st : St) {p q r : Nat → Bool} (hr : ∀ l, r l = (p l || q l)) : (st.kill p).kill q = st.kill r := by
  unfold St.kill
  congr 1
  · funext s
    exact kill_kill hr
  · simp only [List.map_map]
    exact List.map_congr_left fun o _ => killO_killO hr o
theorem sta_killL : ∀ (ks : List Nat) (L : List (Nat × DV)) (h : List AObj), ks ≠ [] → (sta L h).kill ks.contains = sta (ks.foldl (fun L i => kilS i L) L) (ks.foldl (fun h i => kilH i h) h)
  | [], _, _, h => absurd rfl h
  | [i], L, h, _ => by
    have : ([i].contains) = fun l => l == i := contains1 i
    rw [this]; exact sta_kill
  | i :: j :: ks, L, h, _ => by
    have hr : ∀ l, (i :: j :: ks).contains l = ((l == i) || (j :: ks).contains l) := fun l => by
      rw [List.contains_cons]
    rw [← kill_or _ hr, sta_kill, sta_killL (j :: ks) _ _ (by simp)]
    rfl
theorem handed_sta {L : List (Nat × DV)} {h : List AObj} {ls : List Nat} {h' : List AObj} (ks : List Nat) (hks : ls.filter (fun l => !isBox h[l]?) = ks) :
    (sta L h).handed false ls h' = sta (ks.foldl (fun L i => kilS i L) L) (setAll (ks.foldl (fun h i => kilH i h) h) ls (h'.map (renO (upL h.length ls))) ++ (h'.drop ls.length).map (renO (upL h.length ls))) := by
  unfold St.handed
  rw [show (sta L h).h = h from rfl, hks]
  cases ks with
  | nil => rfl
  | cons i ks =>
    simp only [List.isEmpty_cons, Bool.or_self, Bool.false_eq_true, if_false]
    rw [sta_killL _ _ _ (by simp)]
    rfl
theorem call_h {E : Env} {L : List (Nat × DV)} {h : List AObj} {f : Nat} {ds ds1 : List DV} {h1 h1' : List AObj} {D DR : DV} {K : DV → St → Prop} (ls ks : List Nat) (hnd : ls.Nodup) (hlt : ∀ l ∈ ls, l < h.length)
    (hks : ls.filter (fun l => !isBox h[l]?) = ks)
    (hlow : (ls.map fun l => lowO (fun l => ls.idxOf? l) h (h.getD l .dead)) = h1) (hds : ds.map (DV.dn ls h) = ds1)
    (hin : (ds.all (DV.inL ls.contains) && ls.all (fun l => inO ls.contains (h.getD l .dead))) = true)
    (hc : ACalls E f h1 ds1 (fun h' d => h' = h1' ∧ d = D)) (hD : D.ren (upL h.length ls) = DR)
    (hk : K DR (sta (ks.foldl (fun L i => kilS i L) L) (setAll (ks.foldl (fun h i => kilH i h) h) ls (h1'.map (renO (upL h.length ls))) ++ (h1'.drop ls.length).map (renO (upL h.length ls))))) : acall E true f ds K (sta L h) := by
  refine .go ?_
  refine .inr (.inr ⟨false, ls, fun h' d => h' = h1' ∧ d = D, .inl rfl, hnd, hlt, ?_, fun h' d hp => ?_⟩)
  · rw [show (sta L h).h = h from rfl, hlow, hds]; exact hc
  · obtain ⟨rfl, rfl⟩ := hp
    refine ⟨.inl hin, ?_⟩
    rw [show (sta L h).h = h from rfl, hD, handed_sta ks hks]
    exact hk
theorem call_bx {E : Env} {L : List (Nat × DV)} {h : List AObj} {f i : Nat} {cs cs' xs : List DV} {D : DV} {K : DV → St → Prop} (hi : h[i]? = some (.box cs)) (hcl : cs.all DV.closed = true) (hcl' : cs'.all DV.closed = true) (hD : D.closed = true) (hx : xs.all DV.closed = true)
    (hc : ACalls E f [.box cs] (.ptr 0 0 :: xs) (fun h' d => h' = [.box cs'] ∧ d = D)) (hk : K D (sta L (h.set i (.box cs')))) : acall E true f (.ptr i 0 :: xs) K (sta L h) := by
  refine call_box1 (ds' := .ptr 0 0 :: xs) hi hcl hc ?_ ?_ ?_
  · rw [List.map_cons]
    refine congr (congrArg _ ?_) (map_same fun d hd => closed_low (List.all_eq_true.1 hx d hd))
    simp [DV.dn, DV.low, List.idxOf?, List.findIdx?_cons]
  · rw [List.all_cons, Bool.and_eq_true]
    exact ⟨by simp [DV.inL], List.all_eq_true.2 fun d hd => closed_inL (List.all_eq_true.1 hx d hd)⟩
  · rintro h' d ⟨rfl, rfl⟩
    exact ⟨cs', rfl, hcl', hD, hk⟩
theorem end_bx {post : List AObj → DV → Prop} {cs : List DV} {tl : List AObj} {ds : List DV} (hcs : cs.all DV.closed = true) (hds : (rvd ds).closed = true) (hp : post [.box cs] (rvd ds)) : finE 1 post (some ds) (.box cs :: tl) := by
  refine ⟨ds, rfl, [0], by simp, Nat.le_refl _, fun i h => ?_, fun l hl => ?_, closed_inL hds, fun l hl => ?_, ?_⟩
  · have : i = 0 := by omega
    subst this; rfl
  · simp at hl; subst hl; simp
  · simp at hl; subst hl
    show inO _ (.box cs) = true
    exact List.all_eq_true.2 fun d hd => closed_inL (List.all_eq_true.1 hcs d hd)
  · rw [closed_ren hds]
    have e : [0].map (fun l => renO (fun x => List.idxOf x [0]) ((AObj.box cs :: tl).getD l .dead)) = [.box cs] := by
      simp only [List.map_cons, List.map_nil, List.getD_cons_zero, renO]
      rw [map_same fun d hd => closed_ren (List.all_eq_true.1 hcs d hd)]
    rw [e]; exact hp
theorem call_frz {E : Env} {L : List (Nat × DV)} {h : List AObj} {f : Nat} {ds : List DV} {K : DV → St → Prop} (F : List Nat) (hF : F.all (fun l => isArr h[l]?) = true)
    (hk : acall E true f (frzDs F h ds) K (sta (frzS F h L) (frzH F h 0 h))) : acall E true f ds K (sta L h) := by
  refine .frz F rfl (fun l hl => List.all_eq_true.1 hF l hl) ?_
  rw [sta_freeze]
  exact hk
theorem end_h {post : List AObj → DV → Prop} {ds : List DV} {h : List AObj} {m0 : Nat} (ρ : List Nat) (hnd : ρ.Nodup) (hm : m0 ≤ ρ.length) (hid : ∀ i, i < m0 → ρ[i]? = some i) (hlt : ∀ l ∈ ρ, l < h.length) (hin : (rvd ds).inL ρ.contains = true)
    (hbox : ∀ l ∈ ρ, inO ρ.contains (h.getD l .dead) = true) {H : List AObj} {D : DV} (hH : ρ.map (fun l => renO (ρ.idxOf ·) (h.getD l .dead)) = H) (hD : (rvd ds).ren (ρ.idxOf ·) = D) (hp : post H D) : finE m0 post (some ds) h := by
  subst hH; subst hD
  exact ⟨ds, rfl, ρ, hnd, hm, hid, hlt, hin, hbox, hp⟩
end Go.Ai

/- Sorting by a total order: the sorted list of a list is one; blocks that are merged by halves (the library's stable merge, in place). -/
namespace Go.Ai
section
variable {α : Type} (lt : α → α → Bool)
end
section
variable {α : Type} {lt : α → α → Bool}
end
end Go.Ai

/- Insertion in place, as the library does it: a range becomes the sorted one. -/
namespace Go.Ai
section
variable {α : Type} (lt : α → α → Bool) (d0 : α)
end
section
variable {α : Type} {lt : α → α → Bool} {d0 : α}
end
end Go.Ai

/- Rising, each once, the empty ones left out: what the library's Compact and DeleteFunc make of a sorted row. -/
namespace Go.Ai
section
variable {α : Type} (lt : α → α → Bool) (d0 : α)
end
section
variable {α : Type} {lt : α → α → Bool} {d0 : α}
end
end Go.Ai

/- The library's stable sort of texts: insertion. -/
namespace Go.Proofs.Ut
open Go.Ai
set_option maxRecDepth 100000
set_option linter.all false
def st1 (s : List UInt8) : List DV := [.str s]
end Go.Proofs.Ut
