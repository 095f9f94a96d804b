/- A list alone in a variable, handed down; what points into its row, handed back. -/
import Derived.Test.YtgamnnfndidclaaGreatDoorAiHand
import Derived.Test.YtgamnnfndidclaaGreatDoorAiState
import Derived.Test.YtgamnnfndidclaaGreatDoorYFoUtF
import Derived.Test.YtgamnnfndidclaaGreatDoorAiUn
open Nat renaming reduceBEq → qA, reduceAdd → qB, reduceSub → qC, reduceLeDiff → qD, reduceMul → qE
open Int renaming reduceLE → qF, reduceLT → qG, reduceNe → qH, reduceToNat → qI
set_option linter.all false
namespace Go.Ai
theorem call_l1 {E : Env} {L : List (Nat × DV)} {h : List AObj} {f sz n n' : Nat} {es es' : List (List DV)} {xs : List DV} {D DR : DV} {K : DV → St → Prop} {m l : Nat} (hm : h[m]? = some (.arr sz es)) (hl : h[l]? = some (.box [.osl sz m 0 n none]))
    (hx : xs.all DV.closed = true) (hc : ACalls E f [.arr sz es, .box [.osl sz 0 0 n none]] (.ptr 1 0 :: xs) (fun h' d => h' = [.arr sz es', .box [.osl sz 0 0 n' none]] ∧ d = D)) (hD : D.ren (upL h.length [m, l]) = DR)
    (hk : K DR (sta (kilS m L) (((kilH m h).set m (.arr sz es')).set l (.box [.osl sz m 0 n' none])))) : acall E true f (.ptr l 0 :: xs) K (sta L h) := by
  have hne : m ≠ l := fun e => by subst e; rw [hm] at hl; cases hl
  have hlt1 : m < h.length := (List.getElem?_eq_some_iff.1 hm).1
  have hlt2 : l < h.length := (List.getElem?_eq_some_iff.1 hl).1
  have g1 : h.getD m .dead = .arr sz es := by simp [hm]
  have g2 : h.getD l .dead = .box [.osl sz m 0 n none] := by simp [hl]
  have i0 : [m, l].idxOf? m = some 0 := by simp [List.idxOf?, List.findIdx?_cons]
  have i1 : [m, l].idxOf? l = some 1 := by simp [List.idxOf?, List.findIdx?_cons, hne]
  refine .go ?_
  refine .inr (.inr ⟨false, [m, l], fun h' d => h' = [.arr sz es', .box [.osl sz 0 0 n' none]] ∧ d = D, .inl rfl, by simpa using hne, fun k hk => ?_, ?_, fun h' d hp => ?_⟩)
  · simp at hk; rcases hk with rfl | rfl
    · exact hlt1
    · exact hlt2
  · have e1 : (DV.ptr l 0 :: xs).map (DV.dn [m, l] (sta L h).h) = .ptr 1 0 :: xs := by
      rw [List.map_cons]
      refine congr (congrArg _ ?_) (map_same fun d hd => closed_low (List.all_eq_true.1 hx d hd))
      simp only [DV.dn, DV.low, i1]
    rw [e1, show (sta L h).h = h from rfl]
    simp only [List.map_cons, List.map_nil, g1, g2, lowO, DV.low, i0, i1]
    exact hc
  · obtain ⟨rfl, rfl⟩ := hp
    refine ⟨.inl ?_, ?_⟩
    · rw [Bool.and_eq_true]
      refine ⟨?_, ?_⟩
      · rw [List.all_cons, Bool.and_eq_true]
        refine ⟨by simp [DV.inL], List.all_eq_true.2 fun d hd => closed_inL (List.all_eq_true.1 hx d hd)⟩
      · simp only [show (sta L h).h = h from rfl, List.all_cons, List.all_nil, Bool.and_true, g1, g2, inO, DV.inL]
        simp
    · rw [show (sta L h).h = h from rfl, hD]
      have e : (sta L h).handed false [m, l] [.arr sz es', .box [.osl sz 0 0 n' none]] = sta (kilS m L) (((kilH m h).set m (.arr sz es')).set l (.box [.osl sz m 0 n' none])) := by
        unfold St.handed
        have e1 : (List.filter (fun l => !isBox (sta L h).h[l]?) [m, l]) = [m] := by simp [show (sta L h).h = h from rfl, hm, hl, isBox]
        simp only [e1, List.isEmpty_cons, Bool.or_self, Bool.false_eq_true, if_false]
        have e2 : (sta L h).kill [m].contains = sta (kilS m L) (kilH m h) := by
          have : ([m].contains) = fun l => l == m := contains1 m
          rw [this]; exact sta_kill
        rw [e2]
        simp only [List.map_cons, List.map_nil, renO, DV.ren, List.length_cons, List.length_nil, List.drop_succ_cons, List.drop_zero, List.append_nil, setAll]
        rfl
      rw [e]; exact hk
theorem end_l1 {post : List AObj → DV → Prop} {sz n : Nat} {es : List (List DV)} {tl : List AObj} {ds : List DV} (hds : (rvd ds).closed = true)
    (hp : post [.arr sz es, .box [.osl sz 0 0 n none]] (rvd ds)) : finE 2 post (some ds) (.arr sz es :: .box [.osl sz 0 0 n none] :: tl) := by
  refine ⟨ds, rfl, [0, 1], by simp, Nat.le_refl _, fun i h => ?_, fun l hl => ?_, closed_inL hds, fun l hl => ?_, ?_⟩
  · have : i = 0 ∨ i = 1 := by omega
    rcases this with rfl | rfl <;> rfl
  · simp at hl; rcases hl with rfl | rfl <;> simp
  · simp at hl; rcases hl with rfl | rfl
    · rfl
    · simp [inO, DV.inL]
  · rw [closed_ren hds]
    have e : [0, 1].map (fun l => renO (fun x => List.idxOf x [0, 1]) ((.arr sz es :: .box [.osl sz 0 0 n none] :: tl).getD l .dead)) = [.arr sz es, .box [.osl sz 0 0 n none]] := by
      simp [renO, DV.ren]
    rw [e]; exact hp
end Go.Ai

/- Places handed down and back, any of them. -/
namespace Go.Ai
theorem kill_or (st : St) {p q r : Nat → Bool} (hr : ∀ l, r l = (p l || q l)) : (st.kill p).kill q = st.kill r := by
  unfold St.kill
  congr 1
  · funext s
    exact kill_kill hr
  · simp only [List.map_map]
    exact List.map_congr_left fun o _ => killO_killO hr o
theorem sta_killL : ∀ (ks : List Nat) (L : List (Nat × DV)) (h : List AObj), ks ≠ [] → (sta L h).kill ks.contains = sta (ks.foldl (fun L i => kilS i L) L) (ks.foldl (fun h i => kilH i h) h)
  | [], _, _, h => absurd rfl h
  | [i], L, h, _ => by
    have : ([i].contains) = fun l => l == i := contains1 i
    rw [this]; exact sta_kill
  | i :: j :: ks, L, h, _ => by
    have hr : ∀ l, (i :: j :: ks).contains l = ((l == i) || (j :: ks).contains l) := fun l => by
      rw [List.contains_cons]
    rw [← kill_or _ hr, sta_kill, sta_killL (j :: ks) _ _ (by simp)]
    rfl
theorem handed_sta {L : List (Nat × DV)} {h : List AObj} {ls : List Nat} {h' : List AObj} (ks : List Nat) (hks : ls.filter (fun l => !isBox h[l]?) = ks) :
    (sta L h).handed false ls h' = sta (ks.foldl (fun L i => kilS i L) L) (setAll (ks.foldl (fun h i => kilH i h) h) ls (h'.map (renO (upL h.length ls))) ++ (h'.drop ls.length).map (renO (upL h.length ls))) := by
  unfold St.handed
  rw [show (sta L h).h = h from rfl, hks]
  cases ks with
  | nil => rfl
  | cons i ks =>
    simp only [List.isEmpty_cons, Bool.or_self, Bool.false_eq_true, if_false]
    rw [sta_killL _ _ _ (by simp)]
    rfl
theorem call_h {E : Env} {L : List (Nat × DV)} {h : List AObj} {f : Nat} {ds ds1 : List DV} {h1 h1' : List AObj} {D DR : DV} {K : DV → St → Prop} (ls ks : List Nat) (hnd : ls.Nodup) (hlt : ∀ l ∈ ls, l < h.length)
    (hks : ls.filter (fun l => !isBox h[l]?) = ks)
    (hlow : (ls.map fun l => lowO (fun l => ls.idxOf? l) h (h.getD l .dead)) = h1) (hds : ds.map (DV.dn ls h) = ds1)
    (hin : (ds.all (DV.inL ls.contains) && ls.all (fun l => inO ls.contains (h.getD l .dead))) = true)
    (hc : ACalls E f h1 ds1 (fun h' d => h' = h1' ∧ d = D)) (hD : D.ren (upL h.length ls) = DR)
    (hk : K DR (sta (ks.foldl (fun L i => kilS i L) L) (setAll (ks.foldl (fun h i => kilH i h) h) ls (h1'.map (renO (upL h.length ls))) ++ (h1'.drop ls.length).map (renO (upL h.length ls))))) : acall E true f ds K (sta L h) := by
  refine .go ?_
  refine .inr (.inr ⟨false, ls, fun h' d => h' = h1' ∧ d = D, .inl rfl, hnd, hlt, ?_, fun h' d hp => ?_⟩)
  · rw [show (sta L h).h = h from rfl, hlow, hds]; exact hc
  · obtain ⟨rfl, rfl⟩ := hp
    refine ⟨.inl hin, ?_⟩
    rw [show (sta L h).h = h from rfl, hD, handed_sta ks hks]
    exact hk
theorem call_bx {E : Env} {L : List (Nat × DV)} {h : List AObj} {f i : Nat} {cs cs' xs : List DV} {D : DV} {K : DV → St → Prop} (hi : h[i]? = some (.box cs)) (hcl : cs.all DV.closed = true) (hcl' : cs'.all DV.closed = true) (hD : D.closed = true) (hx : xs.all DV.closed = true)
    (hc : ACalls E f [.box cs] (.ptr 0 0 :: xs) (fun h' d => h' = [.box cs'] ∧ d = D)) (hk : K D (sta L (h.set i (.box cs')))) : acall E true f (.ptr i 0 :: xs) K (sta L h) := by
  refine call_box1 (ds' := .ptr 0 0 :: xs) hi hcl hc ?_ ?_ ?_
  · rw [List.map_cons]
    refine congr (congrArg _ ?_) (map_same fun d hd => closed_low (List.all_eq_true.1 hx d hd))
    simp [DV.dn, DV.low, List.idxOf?, List.findIdx?_cons]
  · rw [List.all_cons, Bool.and_eq_true]
    exact ⟨by simp [DV.inL], List.all_eq_true.2 fun d hd => closed_inL (List.all_eq_true.1 hx d hd)⟩
  · rintro h' d ⟨rfl, rfl⟩
    exact ⟨cs', rfl, hcl', hD, hk⟩
theorem end_bx {post : List AObj → DV → Prop} {cs : List DV} {tl : List AObj} {ds : List DV} (hcs : cs.all DV.closed = true) (hds : (rvd ds).closed = true) (hp : post [.box cs] (rvd ds)) : finE 1 post (some ds) (.box cs :: tl) := by
  refine ⟨ds, rfl, [0], by simp, Nat.le_refl _, fun i h => ?_, fun l hl => ?_, closed_inL hds, fun l hl => ?_, ?_⟩
  · have : i = 0 := by omega
    subst this; rfl
  · simp at hl; subst hl; simp
  · simp at hl; subst hl
    show inO _ (.box cs) = true
    exact List.all_eq_true.2 fun d hd => closed_inL (List.all_eq_true.1 hcs d hd)
  · rw [closed_ren hds]
    have e : [0].map (fun l => renO (fun x => List.idxOf x [0]) ((AObj.box cs :: tl).getD l .dead)) = [.box cs] := by
      simp only [List.map_cons, List.map_nil, List.getD_cons_zero, renO]
      rw [map_same fun d hd => closed_ren (List.all_eq_true.1 hcs d hd)]
    rw [e]; exact hp
theorem call_frz {E : Env} {L : List (Nat × DV)} {h : List AObj} {f : Nat} {ds : List DV} {K : DV → St → Prop} (F : List Nat) (hF : F.all (fun l => isArr h[l]?) = true)
    (hk : acall E true f (frzDs F h ds) K (sta (frzS F h L) (frzH F h 0 h))) : acall E true f ds K (sta L h) := by
  refine .frz F rfl (fun l hl => List.all_eq_true.1 hF l hl) ?_
  rw [sta_freeze]
  exact hk
theorem end_h {post : List AObj → DV → Prop} {ds : List DV} {h : List AObj} {m0 : Nat} (ρ : List Nat) (hnd : ρ.Nodup) (hm : m0 ≤ ρ.length) (hid : ∀ i, i < m0 → ρ[i]? = some i) (hlt : ∀ l ∈ ρ, l < h.length) (hin : (rvd ds).inL ρ.contains = true)
    (hbox : ∀ l ∈ ρ, inO ρ.contains (h.getD l .dead) = true) {H : List AObj} {D : DV} (hH : ρ.map (fun l => renO (ρ.idxOf ·) (h.getD l .dead)) = H) (hD : (rvd ds).ren (ρ.idxOf ·) = D) (hp : post H D) : finE m0 post (some ds) h := by
  subst hH; subst hD
  exact ⟨ds, rfl, ρ, hnd, hm, hid, hlt, hin, hbox, hp⟩
end Go.Ai

/- Sorting by a total order: the sorted list of a list is one; blocks that are merged by halves (the library's stable merge, in place). -/
namespace Go.Ai
section
variable {α : Type} (lt : α → α → Bool)
structure Tot : Prop where
  asym : ∀ x y, lt x y = true → lt y x = false
  tr : ∀ x y z, lt y x = false → lt z y = false → lt z x = false
  anti : ∀ x y, lt y x = false → lt x y = false → x = y
def Ri (l : List α) : Prop := l.Pairwise fun x y => lt y x = false
def insT (x : α) : List α → List α
  | [] => [x]
  | y :: l => if lt y x then y :: insT x l else x :: y :: l
def srtT : List α → List α
  | [] => []
  | x :: l => insT lt x (srtT l)
end
section
variable {α : Type} {lt : α → α → Bool}
theorem ins_perm (x : α) : ∀ l : List α, (insT lt x l).Perm (x :: l)
  | [] => .refl _
  | y :: l => by
    unfold insT
    split
    · exact ((ins_perm x l).cons y).trans (.swap x y l)
    · exact .refl _
theorem srt_perm : ∀ l : List α, (srtT lt l).Perm l
  | [] => .refl _
  | x :: l => (ins_perm x _).trans ((srt_perm l).cons x)
theorem ins_ri (T : Tot lt) (x : α) : ∀ {l : List α}, Ri lt l → Ri lt (insT lt x l)
  | [], _ => by simp [insT, Ri]
  | y :: l, h => by
    unfold insT
    obtain ⟨h1, h2⟩ := List.pairwise_cons.1 h
    split
    · rename_i hyx
      refine List.pairwise_cons.2 ⟨fun z hz => ?_, ins_ri T x h2⟩
      rcases List.mem_cons.1 ((ins_perm x l).mem_iff.1 hz) with rfl | hz
      · exact T.asym _ _ hyx
      · exact h1 z hz
    · rename_i hyx
      have hyx : lt y x = false := by simpa using hyx
      refine List.pairwise_cons.2 ⟨fun z hz => ?_, h⟩
      rcases List.mem_cons.1 hz with rfl | hz
      · exact hyx
      · exact T.tr x y z hyx (h1 z hz)
theorem srt_ri (T : Tot lt) : ∀ l : List α, Ri lt (srtT lt l)
  | [] => .nil
  | x :: l => ins_ri T x (srt_ri T l)
theorem ri_eq (T : Tot lt) : ∀ {a b : List α}, Ri lt a → Ri lt b → a.Perm b → a = b
  | [], b, _, _, h => h.symm.eq_nil.symm
  | x :: a, [], _, _, h => h.eq_nil
  | x :: a, y :: b, ha, hb, h => by
    obtain ⟨h1, h2⟩ := List.pairwise_cons.1 ha
    obtain ⟨h3, h4⟩ := List.pairwise_cons.1 hb
    have e : x = y := by
      rcases List.mem_cons.1 (h.mem_iff.1 List.mem_cons_self) with e | hx
      · exact e
      rcases List.mem_cons.1 (h.mem_iff.2 List.mem_cons_self) with e | hy
      · exact e.symm
      exact T.anti x y (h1 y hy) (h3 x hx)
    subst e
    rw [ri_eq T h2 h4 h.cons_inv]
theorem srt_of (T : Tot lt) {a l : List α} (h : Ri lt a) (hp : a.Perm l) : a = srtT lt l := ri_eq T h (srt_ri T l) (hp.trans (srt_perm l).symm)
theorem srt_len (l : List α) : (srtT lt l).length = l.length := (srt_perm l).length_eq
theorem ri_app {a b : List α} : Ri lt (a ++ b) ↔ Ri lt a ∧ Ri lt b ∧ ∀ x ∈ a, ∀ y ∈ b, lt y x = false := List.pairwise_append
end
theorem bl_cons (a b : UInt8) (x y : List UInt8) : Op.bytesLess (a :: x) (b :: y) = (decide (a.toNat < b.toNat) || (decide (a.toNat = b.toNat) && Op.bytesLess x y)) := by
  have h : Op.bytesLess (a :: x) (b :: y) = (decide (a < b) || (a == b && Op.bytesLess x y)) := rfl
  rw [h]
  have h1 : decide (a < b) = decide (a.toNat < b.toNat) := by simp [UInt8.lt_iff_toNat_lt]
  have h2 : (a == b) = decide (a.toNat = b.toNat) := by
    rw [Bool.eq_iff_iff]; simp [UInt8.toNat_inj]
  rw [h1, h2]
theorem bl_nil (x : List UInt8) : Op.bytesLess x [] = false := by cases x <;> rfl
theorem bl_asym : ∀ x y : List UInt8, Op.bytesLess x y = true → Op.bytesLess y x = false
  | x, [], h => by rw [bl_nil] at h; cases h
  | [], y :: l, _ => bl_nil _
  | a :: x, b :: y, h => by
    rw [bl_cons] at h ⊢
    have ih := bl_asym x y
    simp only [Bool.or_eq_true, Bool.and_eq_true, decide_eq_true_eq] at h
    rcases h with h | ⟨h1, h2⟩
    · rw [decide_eq_false (by omega), decide_eq_false (by omega)]; rfl
    · rw [decide_eq_false (by omega), ih h2]; simp
theorem bl_tr : ∀ x y z : List UInt8, Op.bytesLess y x = false → Op.bytesLess z y = false → Op.bytesLess z x = false
  | [], _, z, _, _ => bl_nil z
  | a :: x, [], z, h, _ => by simp [Op.bytesLess] at h
  | a :: x, b :: y, [], _, h => by simp [Op.bytesLess] at h
  | a :: x, b :: y, c :: z, h1, h2 => by
    rw [bl_cons] at h1 h2 ⊢
    have ih := bl_tr x y z
    simp only [Bool.or_eq_false_iff, Bool.and_eq_false_imp, decide_eq_false_iff_not, decide_eq_true_eq] at h1 h2 ⊢
    refine ⟨by omega, fun e => ih (h1.2 (by omega)) (h2.2 (by omega))⟩
theorem bl_anti : ∀ x y : List UInt8, Op.bytesLess y x = false → Op.bytesLess x y = false → x = y
  | [], [], _, _ => rfl
  | [], b :: y, _, h => by simp [Op.bytesLess] at h
  | a :: x, [], h, _ => by simp [Op.bytesLess] at h
  | a :: x, b :: y, h1, h2 => by
    rw [bl_cons] at h1 h2
    simp only [Bool.or_eq_false_iff, Bool.and_eq_false_imp, decide_eq_false_iff_not, decide_eq_true_eq] at h1 h2
    have e : a.toNat = b.toNat := by omega
    rw [UInt8.toNat_inj.1 e, bl_anti x y (h1.2 e.symm) (h2.2 e)]
theorem bl_tot : Tot Op.bytesLess := ⟨bl_asym, bl_tr, bl_anti⟩
end Go.Ai

/- Insertion in place, as the library does it: a range becomes the sorted one. -/
namespace Go.Ai
section
variable {α : Type} (lt : α → α → Bool) (d0 : α)
def sw2 (l : List α) (j : Nat) : List α := (l.set j (l.getD (j - 1) d0)).set (j - 1) (l.getD j d0)
def insJ (a : Nat) : Nat → List α → List α
  | 0, l => l
  | j + 1, l => if a < j + 1 ∧ lt (l.getD (j + 1) d0) (l.getD j d0) = true then insJ a j (sw2 d0 l (j + 1)) else l
def insK (a : Nat) : Nat → List α → List α
  | 0, l => l
  | k + 1, l => insJ lt d0 a (a + (k + 1)) (insK a k l)
end
section
variable {α : Type} {lt : α → α → Bool} {d0 : α}
theorem sw2_len (l : List α) (j : Nat) : (sw2 d0 l j).length = l.length := by simp [sw2]
theorem insJ_len (a : Nat) : ∀ (j : Nat) (l : List α), (insJ lt d0 a j l).length = l.length
  | 0, _ => rfl
  | j + 1, l => by
    unfold insJ
    split
    · rw [insJ_len a j, sw2_len]
    · rfl
theorem insK_len (a : Nat) : ∀ (k : Nat) (l : List α), (insK lt d0 a k l).length = l.length
  | 0, _ => rfl
  | k + 1, l => by rw [insK, insJ_len, insK_len a k]
theorem getD_mid (p r : List α) (x : α) : (p ++ x :: r).getD p.length d0 = x := by simp [List.getD_eq_getElem?_getD]
theorem sw2_mid (p r : List α) (x y : α) : sw2 d0 (p ++ y :: x :: r) (p.length + 1) = p ++ x :: y :: r := by
  unfold sw2
  have h1 : (p ++ y :: x :: r).getD (p.length + 1 - 1) d0 = y := by rw [Nat.add_sub_cancel]; exact getD_mid p _ y
  have h2 : (p ++ y :: x :: r).getD (p.length + 1) d0 = x := by
    have := getD_mid (d0 := d0) (p ++ [y]) r x
    simpa using this
  rw [h1, h2, Nat.add_sub_cancel]
  rw [List.set_append_right _ _ (by omega), Nat.add_sub_cancel_left, List.set_append_right _ _ (by omega), Nat.sub_self]
  rfl
theorem insJ_mid (T : Tot lt) (p : List α) (x : α) : ∀ (n : Nat) (q r : List α), q.length = n → Ri lt q →
    ∃ q', Ri lt q' ∧ q'.Perm (x :: q) ∧ insJ lt d0 p.length (p.length + n) (p ++ (q ++ x :: r)) = p ++ (q' ++ r) ∧ (∃ q1 q2, q = q1 ++ q2 ∧ q' = q1 ++ x :: q2 ∧ ∀ y ∈ q2, lt x y = true)
  | 0, q, r, hn, _ => by
    obtain rfl : q = [] := List.eq_nil_of_length_eq_zero hn
    refine ⟨[x], by simp [Ri], .refl _, ?_, [], [], rfl, rfl, by simp⟩
    rw [Nat.add_zero]
    cases hp : p.length with
    | zero => rfl
    | succ k =>
      unfold insJ
      rw [if_neg (by omega)]
      rfl
  | n + 1, q, r, hn, hq => by
    obtain ⟨q0, y, rfl⟩ : ∃ q0 y, q = q0 ++ [y] := by
      refine ⟨q.dropLast, q.getLast (by intro h; subst h; simp at hn), ?_⟩
      exact (List.dropLast_concat_getLast _).symm
    have hn0 : q0.length = n := by simpa using hn
    obtain ⟨r1, r2, r3⟩ := ri_app.1 hq
    have e1 : (p ++ (q0 ++ [y] ++ x :: r)) = (p ++ q0) ++ y :: x :: r := by simp
    have hl : (p ++ q0).length = p.length + n := by simp [hn0]
    have g1 : (p ++ (q0 ++ [y] ++ x :: r)).getD (p.length + n) d0 = y := by rw [e1, ← hl]; exact getD_mid _ _ y
    have g2 : (p ++ (q0 ++ [y] ++ x :: r)).getD (p.length + n + 1) d0 = x := by
      have := getD_mid (d0 := d0) (p ++ q0 ++ [y]) r x
      rw [show (p ++ q0 ++ [y]).length = p.length + n + 1 by simp [hn0]; omega] at this
      have e : p ++ (q0 ++ [y] ++ x :: r) = p ++ q0 ++ [y] ++ x :: r := by simp
      rw [e]; exact this
    rw [show p.length + (n + 1) = (p.length + n) + 1 by omega]
    unfold insJ
    rw [g1, g2]
    split
    · rename_i hc
      have hs : sw2 d0 (p ++ (q0 ++ [y] ++ x :: r)) (p.length + n + 1) = p ++ (q0 ++ x :: (y :: r)) := by
        rw [e1, ← hl, sw2_mid]; simp
      rw [hs]
      obtain ⟨q', h1, h2, h3, q1, q2, e, e', h4⟩ := insJ_mid T p x n q0 (y :: r) hn0 r1
      refine ⟨q' ++ [y], ?_, ?_, by rw [h3]; simp, q1, q2 ++ [y], by rw [e]; simp, by rw [e']; simp, fun z hz => ?_⟩
      · subst e; subst e'
        refine ri_app.2 ⟨h1, by simp [Ri], fun u hu v hv => ?_⟩
        obtain rfl : v = y := by simpa using hv
        rcases List.mem_append.1 hu with hu | hu
        · exact r3 u (by simp [hu]) _ (by simp)
        · rcases List.mem_cons.1 hu with rfl | hu
          · exact T.asym _ _ hc.2
          · exact r3 u (by simp [hu]) _ (by simp)
      · exact (h2.append_right [y]).trans (by simp)
      · rcases List.mem_append.1 hz with hz | hz
        · exact h4 z hz
        · obtain rfl : z = y := by simpa using hz
          exact hc.2
    · rename_i hc
      have hc : lt x y = false := by
        cases h : lt x y with
        | false => rfl
        | true => exact absurd ⟨by omega, h⟩ hc
      refine ⟨q0 ++ [y] ++ [x], ?_, ?_, by simp, q0 ++ [y], [], by simp, by simp, by simp⟩
      · refine ri_app.2 ⟨hq, by simp [Ri], fun u hu v hv => ?_⟩
        obtain rfl : v = x := by simpa using hv
        rcases List.mem_append.1 hu with hu | hu
        · exact T.tr u y _ (r3 u hu y (by simp)) hc
        · obtain rfl : u = y := by simpa using hu
          exact hc
      · exact List.perm_append_comm
theorem insK_srt (T : Tot lt) (p : List α) : ∀ (k : Nat) (q r : List α), q.length = k + 1 → insK lt d0 p.length k (p ++ (q ++ r)) = p ++ (srtT lt q ++ r)
  | 0, q, r, hq => by
    obtain ⟨x, rfl⟩ : ∃ x, q = [x] := by
      match q, hq with
      | [x], _ => exact ⟨x, rfl⟩
    rfl
  | k + 1, q, r, hq => by
    obtain ⟨q0, y, rfl⟩ : ∃ q0 y, q = q0 ++ [y] := by
      refine ⟨q.dropLast, q.getLast (by intro h; subst h; simp at hq), ?_⟩
      exact (List.dropLast_concat_getLast _).symm
    have hq0 : q0.length = k + 1 := by simpa using hq
    have ih := insK_srt T p k q0 (y :: r) hq0
    unfold insK
    rw [show p ++ (q0 ++ [y] ++ r) = p ++ (q0 ++ y :: r) by simp, ih]
    obtain ⟨q', h1, h2, h3, _⟩ := insJ_mid (d0 := d0) T p y (k + 1) (srtT lt q0) r (by rw [srt_len, hq0]) (srt_ri T q0)
    rw [h3, srt_of T h1 (l := q0 ++ [y]) (h2.trans (((srt_perm q0).cons y).trans (List.perm_append_comm (l₁ := [y]) (l₂ := q0))))]
theorem insK_all (T : Tot lt) (l : List α) : insK lt d0 0 (l.length - 1) l = srtT lt l := by
  cases l with
  | nil => rfl
  | cons x l =>
    have := insK_srt (d0 := d0) T [] l.length (x :: l) [] (by simp)
    simpa using this
end
end Go.Ai

/- Rising, each once, the empty ones left out: what the library's Compact and DeleteFunc make of a sorted row. -/
namespace Go.Ai
section
variable {α : Type} (lt : α → α → Bool) (d0 : α)
def cpK [DecidableEq α] (l : List α) : Nat → List α
  | 0 => []
  | i + 1 => if 0 < i ∧ l.getD i d0 = l.getD (i - 1) d0 then cpK l i else cpK l i ++ [l.getD i d0]
end
section
variable {α : Type} {lt : α → α → Bool} {d0 : α}
theorem cpK_le [DecidableEq α] (l : List α) : ∀ i, (cpK d0 l i).length ≤ i
  | 0 => Nat.le_refl _
  | i + 1 => by
    have := cpK_le l i
    unfold cpK
    split
    · omega
    · simp; omega
theorem cpK_id [DecidableEq α] (l : List α) (i : Nat) (hi : i ≤ l.length) (h : ∀ k, 0 < k → k < i → l.getD k d0 ≠ l.getD (k - 1) d0) : cpK d0 l i = l.take i := by
  induction i with
  | zero => rfl
  | succ i ih =>
    unfold cpK
    rw [if_neg (fun q => h i q.1 (by omega) q.2), ih (by omega) fun k h1 h2 => h k h1 (by omega)]
    rw [List.getD_eq_getElem?_getD, List.getElem?_eq_getElem (by omega : i < l.length)]
    simp
end
def groupsR (l : List (List UInt8)) : List (List UInt8) := (cpK [] (srtT Op.bytesLess l) l.length).filter fun s => !decide (s = [])
end Go.Ai

/- The library's stable sort of texts: insertion. -/
namespace Go.Proofs.Ut
open Go.Ai
set_option maxRecDepth 100000
set_option linter.all false
def st1 (s : List UInt8) : List DV := [.str s]
theorem less185 (x y : List UInt8) : DRet 185 [.str x, .str y] (.bool (Op.bytesLess x y)) := by
  refine acalls_go c185 (by simp [f185]) ?_
  simp only [f185, ↓gos, gop, qA, qB, qC, qD, qE, qF, qG, qH, qI]
  refine ⟨fun h => endb ?_, fun h => endb ?_⟩
  · exact h.symm
  · exact h.symm
def cmpI (x y : List UInt8) : Int := if Op.bytesLess x y = true then -1 else if Op.bytesLess y x = true then 1 else 0
theorem cmp226 (x y : List UInt8) : DRet 226 [.str x, .str y, .eptr [.fn 185 []] 0] (.int .i64 (cmpI x y)) := by
  refine acalls_go c226 (by simp [f226]) ?_
  simp only [f226, ↓gos, gop, qA, qB, qC, qD, qE, qF, qG, qH, qI]
  refine call_ret (less185 x y) rfl rfl ?_
  unfold cmpI
  cases Op.bytesLess x y
  · simp only [↓gos, gop, qA, qB, qC, qD, qE, qF, qG, qH, qI]
    refine call_ret (less185 y x) rfl rfl ?_
    cases Op.bytesLess y x
    · simp only [↓gos, gop, qA, qB, qC, qD, qE, qF, qG, qH, qI]
      exact endi rfl
    · simp only [↓gos, gop, qA, qB, qC, qD, qE, qF, qG, qH, qI]
      exact endi rfl
  · simp only [↓gos, gop, qA, qB, qC, qD, qE, qF, qG, qH, qI]
    exact endi rfl
abbrev FC : DV := .fn 226 [.eptr [.fn 185 []] 0]
theorem ins307 (l : List (List UInt8)) (a b : Nat) (c : Option Nat) (hl : l.length < 1000000000) (h0 : 0 < l.length) (ha : a < 1000000000) (hb : b ≤ l.length) :
    ACallsK ED true 307 [.arr 1 (l.map st1)] [.osl 1 0 0 l.length c, .int .i64 a, .int .i64 b, FC] fun h d => h = [.arr 1 ((insK Op.bytesLess [] a (b - a - 1) l).map st1)] ∧ d = .tup [] := by
  refine acalls_goG c307 (by simp [f307]) (by simp) ?_
  simp only [f307, finG_e, finG_en, ↓gos, gop, qA, qB, qC, qD, qE, qF, qG, qH, qI]
  intro v hv
  rw [wrap_i64 (by omega) (by omega)] at hv
  subst hv
  refine goN_lp (γ := Nat) (fun k => [(1000000, .osl 1 0 0 l.length c), (8, .int .i64 (a + 1 + k : Nat)), (3, FC), (2, .int .i64 b), (1, .int .i64 a), (0, .osl 1 0 0 l.length c)]) (fun k => [.arr 1 ((insK Op.bytesLess [] a k l).map st1)]) (fun k => k ≤ b - a - 1) (fun k => b - k) 0
    (wks rfl (by simp) ⟨rfl, rfl, rfl, rfl, rfl, rfl, trivial⟩) (by omega) fun k hk => ?_
  have hkl := insK_len (lt := Op.bytesLess) (d0 := []) a k l
  have hst : insK Op.bytesLess [] a (k + 1) l = insJ Op.bytesLess [] a (a + (k + 1)) (insK Op.bytesLess [] a k l) := rfl
  generalize hm : insK Op.bytesLess [] a k l = m at hkl hst
  simp only [f307l1, finG_e, finG_en, ↓gos, gop, qA, qB, qC, qD, qE, qF, qG, qH, qI]
  refine ⟨fun h1 => ?_, fun h1 => ?_⟩
  · refine goN_lp (γ := List (List UInt8) × Nat) (fun g => [(1000000, .osl 1 0 0 l.length c), (9, .int .i64 g.2), (8, .int .i64 (a + 1 + k : Nat)), (3, FC), (2, .int .i64 b), (1, .int .i64 a), (0, .osl 1 0 0 l.length c)]) (fun g => [.arr 1 (g.1.map st1)])
      (fun g => g.1.length = l.length ∧ g.2 ≤ a + 1 + k ∧ insJ Op.bytesLess [] a g.2 g.1 = insK Op.bytesLess [] a (k + 1) l) (fun g => g.2) (m, a + 1 + k)
      (wks rfl (by simp) ⟨rfl, rfl, rfl, rfl, rfl, rfl, rfl, trivial⟩) ⟨hkl, Nat.le_refl _, by rw [hst]; congr 1; omega⟩ fun g hg => ?_
    obtain ⟨q, j⟩ := g
    obtain ⟨hq, hj, hI⟩ := hg
    simp only at hq hj hI
    simp only [f307l0, finG_e, finG_en, ↓gos, gop, qA, qB, qC, qD, qE, qF, qG, qH, qI]
    refine ⟨fun h2 => ?_, fun h2 => ?_⟩
    · obtain ⟨j, rfl⟩ : ∃ j', j = j' + 1 := ⟨j - 1, by omega⟩
      have w1 : IntKind.i64.wrap (((j + 1 : Nat) : Int) - 1) = (j : Int) := by rw [wrap_i64 (by omega) (by omega)]; omega
      have e1 : ((j + 1 : Nat) : Int) < (l.length : Int) := by omega
      have e2 : (j : Int) < (l.length : Int) := by omega
      obtain ⟨x, hx⟩ : ∃ x, q[j + 1]? = some x := ⟨_, List.getElem?_eq_getElem (by omega)⟩
      obtain ⟨y, hy⟩ : ∃ y, q[j]? = some y := ⟨_, List.getElem?_eq_getElem (by omega)⟩
      have hu : insJ Op.bytesLess [] a (j + 1) q = if a < j + 1 ∧ Op.bytesLess (q.getD (j + 1) []) (q.getD j []) = true then insJ Op.bytesLess [] a j (sw2 [] q (j + 1)) else q := rfl
      have hsw : sw2 [] q (j + 1) = (q.set (j + 1) (q.getD j [])).set j (q.getD (j + 1) []) := rfl
      have hwl := sw2_len (d0 := []) q (j + 1)
      rw [List.getD_eq_getElem?_getD, List.getD_eq_getElem?_getD, hx, hy, Option.getD_some, Option.getD_some] at hu hsw
      simp only [w1, forall_eq, e1, e2, hx, hy, st1, ↓gos, gop, qA, qB, qC, qD, qE, qF, qG, qH, qI]
      refine call_ret (cmp226 x y) rfl rfl ?_
      cases hlt : Op.bytesLess x y
      · have hend : q = insK Op.bytesLess [] a (k + 1) l := by rw [← hI, hu, if_neg (by rw [hlt]; simp)]
        obtain ⟨n, hn, hn0⟩ : ∃ n, cmpI x y = n ∧ ¬ n < 0 := ⟨_, rfl, by unfold cmpI; rw [hlt]; split <;> simp_all; split <;> omega⟩
        rw [hn]
        have w2 : IntKind.i64.wrap (((a + 1 + k : Nat) : Int) + 1) = ((a + 1 + (k + 1) : Nat) : Int) := by rw [wrap_i64 (by omega) (by omega)]; omega
        simp only [hn0, w2, forall_eq, finG_e, finG_en, ↓gos, gop, qA, qB, qC, qD, qE, qF, qG, qH, qI]
        exact rnd_s (k + 1) (by rw [hend]) (by simp) ⟨rfl, rfl, rfl, rfl, rfl, rfl, trivial⟩ (by omega) (by omega)
      · rw [if_pos ⟨by omega, hlt⟩] at hu
        rw [show cmpI x y = -1 by unfold cmpI; rw [hlt]; rfl]
        have e3 : j + 1 < q.length := by omega
        have e4 : j < q.length := by omega
        simp only [w1, forall_eq, e1, e2, hx, hy, st1, finG_e, finG_en, ↓e_store_af, List.getElem?_map, List.getElem?_set, List.length_map, e3, e4, Option.map_some, reduceIte, ite_self, ↓gos, gop, qA, qB, qC, qD, qE, qF, qG, qH, qI]
        refine rnd_s (sw2 [] q (j + 1), j) ?_ (by simp) ⟨rfl, rfl, rfl, rfl, rfl, rfl, rfl, trivial⟩ ⟨hwl.trans hq, by simp only; omega, by rw [← hI, hu]⟩ (Nat.lt_succ_self j)
        simp only [hsw, List.map_set]
        rfl
    · have hend : q = insK Op.bytesLess [] a (k + 1) l := by
        rw [← hI]
        cases j with
        | zero => rfl
        | succ j => unfold insJ; rw [if_neg (by omega)]
      have w2 : IntKind.i64.wrap (((a + 1 + k : Nat) : Int) + 1) = ((a + 1 + (k + 1) : Nat) : Int) := by rw [wrap_i64 (by omega) (by omega)]; omega
      rw [w2]
      intro v hv
      subst hv
      exact rnd_s (k + 1) (by rw [hend]) (by simp) ⟨rfl, rfl, rfl, rfl, rfl, rfl, trivial⟩ (by omega) (by omega)
  · have hk2 : k = b - a - 1 := by omega
    subst hk2
    exact end_G1 rfl rfl ⟨by rw [hm], rfl⟩ rfl h0 rfl
end Go.Proofs.Ut
