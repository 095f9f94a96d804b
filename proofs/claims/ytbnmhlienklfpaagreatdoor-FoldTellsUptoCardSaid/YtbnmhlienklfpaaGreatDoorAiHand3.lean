/- A list in a variable, handed down: its row, its variable, and what is put into it. -/
import Derived.Test.YtbnmhlienklfpaaGreatDoorAiBld
set_option linter.all false
namespace Go.Ai
theorem kill_kill {p q r : Nat → Bool} (hr : ∀ l, r l = (p l || q l)) : ∀ {d : DV}, (d.kill p).kill q = d.kill r := by
  intro d
  refine DV.rec (motive_1 := fun d => (d.kill p).kill q = d.kill r) (motive_2 := fun l => DV.kill.killAll q (DV.kill.killAll p l) = DV.kill.killAll r l) (motive_3 := fun _ => True)
    ?_ ?_ ?_ ?_ ?_ ?_ ?_ ?_ ?_ ?_ ?_ ?_ ?_ ?_ ?_ ?_ ?_ ?_ ?_ ?_ ?_ ?_ ?_ ?_ ?_ d
  all_goals first
    | (intros; rfl)
    | (intros; simp_all [DV.kill, DV.kill.killAll]; done)
    | (intro l
       intros
       have h3 := hr l
       cases hp : p l <;> cases hq : q l <;> simp [DV.kill, hp, hq, hp ▸ hq ▸ h3]; done)
    | (intro l
       intros
       have h3 := hr l
       cases hp : p l <;> cases hq : q l <;> (rw [hp, hq] at h3; simp [DV.kill, hp, hq, h3]); done)
    | (intro _ l
       intros
       have h3 := hr l
       cases hp : p l <;> cases hq : q l <;> (rw [hp, hq] at h3; simp [DV.kill, hp, hq, h3]); done)
    | skip
theorem killO_killO {p q r : Nat → Bool} (hr : ∀ l, r l = (p l || q l)) (o : AObj) : killO q (killO p o) = killO r o := by
  cases o with
  | box cs =>
    simp only [killO, List.map_map]
    exact congrArg AObj.box (List.map_congr_left fun d _ => kill_kill hr)
  | _ => rfl
theorem end_rowt {post : List AObj → DV → Prop} {sz i n : Nat} {es : List (List DV)} {a : DV} {ds : List DV} {h : List AObj} (hi : h[i]? = some (.arr sz es)) (ha : (a :: ds).all DV.closed = true) (hp : post [.arr sz es] (.tup (.osl sz 0 0 n none :: a :: ds))) : finE 0 post (some (.osl sz i 0 n none :: a :: ds)) h := by
  have hlt : i < h.length := (List.getElem?_eq_some_iff.1 hi).1
  have hg : h.getD i .dead = .arr sz es := by simp [hi]
  have e0 : rvd (DV.osl sz i 0 n none :: a :: ds) = .tup (.osl sz i 0 n none :: a :: ds) := rfl
  refine ⟨_, rfl, [i], by simp, Nat.zero_le _, fun _ h => by omega, fun l hl => by simp at hl; omega, ?_, fun l hl => ?_, ?_⟩
  · rw [e0]
    have hall : ∀ l : List DV, l.all DV.closed = true → DV.inL.inAll [i].contains l = true := fun l hl => by
      induction l with
      | nil => rfl
      | cons x l ih =>
        rw [List.all_cons, Bool.and_eq_true] at hl
        rw [DV.inL.inAll, closed_inL hl.1, ih hl.2]; rfl
    simp only [DV.inL]
    rw [DV.inL.inAll, hall _ ha]
    simp [DV.inL]
  · simp only [List.mem_singleton] at hl
    subst hl
    rw [hg]; rfl
  · simp only [List.map_cons, List.map_nil, hg]
    have : (rvd (DV.osl sz i 0 n none :: a :: ds)).ren (fun x => List.idxOf x [i]) = .tup (.osl sz 0 0 n none :: a :: ds) := by
      rw [e0, DV.ren, renAll_map, List.map_cons]
      have : (a :: ds).map (DV.ren fun x => List.idxOf x [i]) = a :: ds := map_same fun d hd => closed_ren (List.all_eq_true.1 ha d hd)
      rw [this]
      simp [DV.ren]
    rw [this]
    exact hp
end Go.Ai

/- A list alone in a variable, handed down; what points into its row, handed back. -/
namespace Go.Ai
theorem call_l1 {E : Env} {L : List (Nat × DV)} {h : List AObj} {f sz n n' : Nat} {es es' : List (List DV)} {xs : List DV} {D DR : DV} {K : DV → St → Prop} {m l : Nat} (hm : h[m]? = some (.arr sz es)) (hl : h[l]? = some (.box [.osl sz m 0 n none]))
    (hx : xs.all DV.closed = true) (hc : ACalls E f [.arr sz es, .box [.osl sz 0 0 n none]] (.ptr 1 0 :: xs) (fun h' d => h' = [.arr sz es', .box [.osl sz 0 0 n' none]] ∧ d = D)) (hD : D.ren (upL h.length [m, l]) = DR)
    (hk : K DR (sta (kilS m L) (((kilH m h).set m (.arr sz es')).set l (.box [.osl sz m 0 n' none])))) : acall E true f (.ptr l 0 :: xs) K (sta L h) := by
  have hne : m ≠ l := fun e => by subst e; rw [hm] at hl; cases hl
  have hlt1 : m < h.length := (List.getElem?_eq_some_iff.1 hm).1
  have hlt2 : l < h.length := (List.getElem?_eq_some_iff.1 hl).1
  have g1 : h.getD m .dead = .arr sz es := by simp [hm]
  have g2 : h.getD l .dead = .box [.osl sz m 0 n none] := by simp [hl]
  have i0 : [m, l].idxOf? m = some 0 := by simp [List.idxOf?, List.findIdx?_cons]
  have i1 : [m, l].idxOf? l = some 1 := by simp [List.idxOf?, List.findIdx?_cons, hne]
  refine .go ?_
  refine .inr (.inr ⟨false, [m, l], fun h' d => h' = [.arr sz es', .box [.osl sz 0 0 n' none]] ∧ d = D, .inl rfl, by simpa using hne, fun k hk => ?_, ?_, fun h' d hp => ?_⟩)
  · simp at hk; rcases hk with rfl | rfl
    · exact hlt1
    · exact hlt2
  · have e1 : (DV.ptr l 0 :: xs).map (DV.dn [m, l] (sta L h).h) = .ptr 1 0 :: xs := by
      rw [List.map_cons]
      refine congr (congrArg _ ?_) (map_same fun d hd => closed_low (List.all_eq_true.1 hx d hd))
      simp only [DV.dn, DV.low, i1]
    rw [e1, show (sta L h).h = h from rfl]
    simp only [List.map_cons, List.map_nil, g1, g2, lowO, DV.low, i0, i1]
    exact hc
  · obtain ⟨rfl, rfl⟩ := hp
    refine ⟨.inl ?_, ?_⟩
    · rw [Bool.and_eq_true]
      refine ⟨?_, ?_⟩
      · rw [List.all_cons, Bool.and_eq_true]
        refine ⟨by simp [DV.inL], List.all_eq_true.2 fun d hd => closed_inL (List.all_eq_true.1 hx d hd)⟩
      · simp only [show (sta L h).h = h from rfl, List.all_cons, List.all_nil, Bool.and_true, g1, g2, inO, DV.inL]
        simp
    · rw [show (sta L h).h = h from rfl, hD]
      have e : (sta L h).handed false [m, l] [.arr sz es', .box [.osl sz 0 0 n' none]] = sta (kilS m L) (((kilH m h).set m (.arr sz es')).set l (.box [.osl sz m 0 n' none])) := by
        unfold St.handed
        have e1 : (List.filter (fun l => !isBox (sta L h).h[l]?) [m, l]) = [m] := by simp [show (sta L h).h = h from rfl, hm, hl, isBox]
        simp only [e1, List.isEmpty_cons, Bool.or_self, Bool.false_eq_true, if_false]
        have e2 : (sta L h).kill [m].contains = sta (kilS m L) (kilH m h) := by
          have : ([m].contains) = fun l => l == m := contains1 m
          rw [this]; exact sta_kill
        rw [e2]
        simp only [List.map_cons, List.map_nil, renO, DV.ren, List.length_cons, List.length_nil, List.drop_succ_cons, List.drop_zero, List.append_nil, setAll]
        rfl
      rw [e]; exact hk
theorem end_l1 {post : List AObj → DV → Prop} {sz n : Nat} {es : List (List DV)} {tl : List AObj} {ds : List DV} (hds : (rvd ds).closed = true)
    (hp : post [.arr sz es, .box [.osl sz 0 0 n none]] (rvd ds)) : finE 2 post (some ds) (.arr sz es :: .box [.osl sz 0 0 n none] :: tl) := by
  refine ⟨ds, rfl, [0, 1], by simp, Nat.le_refl _, fun i h => ?_, fun l hl => ?_, closed_inL hds, fun l hl => ?_, ?_⟩
  · have : i = 0 ∨ i = 1 := by omega
    rcases this with rfl | rfl <;> rfl
  · simp at hl; rcases hl with rfl | rfl <;> simp
  · simp at hl; rcases hl with rfl | rfl
    · rfl
    · simp [inO, DV.inL]
  · rw [closed_ren hds]
    have e : [0, 1].map (fun l => renO (fun x => List.idxOf x [0, 1]) ((.arr sz es :: .box [.osl sz 0 0 n none] :: tl).getD l .dead)) = [.arr sz es, .box [.osl sz 0 0 n none]] := by
      simp [renO, DV.ren]
    rw [e]; exact hp
/-- What points into the row is handed back. -/
theorem end_l1a {post : List AObj → DV → Prop} {sz n j q : Nat} {es : List (List DV)} {tl : List AObj}
    (hp : post [.arr sz es, .box [.osl sz 0 0 n none]] (.aptr sz 0 j q)) : finE 2 post (some [.aptr sz 0 j q]) (.arr sz es :: .box [.osl sz 0 0 n none] :: tl) := by
  refine ⟨_, rfl, [0, 1], by simp, Nat.le_refl _, fun i h => ?_, fun l hl => ?_, by simp [rvd, DV.inL], fun l hl => ?_, ?_⟩
  · have : i = 0 ∨ i = 1 := by omega
    rcases this with rfl | rfl <;> rfl
  · simp at hl; rcases hl with rfl | rfl <;> simp
  · simp at hl; rcases hl with rfl | rfl
    · rfl
    · simp [inO, DV.inL]
  · have e : [0, 1].map (fun l => renO (fun x => List.idxOf x [0, 1]) ((.arr sz es :: .box [.osl sz 0 0 n none] :: tl).getD l .dead)) = [.arr sz es, .box [.osl sz 0 0 n none]] := by
      simp [renO, DV.ren]
    rw [e]
    exact hp
end Go.Ai

/- Places handed down and back, any of them. -/
namespace Go.Ai
theorem kill_or (st : St) {p q r : Nat → Bool} (hr : ∀ l, r l = (p l || q l)) : (st.kill p).kill q = st.kill r := by
  unfold St.kill
  congr 1
  · funext s
    exact kill_kill hr
  · simp only [List.map_map]
    exact List.map_congr_left fun o _ => killO_killO hr o
theorem sta_killL : ∀ (ks : List Nat) (L : List (Nat × DV)) (h : List AObj), ks ≠ [] → (sta L h).kill ks.contains = sta (ks.foldl (fun L i => kilS i L) L) (ks.foldl (fun h i => kilH i h) h)
  | [], _, _, h => absurd rfl h
  | [i], L, h, _ => by
    have : ([i].contains) = fun l => l == i := contains1 i
    rw [this]; exact sta_kill
  | i :: j :: ks, L, h, _ => by
    have hr : ∀ l, (i :: j :: ks).contains l = ((l == i) || (j :: ks).contains l) := fun l => by
      rw [List.contains_cons]
    rw [← kill_or _ hr, sta_kill, sta_killL (j :: ks) _ _ (by simp)]
    rfl
theorem handed_sta {L : List (Nat × DV)} {h : List AObj} {ls : List Nat} {h' : List AObj} (ks : List Nat) (hks : ls.filter (fun l => !isBox h[l]?) = ks) :
    (sta L h).handed false ls h' = sta (ks.foldl (fun L i => kilS i L) L) (setAll (ks.foldl (fun h i => kilH i h) h) ls (h'.map (renO (upL h.length ls))) ++ (h'.drop ls.length).map (renO (upL h.length ls))) := by
  unfold St.handed
  rw [show (sta L h).h = h from rfl, hks]
  cases ks with
  | nil => rfl
  | cons i ks =>
    simp only [List.isEmpty_cons, Bool.or_self, Bool.false_eq_true, if_false]
    rw [sta_killL _ _ _ (by simp)]
    rfl
theorem call_h {E : Env} {L : List (Nat × DV)} {h : List AObj} {f : Nat} {ds ds1 : List DV} {h1 h1' : List AObj} {D DR : DV} {K : DV → St → Prop} (ls ks : List Nat) (hnd : ls.Nodup) (hlt : ∀ l ∈ ls, l < h.length)
    (hks : ls.filter (fun l => !isBox h[l]?) = ks)
    (hlow : (ls.map fun l => lowO (fun l => ls.idxOf? l) h (h.getD l .dead)) = h1) (hds : ds.map (DV.dn ls h) = ds1)
    (hin : (ds.all (DV.inL ls.contains) && ls.all (fun l => inO ls.contains (h.getD l .dead))) = true)
    (hc : ACalls E f h1 ds1 (fun h' d => h' = h1' ∧ d = D)) (hD : D.ren (upL h.length ls) = DR)
    (hk : K DR (sta (ks.foldl (fun L i => kilS i L) L) (setAll (ks.foldl (fun h i => kilH i h) h) ls (h1'.map (renO (upL h.length ls))) ++ (h1'.drop ls.length).map (renO (upL h.length ls))))) : acall E true f ds K (sta L h) := by
  refine .go ?_
  refine .inr (.inr ⟨false, ls, fun h' d => h' = h1' ∧ d = D, .inl rfl, hnd, hlt, ?_, fun h' d hp => ?_⟩)
  · rw [show (sta L h).h = h from rfl, hlow, hds]; exact hc
  · obtain ⟨rfl, rfl⟩ := hp
    refine ⟨.inl hin, ?_⟩
    rw [show (sta L h).h = h from rfl, hD, handed_sta ks hks]
    exact hk
/-- The end of a call, in general. -/
theorem end_h {post : List AObj → DV → Prop} {ds : List DV} {h : List AObj} {m0 : Nat} (ρ : List Nat) (hnd : ρ.Nodup) (hm : m0 ≤ ρ.length) (hid : ∀ i, i < m0 → ρ[i]? = some i) (hlt : ∀ l ∈ ρ, l < h.length) (hin : (rvd ds).inL ρ.contains = true)
    (hbox : ∀ l ∈ ρ, inO ρ.contains (h.getD l .dead) = true) {H : List AObj} {D : DV} (hH : ρ.map (fun l => renO (ρ.idxOf ·) (h.getD l .dead)) = H) (hD : (rvd ds).ren (ρ.idxOf ·) = D) (hp : post H D) : finE m0 post (some ds) h := by
  subst hH; subst hD
  exact ⟨ds, rfl, ρ, hnd, hm, hid, hlt, hin, hbox, hp⟩
end Go.Ai
