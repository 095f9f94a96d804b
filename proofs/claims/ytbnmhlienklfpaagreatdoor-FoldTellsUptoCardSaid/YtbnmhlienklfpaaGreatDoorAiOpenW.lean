/- Arguments opened, and what they weigh. -/
import Derived.Test.YtbnmhlienklfpaaGreatDoorAiOpen
set_option linter.all false
namespace Go.Ai
section
variable {H : Type} {enc : TypeId × Value → H} {P : Program} {w : World} {base : Nat} {spare : Nat → Bool} {held : Bool}
theorem sum_le_at {α β : Type} {f : α → Nat} {g : β → Nat} : ∀ (a : List α) (b : List β), a.length = b.length → (∀ (i : Nat) x y, a[i]? = some x → b[i]? = some y → f x ≤ g y) → (a.map f).sum ≤ (b.map g).sum
  | [], [], _, _ => Nat.le_refl _
  | x :: a, y :: b, hl, h => by
    have h0 := h 0 x y rfl rfl
    have ih := sum_le_at a b (by simpa using hl) fun i u v hu hv => h (i + 1) u v (by simpa using hu) (by simpa using hv)
    simp only [List.map_cons, List.sum_cons]
    omega
  | [], _ :: _, hl, _ => by simp at hl
  | _ :: _, [], hl, _ => by simp at hl
/-- A slice of what can be opened. -/
theorem open_slice {c : Nat} {p : List DV → Prop} {wt : List DV → Nat} {B : DataW H → Nat} {t t' : TypeId} (hu : P.underlying t = some (.slice t')) (hc : P.cellsOf t' = c) (hpos : 0 < c) (hB0 : 1 ≤ B .nil)
    (hB1 : ∀ el sp, (el.map B).sum + 1 ≤ B (.slice el sp))
    (ih : ∀ {fuel : Nat} {cs : List Value} {x : DataW H × List MemPlace}, DataW.trod enc P w base spare held fuel t' cs = some x → ∃ ds, ds.length = c ∧ p ds ∧ Cl w cs ds ∧ wt ds ≤ B x.1)
    {fuel : Nat} {cs : List Value} {x : DataW H × List MemPlace} (h : DataW.trod enc P w base spare held fuel t cs = some x) :
    ∃ es, Cl w cs [.sl c es] ∧ (∀ y ∈ es, p y) ∧ (es.map wt).sum + 1 ≤ B x.1 := by
  rcases DataW.trod_slice hu h with ⟨rfl, rfl⟩ | ⟨ad, len, cap, elems, rest, n, rfl, rfl, rfl, hb, hlc, hcap, hel, helem, _⟩
  · refine ⟨[], .one rfl ?_, by simp, by simpa using hB0⟩
    exact .sl none 0 0 c [] 0 0 (fun _ => undef) rfl (Nat.le_refl _) hpos (by simp) (fun h => by omega) (fun k h => by simp at h) (fun k h => by simp at h) (fun k d h => by simp at h)
  · rw [hc] at helem
    obtain ⟨es, hes, hp⟩ := list_of (p := fun i (ds : List DV) => (ds.length = c ∧ p ds ∧ ∀ y, elems[i]? = some y → wt ds ≤ B y.1) ∧ ∃ cs, w.cells? base (ad.add (i * c)) c = some cs ∧ Cl w cs ds) len fun i hi => by
      have := helem i hi
      have hil : i < elems.length := by omega
      rw [List.getElem?_eq_getElem hil, Option.bind_eq_some_iff] at this
      obtain ⟨cs, h1, h2⟩ := this
      obtain ⟨ds, h3, h4, h5, h6⟩ := ih h2
      exact ⟨ds, ⟨h3, h4, fun y hy => by rw [List.getElem?_eq_getElem hil] at hy; cases hy; exact h6⟩, cs, h1, h5⟩
    have hlen : ∀ y ∈ es, y.length = c := fun y hy => by
      obtain ⟨i, hi⟩ := List.getElem?_of_mem hy
      exact (hp i y hi).1.1
    have hsum : (es.map wt).sum ≤ ((elems.map (·.1)).map B).sum := by
      rw [List.map_map]
      exact sum_le_at es elems (by omega) fun i u v hu hv => (hp i u hu).1.2.2 v hv
    refine ⟨es, .one rfl ?_, fun y hy => ?_, ?_⟩
    rotate_left
    · obtain ⟨i, hi⟩ := List.getElem?_of_mem hy
      exact (hp i y hi).1.2.1
    · have := hB1 (elems.map (·.1)) (rest.map (·.1))
      show _ ≤ B (.slice (elems.map (·.1)) (rest.map (·.1)))
      omega
    have cell : ∀ k, k < len * c → ∃ v d, w.cell? (ad.add k) = some v ∧ es.flatten[k]? = some d ∧ v.oneCell' = true ∧ Rep w (fun b => b < w.heap.size) noLoc v d := fun k hk => by
      have hi : k / c < len := by rw [Nat.div_lt_iff_lt_mul hpos]; exact hk
      have hq : k % c < c := Nat.mod_lt _ hpos
      have hi' : k / c < es.length := by omega
      have hge := List.getElem?_eq_getElem hi'
      obtain ⟨hh, cs, hcs, hcl⟩ := hp (k / c) _ hge
      obtain ⟨_, hcl1, hcl2⟩ := World.cells?_some hcs
      have ek : k = k / c * c + k % c := by rw [Nat.mul_comm]; exact (Nat.div_add_mod k c).symm
      have hcell := hcl2 (k % c) hq
      have hadd : ∀ x y, (ad.add x).add y = ad.add (x + y) := fun x y => by
        simp only [Addr.add]
        by_cases h1 : x = 0 <;> by_cases h2 : y = 0 <;> simp [h1, h2, Nat.add_assoc]
      rw [hadd, ← ek] at hcell
      have hv : cs[k % c]? = some (cs[k % c]'(by omega)) := List.getElem?_eq_getElem _
      have hfl := flatten_get hlen hge hq
      rw [← ek] at hfl
      have hdl : k % c < (es[k / c]).length := by rw [hh.1]; exact hq
      have hd := List.getElem?_eq_getElem hdl
      have := hcl.2 _ _ _ hv hd
      exact ⟨_, _, hcell.trans hv, hfl.trans hd, this.1, this.2⟩
    have hspot : 0 < len → ad.spot = none ∧ ad.block < w.heap.size := fun hl => by
      obtain ⟨v, d, h1, _⟩ := cell 0 (Nat.mul_pos hl hpos)
      have h0 : ad.add 0 = ad := by simp [Addr.add]
      rw [h0] at h1
      unfold World.cell? at h1
      split at h1
      · rename_i hb
        by_cases hs : ad.spot.isSome = true
        · rw [if_pos hs] at h1; cases h1
        · exact ⟨by simpa using hs, (Array.getElem?_eq_some_iff.1 hb).1⟩
      · cases h1
    refine .sl (some ad) len cap c es ad.block ad.off (fun k => (w.cell? (ad.add k)).getD undef) hes.symm hlc hpos hlen (fun hl => ⟨by obtain ⟨h1, _⟩ := hspot hl; cases ad; simp at h1; subst h1; rfl, (hspot hl).2⟩) (fun k hk => ?_) (fun k hk => ?_) (fun k d hd => ?_)
    · obtain ⟨v, d, h1, _⟩ := cell k hk
      have hl : 0 < len := by
        rcases Nat.eq_zero_or_pos len with h0 | h0
        · subst h0; simp at hk
        · exact h0
      have ha : ad.add k = ⟨ad.block, ad.off + k, none⟩ := by
        obtain ⟨h1, _⟩ := hspot hl
        cases ad; simp at h1; subst h1; exact add_mk _ _ _
      rw [← ha, h1]; rfl
    · obtain ⟨v, d, h1, _, h3, _⟩ := cell k hk
      rw [h1]; exact h3
    · have hk : k < len * c := by
        rcases Nat.lt_or_ge k (len * c) with h | h
        · exact h
        · rw [List.getElem?_eq_none (by rw [flatten_len hlen, hes]; exact h)] at hd; cases hd
      obtain ⟨v, d', h1, h2, _, h4⟩ := cell k hk
      rw [hd] at h2
      cases h2
      rw [h1]; exact h4
end
end Go.Ai

/- What comes in, as plain data, and what it weighs. -/
namespace Go.Ai
/-- Values and letters, each counted each time it is met. -/
def DV.wt : DV → Nat
  | .str s => s.length + 1
  | .sl _ es => wtEs es + 1
  | _ => 1
where
  wtL : List DV → Nat
    | [] => 0
    | d :: l => d.wt + wtL l
  wtEs : List (List DV) → Nat
    | [] => 0
    | e :: es => wtL e + wtEs es
theorem wtL_sum : ∀ l : List DV, DV.wt.wtL l = (l.map DV.wt).sum
  | [] => rfl
  | d :: l => by rw [DV.wt.wtL, wtL_sum l]; rfl
theorem wtEs_sum : ∀ es : List (List DV), DV.wt.wtEs es = (es.map DV.wt.wtL).sum
  | [] => rfl
  | e :: es => by rw [DV.wt.wtEs, wtEs_sum es]; rfl
theorem wtL_app (a b : List DV) : DV.wt.wtL (a ++ b) = DV.wt.wtL a + DV.wt.wtL b := by
  rw [wtL_sum, wtL_sum, wtL_sum, List.map_append, List.sum_append]
section
variable {H : Type} {enc : TypeId × Value → H} {P : Program} {w : World} {base : Nat} {spare : Nat → Bool} {held : Bool}
theorem open_wt {B : DataW H → Nat} (hB0 : 1 ≤ B .nil) (hBl : ∀ l, 1 ≤ B (.lit l)) (hBs : ∀ b, B (.lit (.string b)) = b.length + 1) (hB1 : ∀ el sp, (el.map B).sum + 1 ≤ B (.slice el sp)) (hB2 : ∀ ps, (ps.map B).sum ≤ B (.agg ps)) :
    ∀ (a : AT) {t : TypeId} {fuel : Nat} {cs : List Value} {x : DataW H × List MemPlace}, a.fits P t = true → DataW.trod enc P w base spare held fuel t cs = some x → ∃ ds, a.has ds ∧ Cl w cs ds ∧ DV.wt.wtL ds ≤ B x.1 := by
  intro a
  refine AT.rec (motive_1 := fun a => ∀ {t : TypeId} {fuel : Nat} {cs : List Value} {x : DataW H × List MemPlace}, a.fits P t = true → DataW.trod enc P w base spare held fuel t cs = some x → ∃ ds, a.has ds ∧ Cl w cs ds ∧ DV.wt.wtL ds ≤ B x.1)
    (motive_2 := fun l => ∀ {fs : List Field} {o fuel : Nat} {cs : List Value} {xs : List (DataW H × List MemPlace)}, AT.fitsL P l fs o = true → cs.length = o + AT.cells.cellsL l → xs.length = fs.length →
      (∀ (i : Nat) f, fs[i]? = some f → DataW.trod enc P w base spare held fuel f.type ((cs.drop f.offset).take (P.cellsOf f.type)) = xs[i]?) → ∃ ds, AT.has.hasL l ds ∧ Cl w (cs.drop o) ds ∧ DV.wt.wtL ds ≤ (xs.map fun x => B x.1).sum) ?_ ?_ ?_ ?_ ?_ ?_ ?_ a
  · intro k t fuel cs x hf h
    simp only [AT.fits] at hf
    split at hf
    · rename_i k' hu
      simp at hf; subst hf
      obtain ⟨n, rfl, rfl, hw⟩ := DataW.trod_int hu h
      exact ⟨_, ⟨n, rfl, hw⟩, .one rfl (.int _ _), hBl _⟩
    · cases hf
  · intro t fuel cs x hf h
    simp only [AT.fits] at hf
    split at hf
    · rename_i hu
      obtain ⟨s, rfl, rfl, hw⟩ := DataW.trod_string hu h
      refine ⟨_, ⟨s.data.toList, rfl, by simpa using hw⟩, .one rfl (.str s), ?_⟩
      rw [hBs]
      simp [DV.wt.wtL, DV.wt]
    · cases hf
  · intro t fuel cs x hf h
    simp only [AT.fits] at hf
    split at hf
    · rename_i hu
      obtain ⟨b, rfl, rfl⟩ := DataW.trod_bool hu h
      exact ⟨_, ⟨b, rfl⟩, .one rfl (.bool _), hBl _⟩
    · cases hf
  · intro e ih t fuel cs x hf h
    simp only [AT.fits] at hf
    split at hf
    · rename_i t' hu
      simp only [Bool.and_eq_true, beq_iff_eq, decide_eq_true_eq] at hf
      obtain ⟨⟨hf, hc⟩, hpos⟩ := hf
      have hlen2 : ∃ n, ∀ es, Cl w cs [.sl e.cells es] → es.length = n ∧ n ≤ maxLen := by
        rcases DataW.trod_slice hu h with ⟨rfl, rfl⟩ | ⟨ad, len, cap, elems, rest, n, rfl, rfl, rfl, hb, hlc, hcap, hel, helem, _⟩
        · refine ⟨0, fun es hcl => ?_⟩
          have := (hcl.2 0 _ _ rfl rfl).2
          cases this with
          | sl A n c sz es b x vs hn _ _ _ _ _ _ _ => exact ⟨hn.symm, by simp⟩
        · refine ⟨len, fun es hcl => ?_⟩
          have := (hcl.2 0 _ _ rfl rfl).2
          cases this with
          | sl A n c sz es b x vs hn _ _ _ _ _ _ _ => exact ⟨hn.symm, by omega⟩
      obtain ⟨es, h1, h2, h3⟩ := open_slice (c := e.cells) (p := fun ds => e.has ds) (wt := DV.wt.wtL) (B := B) hu hc hpos hB0 hB1 (fun {fuel cs x} h => by
        obtain ⟨ds, k1, k2, k3⟩ := ih hf h
        exact ⟨ds, has_len k1, k1, k2, k3⟩) h
      obtain ⟨n, hn⟩ := hlen2
      have := hn es h1
      refine ⟨_, ⟨es, rfl, by omega, h2⟩, h1, ?_⟩
      simp only [DV.wt.wtL, DV.wt, wtEs_sum]
      omega
    · cases hf
  · intro l ih t fuel cs x hf h
    simp only [AT.fits] at hf
    split at hf
    · rename_i fs hu
      simp only [Bool.and_eq_true, beq_iff_eq] at hf
      obtain ⟨hf, hc⟩ := hf
      obtain ⟨xs, n, rfl, rfl, hcl, hxl, hx⟩ := DataW.trod_struct hu h
      obtain ⟨ds, h1, h2, h3⟩ := ih (cs := cs) (fuel := n) (xs := xs) hf (by rw [hcl, hc]; omega) (by simpa using hxl) fun i f hfi => hx i f (by simpa using hfi)
      refine ⟨ds, h1, by simpa using h2, Nat.le_trans h3 ?_⟩
      have := hB2 (xs.map (·.1))
      rw [List.map_map] at this
      exact this
    · cases hf
  · intro fs o fuel cs xs hf hlen _ _
    refine ⟨[], rfl, ?_, Nat.zero_le _⟩
    have : cs.drop o = [] := List.drop_eq_nil_of_le (by simp [AT.cells.cellsL] at hlen; omega)
    rw [this]; exact .nil
  · intro a l iha ihl fs o fuel cs xs hf hlen hxl hx
    cases fs with
    | nil => simp [AT.fitsL] at hf
    | cons f fs =>
      cases xs with
      | nil => simp at hxl
      | cons y xs =>
        simp only [AT.fitsL, Bool.and_eq_true, beq_iff_eq] at hf
        obtain ⟨⟨⟨h1, h2⟩, h3⟩, h4⟩ := hf
        simp only [AT.cells.cellsL] at hlen
        have hy := hx 0 f rfl
        obtain ⟨ds, k1, k2, k3⟩ := iha h3 hy
        obtain ⟨ds', m1, m2, m3⟩ := ihl (cs := cs) (xs := xs) h4 (by omega) (by simpa using hxl) fun i g hg => hx (i + 1) g hg
        refine ⟨ds ++ ds', ⟨ds, ds', rfl, k1, m1⟩, ?_, ?_⟩
        · have e : cs.drop o = (cs.drop f.offset).take (P.cellsOf f.type) ++ cs.drop (o + a.cells) := by
            rw [h1, h2, ← List.drop_drop]
            exact (List.take_append_drop _ _).symm
          rw [e]
          exact k2.app m2
        · rw [wtL_app, List.map_cons, List.sum_cons]
          omega
end
end Go.Ai
