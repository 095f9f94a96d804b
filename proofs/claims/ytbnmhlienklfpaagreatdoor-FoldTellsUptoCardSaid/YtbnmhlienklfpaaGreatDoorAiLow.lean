/- Values lent or handed down, rows that become shared, places that come back. -/
import Derived.Test.YtbnmhlienklfpaaGreatDoorAiOps8
set_option linter.all false
namespace Go.Ai
section
variable {E : Env} {C : Ctx} {a : Act} {w : World} {ok : Nat → Prop} {β : Loc} {st : St} {K : DV → St → Prop}

theorem lowAll_map (ρ : Nat → Option Nat) (h : List AObj) : ∀ l : List DV, DV.low.lowAll ρ h l = l.map (DV.low ρ h)
  | [] => rfl
  | d :: l => by simp [DV.low.lowAll, lowAll_map ρ h l]
theorem map_rep {w' : World} {ok' : Nat → Prop} {β' : Loc} {vs : List Value} {ds : List DV} {f : DV → DV} (h : ∀ (i : Nat) v d, vs[i]? = some v → ds[i]? = some d → Rep w' ok' β' v (f d)) :
    ∀ (i : Nat) v d, vs[i]? = some v → (ds.map f)[i]? = some d → Rep w' ok' β' v d := fun i v d hv hd => by
  rw [List.getElem?_map] at hd
  cases hx : ds[i]? with
  | none => simp [hx] at hd
  | some x => simp [hx] at hd; subst hd; exact h i v x hv hx

theorem inAll_get (p : Nat → Bool) : ∀ (l : List DV), DV.inL.inAll p l = true → ∀ (i : Nat) d, l[i]? = some d → d.inL p = true
  | [], _, i, d, h => by simp at h
  | x :: l, hc, i, d, h => by
    simp only [DV.inL.inAll, Bool.and_eq_true] at hc
    cases i with
    | zero => simp at h; subst h; exact hc.1
    | succ i => exact inAll_get p l hc.2 i d (by simpa using h)

theorem Rep.inL {v : Value} {d : DV} (h : Rep w ok β v d) (p : Nat → Bool) : d.inL p = true → ∀ {β' : Loc}, (∀ l x, p l = true → β l = some x → β' l = some x) → Rep w ok β' v d := by
  induction h with
  | int k n => exact fun _ _ _ => .int k n
  | bool b => exact fun _ _ _ => .bool b
  | str s => exact fun _ _ _ => .str s
  | agg vs ds hl _ ih => exact fun hc _ hβ => .agg vs ds hl fun i v d h1 h2 => ih i v d h1 h2 (inAll_get p ds (by simpa [DV.inL] using hc) i d h2) hβ
  | tup vs ds hl _ ih => exact fun hc _ hβ => .tup vs ds hl fun i v d h1 h2 => ih i v d h1 h2 (inAll_get p ds (by simpa [DV.inL] using hc) i d h2) hβ
  | nilp => exact fun _ _ _ => .nilp
  | ptr l o b x h => exact fun hc _ hβ => .ptr l o b x (hβ l _ (by simpa [DV.inL] using hc) h)
  | aptr sz l j q b x h => exact fun hc _ hβ => .aptr sz l j q b x (hβ l _ (by simpa [DV.inL] using hc) h)
  | eptr cs o b x vs hb hcs hr _ => exact fun _ _ _ => .eptr cs o b x vs hb hcs hr
  | nils sz hz => exact fun _ _ _ => .nils sz hz
  | sl A n c sz es b x vs hn hnc hsz hes hA hcs h1 hr _ => exact fun _ _ _ => .sl A n c sz es b x vs hn hnc hsz hes hA hcs h1 hr
  | oslnil sz l off cap hcap hz => exact fun _ _ _ => .oslnil sz l off cap hcap hz
  | osl sz l off n c b x y t m' hb hnc hsz hy hm hr cap hcap => exact fun hc _ hβ => .osl sz l off n c b x y t m' (hβ l _ (by simpa [DV.inL] using hc) hb) hnc hsz hy hm hr cap hcap
  | fn f vs ds hl _ ih => exact fun hc _ hβ => .fn f vs ds hl fun i v d h1 h2 => ih i v d h1 h2 (inAll_get p ds (by simpa [DV.inL] using hc) i d h2) hβ
  | bnd f vs ds hl _ ih => exact fun hc _ hβ => .bnd f vs ds hl fun i v d h1 h2 => ih i v d h1 h2 (inAll_get p ds (by simpa [DV.inL] using hc) i d h2) hβ
  | ifc f u ds hl _ ih => exact fun hc _ hβ => .ifc f u ds hl fun i v d h1 h2 => ih i v d h1 h2 (inAll_get p ds (by simpa [DV.inL] using hc) i d h2) hβ
  | nilfn => exact fun _ _ _ => .nilfn
  | nili => exact fun _ _ _ => .nili
  | emp0 sz => exact fun _ _ _ => .emp0 sz
  | emp1 A c sz => exact fun _ _ _ => .emp1 A c sz
  | selfn l t m b hb hm => exact fun hc _ hβ => .selfn l t m b (hβ l _ (by simpa [DV.inL] using hc) hb) hm
  | selfp l t m b hb hm => exact fun hc _ hβ => .selfp l t m b (hβ l _ (by simpa [DV.inL] using hc) hb) hm
  | hdrn m e => exact fun _ _ _ => .hdrn m e
  | hdrs m e n g cap hb hm hnc hcm hc0 => exact fun hc _ hβ => .hdrs m e n g cap (hβ m _ (by simpa [DV.inL] using hc) hb) hm hnc hcm hc0
  | undef v => exact fun _ _ _ => .undef v

/-- Other names, and what is lent. -/
theorem Rep.low (hs : SRep E C a w ok β st) {v : Value} {d : DV} (h : Rep w ok β v d) (ρ : Nat → Option Nat) {ok1 : Nat → Prop} {β1 : Loc} (hup : ∀ b, ok b → ok1 b)
    (hlent : ∀ l x sz es, β l = some x → ρ l = none → st.h[l]? = some (.arr sz es) → ok1 x.1) (hρ : ∀ l i x, ρ l = some i → β l = some x → β1 i = some x) : Rep w ok1 β1 v (d.low ρ st.h) := by
  have hup' : ∀ {v : Value} {d : DV}, Rep w ok noLoc v d → Rep w ok1 noLoc v d := fun r => r.mono hup (fun _ _ => rfl) (fun l x hx => by simp [noLoc] at hx)
  have hgen : ∀ {β2 : Loc} {v : Value} {d : DV}, Rep w ok β2 v d → β2 = β → Rep w ok1 β1 v (d.low ρ st.h) := by
    intro β2 v d h
    induction h with
    | int k n => exact fun _ => .int k n
    | bool b => exact fun _ => .bool b
    | str s => exact fun _ => .str s
    | agg vs ds hl _ ih =>
      intro e
      rw [DV.low, lowAll_map]
      exact .agg vs _ (by simpa using hl) (map_rep fun i v d h1 h2 => ih i v d h1 h2 e)
    | tup vs ds hl _ ih =>
      intro e
      rw [DV.low, lowAll_map]
      exact .tup vs _ (by simpa using hl) (map_rep fun i v d h1 h2 => ih i v d h1 h2 e)
    | nilp => exact fun _ => .nilp
    | ptr l o b x hb =>
      intro e; subst e
      simp only [DV.low]
      split
      · rename_i i hi; exact .ptr i o b x (hρ l i _ hi hb)
      · exact .undef _
    | aptr sz l j q b x hb =>
      intro e; subst e
      simp only [DV.low]
      split
      · rename_i i hi; exact .aptr sz i j q b x (hρ l i _ hi hb)
      · exact .undef _
    | eptr cs o b x vs hb hcs hr _ => exact fun _ => .eptr cs o b x vs (hup b hb) hcs fun k d hd => hup' (hr k d hd)
    | nils sz hz => exact fun _ => .nils sz hz
    | sl A n c sz es b x vs hn hnc hsz hes hA hcs h1 hr _ => exact fun _ => .sl A n c sz es b x vs hn hnc hsz hes (fun hp => ⟨(hA hp).1, hup _ (hA hp).2⟩) hcs h1 fun k d hd => hup' (hr k d hd)
    | oslnil sz l off cap hcap hz =>
      intro e
      simp only [DV.low]
      split
      · exact .oslnil sz _ off cap hcap hz
      · split
        · rename_i sz' es hl
          split
          · simpa using Rep.sl none 0 0 sz [] 0 0 (fun _ => _root_.Go.undef) rfl (Nat.le_refl _) hz (by simp) (fun h => by omega) (fun k hk => by simp at hk) (fun k hk => by simp at hk) (fun k d hd => by simp at hd)
          · exact .undef _
        · exact .undef _
    | osl sz l off n c b x y t m hb hnc hsz hy hm hr cap hcap =>
      intro e
      subst e
      simp only [DV.low]
      split
      · rename_i i hi
        exact .osl sz i off n c b x y t m (hρ l i _ hi hb) hnc hsz hy hm hr cap hcap
      · rename_i hnone
        split
        · rename_i sz' es hl
          split
          · rename_i hc
            obtain ⟨rfl, ho⟩ := hc
            have hes := (hs.heap.obj l _ hl).1
            have hlen : ((es.drop off).take n).length = n := by rw [List.length_take, List.length_drop]; omega
            by_cases hn : n = 0
            · subst hn
              simpa using Rep.sl (some ⟨b, y, none⟩) 0 c sz' [] 0 0 (fun _ => _root_.Go.undef) rfl (Nat.zero_le _) hsz (by simp) (fun h => by omega) (fun k hk => by simp at hk) (fun k hk => by simp at hk) (fun k d hd => by simp at hd)
            · obtain ⟨cs, e1, e2, e3⟩ := osl_cells hs hb hl (by omega) ho hsz (hy (by omega))
              have hget : ∀ k, k < n * sz' → cs[k]? = some (cs.getD k _root_.Go.undef) := fun k hk => by
                have : k < cs.length := by omega
                rw [List.getD_eq_getElem?_getD, List.getElem?_eq_getElem this]; rfl
              have hfl : ((es.drop off).take n).flatten.length = n * sz' := by
                rw [flatten_len (sz := sz') (fun e he => hes e (List.mem_of_mem_drop (List.mem_of_mem_take he))), hlen]
              have hin : ∀ k, k < n * sz' → ∃ d, ((es.drop off).take n).flatten[k]? = some d := fun k hk => ⟨_, List.getElem?_eq_getElem (by omega)⟩
              refine .sl _ n c sz' _ b y (fun k => cs.getD k _root_.Go.undef) hlen.symm hnc hsz (fun e he => hes e (List.mem_of_mem_drop (List.mem_of_mem_take he))) (fun _ => ⟨rfl, hlent l _ sz' es hb hnone hl⟩)
                (fun k hk => e2 k _ (hget k hk)) (fun k hk => ?_) (fun k d hd => ?_)
              · obtain ⟨d, hd⟩ := hin k hk
                exact (e3 k _ d (hget k hk) hd).1
              · have hk : k < n * sz' := by
                  rcases Nat.lt_or_ge k (n * sz') with h | h
                  · exact h
                  · rw [List.getElem?_eq_none (by omega)] at hd; cases hd
                exact hup' (e3 k _ d (hget k hk) hd).2
          · exact .undef _
        · exact .undef _
    | fn f vs ds hl _ ih =>
      intro e
      rw [DV.low, lowAll_map]
      exact .fn f vs _ (by simpa using hl) (map_rep fun i v d h1 h2 => ih i v d h1 h2 e)
    | bnd f vs ds hl _ ih =>
      intro e
      rw [DV.low, lowAll_map]
      exact .bnd f vs _ (by simpa using hl) (map_rep fun i v d h1 h2 => ih i v d h1 h2 e)
    | ifc f u ds hl _ ih =>
      intro e
      rw [DV.low, lowAll_map]
      exact .ifc f u _ (by simpa using hl) (map_rep fun i v d h1 h2 => ih i v d h1 h2 e)
    | nilfn => exact fun _ => .nilfn
    | nili => exact fun _ => .nili
    | emp0 sz => exact fun _ => .emp0 sz
    | emp1 A c sz => exact fun _ => .emp1 A c sz
    | selfn l t m b hb hm =>
      intro e; subst e
      simp only [DV.low]
      cases hi : ρ l with
      | some i => exact .selfn i t m b (hρ l i _ hi hb) hm
      | none => exact .undef _
    | selfp l t m b hb hm =>
      intro e; subst e
      simp only [DV.low]
      cases hi : ρ l with
      | some i => exact .selfp i t m b (hρ l i _ hi hb) hm
      | none => exact .undef _
    | hdrn m e =>
      intro _
      simp only [DV.low]
      cases hi : ρ m with
      | some i => exact .hdrn i e
      | none => exact .undef _
    | hdrs m e n g cap hb hm hnc hcm hc0 =>
      intro e; subst e
      simp only [DV.low]
      cases hi : ρ m with
      | some i => exact .hdrs i _ n g cap (hρ m i _ hi hb) hm hnc hcm hc0
      | none => exact .undef _
    | undef v => exact fun _ => .undef v
  exact hgen h rfl

theorem ORep.low (hs : SRep E C a w ok β st) {l : Nat} {o : AObj} (h : ORep w ok β l o) (ρ : Nat → Option Nat) {ok1 : Nat → Prop} {β1 : Loc} (hup : ∀ b, ok b → ok1 b)
    (hlent : ∀ l x sz es, β l = some x → ρ l = none → st.h[l]? = some (.arr sz es) → ok1 x.1) (hρ : ∀ l i x, ρ l = some i → β l = some x → β1 i = some x) (l' : Nat) (hl : β1 l' = β l) : ORep w ok1 β1 l' (lowO ρ st.h o) := by
  cases o with
  | box cs =>
    obtain ⟨b, vs, t, fz, h1, h2, h3, h4, h5⟩ := h
    refine ⟨b, vs, t, fz, hl.trans h1, h2, h3, by simpa using h4, fun i v d hi hd => ?_⟩
    rw [List.getElem?_map] at hd
    cases hd0 : cs[i]? with
    | none => simp [hd0] at hd
    | some d0 => simp [hd0] at hd; subst hd; exact (h5 i v d0 hi hd0).low hs ρ hup hlent hρ
  | arr sz es =>
    obtain ⟨h1, h2⟩ := h
    refine ⟨h1, ?_⟩
    rcases h2 with ⟨he, hn⟩ | ⟨hz, b, x, vs, t, fz, k1, k2, k3, k4, k5⟩
    · exact .inl ⟨he, hl.trans hn⟩
    · exact .inr ⟨hz, b, x, vs, t, fz, hl.trans k1, k2, k3, k4, fun k v d hi hd => ⟨(k5 k v d hi hd).1, (k5 k v d hi hd).2.mono hup (fun _ _ => rfl) (fun l x hx => by simp [noLoc] at hx)⟩⟩
  | iter s pos =>
    obtain ⟨b, h1, h2⟩ := h
    exact ⟨b, hl.trans h1, h2⟩
  | dead => trivial
  | buf e bs =>
    rcases h with ⟨h1, h2⟩ | ⟨g, cur, h1, h2, h3⟩
    · exact .inl ⟨h1, hl.trans h2⟩
    · exact .inr ⟨g, cur, hl.trans h1, h2, h3⟩
  | gbuf e bs =>
    rcases h with ⟨h1, h2⟩ | ⟨g, cur, h1, h2, h3⟩
    · exact .inl ⟨h1, hl.trans h2⟩
    · exact .inr ⟨g, cur, hl.trans h1, h2, h3⟩

/-- Rows become shared. -/
theorem SRep.freeze (hs : SRep E C a w ok β st) (F : List Nat) (hF : ∀ l ∈ F, isArr st.h[l]? = true) :
    ∃ ok' β', SRep E C a w ok' β' (st.freeze F) ∧ ∀ v d, Rep w ok β v d → Rep w ok' β' v (d.low (frz F) st.h) := by
  let ok' : Nat → Prop := fun b => ok b ∨ ∃ l x, l ∈ F ∧ β l = some x ∧ x.1 = b
  let β' : Loc := fun l => if F.contains l then none else β l
  have hup : ∀ b, ok b → ok' b := fun b h => .inl h
  have hlent : ∀ l x sz es, β l = some x → frz F l = none → st.h[l]? = some (.arr sz es) → ok' x.1 := fun l x sz es hx hn _ => by
    simp only [frz] at hn
    split at hn
    · rename_i h; exact .inr ⟨l, x, by simpa using h, hx, rfl⟩
    · cases hn
  have hρ : ∀ l i x, frz F l = some i → β l = some x → β' i = some x := fun l i x h hx => by
    simp only [frz] at h
    split at h
    · cases h
    · rename_i hn
      injection h with h; subst h
      simp only [β']
      rw [if_neg hn]; exact hx
  have hrep : ∀ v d, Rep w ok β v d → Rep w ok' β' v (d.low (frz F) st.h) := fun v d r => r.low hs (frz F) hup hlent hρ
  have hβ' : ∀ l x, β' l = some x → l ∉ F ∧ β l = some x := fun l x h => by
    simp only [β'] at h
    split at h
    · cases h
    · rename_i hn; exact ⟨by simpa using hn, h⟩
  have hobj : ∀ l o, st.h[l]? = some o → (st.freeze F).h[l]? = some (frzO F st.h l o) := fun l o h => by simp [St.freeze, h]
  refine ⟨ok', β', ⟨hs.g, ?_, ⟨?_, ?_, ?_, ?_, ?_, ?_⟩, ?_, ?_, fun s => hrep _ _ (hs.fr s), hs.size, hs.defers, hs.base⟩, hrep⟩
  · exact ⟨hs.ev.os, hs.ev.tape, hs.ev.output, hs.ev.size, hs.ev.same, fun l x hx => hs.ev.own l x (hβ' l x hx).2, fun b h => .inl (hs.ev.up b h), fun b h => by
      rcases h with h | ⟨l, x, hl, hx, rfl⟩
      · exact hs.ev.dn b h
      · rcases hs.ev.own l x hx with h | h
        · exact .inr (.inl h)
        · exact .inr (.inr h), hs.ev.shape⟩
  · intro l hl
    have : st.h.length ≤ l := by simpa [St.freeze] using hl
    simp only [β']
    split
    · rfl
    · exact hs.heap.out l this
  · intro l l' b o o' h1 h2; exact hs.heap.inj l l' b o o' (hβ' _ _ h1).2 (hβ' _ _ h2).2
  · intro l b o h1; exact hs.heap.lt l b o (hβ' _ _ h1).2
  · intro l b o h1 hk
    obtain ⟨hn, h1⟩ := hβ' _ _ h1
    rcases hk with hk | ⟨l2, x2, h2, h3, h4⟩
    · exact hs.heap.dis l b o h1 hk
    · have : l2 = l := hs.heap.inj l2 l b x2.2 o (by rw [h3, ← h4]) h1
      exact hn (this ▸ h2)
  · intro b hk
    rcases hk with hk | ⟨l, x, _, hx, rfl⟩
    · exact hs.heap.okl b hk
    · exact (hs.heap.lt l x.1 x.2 hx).2
  · intro l ob hl
    cases ho : st.h[l]? with
    | none => simp [St.freeze, ho] at hl
    | some o =>
      rw [hobj l o ho] at hl
      injection hl with hl; subst hl
      simp only [frzO]
      split
      · trivial
      · rename_i hn
        exact (hs.heap.obj l o ho).low hs (frz F) hup hlent hρ l (by simp only [β']; rw [if_neg hn])
  · intro l cs hl
    obtain ⟨e, cs', hcs⟩ := hs.fix l cs hl
    have hn : F.contains l = false := by
      cases hc : F.contains l with
      | false => rfl
      | true =>
        have := hF l (by simpa using hc)
        rw [hcs] at this
        simp [isArr] at this
    refine ⟨by simp only [β']; rw [hn]; simpa using e, ?_⟩
    rw [hobj l _ hcs]
    simp only [frzO, hn]
    exact ⟨_, rfl⟩
  · have := hs.len; simpa [St.freeze] using this

/-- What a list of values owns becomes shared. -/
theorem shutL_sound (hs : SRep E C a w ok β st) {ds : List DV} {K : List DV → St → Prop} (hk : shutL ds st K) :
    ∃ ds' st' ok' β', K ds' st' ∧ SRep E C a w ok' β' st' ∧ ds'.length = ds.length ∧
      (∀ (vs : List Value), (∀ (i : Nat) v d, vs[i]? = some v → ds[i]? = some d → Rep w ok β v d) → (∀ (i : Nat) v d, vs[i]? = some v → ds'[i]? = some d → Rep w ok' β' v d)) ∧
      (∀ v sz l j q sz' es, Rep w ok β v (.aptr sz l j q) → st'.h[l]? = some (.arr sz' es) → Rep w ok' β' v (.aptr sz l j q)) := by
  unfold shutL at hk
  split at hk
  · exact ⟨ds, st, ok, β, hk, hs, rfl, fun vs hv => hv, fun v sz l j q sz' es h _ => h⟩
  · obtain ⟨ok', β', h1, h2⟩ := hs.freeze ((ds.flatMap DV.owns).filter fun l => isArr st.h[l]?) (fun l hl => (List.mem_filter.1 hl).2)
    refine ⟨_, _, ok', β', hk, h1, by simp, fun vs hv => map_rep fun i v d h3 h4 => h2 _ _ (hv i v d h3 h4), fun v sz l j q sz' es h hl => ?_⟩
    generalize (ds.flatMap DV.owns).filter (fun l => isArr st.h[l]?) = F at *
    have := h2 _ _ h
    simp only [DV.low, frz] at this
    split at this
    · rename_i hn
      split at hn
      · cases hn
      · injection hn with hn; subst hn; exact this
    · rename_i hn
      split at hn
      · rename_i hc
        cases ho : st.h[l]? with
        | none => simp [St.freeze, ho] at hl
        | some o => simp [St.freeze, ho, frzO, List.contains_iff_mem.1 hc] at hl
      · cases hn
end
end Go.Ai
