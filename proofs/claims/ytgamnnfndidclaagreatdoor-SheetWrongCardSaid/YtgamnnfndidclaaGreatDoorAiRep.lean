/- What an abstract value says of a value in memory, and how it is kept while memory grows. -/
import Derived.Calls
import Derived.Orders
import Derived.Below
import Derived.Laws.Sem
import Derived.Laws.World
import Derived.Laws.Cells
import Derived.Laws.Entries
import Derived.ChangeKeysEq
set_option linter.all false
namespace Go.Ai

/-- Values as data: what lies in memory that nobody writes any more stands as a plain list (`sl`); what the running call owns, by its place (`ptr`, `osl`). -/
inductive DV where
  | int (k : IntKind) (n : Int)
  | bool (b : Bool)
  | str (s : List UInt8)
  | agg (l : List DV)
  | tup (l : List DV)
  | nilp
  | ptr (l o : Nat)
  | aptr (sz l j q : Nat)
  | eptr (cs : List DV) (o : Nat)
  | nils (sz : Nat)
  | sl (sz : Nat) (es : List (List DV))
  | osl (sz l off n : Nat) (cap : Option Nat)
  | fn (f : Nat) (caps : List DV)
  | nilfn
  | ifc (t : Nat) (x : List DV)
  | bnd (f : Nat) (x : List DV)
  | nili
  | emp (b : Bool) (sz : Nat)
  | mp (l : Nat)
  | self (l t m : Nat)
  | hdr (m e n : Nat)
  | undef
  deriving Inhabited

abbrev Loc := Nat → Option (Nat × Nat)
def noLoc : Loc := fun _ => none

inductive Rep (w : World) (ok : Nat → Prop) : Loc → Value → DV → Prop
  | int {β : Loc} (k : IntKind) (n : Int) : Rep w ok β (.int k n) (.int k n)
  | bool {β : Loc} (b : Bool) : Rep w ok β (.bool b) (.bool b)
  | str {β : Loc} (s : ByteArray) : Rep w ok β (.string s) (.str s.data.toList)
  | agg {β : Loc} (vs : List Value) (ds : List DV) (hl : vs.length = ds.length)
      (h : ∀ (i : Nat) v d, vs[i]? = some v → ds[i]? = some d → Rep w ok β v d) : Rep w ok β (.agg vs.toArray) (.agg ds)
  | tup {β : Loc} (vs : List Value) (ds : List DV) (hl : vs.length = ds.length)
      (h : ∀ (i : Nat) v d, vs[i]? = some v → ds[i]? = some d → Rep w ok β v d) : Rep w ok β (.tuple vs.toArray) (.tup ds)
  | nilp {β : Loc} : Rep w ok β (.pointer none) .nilp
  | ptr {β : Loc} (l o b x : Nat) (h : β l = some (b, x)) : Rep w ok β (.pointer (some ⟨b, x + o, none⟩)) (.ptr l o)
  | aptr {β : Loc} (sz l j q b x : Nat) (h : β l = some (b, x)) : Rep w ok β (.pointer (some ⟨b, x + (j * sz + q), none⟩)) (.aptr sz l j q)
  | eptr {β : Loc} (cs : List DV) (o b x : Nat) (vs : Nat → Value) (hok : ok b)
      (hc : ∀ k, k < cs.length → w.cell? ⟨b, x + k, none⟩ = some (vs k))
      (h : ∀ (k : Nat) d, cs[k]? = some d → Rep w ok noLoc (vs k) d) : Rep w ok β (.pointer (some ⟨b, x + o, none⟩)) (.eptr cs o)
  | nils {β : Loc} (sz : Nat) (hz : 0 < sz) : Rep w ok β (.slice none 0 0) (.nils sz)
  | sl {β : Loc} (A : Option Addr) (n c sz : Nat) (es : List (List DV)) (b x : Nat) (vs : Nat → Value) (hn : n = es.length) (hnc : n ≤ c) (hsz : 0 < sz)
      (hes : ∀ e ∈ es, e.length = sz) (hA : 0 < n → A = some ⟨b, x, none⟩ ∧ ok b)
      (hc : ∀ k, k < n * sz → w.cell? ⟨b, x + k, none⟩ = some (vs k)) (h1 : ∀ k, k < n * sz → (vs k).oneCell' = true)
      (h : ∀ (k : Nat) d, es.flatten[k]? = some d → Rep w ok noLoc (vs k) d) : Rep w ok β (.slice A n c) (.sl sz es)
  | oslnil {β : Loc} (sz l off : Nat) (cap : Option Nat) (hcap : ∀ k, cap = some k → k = 0) (hz : 0 < sz) : Rep w ok β (.slice none 0 0) (.osl sz l off 0 cap)
  | osl {β : Loc} (sz l off n c b x y t m : Nat) (hb : β l = some (b, x)) (hnc : n ≤ c) (hsz : 0 < sz) (hy : 0 < c → y = x + off * sz)
      (hm : w.shape? b = some (t, m)) (hr : 0 < c → x + (off + c) * sz ≤ m)
      (cap : Option Nat) (hcap : ∀ k, cap = some k → c = k) : Rep w ok β (.slice (some ⟨b, y, none⟩) n c) (.osl sz l off n cap)
  | fn {β : Loc} (f : Nat) (vs : List Value) (ds : List DV) (hl : vs.length = ds.length)
      (h : ∀ (i : Nat) v d, vs[i]? = some v → ds[i]? = some d → Rep w ok β v d) : Rep w ok β (.func (.func f) #[] vs.toArray) (.fn f ds)
  | bnd {β : Loc} (f : Nat) (vs : List Value) (ds : List DV) (hl : vs.length = ds.length)
      (h : ∀ (i : Nat) v d, vs[i]? = some v → ds[i]? = some d → Rep w ok β v d) : Rep w ok β (.func (.func f) vs.toArray #[]) (.bnd f ds)
  | nilfn {β : Loc} : Rep w ok β .nilFunc .nilfn
  | ifc {β : Loc} (f : Nat) (u : Value) (ds : List DV) (hl : [u].length = ds.length)
      (h : ∀ (i : Nat) v d, [u][i]? = some v → ds[i]? = some d → Rep w ok β v d) : Rep w ok β (.iface f u) (.ifc f ds)
  | nili {β : Loc} : Rep w ok β .nilIface .nili
  | emp0 {β : Loc} (c sz : Nat) : Rep w ok β (.slice none 0 c) (.emp true sz)
  | mp {β : Loc} (l b : Nat) (h : β l = some (b, 0)) : Rep w ok β (.map (some b)) (.mp l)
  | emp1 {β : Loc} (A : Addr) (c sz : Nat) : Rep w ok β (.slice (some A) 0 c) (.emp false sz)
  | selfn {β : Loc} (l t m b : Nat) (hb : β l = some (b, 0)) (hm : w.shape? b = some (t, m)) : Rep w ok β (.pointer none) (.self l t m)
  | selfp {β : Loc} (l t m b : Nat) (hb : β l = some (b, 0)) (hm : w.shape? b = some (t, m)) : Rep w ok β (.pointer (some ⟨b, 0, none⟩)) (.self l t m)
  | hdrn {β : Loc} (m e : Nat) : Rep w ok β (.slice none 0 0) (.hdr m e 0)
  | hdrs {β : Loc} (m e n g cap : Nat) (hb : β m = some (g, 0)) (hm : w.shape? g = some (e, cap)) (hnc : n ≤ cap) (hcm : cap ≤ maxLen) (hc0 : 0 < cap) : Rep w ok β (.slice (some ⟨g, 0, none⟩) n cap) (.hdr m e n)
  | undef {β : Loc} (v : Value) : Rep w ok β v .undef

/-- Kept: what is shared lies as it lay, and what is owned has its place and its size. -/
theorem Rep.mono {w w' : World} {ok ok' : Nat → Prop} {β : Loc} {v : Value} {d : DV} (h : Rep w ok β v d)
    (hok : ∀ b, ok b → ok' b) (hc : ∀ b, ok b → w'.heap[b]? = w.heap[b]?) :
    ∀ {β' : Loc}, (∀ l x, β l = some x → β' l = some x ∧ w'.shape? x.1 = w.shape? x.1) → Rep w' ok' β' v d := by
  have hcell : ∀ b x, ok b → w'.cell? ⟨b, x, none⟩ = w.cell? ⟨b, x, none⟩ := fun b x hb => by simp [World.cell?, hc b hb]
  induction h with
  | int k n => exact fun _ => .int k n
  | bool b => exact fun _ => .bool b
  | str s => exact fun _ => .str s
  | agg vs ds hl _ ih => exact fun hβ => .agg vs ds hl fun i v d h1 h2 => ih i v d h1 h2 hβ
  | tup vs ds hl _ ih => exact fun hβ => .tup vs ds hl fun i v d h1 h2 => ih i v d h1 h2 hβ
  | nilp => exact fun _ => .nilp
  | ptr l o b x h => exact fun hβ => .ptr l o b x (hβ l _ h).1
  | mp l b h => exact fun hβ => .mp l b (hβ l _ h).1
  | aptr sz l j q b x h => exact fun hβ => .aptr sz l j q b x (hβ l _ h).1
  | eptr cs o b x vs hb hcs _ ih =>
    exact fun _ => .eptr cs o b x vs (hok b hb) (fun k hk => (hcell b _ hb).trans (hcs k hk)) fun k d hd => ih k d hd (fun l x hx => by simp [noLoc] at hx)
  | nils sz hz => exact fun _ => .nils sz hz
  | sl A n c sz es b x vs hn hnc hsz hes hA hcs h1 _ ih =>
    intro β' _
    refine .sl A n c sz es b x vs hn hnc hsz hes (fun hp => ⟨(hA hp).1, hok b (hA hp).2⟩) (fun k hk => ?_) h1 fun k d hd => ih k d hd (fun l x hx => by simp [noLoc] at hx)
    have hp : 0 < n := by
      rcases Nat.eq_zero_or_pos n with h0 | h0
      · subst h0; simp at hk
      · exact h0
    exact (hcell b _ (hA hp).2).trans (hcs k hk)
  | oslnil sz l off cap hcap hz => exact fun _ => .oslnil sz l off cap hcap hz
  | osl sz l off n c b x y t m hb hnc hsz hy hm hr cap hcap => exact fun hβ => .osl sz l off n c b x y t m (hβ l _ hb).1 hnc hsz hy ((hβ l _ hb).2.trans hm) hr cap hcap
  | fn f vs ds hl _ ih => exact fun hβ => .fn f vs ds hl fun i v d h1 h2 => ih i v d h1 h2 hβ
  | bnd f vs ds hl _ ih => exact fun hβ => .bnd f vs ds hl fun i v d h1 h2 => ih i v d h1 h2 hβ
  | ifc f u ds hl _ ih => exact fun hβ => .ifc f u ds hl fun i v d h1 h2 => ih i v d h1 h2 hβ
  | nilfn => exact fun _ => .nilfn
  | nili => exact fun _ => .nili
  | emp0 c sz => exact fun _ => .emp0 c sz
  | emp1 A c sz => exact fun _ => .emp1 A c sz
  | selfn l t m b hb hm => exact fun hβ => .selfn l t m b (hβ l _ hb).1 ((hβ l _ hb).2.trans hm)
  | selfp l t m b hb hm => exact fun hβ => .selfp l t m b (hβ l _ hb).1 ((hβ l _ hb).2.trans hm)
  | hdrn m e => exact fun _ => .hdrn m e
  | hdrs m e n g cap hb hm hnc hcm hc0 => exact fun hβ => .hdrs m e n g cap (hβ m _ hb).1 ((hβ m _ hb).2.trans hm) hnc hcm hc0
  | undef v => exact fun _ => .undef v

/-- No place of the running call's own stands in it. -/
def DV.closed : DV → Bool
  | .ptr _ _ | .aptr _ _ _ _ | .osl _ _ _ _ _ | .self _ _ _ | .hdr _ _ _ | .mp _ | .undef => false
  | .agg l | .tup l | .fn _ l | .ifc _ l | .bnd _ l => closedAll l
  | _ => true
where closedAll : List DV → Bool
  | [] => true
  | d :: l => d.closed && closedAll l

theorem closedAll_get : ∀ (l : List DV), DV.closed.closedAll l = true → ∀ (i : Nat) d, l[i]? = some d → d.closed = true
  | [], _, i, d, h => by simp at h
  | x :: l, hc, i, d, h => by
    simp only [DV.closed.closedAll, Bool.and_eq_true] at hc
    cases i with
    | zero => simp at h; subst h; exact hc.1
    | succ i => exact closedAll_get l hc.2 i d (by simpa using h)

theorem Rep.shut {w : World} {ok : Nat → Prop} {β : Loc} {v : Value} {d : DV} (h : Rep w ok β v d) : d.closed = true → ∀ {β' : Loc}, Rep w ok β' v d := by
  induction h with
  | int k n => exact fun _ => .int k n
  | bool b => exact fun _ => .bool b
  | str s => exact fun _ => .str s
  | agg vs ds hl _ ih => exact fun hc => .agg vs ds hl fun i v d h1 h2 => ih i v d h1 h2 (closedAll_get ds (by simpa [DV.closed] using hc) i d h2)
  | tup vs ds hl _ ih => exact fun hc => .tup vs ds hl fun i v d h1 h2 => ih i v d h1 h2 (closedAll_get ds (by simpa [DV.closed] using hc) i d h2)
  | nilp => exact fun _ => .nilp
  | ptr l o b x h => exact fun hc => by simp [DV.closed] at hc
  | mp l b h => exact fun hc => by simp [DV.closed] at hc
  | aptr sz l j q b x h => exact fun hc => by simp [DV.closed] at hc
  | eptr cs o b x vs hb hcs h _ => exact fun _ => .eptr cs o b x vs hb hcs h
  | nils sz hz => exact fun _ => .nils sz hz
  | sl A n c sz es b x vs hn hnc hsz hes hA hcs h1 h _ => exact fun _ => .sl A n c sz es b x vs hn hnc hsz hes hA hcs h1 h
  | oslnil sz l off cap => exact fun hc => by simp [DV.closed] at hc
  | osl sz l off n c b x y t m => exact fun hc => by simp [DV.closed] at hc
  | fn f vs ds hl _ ih => exact fun hc => .fn f vs ds hl fun i v d h1 h2 => ih i v d h1 h2 (closedAll_get ds (by simpa [DV.closed] using hc) i d h2)
  | bnd f vs ds hl _ ih => exact fun hc => .bnd f vs ds hl fun i v d h1 h2 => ih i v d h1 h2 (closedAll_get ds (by simpa [DV.closed] using hc) i d h2)
  | ifc f u ds hl _ ih => exact fun hc => .ifc f u ds hl fun i v d h1 h2 => ih i v d h1 h2 (closedAll_get ds (by simpa [DV.closed] using hc) i d h2)
  | nilfn => exact fun _ => .nilfn
  | nili => exact fun _ => .nili
  | emp0 c sz => exact fun _ => .emp0 c sz
  | emp1 A c sz => exact fun _ => .emp1 A c sz
  | selfn l t m b => exact fun hc => by simp [DV.closed] at hc
  | selfp l t m b => exact fun hc => by simp [DV.closed] at hc
  | hdrn m e => exact fun hc => by simp [DV.closed] at hc
  | hdrs m e n g cap => exact fun hc => by simp [DV.closed] at hc
  | undef v => exact fun hc => by simp [DV.closed] at hc


/-- What leads to the places that p names is forgotten. -/
def DV.kill (p : Nat → Bool) : DV → DV
  | .ptr l o => if p l then .undef else .ptr l o
  | .mp l => if p l then .undef else .mp l
  | .aptr sz l j q => if p l then .undef else .aptr sz l j q
  | .osl sz l off n c => if p l then .undef else .osl sz l off n c
  | .self l t m => if p l then .undef else .self l t m
  | .hdr m e n => if p m then .undef else .hdr m e n
  | .agg l => .agg (killAll p l)
  | .tup l => .tup (killAll p l)
  | .fn f l => .fn f (killAll p l)
  | .ifc f l => .ifc f (killAll p l)
  | .bnd f l => .bnd f (killAll p l)
  | d => d
where killAll (p : Nat → Bool) : List DV → List DV
  | [] => []
  | d :: l => d.kill p :: killAll p l

theorem killAll_map (p : Nat → Bool) : ∀ l : List DV, DV.kill.killAll p l = l.map (DV.kill p)
  | [] => rfl
  | d :: l => by simp [DV.kill.killAll, killAll_map p l]

theorem Rep.kill {w w' : World} {ok ok' : Nat → Prop} {β : Loc} {v : Value} {d : DV} (h : Rep w ok β v d) (p : Nat → Bool)
    (hok : ∀ b, ok b → ok' b) (hc : ∀ b, ok b → w'.heap[b]? = w.heap[b]?) :
    ∀ {β' : Loc}, (∀ l x, p l = false → β l = some x → β' l = some x ∧ w'.shape? x.1 = w.shape? x.1) → Rep w' ok' β' v (d.kill p) := by
  have hcell : ∀ b x, ok b → w'.cell? ⟨b, x, none⟩ = w.cell? ⟨b, x, none⟩ := fun b x hb => by simp [World.cell?, hc b hb]
  induction h with
  | int k n => exact fun _ => .int k n
  | bool b => exact fun _ => .bool b
  | str s => exact fun _ => .str s
  | agg vs ds hl _ ih =>
    intro β' hβ
    rw [DV.kill, killAll_map]
    refine .agg vs _ (by simpa using hl) fun i v d h1 h2 => ?_
    rw [List.getElem?_map] at h2
    cases hd : ds[i]? with
    | none => simp [hd] at h2
    | some d0 => simp [hd] at h2; subst h2; exact ih i v d0 h1 hd hβ
  | tup vs ds hl _ ih =>
    intro β' hβ
    rw [DV.kill, killAll_map]
    refine .tup vs _ (by simpa using hl) fun i v d h1 h2 => ?_
    rw [List.getElem?_map] at h2
    cases hd : ds[i]? with
    | none => simp [hd] at h2
    | some d0 => simp [hd] at h2; subst h2; exact ih i v d0 h1 hd hβ
  | nilp => exact fun _ => .nilp
  | ptr l o b x h =>
    intro β' hβ
    simp only [DV.kill]
    split
    · exact .undef _
    · rename_i hp; exact .ptr l o b x (hβ l _ (by simpa using hp) h).1
  | mp l b h =>
    intro β' hβ
    simp only [DV.kill]
    split
    · exact .undef _
    · rename_i hp; exact .mp l b (hβ l _ (by simpa using hp) h).1
  | aptr sz l j q b x h =>
    intro β' hβ
    simp only [DV.kill]
    split
    · exact .undef _
    · rename_i hp; exact .aptr sz l j q b x (hβ l _ (by simpa using hp) h).1
  | eptr cs o b x vs hb hcs hr _ =>
    exact fun _ => .eptr cs o b x vs (hok b hb) (fun k hk => (hcell b _ hb).trans (hcs k hk)) fun k d hd => (hr k d hd).mono hok hc (fun l x hx => by simp [noLoc] at hx)
  | nils sz hz => exact fun _ => .nils sz hz
  | sl A n c sz es b x vs hn hnc hsz hes hA hcs h1 hr _ =>
    intro β' _
    refine .sl A n c sz es b x vs hn hnc hsz hes (fun hp => ⟨(hA hp).1, hok b (hA hp).2⟩) (fun k hk => ?_) h1 fun k d hd => (hr k d hd).mono hok hc (fun l x hx => by simp [noLoc] at hx)
    have hp : 0 < n := by
      rcases Nat.eq_zero_or_pos n with h0 | h0
      · subst h0; simp at hk
      · exact h0
    exact (hcell b _ (hA hp).2).trans (hcs k hk)
  | oslnil sz l off cap hcap hz =>
    intro β' _
    simp only [DV.kill]
    split
    · exact .undef _
    · exact .oslnil sz l off cap hcap hz
  | osl sz l off n c b x y t m hb hnc hsz hy hm hr cap hcap =>
    intro β' hβ
    simp only [DV.kill]
    split
    · exact .undef _
    · rename_i hp
      have := hβ l _ (by simpa using hp) hb
      exact .osl sz l off n c b x y t m this.1 hnc hsz hy (this.2.trans hm) hr cap hcap
  | fn f vs ds hl _ ih =>
    intro β' hβ
    rw [DV.kill, killAll_map]
    refine .fn f vs _ (by simpa using hl) fun i v d h1 h2 => ?_
    rw [List.getElem?_map] at h2
    cases hd : ds[i]? with
    | none => simp [hd] at h2
    | some d0 => simp [hd] at h2; subst h2; exact ih i v d0 h1 hd hβ
  | bnd f vs ds hl _ ih =>
    intro β' hβ
    rw [DV.kill, killAll_map]
    refine .bnd f vs _ (by simpa using hl) fun i v d h1 h2 => ?_
    rw [List.getElem?_map] at h2
    cases hd : ds[i]? with
    | none => simp [hd] at h2
    | some d0 => simp [hd] at h2; subst h2; exact ih i v d0 h1 hd hβ
  | ifc f u ds hl _ ih =>
    intro β' hβ
    rw [DV.kill, killAll_map]
    refine .ifc f u _ (by simpa using hl) fun i v d h1 h2 => ?_
    rw [List.getElem?_map] at h2
    cases hd : ds[i]? with
    | none => simp [hd] at h2
    | some d0 => simp [hd] at h2; subst h2; exact ih i v d0 h1 hd hβ
  | nilfn => exact fun _ => .nilfn
  | nili => exact fun _ => .nili
  | emp0 c sz => exact fun _ => .emp0 c sz
  | emp1 A c sz => exact fun _ => .emp1 A c sz
  | selfn l t m b hb hm =>
    intro β' hβ
    simp only [DV.kill]
    split
    · exact .undef _
    · rename_i hp
      have := hβ l _ (by simpa using hp) hb
      exact .selfn l t m b this.1 (this.2.trans hm)
  | selfp l t m b hb hm =>
    intro β' hβ
    simp only [DV.kill]
    split
    · exact .undef _
    · rename_i hp
      have := hβ l _ (by simpa using hp) hb
      exact .selfp l t m b this.1 (this.2.trans hm)
  | hdrn m e =>
    intro β' hβ
    simp only [DV.kill]
    split
    · exact .undef _
    · exact .hdrn m e
  | hdrs m e n g cap hb hm hnc hcm hc0 =>
    intro β' hβ
    simp only [DV.kill]
    split
    · exact .undef _
    · rename_i hp
      have := hβ m _ (by simpa using hp) hb
      exact .hdrs m e n g cap this.1 (this.2.trans hm) hnc hcm hc0
  | undef v => exact fun _ => .undef v


/-- What leads to no place of the call's own is so wherever these lie. -/
theorem Rep.shut_none {w : World} {ok : Nat → Prop} {v : Value} {d : DV} (h : Rep w ok noLoc v d) {β' : Loc} : Rep w ok β' v d :=
  h.mono (fun _ h => h) (fun _ _ => rfl) (fun l x hx => by simp [noLoc] at hx)

end Go.Ai
