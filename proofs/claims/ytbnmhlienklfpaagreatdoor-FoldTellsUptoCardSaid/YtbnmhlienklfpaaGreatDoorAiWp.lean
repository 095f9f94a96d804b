/- What an abstract value says of a value in memory, and how it is kept while memory grows. -/
import Derived.Calls
import Derived.Orders
import Derived.Below
import Derived.Laws.Sem
import Derived.Laws.World
import Derived.Laws.Cells
import Derived.Laws.Entries
import Derived.ChangeKeysEq
import Derived.Laws.NewFold
set_option linter.all false
namespace Go.Ai

/-- Values as data: what lies in memory that nobody writes any more stands as a plain list (`sl`); what the running call owns, by its place (`ptr`, `osl`). -/
inductive DV where
  | int (k : IntKind) (n : Int)
  | bool (b : Bool)
  | str (s : List UInt8)
  | agg (l : List DV)
  | tup (l : List DV)
  | nilp
  | ptr (l o : Nat)
  | aptr (sz l j q : Nat)
  | eptr (cs : List DV) (o : Nat)
  | nils (sz : Nat)
  | sl (sz : Nat) (es : List (List DV))
  | osl (sz l off n : Nat) (cap : Option Nat)
  | fn (f : Nat) (caps : List DV)
  | nilfn
  | ifc (t : Nat) (x : List DV)
  | bnd (f : Nat) (x : List DV)
  | nili
  | emp (b : Bool) (sz : Nat)
  | self (l t m : Nat)
  | hdr (m e n : Nat)
  | undef
  deriving Inhabited

abbrev Loc := Nat → Option (Nat × Nat)
def noLoc : Loc := fun _ => none

inductive Rep (w : World) (ok : Nat → Prop) : Loc → Value → DV → Prop
  | int {β : Loc} (k : IntKind) (n : Int) : Rep w ok β (.int k n) (.int k n)
  | bool {β : Loc} (b : Bool) : Rep w ok β (.bool b) (.bool b)
  | str {β : Loc} (s : ByteArray) : Rep w ok β (.string s) (.str s.data.toList)
  | agg {β : Loc} (vs : List Value) (ds : List DV) (hl : vs.length = ds.length)
      (h : ∀ (i : Nat) v d, vs[i]? = some v → ds[i]? = some d → Rep w ok β v d) : Rep w ok β (.agg vs.toArray) (.agg ds)
  | tup {β : Loc} (vs : List Value) (ds : List DV) (hl : vs.length = ds.length)
      (h : ∀ (i : Nat) v d, vs[i]? = some v → ds[i]? = some d → Rep w ok β v d) : Rep w ok β (.tuple vs.toArray) (.tup ds)
  | nilp {β : Loc} : Rep w ok β (.pointer none) .nilp
  | ptr {β : Loc} (l o b x : Nat) (h : β l = some (b, x)) : Rep w ok β (.pointer (some ⟨b, x + o, none⟩)) (.ptr l o)
  | aptr {β : Loc} (sz l j q b x : Nat) (h : β l = some (b, x)) : Rep w ok β (.pointer (some ⟨b, x + (j * sz + q), none⟩)) (.aptr sz l j q)
  | eptr {β : Loc} (cs : List DV) (o b x : Nat) (vs : Nat → Value) (hok : ok b)
      (hc : ∀ k, k < cs.length → w.cell? ⟨b, x + k, none⟩ = some (vs k))
      (h : ∀ (k : Nat) d, cs[k]? = some d → Rep w ok noLoc (vs k) d) : Rep w ok β (.pointer (some ⟨b, x + o, none⟩)) (.eptr cs o)
  | nils {β : Loc} (sz : Nat) (hz : 0 < sz) : Rep w ok β (.slice none 0 0) (.nils sz)
  | sl {β : Loc} (A : Option Addr) (n c sz : Nat) (es : List (List DV)) (b x : Nat) (vs : Nat → Value) (hn : n = es.length) (hnc : n ≤ c) (hsz : 0 < sz)
      (hes : ∀ e ∈ es, e.length = sz) (hA : 0 < n → A = some ⟨b, x, none⟩ ∧ ok b)
      (hc : ∀ k, k < n * sz → w.cell? ⟨b, x + k, none⟩ = some (vs k)) (h1 : ∀ k, k < n * sz → (vs k).oneCell' = true)
      (h : ∀ (k : Nat) d, es.flatten[k]? = some d → Rep w ok noLoc (vs k) d) : Rep w ok β (.slice A n c) (.sl sz es)
  | oslnil {β : Loc} (sz l off : Nat) (cap : Option Nat) (hcap : ∀ k, cap = some k → k = 0) (hz : 0 < sz) : Rep w ok β (.slice none 0 0) (.osl sz l off 0 cap)
  | osl {β : Loc} (sz l off n c b x y t m : Nat) (hb : β l = some (b, x)) (hnc : n ≤ c) (hsz : 0 < sz) (hy : 0 < c → y = x + off * sz)
      (hm : w.shape? b = some (t, m)) (hr : 0 < c → x + (off + c) * sz ≤ m)
      (cap : Option Nat) (hcap : ∀ k, cap = some k → c = k) : Rep w ok β (.slice (some ⟨b, y, none⟩) n c) (.osl sz l off n cap)
  | fn {β : Loc} (f : Nat) (vs : List Value) (ds : List DV) (hl : vs.length = ds.length)
      (h : ∀ (i : Nat) v d, vs[i]? = some v → ds[i]? = some d → Rep w ok β v d) : Rep w ok β (.func (.func f) #[] vs.toArray) (.fn f ds)
  | bnd {β : Loc} (f : Nat) (vs : List Value) (ds : List DV) (hl : vs.length = ds.length)
      (h : ∀ (i : Nat) v d, vs[i]? = some v → ds[i]? = some d → Rep w ok β v d) : Rep w ok β (.func (.func f) vs.toArray #[]) (.bnd f ds)
  | nilfn {β : Loc} : Rep w ok β .nilFunc .nilfn
  | ifc {β : Loc} (f : Nat) (u : Value) (ds : List DV) (hl : [u].length = ds.length)
      (h : ∀ (i : Nat) v d, [u][i]? = some v → ds[i]? = some d → Rep w ok β v d) : Rep w ok β (.iface f u) (.ifc f ds)
  | nili {β : Loc} : Rep w ok β .nilIface .nili
  | emp0 {β : Loc} (sz : Nat) : Rep w ok β (.slice none 0 0) (.emp true sz)
  | emp1 {β : Loc} (A : Addr) (c sz : Nat) : Rep w ok β (.slice (some A) 0 c) (.emp false sz)
  | selfn {β : Loc} (l t m b : Nat) (hb : β l = some (b, 0)) (hm : w.shape? b = some (t, m)) : Rep w ok β (.pointer none) (.self l t m)
  | selfp {β : Loc} (l t m b : Nat) (hb : β l = some (b, 0)) (hm : w.shape? b = some (t, m)) : Rep w ok β (.pointer (some ⟨b, 0, none⟩)) (.self l t m)
  | hdrn {β : Loc} (m e : Nat) : Rep w ok β (.slice none 0 0) (.hdr m e 0)
  | hdrs {β : Loc} (m e n g cap : Nat) (hb : β m = some (g, 0)) (hm : w.shape? g = some (e, cap)) (hnc : n ≤ cap) (hcm : cap ≤ maxLen) (hc0 : 0 < cap) : Rep w ok β (.slice (some ⟨g, 0, none⟩) n cap) (.hdr m e n)
  | undef {β : Loc} (v : Value) : Rep w ok β v .undef

/-- Kept: what is shared lies as it lay, and what is owned has its place and its size. -/
theorem Rep.mono {w w' : World} {ok ok' : Nat → Prop} {β : Loc} {v : Value} {d : DV} (h : Rep w ok β v d)
    (hok : ∀ b, ok b → ok' b) (hc : ∀ b, ok b → w'.heap[b]? = w.heap[b]?) :
    ∀ {β' : Loc}, (∀ l x, β l = some x → β' l = some x ∧ w'.shape? x.1 = w.shape? x.1) → Rep w' ok' β' v d := by
  have hcell : ∀ b x, ok b → w'.cell? ⟨b, x, none⟩ = w.cell? ⟨b, x, none⟩ := fun b x hb => by simp [World.cell?, hc b hb]
  induction h with
  | int k n => exact fun _ => .int k n
  | bool b => exact fun _ => .bool b
  | str s => exact fun _ => .str s
  | agg vs ds hl _ ih => exact fun hβ => .agg vs ds hl fun i v d h1 h2 => ih i v d h1 h2 hβ
  | tup vs ds hl _ ih => exact fun hβ => .tup vs ds hl fun i v d h1 h2 => ih i v d h1 h2 hβ
  | nilp => exact fun _ => .nilp
  | ptr l o b x h => exact fun hβ => .ptr l o b x (hβ l _ h).1
  | aptr sz l j q b x h => exact fun hβ => .aptr sz l j q b x (hβ l _ h).1
  | eptr cs o b x vs hb hcs _ ih =>
    exact fun _ => .eptr cs o b x vs (hok b hb) (fun k hk => (hcell b _ hb).trans (hcs k hk)) fun k d hd => ih k d hd (fun l x hx => by simp [noLoc] at hx)
  | nils sz hz => exact fun _ => .nils sz hz
  | sl A n c sz es b x vs hn hnc hsz hes hA hcs h1 _ ih =>
    intro β' _
    refine .sl A n c sz es b x vs hn hnc hsz hes (fun hp => ⟨(hA hp).1, hok b (hA hp).2⟩) (fun k hk => ?_) h1 fun k d hd => ih k d hd (fun l x hx => by simp [noLoc] at hx)
    have hp : 0 < n := by
      rcases Nat.eq_zero_or_pos n with h0 | h0
      · subst h0; simp at hk
      · exact h0
    exact (hcell b _ (hA hp).2).trans (hcs k hk)
  | oslnil sz l off cap hcap hz => exact fun _ => .oslnil sz l off cap hcap hz
  | osl sz l off n c b x y t m hb hnc hsz hy hm hr cap hcap => exact fun hβ => .osl sz l off n c b x y t m (hβ l _ hb).1 hnc hsz hy ((hβ l _ hb).2.trans hm) hr cap hcap
  | fn f vs ds hl _ ih => exact fun hβ => .fn f vs ds hl fun i v d h1 h2 => ih i v d h1 h2 hβ
  | bnd f vs ds hl _ ih => exact fun hβ => .bnd f vs ds hl fun i v d h1 h2 => ih i v d h1 h2 hβ
  | ifc f u ds hl _ ih => exact fun hβ => .ifc f u ds hl fun i v d h1 h2 => ih i v d h1 h2 hβ
  | nilfn => exact fun _ => .nilfn
  | nili => exact fun _ => .nili
  | emp0 sz => exact fun _ => .emp0 sz
  | emp1 A c sz => exact fun _ => .emp1 A c sz
  | selfn l t m b hb hm => exact fun hβ => .selfn l t m b (hβ l _ hb).1 ((hβ l _ hb).2.trans hm)
  | selfp l t m b hb hm => exact fun hβ => .selfp l t m b (hβ l _ hb).1 ((hβ l _ hb).2.trans hm)
  | hdrn m e => exact fun _ => .hdrn m e
  | hdrs m e n g cap hb hm hnc hcm hc0 => exact fun hβ => .hdrs m e n g cap (hβ m _ hb).1 ((hβ m _ hb).2.trans hm) hnc hcm hc0
  | undef v => exact fun _ => .undef v

/-- No place of the running call's own stands in it. -/
def DV.closed : DV → Bool
  | .ptr _ _ | .aptr _ _ _ _ | .osl _ _ _ _ _ | .self _ _ _ | .hdr _ _ _ | .undef => false
  | .agg l | .tup l | .fn _ l | .ifc _ l | .bnd _ l => closedAll l
  | _ => true
where closedAll : List DV → Bool
  | [] => true
  | d :: l => d.closed && closedAll l

theorem closedAll_get : ∀ (l : List DV), DV.closed.closedAll l = true → ∀ (i : Nat) d, l[i]? = some d → d.closed = true
  | [], _, i, d, h => by simp at h
  | x :: l, hc, i, d, h => by
    simp only [DV.closed.closedAll, Bool.and_eq_true] at hc
    cases i with
    | zero => simp at h; subst h; exact hc.1
    | succ i => exact closedAll_get l hc.2 i d (by simpa using h)

theorem Rep.shut {w : World} {ok : Nat → Prop} {β : Loc} {v : Value} {d : DV} (h : Rep w ok β v d) : d.closed = true → ∀ {β' : Loc}, Rep w ok β' v d := by
  induction h with
  | int k n => exact fun _ => .int k n
  | bool b => exact fun _ => .bool b
  | str s => exact fun _ => .str s
  | agg vs ds hl _ ih => exact fun hc => .agg vs ds hl fun i v d h1 h2 => ih i v d h1 h2 (closedAll_get ds (by simpa [DV.closed] using hc) i d h2)
  | tup vs ds hl _ ih => exact fun hc => .tup vs ds hl fun i v d h1 h2 => ih i v d h1 h2 (closedAll_get ds (by simpa [DV.closed] using hc) i d h2)
  | nilp => exact fun _ => .nilp
  | ptr l o b x h => exact fun hc => by simp [DV.closed] at hc
  | aptr sz l j q b x h => exact fun hc => by simp [DV.closed] at hc
  | eptr cs o b x vs hb hcs h _ => exact fun _ => .eptr cs o b x vs hb hcs h
  | nils sz hz => exact fun _ => .nils sz hz
  | sl A n c sz es b x vs hn hnc hsz hes hA hcs h1 h _ => exact fun _ => .sl A n c sz es b x vs hn hnc hsz hes hA hcs h1 h
  | oslnil sz l off cap => exact fun hc => by simp [DV.closed] at hc
  | osl sz l off n c b x y t m => exact fun hc => by simp [DV.closed] at hc
  | fn f vs ds hl _ ih => exact fun hc => .fn f vs ds hl fun i v d h1 h2 => ih i v d h1 h2 (closedAll_get ds (by simpa [DV.closed] using hc) i d h2)
  | bnd f vs ds hl _ ih => exact fun hc => .bnd f vs ds hl fun i v d h1 h2 => ih i v d h1 h2 (closedAll_get ds (by simpa [DV.closed] using hc) i d h2)
  | ifc f u ds hl _ ih => exact fun hc => .ifc f u ds hl fun i v d h1 h2 => ih i v d h1 h2 (closedAll_get ds (by simpa [DV.closed] using hc) i d h2)
  | nilfn => exact fun _ => .nilfn
  | nili => exact fun _ => .nili
  | emp0 sz => exact fun _ => .emp0 sz
  | emp1 A c sz => exact fun _ => .emp1 A c sz
  | selfn l t m b => exact fun hc => by simp [DV.closed] at hc
  | selfp l t m b => exact fun hc => by simp [DV.closed] at hc
  | hdrn m e => exact fun hc => by simp [DV.closed] at hc
  | hdrs m e n g cap => exact fun hc => by simp [DV.closed] at hc
  | undef v => exact fun hc => by simp [DV.closed] at hc


/-- What leads to the places that p names is forgotten. -/
def DV.kill (p : Nat → Bool) : DV → DV
  | .ptr l o => if p l then .undef else .ptr l o
  | .aptr sz l j q => if p l then .undef else .aptr sz l j q
  | .osl sz l off n c => if p l then .undef else .osl sz l off n c
  | .self l t m => if p l then .undef else .self l t m
  | .hdr m e n => if p m then .undef else .hdr m e n
  | .agg l => .agg (killAll p l)
  | .tup l => .tup (killAll p l)
  | .fn f l => .fn f (killAll p l)
  | .ifc f l => .ifc f (killAll p l)
  | .bnd f l => .bnd f (killAll p l)
  | d => d
where killAll (p : Nat → Bool) : List DV → List DV
  | [] => []
  | d :: l => d.kill p :: killAll p l

theorem killAll_map (p : Nat → Bool) : ∀ l : List DV, DV.kill.killAll p l = l.map (DV.kill p)
  | [] => rfl
  | d :: l => by simp [DV.kill.killAll, killAll_map p l]

theorem Rep.kill {w w' : World} {ok ok' : Nat → Prop} {β : Loc} {v : Value} {d : DV} (h : Rep w ok β v d) (p : Nat → Bool)
    (hok : ∀ b, ok b → ok' b) (hc : ∀ b, ok b → w'.heap[b]? = w.heap[b]?) :
    ∀ {β' : Loc}, (∀ l x, p l = false → β l = some x → β' l = some x ∧ w'.shape? x.1 = w.shape? x.1) → Rep w' ok' β' v (d.kill p) := by
  have hcell : ∀ b x, ok b → w'.cell? ⟨b, x, none⟩ = w.cell? ⟨b, x, none⟩ := fun b x hb => by simp [World.cell?, hc b hb]
  induction h with
  | int k n => exact fun _ => .int k n
  | bool b => exact fun _ => .bool b
  | str s => exact fun _ => .str s
  | agg vs ds hl _ ih =>
    intro β' hβ
    rw [DV.kill, killAll_map]
    refine .agg vs _ (by simpa using hl) fun i v d h1 h2 => ?_
    rw [List.getElem?_map] at h2
    cases hd : ds[i]? with
    | none => simp [hd] at h2
    | some d0 => simp [hd] at h2; subst h2; exact ih i v d0 h1 hd hβ
  | tup vs ds hl _ ih =>
    intro β' hβ
    rw [DV.kill, killAll_map]
    refine .tup vs _ (by simpa using hl) fun i v d h1 h2 => ?_
    rw [List.getElem?_map] at h2
    cases hd : ds[i]? with
    | none => simp [hd] at h2
    | some d0 => simp [hd] at h2; subst h2; exact ih i v d0 h1 hd hβ
  | nilp => exact fun _ => .nilp
  | ptr l o b x h =>
    intro β' hβ
    simp only [DV.kill]
    split
    · exact .undef _
    · rename_i hp; exact .ptr l o b x (hβ l _ (by simpa using hp) h).1
  | aptr sz l j q b x h =>
    intro β' hβ
    simp only [DV.kill]
    split
    · exact .undef _
    · rename_i hp; exact .aptr sz l j q b x (hβ l _ (by simpa using hp) h).1
  | eptr cs o b x vs hb hcs hr _ =>
    exact fun _ => .eptr cs o b x vs (hok b hb) (fun k hk => (hcell b _ hb).trans (hcs k hk)) fun k d hd => (hr k d hd).mono hok hc (fun l x hx => by simp [noLoc] at hx)
  | nils sz hz => exact fun _ => .nils sz hz
  | sl A n c sz es b x vs hn hnc hsz hes hA hcs h1 hr _ =>
    intro β' _
    refine .sl A n c sz es b x vs hn hnc hsz hes (fun hp => ⟨(hA hp).1, hok b (hA hp).2⟩) (fun k hk => ?_) h1 fun k d hd => (hr k d hd).mono hok hc (fun l x hx => by simp [noLoc] at hx)
    have hp : 0 < n := by
      rcases Nat.eq_zero_or_pos n with h0 | h0
      · subst h0; simp at hk
      · exact h0
    exact (hcell b _ (hA hp).2).trans (hcs k hk)
  | oslnil sz l off cap hcap hz =>
    intro β' _
    simp only [DV.kill]
    split
    · exact .undef _
    · exact .oslnil sz l off cap hcap hz
  | osl sz l off n c b x y t m hb hnc hsz hy hm hr cap hcap =>
    intro β' hβ
    simp only [DV.kill]
    split
    · exact .undef _
    · rename_i hp
      have := hβ l _ (by simpa using hp) hb
      exact .osl sz l off n c b x y t m this.1 hnc hsz hy (this.2.trans hm) hr cap hcap
  | fn f vs ds hl _ ih =>
    intro β' hβ
    rw [DV.kill, killAll_map]
    refine .fn f vs _ (by simpa using hl) fun i v d h1 h2 => ?_
    rw [List.getElem?_map] at h2
    cases hd : ds[i]? with
    | none => simp [hd] at h2
    | some d0 => simp [hd] at h2; subst h2; exact ih i v d0 h1 hd hβ
  | bnd f vs ds hl _ ih =>
    intro β' hβ
    rw [DV.kill, killAll_map]
    refine .bnd f vs _ (by simpa using hl) fun i v d h1 h2 => ?_
    rw [List.getElem?_map] at h2
    cases hd : ds[i]? with
    | none => simp [hd] at h2
    | some d0 => simp [hd] at h2; subst h2; exact ih i v d0 h1 hd hβ
  | ifc f u ds hl _ ih =>
    intro β' hβ
    rw [DV.kill, killAll_map]
    refine .ifc f u _ (by simpa using hl) fun i v d h1 h2 => ?_
    rw [List.getElem?_map] at h2
    cases hd : ds[i]? with
    | none => simp [hd] at h2
    | some d0 => simp [hd] at h2; subst h2; exact ih i v d0 h1 hd hβ
  | nilfn => exact fun _ => .nilfn
  | nili => exact fun _ => .nili
  | emp0 sz => exact fun _ => .emp0 sz
  | emp1 A c sz => exact fun _ => .emp1 A c sz
  | selfn l t m b hb hm =>
    intro β' hβ
    simp only [DV.kill]
    split
    · exact .undef _
    · rename_i hp
      have := hβ l _ (by simpa using hp) hb
      exact .selfn l t m b this.1 (this.2.trans hm)
  | selfp l t m b hb hm =>
    intro β' hβ
    simp only [DV.kill]
    split
    · exact .undef _
    · rename_i hp
      have := hβ l _ (by simpa using hp) hb
      exact .selfp l t m b this.1 (this.2.trans hm)
  | hdrn m e =>
    intro β' hβ
    simp only [DV.kill]
    split
    · exact .undef _
    · exact .hdrn m e
  | hdrs m e n g cap hb hm hnc hcm hc0 =>
    intro β' hβ
    simp only [DV.kill]
    split
    · exact .undef _
    · rename_i hp
      have := hβ m _ (by simpa using hp) hb
      exact .hdrs m e n g cap this.1 (this.2.trans hm) hnc hcm hc0
  | undef v => exact fun _ => .undef v


/-- What leads to no place of the call's own is so wherever these lie. -/
theorem Rep.shut_none {w : World} {ok : Nat → Prop} {v : Value} {d : DV} (h : Rep w ok noLoc v d) {β' : Loc} : Rep w ok β' v d :=
  h.mono (fun _ h => h) (fun _ _ => rfl) (fun l x hx => by simp [noLoc] at hx)

end Go.Ai

/- The abstract state, and what it says of a frame and a world. -/
namespace Go.Ai

/-- What the running call owns: cells, a row that may grow, an iterator over a text. -/
inductive AObj where
  | box (cs : List DV)
  | arr (sz : Nat) (es : List (List DV))
  | iter (s : List UInt8) (pos : Nat)
  | dead
  | buf (e : Nat) (bs : List UInt8)
  | gbuf (e : Nat) (bs : List UInt8)
  deriving Inhabited

structure St where
  fr : Nat → DV
  h : List AObj

def upd (s : Nat) (d : DV) (fr : Nat → DV) : Nat → DV := fun t => if t = s then d else fr t
def St.put (st : St) (dst : Option Nat) (d : DV) : St :=
  match dst with
  | some s => { st with fr := upd s d st.fr }
  | none => st

/-- No cell of a row is frozen. -/
def Thaw (fz : Nat × Nat) (n : Nat) : Prop := ∀ o, o < n → (decide (fz.1 ≤ o) && decide (o < fz.2)) = false
theorem Thaw.zero (n : Nat) : Thaw (0, 0) n := fun o _ => by simp

def ORep (w : World) (ok : Nat → Prop) (β : Loc) (l : Nat) : AObj → Prop
  | .box cs => ∃ b vs t fz, β l = some (b, 0) ∧ w.heap[b]? = some (.cells vs t fz) ∧ Thaw fz vs.size ∧ vs.size = cs.length ∧
      ∀ (i : Nat) v d, vs[i]? = some v → cs[i]? = some d → Rep w ok β v d
  | .arr sz es => (∀ e ∈ es, e.length = sz) ∧ ((es = [] ∧ β l = none) ∨
      0 < sz ∧ ∃ b x vs t fz, β l = some (b, x) ∧ w.heap[b]? = some (.cells vs t fz) ∧ Thaw fz vs.size ∧ x + es.length * sz ≤ vs.size ∧
        ∀ (k : Nat) v d, vs[x + k]? = some v → es.flatten[k]? = some d → v.oneCell' = true ∧ Rep w ok noLoc v d)
  | .iter s pos => ∃ b, β l = some (b, 0) ∧ w.heap[b]? = some (.stringIter ⟨s.toArray⟩ pos)
  | .dead => True
  | .buf e bs => (bs = [] ∧ β l = none) ∨ ∃ g cur, β l = some (g, 0) ∧ w.heap[g]? = some (.cells cur e (0, 0)) ∧ bs.length ≤ cur.size ∧ (cur.toList.take bs.length = bs.map fun b => Value.int .u8 b.toNat) ∧ bs ≠ []
  | .gbuf e bs => (bs = [] ∧ β l = none) ∨ ∃ g cur, β l = some (g, 0) ∧ w.heap[g]? = some (.cells cur e (0, 0)) ∧ bs.length ≤ cur.size ∧ cur.toList.take bs.length = bs.map fun b => Value.int .u8 b.toNat

structure HRep (N : Nat) (w : World) (ok : Nat → Prop) (β : Loc) (h : List AObj) : Prop where
  out : ∀ l, h.length ≤ l → β l = none
  inj : ∀ l l' b o o', β l = some (b, o) → β l' = some (b, o') → l = l'
  lt : ∀ l b o, β l = some (b, o) → N ≤ b ∧ b < w.heap.size
  dis : ∀ l b o, β l = some (b, o) → ¬ ok b
  okl : ∀ b, ok b → b < w.heap.size
  obj : ∀ l o, h[l]? = some o → ORep w ok β l o

/-- What lies below everything that a call may own, and holds of all worlds. -/
structure Env where
  P : Program
  N : Nat
  G : World → Prop
  stable : ∀ w w', G w → (∀ b, b < N → w'.heap[b]? = w.heap[b]?) → G w'

/-- A world later on: what nobody owned lies as it lay. -/
structure Ev (w0 : World) (ok0 : Nat → Prop) (β0 : Loc) (w : World) (ok : Nat → Prop) (β : Loc) : Prop where
  os : w.os = w0.os
  tape : w.tape = w0.tape
  output : w.output = w0.output
  size : w0.heap.size ≤ w.heap.size
  same : ∀ b, b < w0.heap.size → (∀ l x, β0 l = some x → x.1 ≠ b) → w.heap[b]? = w0.heap[b]?
  own : ∀ l x, β l = some x → (∃ l0 x0, β0 l0 = some x0 ∧ x0.1 = x.1) ∨ w0.heap.size ≤ x.1
  up : ∀ b, ok0 b → ok b
  dn : ∀ b, ok b → ok0 b ∨ (∃ l0 x0, β0 l0 = some x0 ∧ x0.1 = b) ∨ w0.heap.size ≤ b
  shape : ∀ b, b < w0.heap.size → w.shape? b = w0.shape? b

theorem Ev.refl (w : World) (ok : Nat → Prop) (β : Loc) : Ev w ok β w ok β :=
  ⟨rfl, rfl, rfl, Nat.le_refl _, fun _ _ _ => rfl, fun l x h => .inl ⟨l, x, h, rfl⟩, fun _ h => h, fun _ h => .inl h, fun _ _ => rfl⟩

theorem Ev.trans {w0 w1 w2 : World} {ok0 ok1 ok2 : Nat → Prop} {β0 β1 β2 : Loc} (h : Ev w0 ok0 β0 w1 ok1 β1) (k : Ev w1 ok1 β1 w2 ok2 β2) : Ev w0 ok0 β0 w2 ok2 β2 where
  os := k.os.trans h.os
  tape := k.tape.trans h.tape
  output := k.output.trans h.output
  size := Nat.le_trans h.size k.size
  same := fun b hb hn => (k.same b (Nat.lt_of_lt_of_le hb h.size) fun l x hx e => by
    rcases h.own l x hx with ⟨l0, x0, h0, e0⟩ | hge
    · exact hn l0 x0 h0 (e0.trans e)
    · omega).trans (h.same b hb hn)
  own := fun l x hx => by
    rcases k.own l x hx with ⟨l1, x1, h1, e1⟩ | hge
    · rcases h.own l1 x1 h1 with ⟨l0, x0, h0, e0⟩ | hge
      · exact .inl ⟨l0, x0, h0, e0.trans e1⟩
      · exact .inr (by omega)
    · exact .inr (Nat.le_trans h.size hge)
  up := fun b hb => k.up b (h.up b hb)
  dn := fun b hb => by
    rcases k.dn b hb with h1 | ⟨l1, x1, h1, e1⟩ | hge
    · exact h.dn b h1
    · rcases h.own l1 x1 h1 with ⟨l0, x0, h0, e0⟩ | hge
      · exact .inr (.inl ⟨l0, x0, h0, e0.trans e1⟩)
      · exact .inr (.inr (by omega))
    · exact .inr (.inr (Nat.le_trans h.size hge))
  shape := fun b hb => (k.shape b (Nat.lt_of_lt_of_le hb h.size)).trans (h.shape b hb)

/-- A call's beginning: the world, what was shared, what it was handed, how many slots it has. -/
structure Ctx where
  w0 : World
  ok0 : Nat → Prop
  β0 : Loc
  h0 : List AObj
  n : Nat

structure SRep (E : Env) (C : Ctx) (a : Act) (w : World) (ok : Nat → Prop) (β : Loc) (st : St) : Prop where
  g : E.G w
  ev : Ev C.w0 C.ok0 C.β0 w ok β
  heap : HRep E.N w ok β st.h
  fix : ∀ (l : Nat) cs, C.h0[l]? = some (.box cs) → β l = C.β0 l ∧ ∃ cs', st.h[l]? = some (.box cs')
  len : C.h0.length ≤ st.h.length
  fr : ∀ s, Rep w ok β (a.tmps.getD s undef) (st.fr s)
  size : a.tmps.size = C.n
  defers : a.defers = []
  base : E.N ≤ w.heap.size

theorem SRep.put {E : Env} {C : Ctx} {a : Act} {w : World} {ok : Nat → Prop} {β : Loc} {st : St} (h : SRep E C a w ok β st) {v : Value} {d : DV}
    (hv : Rep w ok β v d) (dst : Option Nat) (hd : ∀ s, dst = some s → s < C.n) : SRep E C (a.put dst v) w ok β (st.put dst d) := by
  cases dst with
  | none => exact h
  | some s =>
    have hs := hd s rfl
    refine ⟨h.g, h.ev, h.heap, h.fix, h.len, fun t => ?_, by simpa [Act.put] using h.size, h.defers, h.base⟩
    simp only [St.put, upd, Act.put]
    split
    · rename_i e
      subst e
      have : t < a.tmps.size := by rw [h.size]; exact hs
      simpa [this] using hv
    · rename_i e
      have hne : s ≠ t := fun e' => e e'.symm
      have := h.fr t
      simpa [Array.getElem?_setIfInBounds_ne hne] using this

/-- A world where all that is named lies as it lay. -/
theorem ORep.mono {w w' : World} {ok ok' : Nat → Prop} {β β' : Loc} {l : Nat} {o : AObj} (h : ORep w ok β l o) (hok : ∀ b, ok b → ok' b)
    (hc : ∀ b, ok b → w'.heap[b]? = w.heap[b]?) (hl : β' l = β l) (hb : ∀ x, β l = some x → w'.heap[x.1]? = w.heap[x.1]?)
    (hβ : ∀ l x, β l = some x → β' l = some x ∧ w'.shape? x.1 = w.shape? x.1) : ORep w' ok' β' l o := by
  cases o with
  | box cs =>
    obtain ⟨b, vs, t, fz, h1, h2, h3, h4, h5⟩ := h
    exact ⟨b, vs, t, fz, hl.trans h1, (hb _ h1).trans h2, h3, h4, fun i v d hi hd => (h5 i v d hi hd).mono hok hc hβ⟩
  | arr sz es =>
    obtain ⟨h1, h2⟩ := h
    refine ⟨h1, ?_⟩
    rcases h2 with ⟨he, hn⟩ | ⟨hz, b, x, vs, t, fz, k1, k2, k3, k4, k5⟩
    · exact .inl ⟨he, hl.trans hn⟩
    · exact .inr ⟨hz, b, x, vs, t, fz, hl.trans k1, (hb _ k1).trans k2, k3, k4, fun k v d hi hd => ⟨(k5 k v d hi hd).1, (k5 k v d hi hd).2.mono hok hc (fun l x hx => by simp [noLoc] at hx)⟩⟩
  | iter s pos =>
    obtain ⟨b, h1, h2⟩ := h
    exact ⟨b, hl.trans h1, (hb _ h1).trans h2⟩
  | dead => trivial
  | buf e bs =>
    rcases h with ⟨h1, h2⟩ | ⟨g, cur, h1, h2, h3⟩
    · exact .inl ⟨h1, hl.trans h2⟩
    · exact .inr ⟨g, cur, hl.trans h1, (hb _ h1).trans h2, h3⟩
  | gbuf e bs =>
    rcases h with ⟨h1, h2⟩ | ⟨g, cur, h1, h2, h3⟩
    · exact .inl ⟨h1, hl.trans h2⟩
    · exact .inr ⟨g, cur, hl.trans h1, (hb _ h1).trans h2, h3⟩

/-- Nothing but draws, or new blocks that are nobody's. -/
theorem SRep.quiet {E : Env} {C : Ctx} {a : Act} {w w' : World} {ok : Nat → Prop} {β : Loc} {st : St} (h : SRep E C a w ok β st)
    (ho : w'.os = w.os) (ht : w'.tape = w.tape) (hp : w'.output = w.output) (hs : w.heap.size ≤ w'.heap.size)
    (hb : ∀ b, b < w.heap.size → w'.heap[b]? = w.heap[b]?) : SRep E C a w' ok β st := by
  have hβ : ∀ l x, β l = some x → β l = some x ∧ w'.shape? x.1 = w.shape? x.1 := fun l x hx =>
    ⟨hx, by have := (h.heap.lt l x.1 x.2 hx).2; simp [World.shape?, hb _ this]⟩
  have hc : ∀ b, ok b → w'.heap[b]? = w.heap[b]? := fun b hk => hb b (h.heap.okl b hk)
  refine ⟨?_, ?_, ?_, h.fix, h.len, fun s => (h.fr s).mono (fun _ k => k) hc hβ, h.size, h.defers, Nat.le_trans h.base hs⟩
  · exact E.stable w w' h.g fun b hbN => hb b (Nat.lt_of_lt_of_le hbN h.base)
  · exact h.ev.trans ⟨ho, ht, hp, hs, fun b hlt _ => hb b hlt, fun l x hx => .inl ⟨l, x, hx, rfl⟩, fun _ k => k, fun _ k => .inl k, fun b hlt => by simp [World.shape?, hb b hlt]⟩
  · exact ⟨h.heap.out, h.heap.inj, fun l b o hx => ⟨(h.heap.lt l b o hx).1, Nat.lt_of_lt_of_le (h.heap.lt l b o hx).2 hs⟩, h.heap.dis,
      fun b hk => Nat.lt_of_lt_of_le (h.heap.okl b hk) hs,
      fun l o hl => (h.heap.obj l o hl).mono (fun _ k => k) hc rfl (fun x hx => hb _ (h.heap.lt l x.1 x.2 hx).2) hβ⟩

theorem SRep.drewN {E : Env} {C : Ctx} {a : Act} {w : World} {ok : Nat → Prop} {β : Loc} {st : St} (h : SRep E C a w ok β st) (n : Nat) :
    SRep E C a { w with drawn := w.drawn + n } ok β st := h.quiet rfl rfl rfl (Nat.le_refl _) fun _ _ => rfl

def St.new (st : St) (o : AObj) : St := { st with h := st.h ++ [o] }
def St.at (st : St) (l : Nat) (o : AObj) : St := { st with h := st.h.set l o }

theorem push_old (w : World) (o : Obj) {b : Nat} (h : b < w.heap.size) : (w.alloc o).heap[b]? = w.heap[b]? := by
  show (w.heap.push o)[b]? = w.heap[b]?
  rw [Array.getElem?_push, if_neg (Nat.ne_of_lt h)]
theorem push_new (w : World) (o : Obj) : (w.alloc o).heap[w.heap.size]? = some o := by
  show (w.heap.push o)[w.heap.size]? = some o
  simp

/-- A new block of the call's own. -/
theorem SRep.new {E : Env} {C : Ctx} {a : Act} {w : World} {ok : Nat → Prop} {β : Loc} {st : St} (h : SRep E C a w ok β st) (o : Obj) (ao : AObj)
    (hr : ∀ β' : Loc, (∀ l x, β l = some x → β' l = some x ∧ (w.alloc o).shape? x.1 = w.shape? x.1) → β' st.h.length = some (w.heap.size, 0) → ORep (w.alloc o) ok β' st.h.length ao) :
    ∃ β', SRep E C a (w.alloc o) ok β' (st.new ao) ∧ β' st.h.length = some (w.heap.size, 0) ∧ (∀ l x, β l = some x → β' l = some x) := by
  let β' : Loc := fun l => if l = st.h.length then some (w.heap.size, 0) else β l
  have hnone : β st.h.length = none := h.heap.out _ (Nat.le_refl _)
  have hup : ∀ l x, β l = some x → β' l = some x := fun l x hx => by
    have : l ≠ st.h.length := fun e => by subst e; rw [hnone] at hx; cases hx
    simp [β', this, hx]
  have hold : ∀ b, b < w.heap.size → (w.alloc o).heap[b]? = w.heap[b]? := fun b hb => push_old w o hb
  have hβ : ∀ l x, β l = some x → β' l = some x ∧ (w.alloc o).shape? x.1 = w.shape? x.1 := fun l x hx =>
    ⟨hup l x hx, by have := (h.heap.lt l x.1 x.2 hx).2; simp [World.shape?, hold _ this]⟩
  have hc : ∀ b, ok b → (w.alloc o).heap[b]? = w.heap[b]? := fun b hk => hold b (h.heap.okl b hk)
  have hsz : (w.alloc o).heap.size = w.heap.size + 1 := Array.size_push _
  refine ⟨β', ⟨?_, ?_, ⟨?_, ?_, ?_, ?_, ?_, ?_⟩, ?_, ?_, ?_, h.size, h.defers, ?_⟩, by simp [β'], hup⟩
  · exact E.stable _ _ h.g fun b hb => hold b (Nat.lt_of_lt_of_le hb h.base)
  · refine h.ev.trans ⟨rfl, rfl, rfl, by omega, fun b hb _ => hold b hb, fun l x hx => ?_, fun _ k => k, fun _ k => .inl k, fun b hb => by simp [World.shape?, hold b hb]⟩
    simp only [β'] at hx
    split at hx
    · injection hx with hx; subst hx; exact .inr (Nat.le_refl _)
    · exact .inl ⟨l, x, hx, rfl⟩
  · intro l hl
    simp only [St.new, List.length_append, List.length_cons, List.length_nil] at hl
    have : l ≠ st.h.length := by omega
    simp only [β', this, if_false]
    exact h.heap.out l (by omega)
  · intro l l' b o1 o2 h1 h2
    simp only [β'] at h1 h2
    split at h1 <;> split at h2
    · omega
    · injection h1 with h1; injection h1 with h1 _; have := (h.heap.lt _ _ _ h2).2; omega
    · injection h2 with h2; injection h2 with h2 _; have := (h.heap.lt _ _ _ h1).2; omega
    · exact h.heap.inj l l' b o1 o2 h1 h2
  · intro l b x hx
    simp only [β'] at hx
    split at hx
    · injection hx with hx; injection hx with hx _; exact ⟨by have := h.base; omega, by omega⟩
    · have := h.heap.lt l b x hx; exact ⟨this.1, by omega⟩
  · intro l b x hx hk
    simp only [β'] at hx
    split at hx
    · injection hx with hx; injection hx with hx _; have := h.heap.okl b hk; omega
    · exact h.heap.dis l b x hx hk
  · intro b hk; have := h.heap.okl b hk; omega
  · intro l ob hl
    simp only [St.new] at hl
    rcases Nat.lt_or_ge l st.h.length with hlt | hge
    · rw [List.getElem?_append_left hlt] at hl
      have hne : l ≠ st.h.length := by omega
      exact (h.heap.obj l ob hl).mono (fun _ k => k) hc (by simp [β', hne]) (fun x hx => hold _ (h.heap.lt l x.1 x.2 hx).2) hβ
    · rw [List.getElem?_append_right hge] at hl
      have : l = st.h.length := by
        rcases Nat.eq_or_lt_of_le hge with e | e
        · exact e.symm
        · simp [show l - st.h.length ≠ 0 by omega] at hl
      subst this
      simp at hl
      subst hl
      exact hr β' hβ (by simp [β'])
  · intro l cs hl
    obtain ⟨e, cs', hcs⟩ := h.fix l cs hl
    have hlt : l < st.h.length := by
      rcases Nat.lt_or_ge l st.h.length with hlt | hge
      · exact hlt
      · rw [List.getElem?_eq_none hge] at hcs; cases hcs
    have hne : l ≠ st.h.length := by omega
    exact ⟨by simp [β', hne, e], cs', by simp [St.new, List.getElem?_append_left hlt, hcs]⟩
  · have := h.len; simp [St.new]; omega
  · intro s; exact (h.fr s).mono (fun _ k => k) hc hβ
  · have := h.base; omega

/-- A new place without a block: a row that has nothing yet, or nothing at all. -/
theorem SRep.newnone {E : Env} {C : Ctx} {a : Act} {w : World} {ok : Nat → Prop} {β : Loc} {st : St} (h : SRep E C a w ok β st) (sz : Nat) :
    SRep E C a w ok β (st.new (.arr sz [])) := by
  have hnone : β st.h.length = none := h.heap.out _ (Nat.le_refl _)
  refine ⟨h.g, h.ev, ⟨?_, h.heap.inj, h.heap.lt, h.heap.dis, h.heap.okl, ?_⟩, ?_, ?_, h.fr, h.size, h.defers, h.base⟩
  · intro l hl; exact h.heap.out l (by simp [St.new] at hl; omega)
  · intro l ob hl
    simp only [St.new] at hl
    rcases Nat.lt_or_ge l st.h.length with hlt | hge
    · rw [List.getElem?_append_left hlt] at hl; exact h.heap.obj l ob hl
    · rw [List.getElem?_append_right hge] at hl
      have : l = st.h.length := by
        rcases Nat.eq_or_lt_of_le hge with e | e
        · exact e.symm
        · simp [show l - st.h.length ≠ 0 by omega] at hl
      subst this
      simp at hl
      subst hl
      exact ⟨by simp, .inl ⟨rfl, hnone⟩⟩
  · intro l cs hl
    obtain ⟨e, cs', hcs⟩ := h.fix l cs hl
    have hlt : l < st.h.length := by
      rcases Nat.lt_or_ge l st.h.length with hlt | hge
      · exact hlt
      · rw [List.getElem?_eq_none hge] at hcs; cases hcs
    exact ⟨e, cs', by simp [St.new, List.getElem?_append_left hlt, hcs]⟩
  · have := h.len; simp [St.new]; omega
theorem SRep.newbuf {E : Env} {C : Ctx} {a : Act} {w : World} {ok : Nat → Prop} {β : Loc} {st : St} (h : SRep E C a w ok β st) (e : Nat) :
    SRep E C a w ok β (st.new (.buf e [])) := by
  have hnone : β st.h.length = none := h.heap.out _ (Nat.le_refl _)
  refine ⟨h.g, h.ev, ⟨?_, h.heap.inj, h.heap.lt, h.heap.dis, h.heap.okl, ?_⟩, ?_, ?_, h.fr, h.size, h.defers, h.base⟩
  · intro l hl; exact h.heap.out l (by simp [St.new] at hl; omega)
  · intro l ob hl
    simp only [St.new] at hl
    rcases Nat.lt_or_ge l st.h.length with hlt | hge
    · rw [List.getElem?_append_left hlt] at hl; exact h.heap.obj l ob hl
    · rw [List.getElem?_append_right hge] at hl
      have : l = st.h.length := by
        rcases Nat.eq_or_lt_of_le hge with e | e
        · exact e.symm
        · simp [show l - st.h.length ≠ 0 by omega] at hl
      subst this
      simp at hl
      subst hl
      exact .inl ⟨rfl, hnone⟩
  · intro l cs hl
    obtain ⟨e, cs', hcs⟩ := h.fix l cs hl
    have hlt : l < st.h.length := by
      rcases Nat.lt_or_ge l st.h.length with hlt | hge
      · exact hlt
      · rw [List.getElem?_eq_none hge] at hcs; cases hcs
    exact ⟨e, cs', by simp [St.new, List.getElem?_append_left hlt, hcs]⟩
  · have := h.len; simp [St.new]; omega

/-- One of the call's own blocks is written, in its place. -/
theorem SRep.write {E : Env} {C : Ctx} {a : Act} {w w' : World} {ok : Nat → Prop} {β : Loc} {st : St} (h : SRep E C a w ok β st) (l b x : Nat) (ao old : AObj)
    (hl : β l = some (b, x)) (hold : st.h[l]? = some old) (hbox : ∀ cs, old = .box cs → ∃ cs', ao = .box cs')
    (ho : w'.os = w.os) (ht : w'.tape = w.tape) (hp : w'.output = w.output) (hs : w'.heap.size = w.heap.size)
    (hb : ∀ k, k ≠ b → w'.heap[k]? = w.heap[k]?) (hsh : w'.shape? b = w.shape? b) (hr : ORep w' ok β l ao) :
    SRep E C a w' ok β (st.at l ao) := by
  have hne : ∀ l' y, l' ≠ l → β l' = some y → y.1 ≠ b := fun l' y hn hy e => hn (h.heap.inj l' l b y.2 x (by rw [hy]; simp [← e]) hl)
  have hβ : ∀ l x, β l = some x → β l = some x ∧ w'.shape? x.1 = w.shape? x.1 := fun l' y hy => ⟨hy, by
    by_cases e : y.1 = b
    · rw [e]; exact hsh
    · simp [World.shape?, hb _ e]⟩
  have hc : ∀ k, ok k → w'.heap[k]? = w.heap[k]? := fun k hk => hb k fun e => h.heap.dis l b x hl (e ▸ hk)
  have hlt : l < st.h.length := by
    rcases Nat.lt_or_ge l st.h.length with hlt | hge
    · exact hlt
    · rw [List.getElem?_eq_none hge] at hold; cases hold
  refine ⟨?_, ?_, ⟨?_, h.heap.inj, ?_, h.heap.dis, ?_, ?_⟩, ?_, ?_, ?_, h.size, h.defers, ?_⟩
  · exact E.stable _ _ h.g fun k hk => hb k fun e => by have := (h.heap.lt l b x hl).1; omega
  · exact h.ev.trans ⟨ho, ht, hp, by omega, fun k _ hn => hb k fun e => hn l (b, x) hl e.symm, fun l x hx => .inl ⟨l, x, hx, rfl⟩, fun _ k => k, fun _ k => .inl k, fun k _ => by
      by_cases e : k = b
      · rw [e]; exact hsh
      · simp [World.shape?, hb k e]⟩
  · intro l' hl'; exact h.heap.out l' (by simpa [St.at] using hl')
  · intro l' b' o' hx; have := h.heap.lt l' b' o' hx; exact ⟨this.1, by omega⟩
  · intro k hk; have := h.heap.okl k hk; omega
  · intro l' ob hl'
    simp only [St.at] at hl'
    by_cases e : l' = l
    · subst e
      rw [List.getElem?_set_self hlt] at hl'
      injection hl' with hl'; subst hl'; exact hr
    · rw [List.getElem?_set_ne (fun e' => e e'.symm)] at hl'
      exact (h.heap.obj l' ob hl').mono (fun _ k => k) hc rfl (fun y hy => hb _ (hne l' y e hy)) hβ
  · intro l' cs hl'
    obtain ⟨e, cs', hcs⟩ := h.fix l' cs hl'
    refine ⟨e, ?_⟩
    by_cases e' : l' = l
    · subst e'
      rw [hold] at hcs
      injection hcs with hcs
      obtain ⟨cs2, h2⟩ := hbox cs' hcs
      exact ⟨cs2, by simp [St.at, hlt, h2]⟩
    · exact ⟨cs', by simp only [St.at]; rw [List.getElem?_set_ne (fun q => e' q.symm)]; exact hcs⟩
  · simpa [St.at] using h.len
  · intro s; exact (h.fr s).mono (fun _ k => k) hc hβ
  · have := h.base; omega

def killO (p : Nat → Bool) : AObj → AObj
  | .box cs => .box (cs.map (DV.kill p))
  | o => o
def St.kill (p : Nat → Bool) (st : St) : St := ⟨fun s => (st.fr s).kill p, st.h.map (killO p)⟩

theorem ORep.kill {w w' : World} {ok ok' : Nat → Prop} {β β' : Loc} {l : Nat} {o : AObj} (p : Nat → Bool) (h : ORep w ok β l o) (hok : ∀ b, ok b → ok' b)
    (hc : ∀ b, ok b → w'.heap[b]? = w.heap[b]?) (hl : β' l = β l) (hb : ∀ x, β l = some x → w'.heap[x.1]? = w.heap[x.1]?)
    (hβ : ∀ l x, p l = false → β l = some x → β' l = some x ∧ w'.shape? x.1 = w.shape? x.1) : ORep w' ok' β' l (killO p o) := by
  cases o with
  | box cs =>
    obtain ⟨b, vs, t, fz, h1, h2, h3, h4, h5⟩ := h
    refine ⟨b, vs, t, fz, hl.trans h1, (hb _ h1).trans h2, h3, by simpa using h4, fun i v d hi hd => ?_⟩
    rw [List.getElem?_map] at hd
    cases hd0 : cs[i]? with
    | none => simp [hd0] at hd
    | some d0 => simp [hd0] at hd; subst hd; exact (h5 i v d0 hi hd0).kill p hok hc hβ
  | arr sz es =>
    obtain ⟨h1, h2⟩ := h
    refine ⟨h1, ?_⟩
    rcases h2 with ⟨he, hn⟩ | ⟨hz, b, x, vs, t, fz, k1, k2, k3, k4, k5⟩
    · exact .inl ⟨he, hl.trans hn⟩
    · exact .inr ⟨hz, b, x, vs, t, fz, hl.trans k1, (hb _ k1).trans k2, k3, k4, fun k v d hi hd => ⟨(k5 k v d hi hd).1, (k5 k v d hi hd).2.mono hok hc (fun l x hx => by simp [noLoc] at hx)⟩⟩
  | iter s pos =>
    obtain ⟨b, h1, h2⟩ := h
    exact ⟨b, hl.trans h1, (hb _ h1).trans h2⟩
  | dead => trivial
  | buf e bs =>
    rcases h with ⟨h1, h2⟩ | ⟨g, cur, h1, h2, h3⟩
    · exact .inl ⟨h1, hl.trans h2⟩
    · exact .inr ⟨g, cur, hl.trans h1, (hb _ h1).trans h2, h3⟩
  | gbuf e bs =>
    rcases h with ⟨h1, h2⟩ | ⟨g, cur, h1, h2, h3⟩
    · exact .inl ⟨h1, hl.trans h2⟩
    · exact .inr ⟨g, cur, hl.trans h1, (hb _ h1).trans h2, h3⟩

theorem SRep.kill {E : Env} {C : Ctx} {a : Act} {w : World} {ok : Nat → Prop} {β : Loc} {st : St} (h : SRep E C a w ok β st) (p : Nat → Bool) :
    SRep E C a w ok β (st.kill p) := by
  have hβ : ∀ l x, p l = false → β l = some x → β l = some x ∧ w.shape? x.1 = w.shape? x.1 := fun l x _ hx => ⟨hx, rfl⟩
  refine ⟨h.g, h.ev, ⟨?_, h.heap.inj, h.heap.lt, h.heap.dis, h.heap.okl, ?_⟩, ?_, ?_, fun s => (h.fr s).kill p (fun _ k => k) (fun _ _ => rfl) hβ, h.size, h.defers, h.base⟩
  · intro l hl; exact h.heap.out l (by simpa [St.kill] using hl)
  · intro l ob hl
    simp only [St.kill, List.getElem?_map] at hl
    cases hl0 : st.h[l]? with
    | none => simp [hl0] at hl
    | some o0 => simp [hl0] at hl; subst hl; exact (h.heap.obj l o0 hl0).kill p (fun _ k => k) (fun _ _ => rfl) rfl (fun _ _ => rfl) hβ
  · intro l cs hl
    obtain ⟨e, cs', hcs⟩ := h.fix l cs hl
    exact ⟨e, _, by simp only [St.kill, List.getElem?_map, hcs]; rfl⟩
  · simpa [St.kill] using h.len

/-- A row gets a new block; what led to the elder one is forgotten. -/
theorem SRep.move {E : Env} {C : Ctx} {a : Act} {w : World} {ok : Nat → Prop} {β : Loc} {st : St} (h : SRep E C a w ok β st) (l : Nat) (sz : Nat) (es es' : List (List DV)) (o : Obj)
    (hold : st.h[l]? = some (.arr sz es))
    (hr : ∀ β' : Loc, β' l = some (w.heap.size, 0) → ORep (w.alloc o) ok β' l (.arr sz es')) :
    ∃ β', SRep E C a (w.alloc o) ok β' ((st.kill (· == l)).at l (.arr sz es')) ∧ β' l = some (w.heap.size, 0) := by
  let β' : Loc := fun k => if k = l then some (w.heap.size, 0) else β k
  have hlt : l < st.h.length := by
    rcases Nat.lt_or_ge l st.h.length with hlt | hge
    · exact hlt
    · rw [List.getElem?_eq_none hge] at hold; cases hold
  have hob : ∀ b, b < w.heap.size → (w.alloc o).heap[b]? = w.heap[b]? := fun b hb => push_old w o hb
  have hβ : ∀ k x, (k == l) = false → β k = some x → β' k = some x ∧ (w.alloc o).shape? x.1 = w.shape? x.1 := fun k x hk hx =>
    ⟨by simp [β', show k ≠ l by simpa using hk, hx], by have := (h.heap.lt k x.1 x.2 hx).2; simp [World.shape?, hob _ this]⟩
  have hc : ∀ b, ok b → (w.alloc o).heap[b]? = w.heap[b]? := fun b hk => hob b (h.heap.okl b hk)
  have hsz : (w.alloc o).heap.size = w.heap.size + 1 := Array.size_push _
  refine ⟨β', ⟨?_, ?_, ⟨?_, ?_, ?_, ?_, ?_, ?_⟩, ?_, ?_, ?_, h.size, h.defers, ?_⟩, by simp [β']⟩
  · exact E.stable _ _ h.g fun b hb => hob b (Nat.lt_of_lt_of_le hb h.base)
  · refine h.ev.trans ⟨rfl, rfl, rfl, by omega, fun b hb _ => hob b hb, fun k x hx => ?_, fun _ k => k, fun _ k => .inl k, fun b hb => by simp [World.shape?, hob b hb]⟩
    simp only [β'] at hx
    split at hx
    · injection hx with hx; subst hx; exact .inr (Nat.le_refl _)
    · exact .inl ⟨k, x, hx, rfl⟩
  · intro k hk
    have hk' : st.h.length ≤ k := by simpa [St.at, St.kill] using hk
    have : k ≠ l := by omega
    simp only [β', this, if_false]
    exact h.heap.out k hk'
  · intro k k' b o1 o2 h1 h2
    simp only [β'] at h1 h2
    split at h1 <;> split at h2
    · omega
    · injection h1 with h1; injection h1 with h1 _; have := (h.heap.lt _ _ _ h2).2; omega
    · injection h2 with h2; injection h2 with h2 _; have := (h.heap.lt _ _ _ h1).2; omega
    · exact h.heap.inj k k' b o1 o2 h1 h2
  · intro k b x hx
    simp only [β'] at hx
    split at hx
    · injection hx with hx; injection hx with hx _; exact ⟨by have := h.base; omega, by omega⟩
    · have := h.heap.lt k b x hx; exact ⟨this.1, by omega⟩
  · intro k b x hx hk
    simp only [β'] at hx
    split at hx
    · injection hx with hx; injection hx with hx _; have := h.heap.okl b hk; omega
    · exact h.heap.dis k b x hx hk
  · intro b hk; have := h.heap.okl b hk; omega
  · intro k ob hk
    simp only [St.at, St.kill] at hk
    by_cases e : k = l
    · subst e
      rw [List.getElem?_set_self (by simpa using hlt)] at hk
      injection hk with hk; subst hk
      exact hr β' (by simp [β'])
    · rw [List.getElem?_set_ne (fun q => e q.symm), List.getElem?_map] at hk
      cases hk0 : st.h[k]? with
      | none => simp [hk0] at hk
      | some o0 =>
        simp [hk0] at hk; subst hk
        exact (h.heap.obj k o0 hk0).kill _ (fun _ k => k) hc (by simp [β', e]) (fun x hx => hob _ (h.heap.lt k x.1 x.2 hx).2) hβ
  · intro k cs hk
    obtain ⟨e, cs', hcs⟩ := h.fix k cs hk
    have hne : k ≠ l := fun q => by subst q; rw [hold] at hcs; cases hcs
    refine ⟨by simp [β', hne, e], cs'.map (DV.kill (· == l)), ?_⟩
    simp only [St.at, St.kill]
    rw [List.getElem?_set_ne (fun q => hne q.symm), List.getElem?_map, hcs]
    rfl
  · simpa [St.at, St.kill] using h.len
  · intro s; exact (h.fr s).kill _ (fun _ k => k) hc hβ
  · have := h.base; omega
end Go.Ai

/- The small language that a function's text is turned into, and what must hold ahead of it. -/
namespace Go.Ai

inductive AX where
  | t (s : Nat)
  | c (d : DV)
  deriving Inhabited
def AX.ev (fr : Nat → DV) : AX → DV
  | .t s => fr s
  | .c d => d

inductive CV where
  | int (k : IntKind) | id | i2s | s2b | b2s | s2r | r2s
  deriving DecidableEq, Inhabited
inductive FK where
  | int | str | bool
  deriving DecidableEq, Inhabited
inductive Ty where
  | prim | bool | ptr | slc | ifc | flat (l : List FK) | other
  deriving DecidableEq, Inhabited

inductive AOp where
  | mov (x : AX)
  | set (x : AX)
  | newnil (sz : Nat)
  | pick (c a b : AX)
  | box (x : AX)
  | alloc (zero : List DV)
  | allocb (t e : Nat)
  | build (zero : List DV) (parts : List (Nat × Nat × AX))
  | bslice (full : Bool) (sz : Nat) (parts : List AX)
  | load (agg : Option Nat) (x : AX)
  | store (full : Bool) (n : Nat) (x v : AX)
  | nilchk (x : AX)
  | bin (op : BinOp) (ty : Ty) (x y : AX)
  | un (op : UnOp) (x : AX)
  | conv (k : CV) (x : AX)
  | mkfn (f : Nat) (caps : List AX)
  | mkifc (t : Nat) (x : AX)
  | mkbnd (f : Nat) (x : AX)
  | inv (full : Bool) (m : String) (x : AX) (args : List AX)
  | mkslice (sz bytes : Nat) (zero : List DV) (l c : AX)
  | slice (k : Option Nat) (x : AX) (lo hi : Option AX)
  | faddr (off : Nat) (x : AX)
  | field (off : Nat) (agg : Option Nat) (x : AX)
  | iaddr (sz : Nat) (x i : AX)
  | baddr (n sz : Nat) (x i : AX)
  | sidx (x i : AX)
  | range (x : AX)
  | next (x : AX)
  | extr (x : AX) (i : Nat)
  | call (full : Bool) (f : Nat) (args : List AX)
  | callv (full : Bool) (x : AX) (args : List AX)
  | len (s : Bool) (x : AX)
  | cap (x : AX)
  | append (sz bytes : Nat) (x y : AX)
  | appendz (sz bytes : Nat) (zero : List DV) (x n : AX)
  | cpy (sz : Nat) (x y : AX)
  | bad
  | mn (args : List AX)
  | mx (args : List AX)
  deriving Inhabited

structure AOper where
  dst : Option Nat
  op : AOp
  guard : Option (Nat × Bool)
  deriving Inhabited

inductive ACode where
  | skip
  | region (draw : Bool) (ops : List AOper)
  | seq (a b : ACode)
  | cond (c : AX) (a b : ACode)
  | block (id : Nat) (b : ACode)
  | loop (b : ACode)
  | exit (id : Nat)
  | ret
  | jump (g : Nat) (a b : ACode)
  deriving Inhabited

inductive RV where
  | t (s : Nat)
  | cell (s : Nat) (agg : Option Nat)
  deriving Inhabited
structure AFun where
  np : Nat
  nt : Nat
  res : List RV
  body : ACode
  deriving Inhabited

def DV.cells : DV → List DV
  | .agg l => l
  | d => [d]

/-- A nil slice that is kept in a variable becomes a row of the call's own that has nothing yet. -/
def ownCell (d : DV) (h : List AObj) : DV × List AObj :=
  match d with
  | .nils sz => (.osl sz h.length 0 0 none, h ++ [.arr sz []])
  | d => (d, h)
def ownCells : List DV → List AObj → List DV × List AObj
  | [], h => ([], h)
  | d :: l, h => let (d', h1) := ownCell d h; let (l', h2) := ownCells l h1; (d' :: l', h2)
def ownVal (d : DV) (h : List AObj) : DV × List AObj :=
  match d with
  | .agg l => let (l', h') := ownCells l h; (.agg l', h')
  | d => ownCell d h

def DV.scalar : DV → Bool
  | .int _ _ | .bool _ | .str _ | .nilp | .nilfn | .nili => true
  | .agg l | .tup l => scalarAll l
  | _ => false
where scalarAll : List DV → Bool
  | [] => true
  | d :: l => d.scalar && scalarAll l

/-- A value's places by other names; a row that has none is lent, as a list. -/
def DV.low (ρ : Nat → Option Nat) (h : List AObj) : DV → DV
  | .ptr l o => match ρ l with | some i => .ptr i o | none => .undef
  | .aptr sz l j q => match ρ l with | some i => .aptr sz i j q | none => .undef
  | .self l t m => match ρ l with | some i => .self i t m | none => .undef
  | .hdr m e n => match ρ m with | some i => .hdr i e n | none => .undef
  | .osl sz l off n cap => match ρ l with
    | some i => .osl sz i off n cap
    | none => match h[l]? with
      | some (.arr sz' es) => if sz' = sz ∧ off + n ≤ es.length then .sl sz ((es.drop off).take n) else .undef
      | _ => .undef
  | .agg l => .agg (lowAll ρ h l)
  | .tup l => .tup (lowAll ρ h l)
  | .fn f l => .fn f (lowAll ρ h l)
  | .ifc f l => .ifc f (lowAll ρ h l)
  | .bnd f l => .bnd f (lowAll ρ h l)
  | d => d
where lowAll (ρ : Nat → Option Nat) (h : List AObj) : List DV → List DV
  | [] => []
  | d :: l => d.low ρ h :: lowAll ρ h l
def lowO (ρ : Nat → Option Nat) (h : List AObj) : AObj → AObj
  | .box cs => .box (cs.map (DV.low ρ h))
  | o => o
/-- As a callee sees it that is handed those places. -/
def DV.dn (ls : List Nat) (h : List AObj) : DV → DV := DV.low (fun l => ls.idxOf? l) h

/-- A value's places by other names. -/
def DV.ren (ρ : Nat → Nat) : DV → DV
  | .ptr l o => .ptr (ρ l) o
  | .aptr sz l j q => .aptr sz (ρ l) j q
  | .osl sz l off n cap => .osl sz (ρ l) off n cap
  | .self l t m => .self (ρ l) t m
  | .hdr m e n => .hdr (ρ m) e n
  | .agg l => .agg (renAll ρ l)
  | .tup l => .tup (renAll ρ l)
  | .fn f l => .fn f (renAll ρ l)
  | .ifc f l => .ifc f (renAll ρ l)
  | .bnd f l => .bnd f (renAll ρ l)
  | d => d
where renAll (ρ : Nat → Nat) : List DV → List DV
  | [] => []
  | d :: l => d.ren ρ :: renAll ρ l
def renO (ρ : Nat → Nat) : AObj → AObj
  | .box cs => .box (cs.map (DV.ren ρ))
  | o => o

/-- A function with a text of its own. -/
def Ent (P : Program) (f : Nat) : Prop := ∃ fn, P.funcs[f]? = some fn ∧ (fn.name == "runtime.NumGoroutine") = false ∧ fn.body.isNone = false

/-- A call's contract: what it is handed, and what may come back. 'kp': every place stays where it is. -/
def ACallsK (E : Env) (kp : Bool) (f : Nat) (h : List AObj) (args : List DV) (post : List AObj → DV → Prop) : Prop :=
  Ent E.P f ∧ ∀ (w : World) (ok : Nat → Prop) (β : Loc) (vs : List Value), E.G w → E.N ≤ w.heap.size → HRep E.N w ok β h → vs.length = args.length →
    (∀ (i : Nat) v d, vs[i]? = some v → args[i]? = some d → Rep w ok β v d) →
    Calls E.P f vs.toArray w fun e w' => ∃ v ok' β' h' d, e = .returned v ∧ post h' d ∧ E.G w' ∧ Ev w ok β w' ok' β' ∧ HRep E.N w' ok' β' h' ∧ Rep w' ok' β' v d ∧
      (∀ (l : Nat) cs, h[l]? = some (.box cs) → β' l = β l ∧ ∃ cs', h'[l]? = some (.box cs')) ∧ h.length ≤ h'.length ∧ (kp = true → ∀ l, l < h.length → β' l = β l)
abbrev ACalls (E : Env) (f : Nat) (h : List AObj) (args : List DV) (post : List AObj → DV → Prop) : Prop := ACallsK E false f h args post

/-- It leads to no place of the call's own but those. -/
def DV.inL (p : Nat → Bool) : DV → Bool
  | .ptr l _ => p l
  | .aptr _ l _ _ => p l
  | .osl _ l _ _ _ => p l
  | .self l _ _ => p l
  | .hdr m _ _ => p m
  | .agg l | .tup l | .fn _ l | .ifc _ l | .bnd _ l => inAll p l
  | _ => true
where inAll (p : Nat → Bool) : List DV → Bool
  | [] => true
  | d :: l => d.inL p && inAll p l
def DV.under (m : Nat) (d : DV) : Bool := d.inL (fun l => decide (l < m))
def inO (p : Nat → Bool) : AObj → Bool
  | .box cs => cs.all (DV.inL p)
  | _ => true
/-- It leads to nothing that is shared. -/
def DV.free : DV → Bool
  | .sl _ es => es.isEmpty
  | .eptr _ _ => false
  | .agg l | .tup l | .fn _ l | .ifc _ l | .bnd _ l => freeAll l
  | _ => true
where freeAll : List DV → Bool
  | [] => true
  | d :: l => d.free && freeAll l
def freeO : AObj → Bool
  | .box cs => cs.all DV.free
  | .arr _ es => es.all fun e => e.all DV.free
  | _ => true
def isBox : Option AObj → Bool
  | some (.box _) => true
  | _ => false
/-- A callee's places, by the caller's names. -/
def upL (n : Nat) (ls : List Nat) (i : Nat) : Nat := match ls[i]? with | some l => l | none => n + (i - ls.length)
def setAll : List AObj → List Nat → List AObj → List AObj
  | h, l :: ls, o :: os => setAll (h.set l o) ls os
  | h, _, _ => h
def St.handed (st : St) (kp : Bool) (ls : List Nat) (h' : List AObj) : St :=
  let k := ls.filter fun l => !isBox st.h[l]?
  let st1 := if kp || k.isEmpty then st else st.kill k.contains
  ⟨st1.fr, setAll st1.h ls (h'.map (renO (upL st.h.length ls))) ++ (h'.drop ls.length).map (renO (upL st.h.length ls))⟩

/-- A call in three ways: it hands back plain data; it hands back what it made; it is handed places too. -/
def acall0 (E : Env) (full : Bool) (f : Nat) (ds : List DV) (K : DV → St → Prop) (st : St) : Prop :=
  (∃ post : DV → Prop, ACalls E f [] (ds.map (DV.dn [] st.h)) (fun h' d => h' = [] ∧ post d) ∧ (∃ d, post d) ∧ ∀ d, post d → d.scalar = true ∧ K d st) ∨
  (∃ post : List AObj → DV → Prop, ACalls E f [] ds post ∧ (∀ d ∈ ds, d.closed = true) ∧ (∃ h' d, post h' d) ∧
    ∀ h' d, post h' d → K (d.ren (st.h.length + ·)) { st with h := st.h ++ h'.map (renO (st.h.length + ·)) }) ∨
  (∃ (kp : Bool) (ls : List Nat) (post : List AObj → DV → Prop), (full = true ∨ (kp = false ∧ ls = [] ∧ ∃ h' d, post h' d)) ∧ ls.Nodup ∧ (∀ l ∈ ls, l < st.h.length) ∧
    ACallsK E kp f (ls.map fun l => lowO (fun l => ls.idxOf? l) st.h (st.h.getD l .dead)) (ds.map (DV.dn ls st.h)) post ∧
    ∀ h' d, post h' d → ((ds.all (DV.inL ls.contains) && ls.all (fun l => inO ls.contains (st.h.getD l .dead))) = true ∨ (d.free && h'.all freeO) = true) ∧
      K (d.ren (upL st.h.length ls)) (st.handed kp ls h'))

/-- Rows that are nobody's any more: they are shared. -/
def DV.owns : DV → List Nat
  | .osl _ l _ _ _ => [l]
  | .agg l | .tup l | .fn _ l | .ifc _ l | .bnd _ l => ownsAll l
  | _ => []
where ownsAll : List DV → List Nat
  | [] => []
  | d :: l => d.owns ++ ownsAll l
def isArr : Option AObj → Bool
  | some (.arr _ _) => true
  | _ => false
def frz (F : List Nat) (l : Nat) : Option Nat := if F.contains l then none else some l
def frzO (F : List Nat) (h : List AObj) (l : Nat) (o : AObj) : AObj := if F.contains l then .dead else lowO (frz F) h o
def St.freeze (st : St) (F : List Nat) : St := ⟨fun s => (st.fr s).low (frz F) st.h, st.h.zipIdx.map fun (o, l) => frzO F st.h l o⟩
/-- A call; rows may be shared ahead of it. -/
inductive acall (E : Env) (full : Bool) (f : Nat) : List DV → (DV → St → Prop) → St → Prop
  | go {ds : List DV} {K : DV → St → Prop} {st : St} (h : acall0 E full f ds K st) : acall E full f ds K st
  | frz {ds : List DV} {K : DV → St → Prop} {st : St} (F : List Nat) (hf : full = true) (hF : ∀ l ∈ F, isArr st.h[l]? = true) (h : acall E full f (ds.map fun d => d.low (Go.Ai.frz F) st.h) K (st.freeze F)) : acall E full f ds K st
/-- What a list of values owns becomes shared, if anything. -/
def shutL (ds : List DV) (st : St) (K : List DV → St → Prop) : Prop :=
  if ds.all DV.closed = true then K ds st
  else K (ds.map (DV.low (frz ((ds.flatMap DV.owns).filter fun l => isArr st.h[l]?)) st.h)) (st.freeze ((ds.flatMap DV.owns).filter fun l => isArr st.h[l]?))

/-- Plain parts, one by one. -/
def eqL : List FK → List DV → List DV → Option Bool
  | [], [], [] => some true
  | .int :: f, .int k a :: l, .int k' b :: l' => if k = k' then (eqL f l l').map (decide (a = b) && ·) else none
  | .str :: f, .str a :: l, .str b :: l' => (eqL f l l').map (decide (a = b) && ·)
  | .bool :: f, .bool a :: l, .bool b :: l' => (eqL f l l').map ((a == b) && ·)
  | _, _, _ => none
/-- Held against nil. -/
def nilB (op : BinOp) (b : Bool) (K : DV → Prop) : Prop :=
  match op with
  | .eql => K (.bool b)
  | .neq => K (.bool !b)
  | _ => False
def binD (op : BinOp) (ty : Ty) (x y : DV) (K : DV → Prop) : Prop :=
  match ty, x, y with
  | .prim, .int k a, .int k' b =>
    match op with
    | .shl => 0 ≤ b ∧ K (.int k (k.wrap (a * 2 ^ min b.toNat k.bits)))
    | .shr => 0 ≤ b ∧ K (.int k (a.fdiv (2 ^ min b.toNat k.bits)))
    | .add => k = k' ∧ K (.int k (k.wrap (a + b)))
    | .sub => k = k' ∧ K (.int k (k.wrap (a - b)))
    | .mul => k = k' ∧ K (.int k (k.wrap (a * b)))
    | .quo => k = k' ∧ b ≠ 0 ∧ K (.int k (k.wrap (a.tdiv b)))
    | .rem => k = k' ∧ b ≠ 0 ∧ K (.int k (a.tmod b))
    | .and => k = k' ∧ K (.int k (k.wrap (BitVec.ofInt k.bits a &&& BitVec.ofInt k.bits b).toNat))
    | .or => k = k' ∧ K (.int k (k.wrap (BitVec.ofInt k.bits a ||| BitVec.ofInt k.bits b).toNat))
    | .xor => k = k' ∧ K (.int k (k.wrap (BitVec.ofInt k.bits a ^^^ BitVec.ofInt k.bits b).toNat))
    | .eql => k = k' ∧ K (.bool (decide (a = b)))
    | .neq => k = k' ∧ K (.bool (!decide (a = b)))
    | .lss => k = k' ∧ K (.bool (decide (a < b)))
    | .leq => k = k' ∧ K (.bool (decide (a ≤ b)))
    | .gtr => k = k' ∧ K (.bool (decide (b < a)))
    | .geq => k = k' ∧ K (.bool (decide (b ≤ a)))
    | _ => False
  | .prim, .str a, .str b =>
    match op with
    | .add => a.length + b.length ≤ 4611686018427387904 ∧ K (.str (a ++ b))
    | .eql => K (.bool (decide (a = b)))
    | .neq => K (.bool (!decide (a = b)))
    | .lss => K (.bool (Op.bytesLess a b))
    | .leq => K (.bool (Op.bytesLess a b || decide (a = b)))
    | .gtr => K (.bool (!(Op.bytesLess a b || decide (a = b))))
    | .geq => K (.bool (!Op.bytesLess a b))
    | _ => False
  | .bool, .bool a, .bool b =>
    match op with
    | .eql => K (.bool (a == b))
    | .neq => K (.bool (!(a == b)))
    | _ => False
  | .flat n, .agg l, .agg l' =>
    match op with
    | .eql => ∃ b, eqL n l l' = some b ∧ K (.bool b)
    | .neq => ∃ b, eqL n l l' = some b ∧ K (.bool !b)
    | _ => False
  | .ptr, .nilp, .nilp => nilB op true K
  | .ptr, .ptr _ _, .nilp => nilB op false K
  | .ptr, .aptr _ _ _ _, .nilp => nilB op false K
  | .ptr, .eptr _ _, .nilp => nilB op false K
  | .slc, .osl _ _ _ n _, .nils _ => 0 < n ∧ nilB op false K
  | .slc, .sl _ es, .nils _ => es ≠ [] ∧ nilB op false K
  | .slc, .emp b _, .nils _ => nilB op b K
  | .ifc, .nili, .nili => nilB op true K
  | .ifc, .ifc _ _, .nili => nilB op false K
  | _, _, _ => False

def unD (op : UnOp) (x : DV) (K : DV → Prop) : Prop :=
  match op, x with
  | .not, .bool b => K (.bool !b)
  | .neg, .int k n => K (.int k (k.wrap (0 - n)))
  | _, _ => False

/-- The characters of a text from a place on, as Go ranges over them. -/
def runesL (s : List UInt8) : Nat → Nat → List Int
  | 0, _ => []
  | n + 1, i => if i < s.length then ((Utf8.decode ⟨s.toArray⟩ i).1 : Int) :: runesL s n (i + (Utf8.decode ⟨s.toArray⟩ i).2) else []

def convD (cv : CV) (x : DV) (K : DV → St → Prop) (st : St) : Prop :=
  match cv, x with
  | .int k, .int _ n => K (.int k (k.wrap n)) st
  | .id, .str s => K (.str s) st
  | .i2s, .int _ n => K (.str (Utf8.encode n).data.toList) st
  | .s2b, .str s => K (.osl 1 st.h.length 0 s.length none) (st.new (.arr 1 (s.map fun b => [.int .u8 b.toNat]))) ∨ (s = [] ∧ K (.emp false 1) (st.new (.arr 1 [])))
  | .s2r, .str s => K (.osl 1 st.h.length 0 (runesL s s.length 0).length none) (st.new (.arr 1 ((runesL s s.length 0).map fun r => [.int .i32 r])))
  | .b2s, .sl 1 es => ∃ bs : List UInt8, es = bs.map (fun b => [.int .u8 b.toNat]) ∧ K (.str bs) st
  | .b2s, .osl 1 l off n _ => (n = 0 ∧ K (.str []) st) ∨ ∃ es, st.h[l]? = some (.arr 1 es) ∧ off + n ≤ es.length ∧ ∃ bs : List UInt8, (es.drop off).take n = bs.map (fun b => [.int .u8 b.toNat]) ∧ K (.str bs) st
  | .b2s, .nils _ => K (.str []) st
  | .r2s, .sl 1 es => ∃ rs : List Int, es = rs.map (fun r => [.int .i32 r]) ∧ K (.str (rs.flatMap fun r => (Utf8.encode r).data.toList)) st
  | .r2s, .osl 1 l off n _ => (n = 0 ∧ K (.str []) st) ∨ ∃ es, st.h[l]? = some (.arr 1 es) ∧ off + n ≤ es.length ∧ ∃ rs : List Int, (es.drop off).take n = rs.map (fun r => [.int .i32 r]) ∧ K (.str (rs.flatMap fun r => (Utf8.encode r).data.toList)) st
  | .r2s, .nils _ => K (.str []) st
  | _, _ => False

def bt (s : List UInt8) (i : Nat) : Int := ((s.getD i 0).toNat : Int)

/-- What a slice holds: shared, or the call's own. -/
def elems (h : List AObj) (d : DV) (sz : Nat) (K : List (List DV) → Prop) : Prop :=
  match d with
  | .sl sz' es => (es = [] ∨ sz' = sz) ∧ K es
  | .nils _ => K []
  | .emp _ _ => K []
  | .osl sz' l off n _ => sz' = sz ∧ ∃ es, h[l]? = some (.arr sz es) ∧ off + n ≤ es.length ∧ K ((es.drop off).take n)
  | .str s => sz = 1 ∧ K (s.map fun b => [.int .u8 b.toNat])
  | _ => False

def appendD (sz bytes : Nat) (x y : DV) (K : DV → St → Prop) (st : St) : Prop :=
  elems st.h y sz fun ys =>
    match x with
    | .osl sz' l off n none => sz' = sz ∧ off = 0 ∧ ∃ es, st.h[l]? = some (.arr sz es) ∧ n ≤ es.length ∧ (n + ys.length) * bytes ≤ 1099511627776 ∧ n + ys.length ≤ 1099511627776 ∧
        K (.osl sz l 0 (n + ys.length) none) ((st.kill (· == l)).at l (.arr sz (es.take n ++ ys)))
    | .osl sz' l off n (some c) => sz' = sz ∧ ∃ es, st.h[l]? = some (.arr sz es) ∧ off + c ≤ es.length ∧ n + ys.length ≤ c ∧
        K (.osl sz l off (n + ys.length) (some c)) (st.at l (.arr sz (es.take (off + n) ++ ys ++ es.drop (off + n + ys.length))))
    | .nils _ => ys.length * bytes ≤ 1099511627776 ∧ ys.length ≤ 1099511627776 ∧ K (.osl sz st.h.length 0 ys.length none) (st.new (.arr sz ys))
    | _ => False

/-- Laid over the beginning of a row of the call's own, whole. -/
def copyD (sz : Nat) (x y : DV) (K : DV → St → Prop) (st : St) : Prop :=
  elems st.h y sz fun ys =>
    match x with
    | .osl sz' l off n _ => sz' = sz ∧ ∃ es, st.h[l]? = some (.arr sz es) ∧ off + n ≤ es.length ∧ ys.length ≤ n ∧
        K (.int .i64 ys.length) (st.at l (.arr sz (es.take off ++ ys ++ es.drop (off + ys.length))))
    | _ => False
/-- A value that lies in one cell, and is known. -/
def DV.one : DV → Bool
  | .agg _ | .tup _ | .undef => false
  | _ => true

/-- Parts laid into a value's cells. -/
def bldD : List DV → List (Nat × Nat × DV) → (List DV → Prop) → Prop
  | cs, [], K => K cs
  | cs, (off, n, d) :: l, K => d.cells.all DV.one = true ∧ d.cells.length = n ∧ off + n ≤ cs.length ∧ bldD (cs.take off ++ d.cells ++ cs.drop (off + n)) l K

/-- Two bounds: the upper one is n if it is left out, and at most c. -/
def bnd (fr : Nat → DV) (lo hi : Option AX) (n c : Nat) (K : Nat → Nat → Prop) : Prop :=
  match lo, hi with
  | none, none => K 0 n
  | some a, none => match a.ev fr with | .int _ i => 0 ≤ i ∧ i ≤ n ∧ K i.toNat n | _ => False
  | none, some b => match b.ev fr with | .int _ j => 0 ≤ j ∧ j ≤ c ∧ K 0 j.toNat | _ => False
  | some a, some b => match a.ev fr, b.ev fr with | .int _ i, .int _ j => 0 ≤ i ∧ i ≤ j ∧ j ≤ c ∧ K i.toNat j.toNat | _, _ => False

/-- The least, or the greatest, of some numbers. -/
def mmF (f : Int → Int → Int) (K : DV → Prop) : DV → List DV → Prop
  | d, [] => K d
  | .int k x, .int _ y :: l => mmF f K (.int k (f x y)) l
  | _, _ => False
def mm (f : Int → Int → Int) (l : List DV) (K : DV → Prop) : Prop :=
  match l with
  | .int k x :: l => mmF f K (.int k x) l
  | _ => False

/-- The method of a pointer's type, by its name. -/
def methF (P : Program) (t : TypeId) (m : String) : Option Nat :=
  match P.underlying t, (P.info? t).bind (fun i => i.methods.find? (·.name == m)) with
  | some (.pointer _), some row => match row.path.isEmpty, row.func with
    | true, some (f, true) => some f
    | _, _ => none
  | _, _ => none
def invD (E : Env) (full : Bool) (m : String) : DV → List DV → (DV → St → Prop) → St → Prop
  | .ifc t l, as, K, st => ∃ f, methF E.P t m = some f ∧ acall E full f (l ++ as) K st
  | _, _, _, _ => False
def aop (E : Env) (op : AOp) (K : DV → St → Prop) (st : St) : Prop :=
  match op with
  | .mov x => K (x.ev st.fr) st
  | .set x => K (ownVal (x.ev st.fr) st.h).1 { st with h := (ownVal (x.ev st.fr) st.h).2 }
  | .newnil sz => K (.osl sz st.h.length 0 0 none) (st.new (.arr sz []))
  | .pick c a b => match c.ev st.fr with
    | .bool t => match t with | true => K (a.ev st.fr) st | false => K (b.ev st.fr) st
    | _ => False
  | .box x => (x.ev st.fr).cells.all DV.one = true ∧
      K (.ptr (ownCells (x.ev st.fr).cells st.h).2.length 0) { st with h := (ownCells (x.ev st.fr).cells st.h).2 ++ [.box (ownCells (x.ev st.fr).cells st.h).1] }
  | .alloc zero => K (.ptr (ownCells zero st.h).2.length 0) { st with h := (ownCells zero st.h).2 ++ [.box (ownCells zero st.h).1] }
  | .allocb t e => K (.ptr (st.h.length + 1) 0) { st with h := (st.h ++ [.buf e []]) ++ [.box [.self (st.h.length + 1) t 2, .hdr st.h.length e 0]] }
  | .build zero parts => bldD zero (parts.map fun (o, n, x) => (o, n, x.ev st.fr)) fun cs => K (.agg cs) st
  | .bslice false sz parts => (∀ p ∈ parts, (p.ev st.fr).closed = true ∧ (p.ev st.fr).cells.all DV.one = true ∧ (p.ev st.fr).cells.length = sz) ∧
      K (.osl sz st.h.length 0 parts.length none) (st.new (.arr sz (parts.map fun p => (p.ev st.fr).cells)))
  | .bslice true sz parts => shutL (parts.map (·.ev st.fr)) st fun ds st' => (∀ d ∈ ds, d.closed = true ∧ d.cells.all DV.one = true ∧ d.cells.length = sz) ∧
      K (.osl sz st'.h.length 0 parts.length none) (st'.new (.arr sz (ds.map DV.cells)))
  | .load none x => match x.ev st.fr with
    | .ptr l o => ∃ cs, st.h[l]? = some (.box cs) ∧ ∃ d, cs[o]? = some d ∧ K d st
    | .aptr sz l j q => ∃ es, st.h[l]? = some (.arr sz es) ∧ ∃ e, es[j]? = some e ∧ ∃ d, e[q]? = some d ∧ K d st
    | .eptr cs o => ∃ d, cs[o]? = some d ∧ K d st
    | _ => False
  | .load (some n) x => match x.ev st.fr with
    | .ptr l o => ∃ cs, st.h[l]? = some (.box cs) ∧ o + n ≤ cs.length ∧ K (.agg ((cs.drop o).take n)) st
    | .aptr sz l j q => ∃ es, st.h[l]? = some (.arr sz es) ∧ ∃ e, es[j]? = some e ∧ q + n ≤ e.length ∧ K (.agg ((e.drop q).take n)) st
    | .eptr cs o => o + n ≤ cs.length ∧ K (.agg ((cs.drop o).take n)) st
    | _ => False
  | .store full n x v => match x.ev st.fr with
    | .ptr l o => ∃ cs, st.h[l]? = some (.box cs) ∧ (v.ev st.fr).cells.all DV.one = true ∧ (v.ev st.fr).cells.length = n ∧ o + n ≤ cs.length ∧
        K .undef ({ st with h := (ownCells (v.ev st.fr).cells st.h).2 }.at l (.box (cs.take o ++ (ownCells (v.ev st.fr).cells st.h).1 ++ cs.drop (o + n))))
    | .aptr sz l j q => (full = true ∨ (v.ev st.fr).closed = true) ∧ shutL [v.ev st.fr] st fun ds st' => ∃ d, ds = [d] ∧ ∃ es, st'.h[l]? = some (.arr sz es) ∧ ∃ e, es[j]? = some e ∧ d.closed = true ∧ d.cells.all DV.one = true ∧ d.cells.length = n ∧ q + n ≤ e.length ∧
        K .undef (st'.at l (.arr sz (es.set j (e.take q ++ d.cells ++ e.drop (q + n)))))
    | _ => False
  | .nilchk x => match x.ev st.fr with
    | .ptr l o => K (.ptr l o) st
    | .aptr sz l j q => K (.aptr sz l j q) st
    | .eptr cs o => K (.eptr cs o) st
    | .fn f caps => K (.fn f caps) st
    | _ => False
  | .bin op ty x y => binD op ty (x.ev st.fr) (y.ev st.fr) fun d => K d st
  | .un op x => unD op (x.ev st.fr) fun d => K d st
  | .conv cv x => convD cv (x.ev st.fr) K st
  | .mkfn f caps => K (.fn f (caps.map (·.ev st.fr))) st
  | .mkifc t x => K (.ifc t [x.ev st.fr]) st
  | .mkbnd f x => K (.bnd f [x.ev st.fr]) st
  | .inv full m x args => invD E full m (x.ev st.fr) (args.map (·.ev st.fr)) K st
  | .slice k x lo hi =>
    match x.ev st.fr with
    | .str s => k = none ∧ bnd st.fr lo hi s.length s.length fun i j => K (.str ((s.drop i).take (j - i))) st
    | .sl sz es => k = some sz ∧ bnd st.fr lo hi es.length es.length fun i j => K (.sl sz ((es.drop i).take (j - i))) st
    | .osl sz l off n none => k = some sz ∧ bnd st.fr lo hi n n fun i j => K (.osl sz l (off + i) (j - i) none) st
    | .osl sz l off n (some c) => k = some sz ∧ bnd st.fr lo hi n c fun i j => K (.osl sz l (off + i) (j - i) (some (c - i))) st
    | .nils sz => k.isSome = true ∧ bnd st.fr lo hi 0 0 fun _ _ => K (.nils sz) st
    | _ => False
  | .faddr off x => match x.ev st.fr with
    | .ptr l o => K (.ptr l (o + off)) st
    | .aptr sz l j q => K (.aptr sz l j (q + off)) st
    | .eptr cs o => K (.eptr cs (o + off)) st
    | _ => False
  | .field off none x => match x.ev st.fr with
    | .agg l => ∃ d, l[off]? = some d ∧ K d st
    | _ => False
  | .field off (some n) x => match x.ev st.fr with
    | .agg l => off + n ≤ l.length ∧ K (.agg ((l.drop off).take n)) st
    | _ => False
  | .iaddr sz x i => match x.ev st.fr, i.ev st.fr with
    | .sl sz' es, .int _ j => sz' = sz ∧ 0 ≤ j ∧ ∃ e, es[j.toNat]? = some e ∧ K (.eptr e 0) st
    | .osl sz' l off n _, .int _ j => sz' = sz ∧ 0 ≤ j ∧ j < n ∧ K (.aptr sz l (off + j.toNat) 0) st
    | _, _ => False
  | .baddr n sz x i => match x.ev st.fr, i.ev st.fr with
    | .ptr l o, .int _ j => 0 ≤ j ∧ j < n ∧ K (.ptr l (o + j.toNat * sz)) st
    | _, _ => False
  | .sidx x i => match x.ev st.fr, i.ev st.fr with
    | .str s, .int _ j => 0 ≤ j ∧ j < s.length ∧ K (.int .u8 (bt s j.toNat)) st
    | _, _ => False
  | .range x => match x.ev st.fr with
    | .str s => K (.ptr st.h.length 0) (st.new (.iter s 0))
    | _ => False
  | .next x => match x.ev st.fr with
    | .ptr l 0 => ∃ s pos, st.h[l]? = some (.iter s pos) ∧
        (pos < s.length → K (.tup [.bool true, .int .i64 pos, .int .i32 (Utf8.decode ⟨s.toArray⟩ pos).1]) (st.at l (.iter s (pos + (Utf8.decode ⟨s.toArray⟩ pos).2)))) ∧
        (¬ pos < s.length → K (.tup [.bool false]) st)
    | _ => False
  | .extr x i => match x.ev st.fr with
    | .tup l => ∃ d, l[i]? = some d ∧ K d st
    | _ => False
  | .call full f args => acall E full f (args.map (·.ev st.fr)) K st
  | .callv full x args => match x.ev st.fr with
    | .fn f caps => acall E full f (args.map (·.ev st.fr) ++ caps) K st
    | .bnd f caps => acall E full f (caps ++ args.map (·.ev st.fr)) K st
    | _ => False
  | .len k x => match x.ev st.fr with
    | .str s => k = true ∧ K (.int .i64 s.length) st
    | .sl _ es => k = false ∧ K (.int .i64 es.length) st
    | .osl _ _ _ n _ => k = false ∧ K (.int .i64 n) st
    | .nils _ => k = false ∧ K (.int .i64 0) st
    | .emp _ _ => k = false ∧ K (.int .i64 0) st
    | _ => False
  | .append sz bytes x y => appendD sz bytes (x.ev st.fr) (y.ev st.fr) K st
  | .mkslice sz bytes zero l c => match l.ev st.fr, c.ev st.fr with
    | .int .i64 n, .int .i64 m => 0 ≤ n ∧ n ≤ m ∧ m * bytes ≤ 1099511627776 ∧ m ≤ 1099511627776 ∧ K (.osl sz st.h.length 0 n.toNat (some m.toNat)) (st.new (.arr sz (List.replicate m.toNat zero)))
    | _, _ => False
  | .cap x => match x.ev st.fr with
    | .osl _ _ _ _ (some c) => K (.int .i64 c) st
    | .nils _ => K (.int .i64 0) st
    | _ => False
  | .appendz sz bytes zero x n => match x.ev st.fr, n.ev st.fr with
    | .nils _, .int .i64 m => 0 ≤ m ∧ m * bytes ≤ 1099511627776 ∧ m ≤ 1099511627776 ∧ K (.osl sz st.h.length 0 m.toNat none) (st.new (.arr sz (List.replicate m.toNat zero)))
    | _, _ => False
  | .cpy sz x y => copyD sz (x.ev st.fr) (y.ev st.fr) K st
  | .bad => False
  | .mn args => mm (fun x y => if y < x then y else x) (args.map (·.ev st.fr)) fun d => K d st
  | .mx args => mm (fun x y => if y > x then y else x) (args.map (·.ev st.fr)) fun d => K d st

inductive AExit where
  | normal
  | exit (id : Nat)
  | ret

def AOper.run0 (E : Env) (o : AOper) (K : St → Prop) (st : St) : Prop :=
  match o.guard with
  | none => aop E o.op (fun d st' => K (st'.put o.dst d)) st
  | some (g, want) => match st.fr g with
    | .bool b => (b = want → aop E o.op (fun d st' => K (st'.put o.dst d)) st) ∧ (b = !want → K (st.put o.dst (.tup [])))
    | .tup [] => K (st.put o.dst (.tup []))
    | _ => False
/-- What is reckoned gets a name. -/
def gen (op : AOp) (d : DV) (k : DV → Prop) : Prop :=
  match op, d with
  | .bin .., .int kd n | .un .., .int kd n | .conv .., .int kd n | .mx _, .int kd n | .mn _, .int kd n => ∀ v, v = n → k (.int kd v)
  | .bin .., .bool b | .un .., .bool b => (b = true → k (.bool true)) ∧ (b = false → k (.bool false))
  | _, d => k d
theorem gen_eq (op : AOp) (d : DV) (k : DV → Prop) : gen op d k = k d := by
  apply propext
  unfold gen
  split <;> first | exact Iff.rfl | exact ⟨fun h => h _ rfl, fun h v e => e ▸ h⟩ | (rename_i b; exact ⟨fun h => by cases b <;> simp_all, fun h => ⟨fun e => e ▸ h, fun e => e ▸ h⟩⟩)
def AOper.run (E : Env) (o : AOper) (K : St → Prop) (st : St) : Prop :=
  match o.guard with
  | none => aop E o.op (fun d st' => gen o.op d fun d => K (st'.put o.dst d)) st
  | some (g, want) => match st.fr g with
    | .bool b => match b == want with
      | true => aop E o.op (fun d st' => gen o.op d fun d => K (st'.put o.dst d)) st
      | false => K (st.put o.dst (.tup []))
    | .tup [] => K (st.put o.dst (.tup []))
    | _ => False
theorem AOper.run_iff {E : Env} {o : AOper} {K : St → Prop} {st : St} : o.run E K st ↔ o.run0 E K st := by
  unfold AOper.run AOper.run0
  have e : (fun d (st' : St) => gen o.op d fun d => K (st'.put o.dst d)) = fun d st' => K (st'.put o.dst d) := by
    funext d st'; exact gen_eq _ _ _
  rw [e]
  cases o.guard with
  | none => exact Iff.rfl
  | some g =>
    obtain ⟨g, want⟩ := g
    simp only
    split
    · rename_i b hb
      cases b <;> cases want <;> simp
    · exact Iff.rfl
    · exact Iff.rfl

def aops (E : Env) : List AOper → (St → Prop) → St → Prop
  | [], K, st => K st
  | o :: l, K, st => o.run E (aops E l K) st

/-- A state of which less is known: slots forgotten, the newest places dropped; or some places kept, told anew in whatever order (ρ). -/
structure Wk (m0 : Nat) (st st' : St) : Prop where
  ex : (∃ m, m0 ≤ m ∧ st'.h = st.h.take m ∧ (∀ s, st'.fr s = .undef ∨ st'.fr s = st.fr s ∧ (m < st.h.length → (st.fr s).under m = true)) ∧
    (m < st.h.length → ∀ (l : Nat) cs, l < m → st.h[l]? = some (.box cs) → ∀ d ∈ cs, d.under m = true)) ∨
    ∃ ρ : List Nat, ρ.Nodup ∧ m0 ≤ ρ.length ∧ (∀ i, i < m0 → ρ[i]? = some i) ∧ (∀ l ∈ ρ, l < st.h.length) ∧ (∀ l ∈ ρ, inO ρ.contains (st.h.getD l .dead) = true) ∧
      st'.h = (ρ.map fun l => renO (ρ.idxOf ·) (st.h.getD l .dead)) ∧ ∀ s, st'.fr s = .undef ∨ st'.fr s = (st.fr s).ren (ρ.idxOf ·) ∧ (st.fr s).inL ρ.contains = true

def awp (E : Env) (m0 : Nat) : ACode → (AExit → St → Prop) → St → Prop
  | .skip, K, st => K .normal st
  | .region _ ops, K, st => aops E ops (K .normal) st
  | .seq a b, K, st => awp E m0 a (fun e st' => match e with | .normal => awp E m0 b K st' | e => K e st') st
  | .cond c a b, K, st => match c.ev st.fr with
    | .bool t => match t with | true => awp E m0 a K st | false => awp E m0 b K st
    | _ => False
  | .block id b, K, st => awp E m0 b (fun e st' => match e with | .exit id' => if id' = id then K .normal st' else K (.exit id') st' | e => K e st') st
  | .loop b, K, st => ∃ (γ : Type) (S : γ → St) (P : γ → Prop) (μ : γ → Nat), (∃ g, Wk m0 st (S g) ∧ P g) ∧
      ∀ g, P g → awp E m0 b (fun e st' => match e with | .normal => ∃ g', Wk m0 st' (S g') ∧ P g' ∧ μ g' < μ g | e => K e st') (S g)
  | .exit id, K, st => K (.exit id) st
  | .ret, K, st => K .ret st
  | .jump g a b, K, st => awp E m0 a (fun e st' => match e with
      | .exit id' => if id' = g then awp E m0 b (fun e st' => match e with | .exit id' => id' < 1000000 ∧ K (.exit id') st' | e => K e st') st' else id' < 1000000 ∧ K (.exit id') st'
      | e => K e st') st

/-- What is handed back, of one result. -/
def rv1 (st : St) : RV → Option DV
  | .t s => some (st.fr s)
  | .cell s agg => match st.fr s with
    | .ptr l o => match st.h[l]?, agg with
      | some (.box cs), none => cs[o]?
      | some (.box cs), some n => if o + n ≤ cs.length then some (.agg ((cs.drop o).take n)) else none
      | _, _ => none
    | _ => none
def rvl (st : St) : List RV → Option (List DV)
  | [] => some []
  | r :: l => (rv1 st r).bind fun d => (rvl st l).map (d :: ·)
def rvd : List DV → DV
  | [d] => d
  | l => .tup l

def atEnd (post : List AObj → DV → Prop) (h : List AObj) (d : DV) : Prop := post h d

/-- What a call hands back: places that it was handed first, then those of its own that its result leads to (ρ). -/
def fin (m0 : Nat) (res : List RV) (post : List AObj → DV → Prop) : AExit → St → Prop
  | .exit _, _ => False
  | _, st => ∃ ds, rvl st res = some ds ∧ ∃ ρ : List Nat, ρ.Nodup ∧ m0 ≤ ρ.length ∧ (∀ i, i < m0 → ρ[i]? = some i) ∧ (∀ l ∈ ρ, l < st.h.length) ∧ (rvd ds).inL ρ.contains = true ∧
      (∀ l ∈ ρ, inO ρ.contains (st.h.getD l .dead) = true) ∧
      atEnd post (ρ.map fun l => renO (ρ.idxOf ·) (st.h.getD l .dead)) ((rvd ds).ren (ρ.idxOf ·))

end Go.Ai
