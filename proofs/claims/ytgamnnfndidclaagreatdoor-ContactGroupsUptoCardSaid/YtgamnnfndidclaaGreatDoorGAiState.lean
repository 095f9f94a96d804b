/- What an abstract value says of a value in memory, and how it is kept while memory grows. -/
import Derived.Calls
import Derived.Orders
import Derived.Below
import Derived.Laws.Sem
import Derived.Laws.World
import Derived.Laws.Cells
import Derived.Laws.Entries
import Derived.ChangeKeysEq
import Derived.Laws.NewFold
set_option linter.all false
namespace Go.Ai

inductive DV where
 | int (k:IntKind) (n:Int)
 | bool (b:Bool)
 | str (s:List UInt8)
 | agg (l:List DV)
 | tup (l:List DV)
 | nilp
 | ptr (l o:Nat)
 | aptr (sz l j q:Nat)
 | eptr (cs:List DV) (o:Nat)
 | nils (sz:Nat)
 | sl (sz:Nat) (es:List (List DV))
 | osl (sz l off n:Nat) (cap:Option Nat)
 | fn (f:Nat) (caps:List DV)
 | nilfn
 | ifc (t:Nat) (x:List DV)
 | bnd (f:Nat) (x:List DV)
 | nili
 | emp (b:Bool) (sz:Nat)
 | mp (l:Nat)
 | self (l t m:Nat)
 | hdr (m e n:Nat)
 | undef
 deriving Inhabited

abbrev Loc:=Nat→Option (Nat×Nat)
def noLoc:Loc:=fun _=>none

inductive Rep (w:World) (ok:Nat→Prop):Loc→Value→DV→Prop
  | int {β:Loc} (k:IntKind) (n:Int):Rep w ok β (.int k n) (.int k n)
  | bool {β:Loc} (b:Bool):Rep w ok β (.bool b) (.bool b)
  | str {β:Loc} (s:ByteArray):Rep w ok β (.string s) (.str s.data.toList)
  | agg {β:Loc} (vs:List Value) (ds:List DV) (hl:vs.length=ds.length)
      (h:∀ (i:Nat) v d,vs[i]?=some v→ds[i]?=some d→Rep w ok β v d):Rep w ok β (.agg vs.toArray) (.agg ds)
  | tup {β:Loc} (vs:List Value) (ds:List DV) (hl:vs.length=ds.length)
      (h:∀ (i:Nat) v d,vs[i]?=some v→ds[i]?=some d→Rep w ok β v d):Rep w ok β (.tuple vs.toArray) (.tup ds)
  | nilp {β:Loc}:Rep w ok β (.pointer none) .nilp
  | ptr {β:Loc} (l o b x:Nat) (h:β l=some (b,x)):Rep w ok β (.pointer (some ⟨b,x+o,none⟩)) (.ptr l o)
  | aptr {β:Loc} (sz l j q b x:Nat) (h:β l=some (b,x)):Rep w ok β (.pointer (some ⟨b,x+(j*sz+q),none⟩)) (.aptr sz l j q)
  | eptr {β:Loc} (cs:List DV) (o b x:Nat) (vs:Nat→Value) (hok:ok b)
      (hc:∀ k,k<cs.length→w.cell? ⟨b,x+k,none⟩=some (vs k))
      (h:∀ (k:Nat) d,cs[k]?=some d→Rep w ok noLoc (vs k) d):Rep w ok β (.pointer (some ⟨b,x+o,none⟩)) (.eptr cs o)
  | nils {β:Loc} (sz:Nat) (hz:0<sz):Rep w ok β (.slice none 0 0) (.nils sz)
  | sl {β:Loc} (A:Option Addr) (n c sz:Nat) (es:List (List DV)) (b x:Nat) (vs:Nat→Value) (hn:n=es.length) (hnc:n≤c) (hsz:0<sz)
      (hes:∀ e∈es,e.length=sz) (hA:0<n→A=some ⟨b,x,none⟩∧ok b)
      (hc:∀ k,k<n*sz→w.cell? ⟨b,x+k,none⟩=some (vs k)) (h1:∀ k,k<n*sz→(vs k).oneCell' = true)
      (h:∀ (k:Nat) d,es.flatten[k]?=some d→Rep w ok noLoc (vs k) d):Rep w ok β (.slice A n c) (.sl sz es)
  | oslnil {β:Loc} (sz l off:Nat) (cap:Option Nat) (hcap:∀ k,cap=some k→k=0) (hz:0<sz):Rep w ok β (.slice none 0 0) (.osl sz l off 0 cap)
  | osl {β:Loc} (sz l off n c b x y t m:Nat) (hb:β l=some (b,x)) (hnc:n≤c) (hsz:0<sz) (hy:0<c→y=x+off*sz)
      (hm:w.shape? b=some (t,m)) (hr:0<c→x+(off+c)*sz≤m)
      (cap:Option Nat) (hcap:∀ k,cap=some k→c=k):Rep w ok β (.slice (some ⟨b,y,none⟩) n c) (.osl sz l off n cap)
  | fn {β:Loc} (f:Nat) (vs:List Value) (ds:List DV) (hl:vs.length=ds.length)
      (h:∀ (i:Nat) v d,vs[i]?=some v→ds[i]?=some d→Rep w ok β v d):Rep w ok β (.func (.func f) #[] vs.toArray) (.fn f ds)
  | bnd {β:Loc} (f:Nat) (vs:List Value) (ds:List DV) (hl:vs.length=ds.length)
      (h:∀ (i:Nat) v d,vs[i]?=some v→ds[i]?=some d→Rep w ok β v d):Rep w ok β (.func (.func f) vs.toArray #[]) (.bnd f ds)
  | nilfn {β:Loc}:Rep w ok β .nilFunc .nilfn
  | ifc {β:Loc} (f:Nat) (u:Value) (ds:List DV) (hl:[u].length=ds.length)
      (h:∀ (i:Nat) v d,[u][i]?=some v→ds[i]?=some d→Rep w ok β v d):Rep w ok β (.iface f u) (.ifc f ds)
  | nili {β:Loc}:Rep w ok β .nilIface .nili
  | emp0 {β:Loc} (c sz:Nat):Rep w ok β (.slice none 0 c) (.emp true sz)
  | mp {β:Loc} (l b:Nat) (h:β l=some (b,0)):Rep w ok β (.map (some b)) (.mp l)
  | emp1 {β:Loc} (A:Addr) (c sz:Nat):Rep w ok β (.slice (some A) 0 c) (.emp false sz)
  | selfn {β:Loc} (l t m b:Nat) (hb:β l=some (b,0)) (hm:w.shape? b=some (t,m)):Rep w ok β (.pointer none) (.self l t m)
  | selfp {β:Loc} (l t m b:Nat) (hb:β l=some (b,0)) (hm:w.shape? b=some (t,m)):Rep w ok β (.pointer (some ⟨b,0,none⟩)) (.self l t m)
  | hdrn {β:Loc} (m e:Nat):Rep w ok β (.slice none 0 0) (.hdr m e 0)
  | hdrs {β:Loc} (m e n g cap:Nat) (hb:β m=some (g,0)) (hm:w.shape? g=some (e,cap)) (hnc:n≤cap) (hcm:cap≤maxLen) (hc0:0<cap):Rep w ok β (.slice (some ⟨g,0,none⟩) n cap) (.hdr m e n)
  | undef {β:Loc} (v:Value):Rep w ok β v .undef

theorem Rep.mono {w w' : World}{ok ok' : Nat→Prop}{β:Loc}{v:Value}{d:DV}(h:Rep w ok β v d)
  (hok:∀ b,ok b→ok' b) (hc:∀ b,ok b→w'.heap[b]?=w.heap[b]?) :
  ∀ {β' : Loc},(∀ l x,β l=some x→β' l=some x∧w'.shape? x.1=w.shape? x.1)→Rep w' ok' β' v d:=by
 have hcell:∀ b x,ok b→w'.cell? ⟨b,x,none⟩=w.cell? ⟨b,x,none⟩:=fun b x hb=>by simp [World.cell?,hc b hb]
 induction h with
 | int k n=>exact fun _=>.int k n
 | bool b=>exact fun _=>.bool b
 | str s=>exact fun _=>.str s
 | agg vs ds hl _ ih=>exact fun hβ=>.agg vs ds hl fun i v d h1 h2=>ih i v d h1 h2 hβ
 | tup vs ds hl _ ih=>exact fun hβ=>.tup vs ds hl fun i v d h1 h2=>ih i v d h1 h2 hβ
 | nilp=>exact fun _=>.nilp
 | ptr l o b x h=>exact fun hβ=>.ptr l o b x (hβ l _ h).1
 | mp l b h=>exact fun hβ=>.mp l b (hβ l _ h).1
 | aptr sz l j q b x h=>exact fun hβ=>.aptr sz l j q b x (hβ l _ h).1
 | eptr cs o b x vs hb hcs _ ih=>
  exact fun _=>.eptr cs o b x vs (hok b hb) (fun k hk=>(hcell b _ hb).trans (hcs k hk)) fun k d hd=>ih k d hd (fun l x hx=>by simp [noLoc] at hx)
 | nils sz hz=>exact fun _=>.nils sz hz
 | sl A n c sz es b x vs hn hnc hsz hes hA hcs h1 _ ih=>
  intro β' _
  refine .sl A n c sz es b x vs hn hnc hsz hes (fun hp=>⟨(hA hp).1,hok b (hA hp).2⟩) (fun k hk=>?_) h1 fun k d hd=>ih k d hd (fun l x hx=>by simp [noLoc] at hx)
  have hp:0<n:=by
   rcases Nat.eq_zero_or_pos n with h0|h0
   ·subst h0; simp at hk
   ·exact h0
  exact (hcell b _ (hA hp).2).trans (hcs k hk)
 | oslnil sz l off cap hcap hz=>exact fun _=>.oslnil sz l off cap hcap hz
 | osl sz l off n c b x y t m hb hnc hsz hy hm hr cap hcap=>exact fun hβ=>.osl sz l off n c b x y t m (hβ l _ hb).1 hnc hsz hy ((hβ l _ hb).2.trans hm) hr cap hcap
 | fn f vs ds hl _ ih=>exact fun hβ=>.fn f vs ds hl fun i v d h1 h2=>ih i v d h1 h2 hβ
 | bnd f vs ds hl _ ih=>exact fun hβ=>.bnd f vs ds hl fun i v d h1 h2=>ih i v d h1 h2 hβ
 | ifc f u ds hl _ ih=>exact fun hβ=>.ifc f u ds hl fun i v d h1 h2=>ih i v d h1 h2 hβ
 | nilfn=>exact fun _=>.nilfn
 | nili=>exact fun _=>.nili
 | emp0 c sz=>exact fun _=>.emp0 c sz
 | emp1 A c sz=>exact fun _=>.emp1 A c sz
 | selfn l t m b hb hm=>exact fun hβ=>.selfn l t m b (hβ l _ hb).1 ((hβ l _ hb).2.trans hm)
 | selfp l t m b hb hm=>exact fun hβ=>.selfp l t m b (hβ l _ hb).1 ((hβ l _ hb).2.trans hm)
 | hdrn m e=>exact fun _=>.hdrn m e
 | hdrs m e n g cap hb hm hnc hcm hc0=>exact fun hβ=>.hdrs m e n g cap (hβ m _ hb).1 ((hβ m _ hb).2.trans hm) hnc hcm hc0
 | undef v=>exact fun _=>.undef v

def DV.closed:DV→Bool
 | .ptr _ _ | .aptr _ _ _ _ | .osl _ _ _ _ _ | .self _ _ _ | .hdr _ _ _ | .mp _ | .undef=>false
 | .agg l | .tup l | .fn _ l | .ifc _ l | .bnd _ l=>closedAll l
 | _=>true
where closedAll:List DV→Bool
 | []=>true
 | d::l=>d.closed&&closedAll l

theorem bT:∀ (l:List DV),DV.closed.closedAll l=true→∀ (i:Nat) d,l[i]?=some d→d.closed=true
 | [],_,i,d,h=>by simp at h
 | x::l,hc,i,d,h=>by
  simp only [DV.closed.closedAll,Bool.and_eq_true] at hc
  cases i with
  | zero=>simp at h; subst h; exact hc.1
  | succ i=>exact bT l hc.2 i d (by simpa using h)

theorem Rep.shut {w:World}{ok:Nat→Prop}{β:Loc}{v:Value}{d:DV}(h:Rep w ok β v d):d.closed=true→∀ {β' : Loc},Rep w ok β' v d:=by
 induction h with
 | int k n=>exact fun _=>.int k n
 | bool b=>exact fun _=>.bool b
 | str s=>exact fun _=>.str s
 | agg vs ds hl _ ih=>exact fun hc=>.agg vs ds hl fun i v d h1 h2=>ih i v d h1 h2 (bT ds (by simpa [DV.closed] using hc) i d h2)
 | tup vs ds hl _ ih=>exact fun hc=>.tup vs ds hl fun i v d h1 h2=>ih i v d h1 h2 (bT ds (by simpa [DV.closed] using hc) i d h2)
 | nilp=>exact fun _=>.nilp
 | ptr l o b x h=>exact fun hc=>by simp [DV.closed] at hc
 | mp l b h=>exact fun hc=>by simp [DV.closed] at hc
 | aptr sz l j q b x h=>exact fun hc=>by simp [DV.closed] at hc
 | eptr cs o b x vs hb hcs h _=>exact fun _=>.eptr cs o b x vs hb hcs h
 | nils sz hz=>exact fun _=>.nils sz hz
 | sl A n c sz es b x vs hn hnc hsz hes hA hcs h1 h _=>exact fun _=>.sl A n c sz es b x vs hn hnc hsz hes hA hcs h1 h
 | oslnil sz l off cap=>exact fun hc=>by simp [DV.closed] at hc
 | osl sz l off n c b x y t m=>exact fun hc=>by simp [DV.closed] at hc
 | fn f vs ds hl _ ih=>exact fun hc=>.fn f vs ds hl fun i v d h1 h2=>ih i v d h1 h2 (bT ds (by simpa [DV.closed] using hc) i d h2)
 | bnd f vs ds hl _ ih=>exact fun hc=>.bnd f vs ds hl fun i v d h1 h2=>ih i v d h1 h2 (bT ds (by simpa [DV.closed] using hc) i d h2)
 | ifc f u ds hl _ ih=>exact fun hc=>.ifc f u ds hl fun i v d h1 h2=>ih i v d h1 h2 (bT ds (by simpa [DV.closed] using hc) i d h2)
 | nilfn=>exact fun _=>.nilfn
 | nili=>exact fun _=>.nili
 | emp0 c sz=>exact fun _=>.emp0 c sz
 | emp1 A c sz=>exact fun _=>.emp1 A c sz
 | selfn l t m b=>exact fun hc=>by simp [DV.closed] at hc
 | selfp l t m b=>exact fun hc=>by simp [DV.closed] at hc
 | hdrn m e=>exact fun hc=>by simp [DV.closed] at hc
 | hdrs m e n g cap=>exact fun hc=>by simp [DV.closed] at hc
 | undef v=>exact fun hc=>by simp [DV.closed] at hc


def DV.kill (p:Nat→Bool):DV→DV
 | .ptr l o=>if p l then .undef else .ptr l o
 | .mp l=>if p l then .undef else .mp l
 | .aptr sz l j q=>if p l then .undef else .aptr sz l j q
 | .osl sz l off n c=>if p l then .undef else .osl sz l off n c
 | .self l t m=>if p l then .undef else .self l t m
 | .hdr m e n=>if p m then .undef else .hdr m e n
 | .agg l=>.agg (killAll p l)
 | .tup l=>.tup (killAll p l)
 | .fn f l=>.fn f (killAll p l)
 | .ifc f l=>.ifc f (killAll p l)
 | .bnd f l=>.bnd f (killAll p l)
 | d=>d
where killAll (p:Nat→Bool):List DV→List DV
 | []=>[]
 | d::l=>d.kill p::killAll p l

theorem bL (p:Nat→Bool):∀ l:List DV,DV.kill.killAll p l=l.map (DV.kill p)
 | []=>rfl
 | d::l=>by simp [DV.kill.killAll,bL p l]

theorem Rep.kill {w w' : World}{ok ok' : Nat→Prop}{β:Loc}{v:Value}{d:DV}(h:Rep w ok β v d)(p:Nat→Bool)
  (hok:∀ b,ok b→ok' b) (hc:∀ b,ok b→w'.heap[b]?=w.heap[b]?) :
  ∀ {β' : Loc},(∀ l x,p l=false→β l=some x→β' l=some x∧w'.shape? x.1=w.shape? x.1)→Rep w' ok' β' v (d.kill p):=by
 have hcell:∀ b x,ok b→w'.cell? ⟨b,x,none⟩=w.cell? ⟨b,x,none⟩:=fun b x hb=>by simp [World.cell?,hc b hb]
 induction h with
 | int k n=>exact fun _=>.int k n
 | bool b=>exact fun _=>.bool b
 | str s=>exact fun _=>.str s
 | agg vs ds hl _ ih=>
  intro β' hβ
  rw [DV.kill,bL]
  refine .agg vs _ (by simpa using hl) fun i v d h1 h2=>?_
  rw [List.getElem?_map] at h2
  cases hd:ds[i]? with
  | none=>simp [hd] at h2
  | some d0=>simp [hd] at h2; subst h2; exact ih i v d0 h1 hd hβ
 | tup vs ds hl _ ih=>
  intro β' hβ
  rw [DV.kill,bL]
  refine .tup vs _ (by simpa using hl) fun i v d h1 h2=>?_
  rw [List.getElem?_map] at h2
  cases hd:ds[i]? with
  | none=>simp [hd] at h2
  | some d0=>simp [hd] at h2; subst h2; exact ih i v d0 h1 hd hβ
 | nilp=>exact fun _=>.nilp
 | ptr l o b x h=>
  intro β' hβ
  simp only [DV.kill]
  split
  ·exact .undef _
  ·rename_i hp; exact .ptr l o b x (hβ l _ (by simpa using hp) h).1
 | mp l b h=>
  intro β' hβ
  simp only [DV.kill]
  split
  ·exact .undef _
  ·rename_i hp; exact .mp l b (hβ l _ (by simpa using hp) h).1
 | aptr sz l j q b x h=>
  intro β' hβ
  simp only [DV.kill]
  split
  ·exact .undef _
  ·rename_i hp; exact .aptr sz l j q b x (hβ l _ (by simpa using hp) h).1
 | eptr cs o b x vs hb hcs hr _=>
  exact fun _=>.eptr cs o b x vs (hok b hb) (fun k hk=>(hcell b _ hb).trans (hcs k hk)) fun k d hd=>(hr k d hd).mono hok hc (fun l x hx=>by simp [noLoc] at hx)
 | nils sz hz=>exact fun _=>.nils sz hz
 | sl A n c sz es b x vs hn hnc hsz hes hA hcs h1 hr _=>
  intro β' _
  refine .sl A n c sz es b x vs hn hnc hsz hes (fun hp=>⟨(hA hp).1,hok b (hA hp).2⟩) (fun k hk=>?_) h1 fun k d hd=>(hr k d hd).mono hok hc (fun l x hx=>by simp [noLoc] at hx)
  have hp:0<n:=by
   rcases Nat.eq_zero_or_pos n with h0|h0
   ·subst h0; simp at hk
   ·exact h0
  exact (hcell b _ (hA hp).2).trans (hcs k hk)
 | oslnil sz l off cap hcap hz=>
  intro β' _
  simp only [DV.kill]
  split
  ·exact .undef _
  ·exact .oslnil sz l off cap hcap hz
 | osl sz l off n c b x y t m hb hnc hsz hy hm hr cap hcap=>
  intro β' hβ
  simp only [DV.kill]
  split
  ·exact .undef _
  ·rename_i hp
   have:=hβ l _ (by simpa using hp) hb
   exact .osl sz l off n c b x y t m this.1 hnc hsz hy (this.2.trans hm) hr cap hcap
 | fn f vs ds hl _ ih=>
  intro β' hβ
  rw [DV.kill,bL]
  refine .fn f vs _ (by simpa using hl) fun i v d h1 h2=>?_
  rw [List.getElem?_map] at h2
  cases hd:ds[i]? with
  | none=>simp [hd] at h2
  | some d0=>simp [hd] at h2; subst h2; exact ih i v d0 h1 hd hβ
 | bnd f vs ds hl _ ih=>
  intro β' hβ
  rw [DV.kill,bL]
  refine .bnd f vs _ (by simpa using hl) fun i v d h1 h2=>?_
  rw [List.getElem?_map] at h2
  cases hd:ds[i]? with
  | none=>simp [hd] at h2
  | some d0=>simp [hd] at h2; subst h2; exact ih i v d0 h1 hd hβ
 | ifc f u ds hl _ ih=>
  intro β' hβ
  rw [DV.kill,bL]
  refine .ifc f u _ (by simpa using hl) fun i v d h1 h2=>?_
  rw [List.getElem?_map] at h2
  cases hd:ds[i]? with
  | none=>simp [hd] at h2
  | some d0=>simp [hd] at h2; subst h2; exact ih i v d0 h1 hd hβ
 | nilfn=>exact fun _=>.nilfn
 | nili=>exact fun _=>.nili
 | emp0 c sz=>exact fun _=>.emp0 c sz
 | emp1 A c sz=>exact fun _=>.emp1 A c sz
 | selfn l t m b hb hm=>
  intro β' hβ
  simp only [DV.kill]
  split
  ·exact .undef _
  ·rename_i hp
   have:=hβ l _ (by simpa using hp) hb
   exact .selfn l t m b this.1 (this.2.trans hm)
 | selfp l t m b hb hm=>
  intro β' hβ
  simp only [DV.kill]
  split
  ·exact .undef _
  ·rename_i hp
   have:=hβ l _ (by simpa using hp) hb
   exact .selfp l t m b this.1 (this.2.trans hm)
 | hdrn m e=>
  intro β' hβ
  simp only [DV.kill]
  split
  ·exact .undef _
  ·exact .hdrn m e
 | hdrs m e n g cap hb hm hnc hcm hc0=>
  intro β' hβ
  simp only [DV.kill]
  split
  ·exact .undef _
  ·rename_i hp
   have:=hβ m _ (by simpa using hp) hb
   exact .hdrs m e n g cap this.1 (this.2.trans hm) hnc hcm hc0
 | undef v=>exact fun _=>.undef v


theorem Rep.shut_none {w:World}{ok:Nat→Prop}{v:Value}{d:DV}(h:Rep w ok noLoc v d){β' : Loc}:Rep w ok β' v d:=
 h.mono (fun _ h=>h) (fun _ _=>rfl) (fun l x hx=>by simp [noLoc] at hx)


inductive PV where
 | int (k:IntKind) (n:Int)
 | bool (b:Bool)
 | str (s:List UInt8)
 deriving Inhabited
def PV.val:PV→Value
 | .int k n=>.int k n
 | .bool b=>.bool b
 | .str s=>.string ⟨s.toArray⟩
def PV.dv:PV→DV
 | .int k n=>.int k n
 | .bool b=>.bool b
 | .str s=>.str s
def DV.pv:DV→Option PV
 | .int k n=>some (.int k n)
 | .bool b=>some (.bool b)
 | .str s=>some (.str s)
 | _=>none
inductive AObj where
 | box (cs:List DV)
 | arr (sz:Nat) (es:List (List DV))
 | iter (s:List UInt8) (pos:Nat)
 | mapo (es:List (List UInt8×PV))
 | dead
 | buf (e:Nat) (bs:List UInt8)
 | gbuf (e:Nat) (bs:List UInt8)
 deriving Inhabited

structure St where
 fr:Nat→DV
 h:List AObj

def upd (s:Nat)(d:DV)(fr:Nat→DV):Nat→DV:=fun t=>if t=s then d else fr t
def St.put (st:St)(dst:Option Nat)(d:DV):St:=
 match dst with
 | some s=>{ st with fr:=upd s d st.fr }
 | none=>st

def Thaw (fz:Nat×Nat)(n:Nat):Prop:=∀ o,o<n→(decide (fz.1≤o)&&decide (o<fz.2))=false
theorem Thaw.zero (n:Nat):Thaw (0,0) n:=fun o _=>by simp

def wM (p:(List UInt8×PV)×Nat):MapEntry:=⟨.string ⟨p.1.1.toArray⟩,p.1.2.val,p.2⟩
def aZ (es:List (List UInt8×PV)):Array MapEntry:=(es.zipIdx.map wM).toArray
def ORep (w:World)(ok:Nat→Prop)(β:Loc)(l:Nat):AObj→Prop
  | .box cs=>∃ b vs t fz,β l=some (b,0)∧w.heap[b]?=some (.cells vs t fz)∧Thaw fz vs.size∧vs.size=cs.length ∧
      ∀ (i:Nat) v d,vs[i]?=some v→cs[i]?=some d→Rep w ok β v d
  | .arr sz es=>(∀ e∈es,e.length=sz)∧((es=[]∧β l=none) ∨
      0<sz∧∃ b x vs t fz,β l=some (b,x)∧w.heap[b]?=some (.cells vs t fz)∧Thaw fz vs.size∧x+es.length*sz≤vs.size ∧
        ∀ (k:Nat) v d,vs[x+k]?=some v→es.flatten[k]?=some d→v.oneCell' = true∧Rep w ok noLoc v d)
  | .iter s pos=>∃ b,β l=some (b,0)∧w.heap[b]?=some (.stringIter ⟨s.toArray⟩ pos)
  | .mapo es=>∃ b,β l=some (b,0)∧w.heap[b]?=some (.map (aZ es) es.length)
  | .dead=>True
  | .buf e bs=>(bs=[]∧β l=none)∨∃ g cur,β l=some (g,0)∧w.heap[g]?=some (.cells cur e (0,0))∧bs.length≤cur.size∧(cur.toList.take bs.length=bs.map fun b=>Value.int .u8 b.toNat)∧bs≠[]
  | .gbuf e bs=>(bs=[]∧β l=none)∨∃ g cur,β l=some (g,0)∧w.heap[g]?=some (.cells cur e (0,0))∧bs.length≤cur.size∧cur.toList.take bs.length=bs.map fun b=>Value.int .u8 b.toNat

structure HRep (N:Nat) (w:World) (ok:Nat→Prop) (β:Loc) (h:List AObj):Prop where
 out:∀ l,h.length≤l→β l=none
 inj:∀ l l' b o o',β l=some (b,o)→β l' = some (b,o')→l=l'
 lt:∀ l b o,β l=some (b,o)→N≤b∧b<w.heap.size
 dis:∀ l b o,β l=some (b,o)→¬ ok b
 okl:∀ b,ok b→b<w.heap.size
 obj:∀ l o,h[l]?=some o→ORep w ok β l o

structure Env where
 P:Program
 N:Nat
 G:World→Prop
 stable:∀ w w',G w→(∀ b,b<N→w'.heap[b]?=w.heap[b]?)→G w'

structure Ev (w0:World) (ok0:Nat→Prop) (β0:Loc) (w:World) (ok:Nat→Prop) (β:Loc):Prop where
 os:w.os=w0.os
 tape:w.tape=w0.tape
 output:w.output=w0.output
 size:w0.heap.size≤w.heap.size
 same:∀ b,b<w0.heap.size→(∀ l x,β0 l=some x→x.1≠b)→w.heap[b]?=w0.heap[b]?
 own:∀ l x,β l=some x→(∃ l0 x0,β0 l0=some x0∧x0.1=x.1)∨w0.heap.size≤x.1
 up:∀ b,ok0 b→ok b
 dn:∀ b,ok b→ok0 b∨(∃ l0 x0,β0 l0=some x0∧x0.1=b)∨w0.heap.size≤b
 shape:∀ b,b<w0.heap.size→w.shape? b=w0.shape? b

theorem Ev.refl (w:World)(ok:Nat→Prop)(β:Loc):Ev w ok β w ok β:=
 ⟨rfl,rfl,rfl,Nat.le_refl _,fun _ _ _=>rfl,fun l x h=>.inl ⟨l,x,h,rfl⟩,fun _ h=>h,fun _ h=>.inl h,fun _ _=>rfl⟩

theorem Ev.trans {w0 w1 w2:World}{ok0 ok1 ok2:Nat→Prop}{β0 β1 β2:Loc}(h:Ev w0 ok0 β0 w1 ok1 β1)(k:Ev w1 ok1 β1 w2 ok2 β2):Ev w0 ok0 β0 w2 ok2 β2 where
 os:=k.os.trans h.os
 tape:=k.tape.trans h.tape
 output:=k.output.trans h.output
 size:=Nat.le_trans h.size k.size
 same:=fun b hb hn=>(k.same b (Nat.lt_of_lt_of_le hb h.size) fun l x hx e=>by
  rcases h.own l x hx with ⟨l0,x0,h0,e0⟩|hge
  ·exact hn l0 x0 h0 (e0.trans e)
  ·omega).trans (h.same b hb hn)
 own:=fun l x hx=>by
  rcases k.own l x hx with ⟨l1,x1,h1,e1⟩|hge
  ·rcases h.own l1 x1 h1 with ⟨l0,x0,h0,e0⟩|hge
   ·exact .inl ⟨l0,x0,h0,e0.trans e1⟩
   ·exact .inr (by omega)
  ·exact .inr (Nat.le_trans h.size hge)
 up:=fun b hb=>k.up b (h.up b hb)
 dn:=fun b hb=>by
  rcases k.dn b hb with h1|⟨l1,x1,h1,e1⟩|hge
  ·exact h.dn b h1
  ·rcases h.own l1 x1 h1 with ⟨l0,x0,h0,e0⟩|hge
   ·exact .inr (.inl ⟨l0,x0,h0,e0.trans e1⟩)
   ·exact .inr (.inr (by omega))
  ·exact .inr (.inr (Nat.le_trans h.size hge))
 shape:=fun b hb=>(k.shape b (Nat.lt_of_lt_of_le hb h.size)).trans (h.shape b hb)

structure Ctx where
 w0:World
 ok0:Nat→Prop
 β0:Loc
 h0:List AObj
 n:Nat
 hn:n≤1000000
 gh:Nat→Value
def Ctx.val (C:Ctx)(a:Act)(s:Nat):Value:=if s<1000000 then a.tmps.getD s undef else C.gh s

structure SRep (E:Env) (C:Ctx) (a:Act) (w:World) (ok:Nat→Prop) (β:Loc) (st:St):Prop where
 g:E.G w
 ev:Ev C.w0 C.ok0 C.β0 w ok β
 heap:HRep E.N w ok β st.h
 fix:∀ (l:Nat) cs,C.h0[l]?=some (.box cs)→β l=C.β0 l∧∃ cs',st.h[l]?=some (.box cs')
 len:C.h0.length≤st.h.length
 fr:∀ s,Rep w ok β (C.val a s) (st.fr s)
 size:a.tmps.size=C.n
 defers:a.defers=[]
 base:E.N≤w.heap.size

theorem SRep.put {E:Env}{C:Ctx}{a:Act}{w:World}{ok:Nat→Prop}{β:Loc}{st:St}(h:SRep E C a w ok β st){v:Value}{d:DV}
  (hv:Rep w ok β v d) (dst:Option Nat) (hd:∀ s,dst=some s→s<C.n):SRep E C (a.put dst v) w ok β (st.put dst d):=by
 cases dst with
 | none=>exact h
 | some s=>
  have hs:=hd s rfl
  refine ⟨h.g,h.ev,h.heap,h.fix,h.len,fun t=>?_,by simpa [Act.put] using h.size,h.defers,h.base⟩
  simp only [St.put,upd,Act.put]
  have hn:=C.hn
  split
  ·rename_i e
   subst e
   have:t<a.tmps.size:=by rw [h.size]; exact hs
   simp only [Ctx.val]
   rw [if_pos (by omega)]
   simpa [this] using hv
  ·rename_i e
   have hne:s≠t:=fun e' => e e'.symm
   have:=h.fr t
   simp only [Ctx.val] at this ⊢
   split
   ·rename_i ht
    rw [if_pos ht] at this
    simpa [Array.getElem?_setIfInBounds_ne hne] using this
   ·rename_i ht
    rw [if_neg ht] at this
    exact this
theorem SRep.frt {E:Env}{C:Ctx}{a:Act}{w:World}{ok:Nat→Prop}{β:Loc}{st:St}(h:SRep E C a w ok β st){s:Nat}(hs:s<1000000):Rep w ok β (a.tmps.getD s undef) (st.fr s):=by
 have:=h.fr s
 simp only [Ctx.val] at this
 rwa [if_pos hs] at this

theorem ORep.mono {w w' : World}{ok ok' : Nat→Prop}{β β' : Loc}{l:Nat}{o:AObj}(h:ORep w ok β l o)(hok:∀ b,ok b→ok' b)
  (hc:∀ b,ok b→w'.heap[b]?=w.heap[b]?) (hl:β' l=β l) (hb:∀ x,β l=some x→w'.heap[x.1]?=w.heap[x.1]?)
  (hβ:∀ l x,β l=some x→β' l=some x∧w'.shape? x.1=w.shape? x.1):ORep w' ok' β' l o:=by
 cases o with
 | box cs=>
  obtain ⟨b,vs,t,fz,h1,h2,h3,h4,h5⟩:=h
  exact ⟨b,vs,t,fz,hl.trans h1,(hb _ h1).trans h2,h3,h4,fun i v d hi hd=>(h5 i v d hi hd).mono hok hc hβ⟩
 | arr sz es=>
  obtain ⟨h1,h2⟩:=h
  refine ⟨h1,?_⟩
  rcases h2 with ⟨he,hn⟩|⟨hz,b,x,vs,t,fz,k1,k2,k3,k4,k5⟩
  ·exact .inl ⟨he,hl.trans hn⟩
  ·exact .inr ⟨hz,b,x,vs,t,fz,hl.trans k1,(hb _ k1).trans k2,k3,k4,fun k v d hi hd=>⟨(k5 k v d hi hd).1,(k5 k v d hi hd).2.mono hok hc (fun l x hx=>by simp [noLoc] at hx)⟩⟩
 | iter s pos=>
  obtain ⟨b,h1,h2⟩:=h
  exact ⟨b,hl.trans h1,(hb _ h1).trans h2⟩
 | mapo es=>
  obtain ⟨b,h1,h2⟩:=h
  exact ⟨b,hl.trans h1,(hb _ h1).trans h2⟩
 | dead=>trivial
 | buf e bs=>
  rcases h with ⟨h1,h2⟩|⟨g,cur,h1,h2,h3⟩
  ·exact .inl ⟨h1,hl.trans h2⟩
  ·exact .inr ⟨g,cur,hl.trans h1,(hb _ h1).trans h2,h3⟩
 | gbuf e bs=>
  rcases h with ⟨h1,h2⟩|⟨g,cur,h1,h2,h3⟩
  ·exact .inl ⟨h1,hl.trans h2⟩
  ·exact .inr ⟨g,cur,hl.trans h1,(hb _ h1).trans h2,h3⟩

theorem SRep.quiet {E:Env}{C:Ctx}{a:Act}{w w' : World}{ok:Nat→Prop}{β:Loc}{st:St}(h:SRep E C a w ok β st)
  (ho:w'.os=w.os) (ht:w'.tape=w.tape) (hp:w'.output=w.output) (hs:w.heap.size≤w'.heap.size)
  (hb:∀ b,b<w.heap.size→w'.heap[b]?=w.heap[b]?):SRep E C a w' ok β st:=by
 have hβ:∀ l x,β l=some x→β l=some x∧w'.shape? x.1=w.shape? x.1:=fun l x hx=>
  ⟨hx,by have:=(h.heap.lt l x.1 x.2 hx).2; simp [World.shape?,hb _ this]⟩
 have hc:∀ b,ok b→w'.heap[b]?=w.heap[b]?:=fun b hk=>hb b (h.heap.okl b hk)
 refine ⟨?_,?_,?_,h.fix,h.len,fun s=>(h.fr s).mono (fun _ k=>k) hc hβ,h.size,h.defers,Nat.le_trans h.base hs⟩
 ·exact E.stable w w' h.g fun b hbN=>hb b (Nat.lt_of_lt_of_le hbN h.base)
 ·exact h.ev.trans ⟨ho,ht,hp,hs,fun b hlt _=>hb b hlt,fun l x hx=>.inl ⟨l,x,hx,rfl⟩,fun _ k=>k,fun _ k=>.inl k,fun b hlt=>by simp [World.shape?,hb b hlt]⟩
 ·exact ⟨h.heap.out,h.heap.inj,fun l b o hx=>⟨(h.heap.lt l b o hx).1,Nat.lt_of_lt_of_le (h.heap.lt l b o hx).2 hs⟩,h.heap.dis,
   fun b hk=>Nat.lt_of_lt_of_le (h.heap.okl b hk) hs,
   fun l o hl=>(h.heap.obj l o hl).mono (fun _ k=>k) hc rfl (fun x hx=>hb _ (h.heap.lt l x.1 x.2 hx).2) hβ⟩

theorem SRep.drewN {E:Env}{C:Ctx}{a:Act}{w:World}{ok:Nat→Prop}{β:Loc}{st:St}(h:SRep E C a w ok β st)(n:Nat) :
  SRep E C a { w with drawn:=w.drawn+n } ok β st:=h.quiet rfl rfl rfl (Nat.le_refl _) fun _ _=>rfl

def St.new (st:St)(o:AObj):St:={ st with h:=st.h++[o] }
def St.at (st:St)(l:Nat)(o:AObj):St:={ st with h:=st.h.set l o }

theorem eO (w:World)(o:Obj){b:Nat}(h:b<w.heap.size):(w.alloc o).heap[b]?=w.heap[b]?:=by
 show (w.heap.push o)[b]?=w.heap[b]?
 rw [Array.getElem?_push,if_neg (Nat.ne_of_lt h)]
theorem bY (w:World)(o:Obj):(w.alloc o).heap[w.heap.size]?=some o:=by
 show (w.heap.push o)[w.heap.size]?=some o
 simp

theorem SRep.new {E:Env}{C:Ctx}{a:Act}{w:World}{ok:Nat→Prop}{β:Loc}{st:St}(h:SRep E C a w ok β st)(o:Obj)(ao:AObj)
  (hr:∀ β' : Loc,(∀ l x,β l=some x→β' l=some x∧(w.alloc o).shape? x.1=w.shape? x.1)→β' st.h.length=some (w.heap.size,0)→ORep (w.alloc o) ok β' st.h.length ao) :
  ∃ β',SRep E C a (w.alloc o) ok β' (st.new ao)∧β' st.h.length=some (w.heap.size,0)∧(∀ l x,β l=some x→β' l=some x):=by
 let β' : Loc:=fun l=>if l=st.h.length then some (w.heap.size,0) else β l
 have hnone:β st.h.length=none:=h.heap.out _ (Nat.le_refl _)
 have hup:∀ l x,β l=some x→β' l=some x:=fun l x hx=>by
  have:l≠st.h.length:=fun e=>by subst e; rw [hnone] at hx; cases hx
  simp [β',this,hx]
 have hold:∀ b,b<w.heap.size→(w.alloc o).heap[b]?=w.heap[b]?:=fun b hb=>eO w o hb
 have hβ:∀ l x,β l=some x→β' l=some x∧(w.alloc o).shape? x.1=w.shape? x.1:=fun l x hx=>
  ⟨hup l x hx,by have:=(h.heap.lt l x.1 x.2 hx).2; simp [World.shape?,hold _ this]⟩
 have hc:∀ b,ok b→(w.alloc o).heap[b]?=w.heap[b]?:=fun b hk=>hold b (h.heap.okl b hk)
 have hsz:(w.alloc o).heap.size=w.heap.size+1:=Array.size_push _
 refine ⟨β',⟨?_,?_,⟨?_,?_,?_,?_,?_,?_⟩,?_,?_,?_,h.size,h.defers,?_⟩,by simp [β'],hup⟩
 ·exact E.stable _ _ h.g fun b hb=>hold b (Nat.lt_of_lt_of_le hb h.base)
 ·refine h.ev.trans ⟨rfl,rfl,rfl,by omega,fun b hb _=>hold b hb,fun l x hx=>?_,fun _ k=>k,fun _ k=>.inl k,fun b hb=>by simp [World.shape?,hold b hb]⟩
  simp only [β'] at hx
  split at hx
  ·injection hx with hx; subst hx; exact .inr (Nat.le_refl _)
  ·exact .inl ⟨l,x,hx,rfl⟩
 ·intro l hl
  simp only [St.new,List.length_append,List.length_cons,List.length_nil] at hl
  have:l≠st.h.length:=by omega
  simp only [β',this,if_false]
  exact h.heap.out l (by omega)
 ·intro l l' b o1 o2 h1 h2
  simp only [β'] at h1 h2
  split at h1 <;> split at h2
  ·omega
  ·injection h1 with h1; injection h1 with h1 _; have:=(h.heap.lt _ _ _ h2).2; omega
  ·injection h2 with h2; injection h2 with h2 _; have:=(h.heap.lt _ _ _ h1).2; omega
  ·exact h.heap.inj l l' b o1 o2 h1 h2
 ·intro l b x hx
  simp only [β'] at hx
  split at hx
  ·injection hx with hx; injection hx with hx _; exact ⟨by have:=h.base; omega,by omega⟩
  ·have:=h.heap.lt l b x hx; exact ⟨this.1,by omega⟩
 ·intro l b x hx hk
  simp only [β'] at hx
  split at hx
  ·injection hx with hx; injection hx with hx _; have:=h.heap.okl b hk; omega
  ·exact h.heap.dis l b x hx hk
 ·intro b hk; have:=h.heap.okl b hk; omega
 ·intro l ob hl
  simp only [St.new] at hl
  rcases Nat.lt_or_ge l st.h.length with hlt|hge
  ·rw [List.getElem?_append_left hlt] at hl
   have hne:l≠st.h.length:=by omega
   exact (h.heap.obj l ob hl).mono (fun _ k=>k) hc (by simp [β',hne]) (fun x hx=>hold _ (h.heap.lt l x.1 x.2 hx).2) hβ
  ·rw [List.getElem?_append_right hge] at hl
   have:l=st.h.length:=by
    rcases Nat.eq_or_lt_of_le hge with e|e
    ·exact e.symm
    ·simp [show l - st.h.length≠0 by omega] at hl
   subst this
   simp at hl
   subst hl
   exact hr β' hβ (by simp [β'])
 ·intro l cs hl
  obtain ⟨e,cs',hcs⟩:=h.fix l cs hl
  have hlt:l<st.h.length:=by
   rcases Nat.lt_or_ge l st.h.length with hlt|hge
   ·exact hlt
   ·rw [List.getElem?_eq_none hge] at hcs; cases hcs
  have hne:l≠st.h.length:=by omega
  exact ⟨by simp [β',hne,e],cs',by simp [St.new,List.getElem?_append_left hlt,hcs]⟩
 ·have:=h.len; simp [St.new]; omega
 ·intro s; exact (h.fr s).mono (fun _ k=>k) hc hβ
 ·have:=h.base; omega

theorem SRep.newnone {E:Env}{C:Ctx}{a:Act}{w:World}{ok:Nat→Prop}{β:Loc}{st:St}(h:SRep E C a w ok β st)(sz:Nat) :
  SRep E C a w ok β (st.new (.arr sz [])):=by
 have hnone:β st.h.length=none:=h.heap.out _ (Nat.le_refl _)
 refine ⟨h.g,h.ev,⟨?_,h.heap.inj,h.heap.lt,h.heap.dis,h.heap.okl,?_⟩,?_,?_,h.fr,h.size,h.defers,h.base⟩
 ·intro l hl; exact h.heap.out l (by simp [St.new] at hl; omega)
 ·intro l ob hl
  simp only [St.new] at hl
  rcases Nat.lt_or_ge l st.h.length with hlt|hge
  ·rw [List.getElem?_append_left hlt] at hl; exact h.heap.obj l ob hl
  ·rw [List.getElem?_append_right hge] at hl
   have:l=st.h.length:=by
    rcases Nat.eq_or_lt_of_le hge with e|e
    ·exact e.symm
    ·simp [show l - st.h.length≠0 by omega] at hl
   subst this
   simp at hl
   subst hl
   exact ⟨by simp,.inl ⟨rfl,hnone⟩⟩
 ·intro l cs hl
  obtain ⟨e,cs',hcs⟩:=h.fix l cs hl
  have hlt:l<st.h.length:=by
   rcases Nat.lt_or_ge l st.h.length with hlt|hge
   ·exact hlt
   ·rw [List.getElem?_eq_none hge] at hcs; cases hcs
  exact ⟨e,cs',by simp [St.new,List.getElem?_append_left hlt,hcs]⟩
 ·have:=h.len; simp [St.new]; omega
theorem SRep.newbuf {E:Env}{C:Ctx}{a:Act}{w:World}{ok:Nat→Prop}{β:Loc}{st:St}(h:SRep E C a w ok β st)(e:Nat) :
  SRep E C a w ok β (st.new (.buf e [])):=by
 have hnone:β st.h.length=none:=h.heap.out _ (Nat.le_refl _)
 refine ⟨h.g,h.ev,⟨?_,h.heap.inj,h.heap.lt,h.heap.dis,h.heap.okl,?_⟩,?_,?_,h.fr,h.size,h.defers,h.base⟩
 ·intro l hl; exact h.heap.out l (by simp [St.new] at hl; omega)
 ·intro l ob hl
  simp only [St.new] at hl
  rcases Nat.lt_or_ge l st.h.length with hlt|hge
  ·rw [List.getElem?_append_left hlt] at hl; exact h.heap.obj l ob hl
  ·rw [List.getElem?_append_right hge] at hl
   have:l=st.h.length:=by
    rcases Nat.eq_or_lt_of_le hge with e|e
    ·exact e.symm
    ·simp [show l - st.h.length≠0 by omega] at hl
   subst this
   simp at hl
   subst hl
   exact .inl ⟨rfl,hnone⟩
 ·intro l cs hl
  obtain ⟨e,cs',hcs⟩:=h.fix l cs hl
  have hlt:l<st.h.length:=by
   rcases Nat.lt_or_ge l st.h.length with hlt|hge
   ·exact hlt
   ·rw [List.getElem?_eq_none hge] at hcs; cases hcs
  exact ⟨e,cs',by simp [St.new,List.getElem?_append_left hlt,hcs]⟩
 ·have:=h.len; simp [St.new]; omega

theorem SRep.write {E:Env}{C:Ctx}{a:Act}{w w' : World}{ok:Nat→Prop}{β:Loc}{st:St}(h:SRep E C a w ok β st)(l b x:Nat)(ao old:AObj)
  (hl:β l=some (b,x)) (hold:st.h[l]?=some old) (hbox:∀ cs,old=.box cs→∃ cs',ao=.box cs')
  (ho:w'.os=w.os) (ht:w'.tape=w.tape) (hp:w'.output=w.output) (hs:w'.heap.size=w.heap.size)
  (hb:∀ k,k≠b→w'.heap[k]?=w.heap[k]?) (hsh:w'.shape? b=w.shape? b) (hr:ORep w' ok β l ao) :
  SRep E C a w' ok β (st.at l ao):=by
 have hne:∀ l' y,l' ≠ l→β l' = some y→y.1≠b:=fun l' y hn hy e=>hn (h.heap.inj l' l b y.2 x (by rw [hy]; simp [← e]) hl)
 have hβ:∀ l x,β l=some x→β l=some x∧w'.shape? x.1=w.shape? x.1:=fun l' y hy=>⟨hy,by
  by_cases e:y.1=b
  ·rw [e]; exact hsh
  ·simp [World.shape?,hb _ e]⟩
 have hc:∀ k,ok k→w'.heap[k]?=w.heap[k]?:=fun k hk=>hb k fun e=>h.heap.dis l b x hl (e▸hk)
 have hlt:l<st.h.length:=by
  rcases Nat.lt_or_ge l st.h.length with hlt|hge
  ·exact hlt
  ·rw [List.getElem?_eq_none hge] at hold; cases hold
 refine ⟨?_,?_,⟨?_,h.heap.inj,?_,h.heap.dis,?_,?_⟩,?_,?_,?_,h.size,h.defers,?_⟩
 ·exact E.stable _ _ h.g fun k hk=>hb k fun e=>by have:=(h.heap.lt l b x hl).1; omega
 ·exact h.ev.trans ⟨ho,ht,hp,by omega,fun k _ hn=>hb k fun e=>hn l (b,x) hl e.symm,fun l x hx=>.inl ⟨l,x,hx,rfl⟩,fun _ k=>k,fun _ k=>.inl k,fun k _=>by
   by_cases e:k=b
   ·rw [e]; exact hsh
   ·simp [World.shape?,hb k e]⟩
 ·intro l' hl'; exact h.heap.out l' (by simpa [St.at] using hl')
 ·intro l' b' o' hx; have:=h.heap.lt l' b' o' hx; exact ⟨this.1,by omega⟩
 ·intro k hk; have:=h.heap.okl k hk; omega
 ·intro l' ob hl'
  simp only [St.at] at hl'
  by_cases e:l' = l
  ·subst e
   rw [List.getElem?_set_self hlt] at hl'
   injection hl' with hl'; subst hl'; exact hr
  ·rw [List.getElem?_set_ne (fun e' => e e'.symm)] at hl'
   exact (h.heap.obj l' ob hl').mono (fun _ k=>k) hc rfl (fun y hy=>hb _ (hne l' y e hy)) hβ
 ·intro l' cs hl'
  obtain ⟨e,cs',hcs⟩:=h.fix l' cs hl'
  refine ⟨e,?_⟩
  by_cases e' : l' = l
  ·subst e'
   rw [hold] at hcs
   injection hcs with hcs
   obtain ⟨cs2,h2⟩:=hbox cs' hcs
   exact ⟨cs2,by simp [St.at,hlt,h2]⟩
  ·exact ⟨cs',by simp only [St.at]; rw [List.getElem?_set_ne (fun q=>e' q.symm)]; exact hcs⟩
 ·simpa [St.at] using h.len
 ·intro s; exact (h.fr s).mono (fun _ k=>k) hc hβ
 ·have:=h.base; omega

def nF (p:Nat→Bool):AObj→AObj
 | .box cs=>.box (cs.map (DV.kill p))
 | o=>o
def St.kill (p:Nat→Bool)(st:St):St:=⟨fun s=>(st.fr s).kill p,st.h.map (nF p)⟩

theorem ORep.kill {w w' : World}{ok ok' : Nat→Prop}{β β' : Loc}{l:Nat}{o:AObj}(p:Nat→Bool)(h:ORep w ok β l o)(hok:∀ b,ok b→ok' b)
  (hc:∀ b,ok b→w'.heap[b]?=w.heap[b]?) (hl:β' l=β l) (hb:∀ x,β l=some x→w'.heap[x.1]?=w.heap[x.1]?)
  (hβ:∀ l x,p l=false→β l=some x→β' l=some x∧w'.shape? x.1=w.shape? x.1):ORep w' ok' β' l (nF p o):=by
 cases o with
 | box cs=>
  obtain ⟨b,vs,t,fz,h1,h2,h3,h4,h5⟩:=h
  refine ⟨b,vs,t,fz,hl.trans h1,(hb _ h1).trans h2,h3,by simpa using h4,fun i v d hi hd=>?_⟩
  rw [List.getElem?_map] at hd
  cases hd0:cs[i]? with
  | none=>simp [hd0] at hd
  | some d0=>simp [hd0] at hd; subst hd; exact (h5 i v d0 hi hd0).kill p hok hc hβ
 | arr sz es=>
  obtain ⟨h1,h2⟩:=h
  refine ⟨h1,?_⟩
  rcases h2 with ⟨he,hn⟩|⟨hz,b,x,vs,t,fz,k1,k2,k3,k4,k5⟩
  ·exact .inl ⟨he,hl.trans hn⟩
  ·exact .inr ⟨hz,b,x,vs,t,fz,hl.trans k1,(hb _ k1).trans k2,k3,k4,fun k v d hi hd=>⟨(k5 k v d hi hd).1,(k5 k v d hi hd).2.mono hok hc (fun l x hx=>by simp [noLoc] at hx)⟩⟩
 | iter s pos=>
  obtain ⟨b,h1,h2⟩:=h
  exact ⟨b,hl.trans h1,(hb _ h1).trans h2⟩
 | mapo es=>
  obtain ⟨b,h1,h2⟩:=h
  exact ⟨b,hl.trans h1,(hb _ h1).trans h2⟩
 | dead=>trivial
 | buf e bs=>
  rcases h with ⟨h1,h2⟩|⟨g,cur,h1,h2,h3⟩
  ·exact .inl ⟨h1,hl.trans h2⟩
  ·exact .inr ⟨g,cur,hl.trans h1,(hb _ h1).trans h2,h3⟩
 | gbuf e bs=>
  rcases h with ⟨h1,h2⟩|⟨g,cur,h1,h2,h3⟩
  ·exact .inl ⟨h1,hl.trans h2⟩
  ·exact .inr ⟨g,cur,hl.trans h1,(hb _ h1).trans h2,h3⟩

theorem SRep.kill {E:Env}{C:Ctx}{a:Act}{w:World}{ok:Nat→Prop}{β:Loc}{st:St}(h:SRep E C a w ok β st)(p:Nat→Bool) :
  SRep E C a w ok β (st.kill p):=by
 have hβ:∀ l x,p l=false→β l=some x→β l=some x∧w.shape? x.1=w.shape? x.1:=fun l x _ hx=>⟨hx,rfl⟩
 refine ⟨h.g,h.ev,⟨?_,h.heap.inj,h.heap.lt,h.heap.dis,h.heap.okl,?_⟩,?_,?_,fun s=>(h.fr s).kill p (fun _ k=>k) (fun _ _=>rfl) hβ,h.size,h.defers,h.base⟩
 ·intro l hl; exact h.heap.out l (by simpa [St.kill] using hl)
 ·intro l ob hl
  simp only [St.kill,List.getElem?_map] at hl
  cases hl0:st.h[l]? with
  | none=>simp [hl0] at hl
  | some o0=>simp [hl0] at hl; subst hl; exact (h.heap.obj l o0 hl0).kill p (fun _ k=>k) (fun _ _=>rfl) rfl (fun _ _=>rfl) hβ
 ·intro l cs hl
  obtain ⟨e,cs',hcs⟩:=h.fix l cs hl
  exact ⟨e,_,by simp only [St.kill,List.getElem?_map,hcs]; rfl⟩
 ·simpa [St.kill] using h.len

theorem SRep.move {E:Env}{C:Ctx}{a:Act}{w:World}{ok:Nat→Prop}{β:Loc}{st:St}(h:SRep E C a w ok β st)(l:Nat)(sz:Nat)(es es' : List (List DV))(o:Obj)
  (hold:st.h[l]?=some (.arr sz es))
  (hr:∀ β' : Loc,β' l=some (w.heap.size,0)→ORep (w.alloc o) ok β' l (.arr sz es')) :
  ∃ β',SRep E C a (w.alloc o) ok β' ((st.kill (· == l)).at l (.arr sz es'))∧β' l=some (w.heap.size,0):=by
 let β' : Loc:=fun k=>if k=l then some (w.heap.size,0) else β k
 have hlt:l<st.h.length:=by
  rcases Nat.lt_or_ge l st.h.length with hlt|hge
  ·exact hlt
  ·rw [List.getElem?_eq_none hge] at hold; cases hold
 have hob:∀ b,b<w.heap.size→(w.alloc o).heap[b]?=w.heap[b]?:=fun b hb=>eO w o hb
 have hβ:∀ k x,(k == l)=false→β k=some x→β' k=some x∧(w.alloc o).shape? x.1=w.shape? x.1:=fun k x hk hx=>
  ⟨by simp [β',show k≠l by simpa using hk,hx],by have:=(h.heap.lt k x.1 x.2 hx).2; simp [World.shape?,hob _ this]⟩
 have hc:∀ b,ok b→(w.alloc o).heap[b]?=w.heap[b]?:=fun b hk=>hob b (h.heap.okl b hk)
 have hsz:(w.alloc o).heap.size=w.heap.size+1:=Array.size_push _
 refine ⟨β',⟨?_,?_,⟨?_,?_,?_,?_,?_,?_⟩,?_,?_,?_,h.size,h.defers,?_⟩,by simp [β']⟩
 ·exact E.stable _ _ h.g fun b hb=>hob b (Nat.lt_of_lt_of_le hb h.base)
 ·refine h.ev.trans ⟨rfl,rfl,rfl,by omega,fun b hb _=>hob b hb,fun k x hx=>?_,fun _ k=>k,fun _ k=>.inl k,fun b hb=>by simp [World.shape?,hob b hb]⟩
  simp only [β'] at hx
  split at hx
  ·injection hx with hx; subst hx; exact .inr (Nat.le_refl _)
  ·exact .inl ⟨k,x,hx,rfl⟩
 ·intro k hk
  have hk' : st.h.length≤k:=by simpa [St.at,St.kill] using hk
  have:k≠l:=by omega
  simp only [β',this,if_false]
  exact h.heap.out k hk'
 ·intro k k' b o1 o2 h1 h2
  simp only [β'] at h1 h2
  split at h1 <;> split at h2
  ·omega
  ·injection h1 with h1; injection h1 with h1 _; have:=(h.heap.lt _ _ _ h2).2; omega
  ·injection h2 with h2; injection h2 with h2 _; have:=(h.heap.lt _ _ _ h1).2; omega
  ·exact h.heap.inj k k' b o1 o2 h1 h2
 ·intro k b x hx
  simp only [β'] at hx
  split at hx
  ·injection hx with hx; injection hx with hx _; exact ⟨by have:=h.base; omega,by omega⟩
  ·have:=h.heap.lt k b x hx; exact ⟨this.1,by omega⟩
 ·intro k b x hx hk
  simp only [β'] at hx
  split at hx
  ·injection hx with hx; injection hx with hx _; have:=h.heap.okl b hk; omega
  ·exact h.heap.dis k b x hx hk
 ·intro b hk; have:=h.heap.okl b hk; omega
 ·intro k ob hk
  simp only [St.at,St.kill] at hk
  by_cases e:k=l
  ·subst e
   rw [List.getElem?_set_self (by simpa using hlt)] at hk
   injection hk with hk; subst hk
   exact hr β' (by simp [β'])
  ·rw [List.getElem?_set_ne (fun q=>e q.symm),List.getElem?_map] at hk
   cases hk0:st.h[k]? with
   | none=>simp [hk0] at hk
   | some o0=>
    simp [hk0] at hk; subst hk
    exact (h.heap.obj k o0 hk0).kill _ (fun _ k=>k) hc (by simp [β',e]) (fun x hx=>hob _ (h.heap.lt k x.1 x.2 hx).2) hβ
 ·intro k cs hk
  obtain ⟨e,cs',hcs⟩:=h.fix k cs hk
  have hne:k≠l:=fun q=>by subst q; rw [hold] at hcs; cases hcs
  refine ⟨by simp [β',hne,e],cs'.map (DV.kill (· == l)),?_⟩
  simp only [St.at,St.kill]
  rw [List.getElem?_set_ne (fun q=>hne q.symm),List.getElem?_map,hcs]
  rfl
 ·simpa [St.at,St.kill] using h.len
 ·intro s; exact (h.fr s).kill _ (fun _ k=>k) hc hβ
 ·have:=h.base; omega
end Go.Ai
