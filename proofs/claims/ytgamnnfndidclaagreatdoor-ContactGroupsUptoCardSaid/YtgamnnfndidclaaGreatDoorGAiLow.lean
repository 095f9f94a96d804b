/- Values lent or handed down, rows that become shared, places that come back. -/
import Derived.Test.YtgamnnfndidclaaGreatDoorGAiMap
set_option linter.all false
namespace Go.Ai
section
variable {E:Env} {C:Ctx} {a:Act} {w:World} {ok:Nat→Prop} {β:Loc} {st:St} {K:DV→St→Prop}

theorem bM (ρ:Nat→Option Nat)(h:List AObj):∀ l:List DV,DV.low.lowAll ρ h l=l.map (DV.low ρ h)
 | []=>rfl
 | d::l=>by simp [DV.low.lowAll,bM ρ h l]
theorem cO {w' : World}{ok' : Nat→Prop}{β' : Loc}{vs:List Value}{ds:List DV}{f:DV→DV}(h:∀ (i:Nat) v d,vs[i]?=some v→ds[i]?=some d→Rep w' ok' β' v (f d)) :
  ∀ (i:Nat) v d,vs[i]?=some v→(ds.map f)[i]?=some d→Rep w' ok' β' v d:=fun i v d hv hd=>by
 rw [List.getElem?_map] at hd
 cases hx:ds[i]? with
 | none=>simp [hx] at hd
 | some x=>simp [hx] at hd; subst hd; exact h i v x hv hx

theorem bX (p:Nat→Bool):∀ (l:List DV),DV.inL.inAll p l=true→∀ (i:Nat) d,l[i]?=some d→d.inL p=true
 | [],_,i,d,h=>by simp at h
 | x::l,hc,i,d,h=>by
  simp only [DV.inL.inAll,Bool.and_eq_true] at hc
  cases i with
  | zero=>simp at h; subst h; exact hc.1
  | succ i=>exact bX p l hc.2 i d (by simpa using h)

theorem Rep.inL {v:Value}{d:DV}(h:Rep w ok β v d)(p:Nat→Bool):d.inL p=true→∀ {β' : Loc},(∀ l x,p l=true→β l=some x→β' l=some x)→Rep w ok β' v d:=by
 induction h with
 | int k n=>exact fun _ _ _=>.int k n
 | bool b=>exact fun _ _ _=>.bool b
 | str s=>exact fun _ _ _=>.str s
 | agg vs ds hl _ ih=>exact fun hc _ hβ=>.agg vs ds hl fun i v d h1 h2=>ih i v d h1 h2 (bX p ds (by simpa [DV.inL] using hc) i d h2) hβ
 | tup vs ds hl _ ih=>exact fun hc _ hβ=>.tup vs ds hl fun i v d h1 h2=>ih i v d h1 h2 (bX p ds (by simpa [DV.inL] using hc) i d h2) hβ
 | nilp=>exact fun _ _ _=>.nilp
 | ptr l o b x h=>exact fun hc _ hβ=>.ptr l o b x (hβ l _ (by simpa [DV.inL] using hc) h)
 | mp l b h=>exact fun hc _ hβ=>.mp l b (hβ l _ (by simpa [DV.inL] using hc) h)
 | aptr sz l j q b x h=>exact fun hc _ hβ=>.aptr sz l j q b x (hβ l _ (by simpa [DV.inL] using hc) h)
 | eptr cs o b x vs hb hcs hr _=>exact fun _ _ _=>.eptr cs o b x vs hb hcs hr
 | nils sz hz=>exact fun _ _ _=>.nils sz hz
 | sl A n c sz es b x vs hn hnc hsz hes hA hcs h1 hr _=>exact fun _ _ _=>.sl A n c sz es b x vs hn hnc hsz hes hA hcs h1 hr
 | oslnil sz l off cap hcap hz=>exact fun _ _ _=>.oslnil sz l off cap hcap hz
 | osl sz l off n c b x y t m' hb hnc hsz hy hm hr cap hcap=>exact fun hc _ hβ=>.osl sz l off n c b x y t m' (hβ l _ (by simpa [DV.inL] using hc) hb) hnc hsz hy hm hr cap hcap
 | fn f vs ds hl _ ih=>exact fun hc _ hβ=>.fn f vs ds hl fun i v d h1 h2=>ih i v d h1 h2 (bX p ds (by simpa [DV.inL] using hc) i d h2) hβ
 | bnd f vs ds hl _ ih=>exact fun hc _ hβ=>.bnd f vs ds hl fun i v d h1 h2=>ih i v d h1 h2 (bX p ds (by simpa [DV.inL] using hc) i d h2) hβ
 | ifc f u ds hl _ ih=>exact fun hc _ hβ=>.ifc f u ds hl fun i v d h1 h2=>ih i v d h1 h2 (bX p ds (by simpa [DV.inL] using hc) i d h2) hβ
 | nilfn=>exact fun _ _ _=>.nilfn
 | nili=>exact fun _ _ _=>.nili
 | emp0 c sz=>exact fun _ _ _=>.emp0 c sz
 | emp1 A c sz=>exact fun _ _ _=>.emp1 A c sz
 | selfn l t m b hb hm=>exact fun hc _ hβ=>.selfn l t m b (hβ l _ (by simpa [DV.inL] using hc) hb) hm
 | selfp l t m b hb hm=>exact fun hc _ hβ=>.selfp l t m b (hβ l _ (by simpa [DV.inL] using hc) hb) hm
 | hdrn m e=>exact fun _ _ _=>.hdrn m e
 | hdrs m e n g cap hb hm hnc hcm hc0=>exact fun hc _ hβ=>.hdrs m e n g cap (hβ m _ (by simpa [DV.inL] using hc) hb) hm hnc hcm hc0
 | undef v=>exact fun _ _ _=>.undef v

theorem Rep.low (hs:SRep E C a w ok β st){v:Value}{d:DV}(h:Rep w ok β v d)(ρ:Nat→Option Nat){ok1:Nat→Prop}{β1:Loc}(hup:∀ b,ok b→ok1 b)
  (hlent:∀ l x,β l=some x→ρ l=none→ok1 x.1) (hρ:∀ l i x,ρ l=some i→β l=some x→β1 i=some x):Rep w ok1 β1 v (d.low ρ st.h):=by
 have hup' : ∀ {v:Value} {d:DV},Rep w ok noLoc v d→Rep w ok1 noLoc v d:=fun r=>r.mono hup (fun _ _=>rfl) (fun l x hx=>by simp [noLoc] at hx)
 have hgen:∀ {β2:Loc} {v:Value} {d:DV},Rep w ok β2 v d→β2=β→Rep w ok1 β1 v (d.low ρ st.h):=by
  intro β2 v d h
  induction h with
  | int k n=>exact fun _=>.int k n
  | bool b=>exact fun _=>.bool b
  | str s=>exact fun _=>.str s
  | agg vs ds hl _ ih=>
   intro e
   rw [DV.low,bM]
   exact .agg vs _ (by simpa using hl) (cO fun i v d h1 h2=>ih i v d h1 h2 e)
  | tup vs ds hl _ ih=>
   intro e
   rw [DV.low,bM]
   exact .tup vs _ (by simpa using hl) (cO fun i v d h1 h2=>ih i v d h1 h2 e)
  | nilp=>exact fun _=>.nilp
  | ptr l o b x hb=>
   intro e; subst e
   simp only [DV.low]
   split
   ·rename_i i hi; exact .ptr i o b x (hρ l i _ hi hb)
   ·rename_i hi
    split
    ·rename_i cs hl
     split
     ·rename_i hcl
      obtain ⟨b',vs,t,fz,g1,g2,g3,g4,g5⟩:=hs.heap.obj l _ hl
      rw [hb] at g1
      injection g1 with g1; injection g1 with e1 e2
      subst e1; subst e2
      refine .eptr cs o b 0 (fun k=>(vs[k]?).getD _root_.Go.undef) (hlent l _ hb hi) (fun k hk=>?_) (fun k d hd=>?_)
      ·have hk' : k<vs.size:=by omega
       simp [World.cell?,g2,hk']
      ·have hk' : k<vs.size:=by
        rcases Nat.lt_or_ge k cs.length with h|h
        ·omega
        ·rw [List.getElem?_eq_none h] at hd; cases hd
       have:=g5 k vs[k] d (Array.getElem?_eq_getElem hk') hd
       simp only [Array.getElem?_eq_getElem hk',Option.getD_some]
       exact hup' (this.shut (List.all_eq_true.1 hcl d (List.mem_of_getElem? hd)))
     ·exact .undef _
    ·exact .undef _
  | mp l b hb=>
   intro e; subst e
   simp only [DV.low]
   split
   ·rename_i i hi; exact .mp i b (hρ l i _ hi hb)
   ·exact .undef _
  | aptr sz l j q b x hb=>
   intro e; subst e
   simp only [DV.low]
   split
   ·rename_i i hi; exact .aptr sz i j q b x (hρ l i _ hi hb)
   ·exact .undef _
  | eptr cs o b x vs hb hcs hr _=>exact fun _=>.eptr cs o b x vs (hup b hb) hcs fun k d hd=>hup' (hr k d hd)
  | nils sz hz=>exact fun _=>.nils sz hz
  | sl A n c sz es b x vs hn hnc hsz hes hA hcs h1 hr _=>exact fun _=>.sl A n c sz es b x vs hn hnc hsz hes (fun hp=>⟨(hA hp).1,hup _ (hA hp).2⟩) hcs h1 fun k d hd=>hup' (hr k d hd)
  | oslnil sz l off cap hcap hz=>
   intro e
   simp only [DV.low]
   split
   ·exact .oslnil sz _ off cap hcap hz
   ·split
    ·rename_i sz' es hl
     split
     ·simpa using Rep.sl none 0 0 sz [] 0 0 (fun _=>_root_.Go.undef) rfl (Nat.le_refl _) hz (by simp) (fun h=>by omega) (fun k hk=>by simp at hk) (fun k hk=>by simp at hk) (fun k d hd=>by simp at hd)
     ·exact .undef _
    ·exact .undef _
  | osl sz l off n c b x y t m hb hnc hsz hy hm hr cap hcap=>
   intro e
   subst e
   simp only [DV.low]
   split
   ·rename_i i hi
    exact .osl sz i off n c b x y t m (hρ l i _ hi hb) hnc hsz hy hm hr cap hcap
   ·rename_i hnone
    split
    ·rename_i sz' es hl
     split
     ·rename_i hc
      obtain ⟨rfl,ho⟩:=hc
      have hes:=(hs.heap.obj l _ hl).1
      have hlen:((es.drop off).take n).length=n:=by rw [List.length_take,List.length_drop]; omega
      by_cases hn:n=0
      ·subst hn
       simpa using Rep.sl (some ⟨b,y,none⟩) 0 c sz' [] 0 0 (fun _=>_root_.Go.undef) rfl (Nat.zero_le _) hsz (by simp) (fun h=>by omega) (fun k hk=>by simp at hk) (fun k hk=>by simp at hk) (fun k d hd=>by simp at hd)
      ·obtain ⟨cs,e1,e2,e3⟩:=fH hs hb hl (by omega) ho hsz (hy (by omega))
       have hget:∀ k,k<n*sz' → cs[k]?=some (cs.getD k _root_.Go.undef):=fun k hk=>by
        have:k<cs.length:=by omega
        rw [List.getD_eq_getElem?_getD,List.getElem?_eq_getElem this]; rfl
       have hfl:((es.drop off).take n).flatten.length=n*sz' := by
        rw [aP (sz:=sz') (fun e he=>hes e (List.mem_of_mem_drop (List.mem_of_mem_take he))),hlen]
       have hin:∀ k,k<n*sz' → ∃ d,((es.drop off).take n).flatten[k]?=some d:=fun k hk=>⟨_,List.getElem?_eq_getElem (by omega)⟩
       refine .sl _ n c sz' _ b y (fun k=>cs.getD k _root_.Go.undef) hlen.symm hnc hsz (fun e he=>hes e (List.mem_of_mem_drop (List.mem_of_mem_take he))) (fun _=>⟨rfl,hlent l _ hb hnone⟩)
        (fun k hk=>e2 k _ (hget k hk)) (fun k hk=>?_) (fun k d hd=>?_)
       ·obtain ⟨d,hd⟩:=hin k hk
        exact (e3 k _ d (hget k hk) hd).1
       ·have hk:k<n*sz' := by
         rcases Nat.lt_or_ge k (n*sz') with h|h
         ·exact h
         ·rw [List.getElem?_eq_none (by omega)] at hd; cases hd
        exact hup' (e3 k _ d (hget k hk) hd).2
     ·exact .undef _
    ·exact .undef _
  | fn f vs ds hl _ ih=>
   intro e
   rw [DV.low,bM]
   exact .fn f vs _ (by simpa using hl) (cO fun i v d h1 h2=>ih i v d h1 h2 e)
  | bnd f vs ds hl _ ih=>
   intro e
   rw [DV.low,bM]
   exact .bnd f vs _ (by simpa using hl) (cO fun i v d h1 h2=>ih i v d h1 h2 e)
  | ifc f u ds hl _ ih=>
   intro e
   rw [DV.low,bM]
   exact .ifc f u _ (by simpa using hl) (cO fun i v d h1 h2=>ih i v d h1 h2 e)
  | nilfn=>exact fun _=>.nilfn
  | nili=>exact fun _=>.nili
  | emp0 c sz=>exact fun _=>.emp0 c sz
  | emp1 A c sz=>exact fun _=>.emp1 A c sz
  | selfn l t m b hb hm=>
   intro e; subst e
   simp only [DV.low]
   cases hi:ρ l with
   | some i=>exact .selfn i t m b (hρ l i _ hi hb) hm
   | none=>exact .undef _
  | selfp l t m b hb hm=>
   intro e; subst e
   simp only [DV.low]
   cases hi:ρ l with
   | some i=>exact .selfp i t m b (hρ l i _ hi hb) hm
   | none=>exact .undef _
  | hdrn m e=>
   intro _
   simp only [DV.low]
   cases hi:ρ m with
   | some i=>exact .hdrn i e
   | none=>exact .undef _
  | hdrs m e n g cap hb hm hnc hcm hc0=>
   intro e; subst e
   simp only [DV.low]
   cases hi:ρ m with
   | some i=>exact .hdrs i _ n g cap (hρ m i _ hi hb) hm hnc hcm hc0
   | none=>exact .undef _
  | undef v=>exact fun _=>.undef v
 exact hgen h rfl

theorem ORep.low (hs:SRep E C a w ok β st){l:Nat}{o:AObj}(h:ORep w ok β l o)(ρ:Nat→Option Nat){ok1:Nat→Prop}{β1:Loc}(hup:∀ b,ok b→ok1 b)
  (hlent:∀ l x,β l=some x→ρ l=none→ok1 x.1) (hρ:∀ l i x,ρ l=some i→β l=some x→β1 i=some x) (l' : Nat) (hl:β1 l' = β l):ORep w ok1 β1 l' (jV ρ st.h o):=by
 cases o with
 | box cs=>
  obtain ⟨b,vs,t,fz,h1,h2,h3,h4,h5⟩:=h
  refine ⟨b,vs,t,fz,hl.trans h1,h2,h3,by simpa using h4,fun i v d hi hd=>?_⟩
  rw [List.getElem?_map] at hd
  cases hd0:cs[i]? with
  | none=>simp [hd0] at hd
  | some d0=>simp [hd0] at hd; subst hd; exact (h5 i v d0 hi hd0).low hs ρ hup hlent hρ
 | arr sz es=>
  obtain ⟨h1,h2⟩:=h
  refine ⟨h1,?_⟩
  rcases h2 with ⟨he,hn⟩|⟨hz,b,x,vs,t,fz,k1,k2,k3,k4,k5⟩
  ·exact .inl ⟨he,hl.trans hn⟩
  ·exact .inr ⟨hz,b,x,vs,t,fz,hl.trans k1,k2,k3,k4,fun k v d hi hd=>⟨(k5 k v d hi hd).1,(k5 k v d hi hd).2.mono hup (fun _ _=>rfl) (fun l x hx=>by simp [noLoc] at hx)⟩⟩
 | iter s pos=>
  obtain ⟨b,h1,h2⟩:=h
  exact ⟨b,hl.trans h1,h2⟩
 | mapo es=>
  obtain ⟨b,h1,h2⟩:=h
  exact ⟨b,hl.trans h1,h2⟩
 | dead=>trivial
 | buf e bs=>
  rcases h with ⟨h1,h2⟩|⟨g,cur,h1,h2,h3⟩
  ·exact .inl ⟨h1,hl.trans h2⟩
  ·exact .inr ⟨g,cur,hl.trans h1,h2,h3⟩
 | gbuf e bs=>
  rcases h with ⟨h1,h2⟩|⟨g,cur,h1,h2,h3⟩
  ·exact .inl ⟨h1,hl.trans h2⟩
  ·exact .inr ⟨g,cur,hl.trans h1,h2,h3⟩

theorem SRep.freezeO (hs:SRep E C a w ok β st)(F:List Nat)(hF:∀ l∈F,cP st.h[l]?=true∨C.h0.length≤l) :
  ∃ ok' β',SRep E C a w ok' β' (st.freeze F)∧(∀ v d,Rep w ok β v d→Rep w ok' β' v (d.low (frz F) st.h))∧(∀ l x,l∈F→β l=some x→ok' x.1)∧∀ b,ok b→ok' b:=by
 let ok' : Nat→Prop:=fun b=>ok b∨∃ l x,l∈F∧β l=some x∧x.1=b
 let β' : Loc:=fun l=>if F.contains l then none else β l
 have hup:∀ b,ok b→ok' b:=fun b h=>.inl h
 have hlent:∀ l x,β l=some x→frz F l=none→ok' x.1:=fun l x hx hn=>by
  simp only [frz] at hn
  split at hn
  ·rename_i h; exact .inr ⟨l,x,by simpa using h,hx,rfl⟩
  ·cases hn
 have hρ:∀ l i x,frz F l=some i→β l=some x→β' i=some x:=fun l i x h hx=>by
  simp only [frz] at h
  split at h
  ·cases h
  ·rename_i hn
   injection h with h; subst h
   simp only [β']
   rw [if_neg hn]; exact hx
 have hrep:∀ v d,Rep w ok β v d→Rep w ok' β' v (d.low (frz F) st.h):=fun v d r=>r.low hs (frz F) hup hlent hρ
 have hβ' : ∀ l x,β' l=some x→l∉F∧β l=some x:=fun l x h=>by
  simp only [β'] at h
  split at h
  ·cases h
  ·rename_i hn; exact ⟨by simpa using hn,h⟩
 have hobj:∀ l o,st.h[l]?=some o→(st.freeze F).h[l]?=some (lL F st.h l o):=fun l o h=>by simp [St.freeze,h]
 refine ⟨ok',β',⟨hs.g,?_,⟨?_,?_,?_,?_,?_,?_⟩,?_,?_,fun s=>hrep _ _ (hs.fr s),hs.size,hs.defers,hs.base⟩,hrep,fun l x hl hx=>.inr ⟨l,x,hl,hx,rfl⟩,fun _ h=>.inl h⟩
 ·exact ⟨hs.ev.os,hs.ev.tape,hs.ev.output,hs.ev.size,hs.ev.same,fun l x hx=>hs.ev.own l x (hβ' l x hx).2,fun b h=>.inl (hs.ev.up b h),fun b h=>by
   rcases h with h|⟨l,x,hl,hx,rfl⟩
   ·exact hs.ev.dn b h
   ·rcases hs.ev.own l x hx with h|h
    ·exact .inr (.inl h)
    ·exact .inr (.inr h),hs.ev.shape⟩
 ·intro l hl
  have:st.h.length≤l:=by simpa [St.freeze] using hl
  simp only [β']
  split
  ·rfl
  ·exact hs.heap.out l this
 ·intro l l' b o o' h1 h2; exact hs.heap.inj l l' b o o' (hβ' _ _ h1).2 (hβ' _ _ h2).2
 ·intro l b o h1; exact hs.heap.lt l b o (hβ' _ _ h1).2
 ·intro l b o h1 hk
  obtain ⟨hn,h1⟩:=hβ' _ _ h1
  rcases hk with hk|⟨l2,x2,h2,h3,h4⟩
  ·exact hs.heap.dis l b o h1 hk
  ·have:l2=l:=hs.heap.inj l2 l b x2.2 o (by rw [h3,← h4]) h1
   exact hn (this▸h2)
 ·intro b hk
  rcases hk with hk|⟨l,x,_,hx,rfl⟩
  ·exact hs.heap.okl b hk
  ·exact (hs.heap.lt l x.1 x.2 hx).2
 ·intro l ob hl
  cases ho:st.h[l]? with
  | none=>simp [St.freeze,ho] at hl
  | some o=>
   rw [hobj l o ho] at hl
   injection hl with hl; subst hl
   simp only [lL]
   split
   ·trivial
   ·rename_i hn
    exact (hs.heap.obj l o ho).low hs (frz F) hup hlent hρ l (by simp only [β']; rw [if_neg hn])
 ·intro l cs hl
  obtain ⟨e,cs',hcs⟩:=hs.fix l cs hl
  have hn:F.contains l=false:=by
   cases hc:F.contains l with
   | false=>rfl
   | true=>
    rcases hF l (by simpa using hc) with this|this
    ·rw [hcs] at this
     simp [cP] at this
    ·rw [List.getElem?_eq_none this] at hl; cases hl
  refine ⟨by simp only [β']; rw [hn]; simpa using e,?_⟩
  rw [hobj l _ hcs]
  simp only [lL,hn]
  exact ⟨_,rfl⟩
 ·have:=hs.len; simpa [St.freeze] using this

theorem SRep.freeze (hs:SRep E C a w ok β st)(F:List Nat)(hF:∀ l∈F,cP st.h[l]?=true∨C.h0.length≤l) :
  ∃ ok' β',SRep E C a w ok' β' (st.freeze F)∧∀ v d,Rep w ok β v d→Rep w ok' β' v (d.low (frz F) st.h):=by
 obtain ⟨ok',β',h1,h2,_⟩:=hs.freezeO F hF
 exact ⟨ok',β',h1,h2⟩
theorem SRep.shareNew (h:SRep E C a w ok β st)(o:Obj):SRep E C a (w.alloc o) (fun b=>ok b∨b=w.heap.size) β st:=by
 have hold:∀ b,b<w.heap.size→(w.alloc o).heap[b]?=w.heap[b]?:=fun b hb=>eO w o hb
 have hsz:(w.alloc o).heap.size=w.heap.size+1:=Array.size_push _
 have hc:∀ b,ok b→(w.alloc o).heap[b]?=w.heap[b]?:=fun b hk=>hold b (h.heap.okl b hk)
 have hβ:∀ l x,β l=some x→β l=some x∧(w.alloc o).shape? x.1=w.shape? x.1:=fun l x hx=>
  ⟨hx,by have:=(h.heap.lt l x.1 x.2 hx).2; simp [World.shape?,hold _ this]⟩
 have hev:Ev w ok β (w.alloc o) (fun b=>ok b∨b=w.heap.size) β:=
  ⟨rfl,rfl,rfl,by omega,fun b hb _=>hold b hb,fun l x hx=>.inl ⟨l,x,hx,rfl⟩,fun _ k=>.inl k,fun b hb=>by
   rcases hb with hb|hb
   ·exact .inl hb
   ·exact .inr (.inr (by omega)),fun b hb=>by simp [World.shape?,hold b hb]⟩
 refine ⟨?_,h.ev.trans hev,⟨h.heap.out,h.heap.inj,?_,?_,?_,?_⟩,h.fix,h.len,?_,h.size,h.defers,?_⟩
 ·exact E.stable _ _ h.g fun b hb=>hold b (Nat.lt_of_lt_of_le hb h.base)
 ·intro l b x hx; have:=h.heap.lt l b x hx; exact ⟨this.1,by omega⟩
 ·intro l b x hx hk
  rcases hk with hk|hk
  ·exact h.heap.dis l b x hx hk
  ·have:=(h.heap.lt l b x hx).2; omega
 ·intro b hk
  rcases hk with hk|hk
  ·have:=h.heap.okl b hk; omega
  ·omega
 ·intro l ob hl
  exact (h.heap.obj l ob hl).mono (fun _ k=>.inl k) hc rfl (fun x hx=>hold _ (h.heap.lt l x.1 x.2 hx).2) hβ
 ·intro s; exact (h.fr s).mono (fun _ k=>.inl k) hc hβ
 ·have:=h.base; omega
theorem YT {sz b x c:Nat}{es:List (List DV)}{vals:List Value}(hlen:vals.length=es.length*sz)(hcell:∀ (k:Nat) v,vals[k]?=some v→w.cell? ⟨b,x+k,none⟩=some v)
  (hrep:∀ (k:Nat) v d,vals[k]?=some v→es.flatten[k]?=some d→v.oneCell' = true∧Rep w ok noLoc v d) (hok:ok b) (hes:∀ e∈es,e.length=sz) (hnc:es.length≤c) (hsz:0<sz) :
  Rep w ok β (.slice (some ⟨b,x,none⟩) es.length c) (.sl sz es):=by
 have hfl:es.flatten.length=es.length*sz:=aP hes
 have hv:∀ k,k<es.length*sz→vals[k]?=some (vals.getD k undef):=fun k hk=>by
  rw [List.getD_eq_getElem?_getD,List.getElem?_eq_getElem (by omega)]; rfl
 refine .sl (some ⟨b,x,none⟩) es.length c sz es b x (fun k=>vals.getD k undef) rfl hnc hsz hes (fun _=>⟨rfl,hok⟩) (fun k hk=>hcell k _ (hv k hk)) (fun k hk=>?_) (fun k d hd=>?_)
 ·exact (hrep k _ _ (hv k hk) (List.getElem?_eq_getElem (by omega))).1
 ·have hk:k<es.length*sz:=by
   rcases Nat.lt_or_ge k es.flatten.length with h|h
   ·omega
   ·rw [List.getElem?_eq_none h] at hd; cases hd
  exact (hrep k _ d (hv k hk) hd).2
theorem BX {T:Array TypeId}{t0 t1 el ty:TypeId}{td1:TypeDesc}{i:TypeInfo}{z:Value}(h0:T[0]?=some t0)(hu0:E.P.underlying t0=some (.slice el))(h1:T[1]?=some t1)(hu1:E.P.underlying t1=some td1)
    (hn1:iQ td1=false) (hi:E.P.info? el=some i) (hz0:i.zero=some z) (hpos:0<i.size) {x y:Value} {dx dy:DV}
    (hs:SRep E C a w ok β st) (hx:Rep w ok β x dx) (hy:Rep w ok β y dy) (hk:iR i.size i.bytes dx dy K st):LV E C a K (Builtin.append_ T ty #[x,y]) w:=by
  obtain ⟨ys,cs,hq,hys,hcs,hlen,hfc,hcr⟩:=lZ hs hy hpos hk
  have both:∀ {n:Nat} {es:List (List DV)} {os:List Value},n=es.length→os.length=n*i.size→(∀ e∈es,e.length=i.size)→(∀ (k:Nat) v d,os[k]?=some v→es.flatten[k]?=some d→v.oneCell' = true∧Rep w ok noLoc v d) →
      (∀ e∈es++ys,e.length=i.size)∧(os++cs).length=(es++ys).length*i.size∧∀ (k:Nat) v d,(os++cs)[k]?=some v→(es++ys).flatten[k]?=some d→v.oneCell' = true∧Rep w ok noLoc v d:=by
    intro n es os hn hos hes hr
    have hfl:=aP hes
    refine ⟨fun e he=>(List.mem_append.1 he).elim (hes e) (hys e),by simp [hos,hcs,Nat.add_mul,hn],fun k v d hv hd=>?_⟩
    rw [List.flatten_append] at hd
    rcases Nat.lt_or_ge k os.length with h|h
    · rw [List.getElem?_append_left h] at hv
      rw [List.getElem?_append_left (by rw [hfl]; rw [hos,hn] at h; exact h)] at hd
      exact hr k v d hv hd
    · rw [List.getElem?_append_right h] at hv
      rw [List.getElem?_append_right (by rw [hfl]; rw [hos,hn] at h; exact h),hfl,← hn,← hos] at hd
      exact hcr _ v d hv hd
  have moves:∀ {A:Option Addr} {n c l:Nat} {es:List (List DV)} {os:List Value},st.h[l]?=some (.arr i.size es)→n=es.length→os.length=n*i.size→(∀ (k:Nat) v d,os[k]?=some v→es.flatten[k]?=some d→v.oneCell' = true∧Rep w ok noLoc v d) →
      c<n+ys.length→(n+ys.length)*i.bytes≤1099511627776→n+ys.length≤1099511627776→(∀ w' : World,w'.heap=w.heap→(Builtin.firstCells i.size n (.slice A n c)).run E.P w' = .ok os.toArray w')→K (.sl i.size (es++ys)) (st.freeze [l]) →
      LV E C a K (Builtin.append_ T ty #[.slice A n c,y]) w:=by
    intro A n c l es os hl hn hos hor hgrow hb hm hfo hk
    have hes:=(hs.heap.obj _ _ hl).1
    obtain ⟨b1,b2,b3⟩:=both hn hos hes hor
    obtain ⟨cap,hcap,hr⟩:=fC h0 hu0 h1 hu1 hn1 hi hz0 hlen hgrow hb hm hfo hfc
    obtain ⟨ok',β',k1,k2,k3,k4⟩:=hs.freezeO [l] (fun l' hl' => by simp at hl'; subst hl'; simp [hl,cP])
    have k5:=(k1.drewN 1).shareNew (.cells (os.toArray++(cs.toArray++Builtin.zeroCells z.cells (cap - (n+ys.length)))) el)
    have hlen2:(es++ys).length=n+ys.length:=by simp [hn]
    have hpush:(w.drew.alloc (.cells (os.toArray++(cs.toArray++Builtin.zeroCells z.cells (cap - (n+ys.length)))) el)).heap[w.heap.size]?=some (.cells (os.toArray++(cs.toArray++Builtin.zeroCells z.cells (cap - (n+ys.length)))) el (0,0)):=bY w.drew _
    refine ⟨_,_,_,β',_,_,hr,k5,?_,hk⟩
    suffices hfin:Rep (w.drew.alloc (.cells (os.toArray++(cs.toArray++Builtin.zeroCells z.cells (cap - (n+ys.length)))) el)) (fun b=>ok' b∨b=w.drew.heap.size) β' (.slice (some ⟨w.heap.size,0,none⟩) (es++ys).length cap) (.sl i.size (es++ys)) by
      rw [hlen2] at hfin; exact hfin
    refine YT (vals:=os++cs) b2 (fun k v hv=>?_) (fun k v d hv hd=>?_) (.inr rfl) b1 (by omega) hpos
    · have:k<(os++cs).length:=(List.getElem?_eq_some_iff.1 hv).1
      simp only [World.cell?,hpush,Nat.zero_add]
      rw [← Array.append_assoc,Array.getElem?_append_left (by simpa using this)]
      simpa using hv
    · obtain ⟨q1,q2⟩:=b3 k v d hv hd
      exact ⟨q1,q2.mono (fun b hb=>.inl (k4 b hb)) (fun b hb=>eO w.drew _ (hs.heap.okl b hb)) (fun l x hx=>by simp [noLoc] at hx)⟩
  cases hx with
  | oslnil sz l off cap0 hcap0 hz=>
    cases cap0 with
    | some c0=>exact hq.elim
    | none=>
    obtain ⟨rfl,rfl,es,hl,hn,hb,hm,hk⟩:=hq
    obtain rfl:es=[]:=List.eq_nil_of_length_eq_zero hn.symm
    by_cases h00:ys.length=0
    · obtain rfl:ys=[]:=List.eq_nil_of_length_eq_zero h00
      obtain rfl:cs=[]:=List.eq_nil_of_length_eq_zero (by simpa using hcs)
      obtain ⟨ok',β',k1,k2,k3,k4⟩:=hs.freezeO [l] (fun l' hl' => by simp at hl'; subst hl'; simp [hl,cP])
      exact ⟨_,w,ok',β',_,_,cW (A:=none) (n:=0) (c:=0) h0 hu0 h1 hu1 hn1 hi hlen (hfc w rfl) (Nat.le_refl _) (fun _ h=>by cases h) (fun _=>rfl),k1,
        .sl none _ 0 i.size [] 0 0 (fun _=>undef) rfl (Nat.le_refl _) hpos (by simp) (fun h=>by simp at h) (fun k h=>by simp at h) (fun k h=>by simp at h) (fun k d h=>by simp at h),hk⟩
    · exact moves (os:=[]) hl rfl (by simp) (fun k v d hv _=>by simp at hv) (by omega) hb hm (fun w' _=>by simp [Builtin.firstCells]) hk
  | osl sz l off n c b x yy tt m hb hnc hsz hyy hmm hr cap0 hcap0=>
    cases cap0 with
    | some c0=>exact hq.elim
    | none=>
    obtain ⟨rfl,rfl,es,hl,hn,hbd,hm,hk⟩:=hq
    have hes:=(hs.heap.obj _ _ hl).1
    have hfo:∃ os:List Value,os.length=n*i.size∧(∀ w' : World,w'.heap=w.heap→(Builtin.firstCells i.size n (.slice (some ⟨b,yy,none⟩) n c)).run E.P w' = .ok os.toArray w') ∧
        (0<n→∀ (k:Nat) v,os[k]?=some v→w.cell? ⟨b,yy+k,none⟩=some v)∧∀ (k:Nat) u e,os[k]?=some u→es.flatten[k]?=some e→u.oneCell' = true∧Rep w ok noLoc u e:=by
      by_cases hn0:n=0
      · subst hn0
        exact ⟨[],by simp,fun w' _=>by simp [Builtin.firstCells,loadCells,loadCellsFrom],fun h=>absurd h (Nat.lt_irrefl _),fun k u e hu _=>by simp at hu⟩
      · obtain ⟨os,q1,q2,q3⟩:=fH (off:=0) (n:=n) hs hb hl (by omega) (by omega) hpos (hyy (by omega))
        refine ⟨os,q1,fun w' hw' => ?_,fun _=>q2,fun k u e hu he=>q3 k u e hu (by rw [List.drop_zero,hn,List.take_length]; exact he)⟩
        have hcell:∀ a,w'.cell? a=w.cell? a:=fun a=>by simp [World.cell?,hw']
        have:=fE (E:=E) (w:=w') b yy os (fun k v hv=>by rw [hcell]; exact q2 k v hv)
        rw [q1] at this
        simpa [Builtin.firstCells] using this
    obtain ⟨os,q1,q2,q4,q3⟩:=hfo
    by_cases hfit:n+ys.length≤c
    · obtain ⟨_,h2⟩:=hs.heap.obj l _ hl
      rcases h2 with ⟨_,h2⟩|⟨_,b',x',vs,ty',fz,k1,k2,k3,k4,k5⟩
      · rw [hb] at h2; cases h2
      · rw [hb] at k1
        injection k1 with k1; injection k1 with k1a k1b
        subst k1a; subst k1b
        have hms:m=vs.size:=by simp [World.shape?,k2] at hmm; exact hmm.2.symm
        have hroom:n*i.size+cs.length≤c*i.size:=by
          rw [hcs,← Nat.add_mul]; exact Nat.mul_le_mul_right _ hfit
        have hin:cs.length=0∨(x+n*i.size+0+cs.length≤vs.size∧yy=x):=by
          rcases Nat.eq_zero_or_pos c with hc0|hc0
          · left; rw [hc0,Nat.zero_mul] at hroom; omega
          · right
            have h3:=hr hc0
            have h4:=hyy hc0
            rw [Nat.zero_add] at h3
            exact ⟨by omega,by simpa using h4⟩
        have hw:∃ w',(storeCells ((⟨b,yy,none⟩:Addr).add (n*i.size)) cs).run E.P w=.ok () w' ∧ w'.os=w.os∧w'.tape=w.tape∧w'.output=w.output∧w'.heap.size=w.heap.size∧(∀ k,k≠b→w'.heap[k]?=w.heap[k]?) ∧
            ∃ cur',w'.heap[b]?=some (.cells cur' ty' fz)∧cur'.size=vs.size∧∀ k,cur'[k]?=if x+n*i.size≤k∧k<x+n*i.size+cs.length then cs[k - (x+n*i.size)]? else vs[k]?:=by
          rcases hin with h3|⟨h3,h4⟩
          · obtain rfl:cs=[]:=List.eq_nil_of_length_eq_zero h3
            exact ⟨w,rfl,rfl,rfl,rfl,rfl,fun _ _=>rfl,vs,k2,rfl,fun k=>by rw [if_neg (by simp)]⟩
          · subst h4
            have h5:=bI E.P b (yy+n*i.size) ty' fz cs 0 vs w k2 k3 h3 (fun u hu=>by
              obtain ⟨q,hq',rfl⟩:=List.mem_iff_getElem.1 hu
              have hq2:q<ys.flatten.length:=by rw [aP hys]; omega
              exact (hcr q _ _ (List.getElem?_eq_getElem hq') (List.getElem?_eq_getElem hq2)).1)
            rw [cN]
            simpa using h5
        obtain ⟨w',r,o1,o2,o3,o4,oth,cur',e1,e2,e3⟩:=hw
        have hmono:∀ {v:Value} {d:DV},Rep w ok noLoc v d→Rep w' ok noLoc v d:=fun h=>h.mono (fun _ k=>k)
          (fun k hk=>oth k fun e=>hs.heap.dis l b x hb (e▸hk)) (fun l' y hy=>by simp [noLoc] at hy)
        have hsh:w'.shape? b=w.shape? b:=by simp [World.shape?,e1,k2,e2]
        have hro:ORep w' ok β l (.arr i.size es):=by
          refine ⟨hes,.inr ⟨hpos,b,x,cur',ty',fz,hb,e1,by rw [e2]; exact k3,by rw [e2]; exact k4,fun k v d hv hd=>?_⟩⟩
          have hk:k<n*i.size:=by
            rcases Nat.lt_or_ge k es.flatten.length with h|h
            · rw [aP hes,← hn] at h; exact h
            · rw [List.getElem?_eq_none h] at hd; cases hd
          rw [e3,if_neg (by omega)] at hv
          obtain ⟨c1,c2⟩:=k5 k v d hv hd
          exact ⟨c1,hmono c2⟩
        have hsame:st.at l (.arr i.size es)=st:=by
          have hlt:l<st.h.length:=(List.getElem?_eq_some_iff.1 hl).1
          have:st.h.set l (.arr i.size es)=st.h:=by
            apply List.ext_getElem?
            intro k
            rw [List.getElem?_set]
            split
            · rename_i e; subst e; simp [hl]
            · rfl
          simp only [St.at,this]
        have hs' := hs.write l b x (.arr i.size es) _ hb hl (fun cs h=>by cases h) o1 o2 o3 o4 oth hsh hro
        rw [hsame] at hs'
        obtain ⟨ok',β',z1,z2,z3,z4⟩:=hs'.freezeO [l] (fun l' hl' => by simp at hl'; subst hl'; simp [hl,cP])
        obtain ⟨b1,b2,b3⟩:=both hn q1 hes q3
        have hlen2:(es++ys).length=n+ys.length:=by simp [hn]
        refine ⟨_,w',ok',β',_,_,cW h0 hu0 h1 hu1 hn1 hi hlen (hfc w rfl) hfit (fun ad had=>by cases had; exact r) (fun h=>by cases h),z1,?_,hk⟩
        suffices hfin:Rep w' ok' β' (.slice (some ⟨b,yy,none⟩) (es++ys).length c) (.sl i.size (es++ys)) by
          rw [hlen2] at hfin; exact hfin
        refine YT (vals:=os++cs) b2 (fun k v hv=>?_) (fun k v d hv hd=>?_) (z3 l (b,x) (by simp) hb) b1 (by omega) hpos
        · have hkl:k<(os++cs).length:=(List.getElem?_eq_some_iff.1 hv).1
          simp only [List.length_append] at hkl
          have hyx:yy=x:=by
            rcases Nat.eq_zero_or_pos c with hc0|hc0
            · have:n=0:=by omega
              subst this
              rw [hc0] at hroom
              simp at hroom q1
              subst q1; simp [hroom] at hkl
            · simpa using hyy hc0
          have hce:w'.cell? ⟨b,x+k,none⟩=cur'[x+k]?:=by simp [World.cell?,e1]
          rw [hyx,hce,e3]
          rcases Nat.lt_or_ge k os.length with h|h
          · rw [List.getElem?_append_left h] at hv
            rw [if_neg (by omega)]
            have hn0:0<n:=by
              rcases Nat.eq_zero_or_pos n with h' | h'
              · rw [q1,h',Nat.zero_mul] at h; omega
              · exact h'
            have:=q4 hn0 k v hv
            rw [hyx] at this
            simpa [World.cell?,k2] using this
          · rw [List.getElem?_append_right h] at hv
            rw [if_pos (by omega),show x+k - (x+n*i.size)=k - os.length by omega]
            exact hv
        · obtain ⟨c1,c2⟩:=b3 k v d hv hd
          exact ⟨c1,(hmono c2).mono z4 (fun _ _=>rfl) (fun l x hx=>by simp [noLoc] at hx)⟩
    · exact moves hl hn q1 q3 (by omega) hbd hm q2 hk
  | _=>exact hq.elim

theorem nG (hs:SRep E C a w ok β st){ds:List DV}{K:List DV→St→Prop}(hk:fP ds st K) :
  ∃ ds' st' ok' β',K ds' st' ∧ SRep E C a w ok' β' st' ∧ ds'.length=ds.length ∧
   (∀ (vs:List Value),(∀ (i:Nat) v d,vs[i]?=some v→ds[i]?=some d→Rep w ok β v d)→(∀ (i:Nat) v d,vs[i]?=some v→ds'[i]?=some d→Rep w ok' β' v d)) ∧
   (∀ v sz l j q sz' es,Rep w ok β v (.aptr sz l j q)→st'.h[l]?=some (.arr sz' es)→Rep w ok' β' v (.aptr sz l j q)):=by
 unfold fP at hk
 split at hk
 ·exact ⟨ds,st,ok,β,hk,hs,rfl,fun vs hv=>hv,fun v sz l j q sz' es h _=>h⟩
 ·obtain ⟨ok',β',h1,h2⟩:=hs.freeze ((ds.flatMap DV.owns).filter fun l=>cP st.h[l]?) (fun l hl=>.inl (List.mem_filter.1 hl).2)
  refine ⟨_,_,ok',β',hk,h1,by simp,fun vs hv=>cO fun i v d h3 h4=>h2 _ _ (hv i v d h3 h4),fun v sz l j q sz' es h hl=>?_⟩
  generalize (ds.flatMap DV.owns).filter (fun l=>cP st.h[l]?)=F at *
  have:=h2 _ _ h
  simp only [DV.low,frz] at this
  split at this
  ·rename_i hn
   split at hn
   ·cases hn
   ·injection hn with hn; subst hn; exact this
  ·rename_i hn
   split at hn
   ·rename_i hc
    cases ho:st.h[l]? with
    | none=>simp [St.freeze,ho] at hl
    | some o=>simp [St.freeze,ho,lL,List.contains_iff_mem.1 hc] at hl
   ·cases hn
end
end Go.Ai
