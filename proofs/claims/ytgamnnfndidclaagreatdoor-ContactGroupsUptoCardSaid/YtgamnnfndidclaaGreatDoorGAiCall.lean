/- Calls by contract. -/
import Derived.Test.YtgamnnfndidclaaGreatDoorGAiLow
set_option linter.all false
namespace Go.Ai
section
variable {E:Env} {C:Ctx} {a:Act} {w:World} {ok:Nat→Prop} {β:Loc} {st:St} {K:DV→St→Prop}

theorem eG (ρ:Nat→Nat):∀ l:List DV,DV.ren.renAll ρ l=l.map (DV.ren ρ)
 | []=>rfl
 | d::l=>by simp [DV.ren.renAll,eG ρ l]
theorem Rep.ren {w:World}{ok:Nat→Prop}{β:Loc}{v:Value}{d:DV}(h:Rep w ok β v d)(ρ:Nat→Nat):∀ {β' : Loc},(∀ l x,β l=some x→β' (ρ l)=some x)→Rep w ok β' v (d.ren ρ):=by
 induction h with
 | int k n=>exact fun _=>.int k n
 | bool b=>exact fun _=>.bool b
 | str s=>exact fun _=>.str s
 | agg vs ds hl _ ih=>
  intro β' hβ
  rw [DV.ren,eG]
  exact .agg vs _ (by simpa using hl) (cO fun i v d h1 h2=>ih i v d h1 h2 hβ)
 | tup vs ds hl _ ih=>
  intro β' hβ
  rw [DV.ren,eG]
  exact .tup vs _ (by simpa using hl) (cO fun i v d h1 h2=>ih i v d h1 h2 hβ)
 | nilp=>exact fun _=>.nilp
 | ptr l o b x h=>exact fun hβ=>.ptr _ o b x (hβ l _ h)
 | mp l b h=>exact fun hβ=>.mp _ b (hβ l _ h)
 | aptr sz l j q b x h=>exact fun hβ=>.aptr sz _ j q b x (hβ l _ h)
 | eptr cs o b x vs hb hcs hr _=>exact fun _=>.eptr cs o b x vs hb hcs hr
 | nils sz hz=>exact fun _=>.nils sz hz
 | sl A n c sz es b x vs hn hnc hsz hes hA hcs h1 hr _=>exact fun _=>.sl A n c sz es b x vs hn hnc hsz hes hA hcs h1 hr
 | oslnil sz l off cap hcap hz=>exact fun _=>.oslnil sz _ off cap hcap hz
 | osl sz l off n c b x y t m hb hnc hsz hy hm hr cap hcap=>exact fun hβ=>.osl sz _ off n c b x y t m (hβ l _ hb) hnc hsz hy hm hr cap hcap
 | fn f vs ds hl _ ih=>
  intro β' hβ
  rw [DV.ren,eG]
  exact .fn f vs _ (by simpa using hl) (cO fun i v d h1 h2=>ih i v d h1 h2 hβ)
 | bnd f vs ds hl _ ih=>
  intro β' hβ
  rw [DV.ren,eG]
  exact .bnd f vs _ (by simpa using hl) (cO fun i v d h1 h2=>ih i v d h1 h2 hβ)
 | ifc f u ds hl _ ih=>
  intro β' hβ
  rw [DV.ren,eG]
  exact .ifc f u _ (by simpa using hl) (cO fun i v d h1 h2=>ih i v d h1 h2 hβ)
 | nilfn=>exact fun _=>.nilfn
 | nili=>exact fun _=>.nili
 | emp0 c sz=>exact fun _=>.emp0 c sz
 | emp1 A c sz=>exact fun _=>.emp1 A c sz
 | selfn l t m b hb hm=>exact fun hβ=>.selfn _ t m b (hβ l _ hb) hm
 | selfp l t m b hb hm=>exact fun hβ=>.selfp _ t m b (hβ l _ hb) hm
 | hdrn m e=>exact fun _=>.hdrn _ e
 | hdrs m e n g cap hb hm hnc hcm hc0=>exact fun hβ=>.hdrs _ e n g cap (hβ m _ hb) hm hnc hcm hc0
 | undef v=>exact fun _=>.undef v

theorem fY:∀ (l:List DV),DV.scalar.scalarAll l=true→∀ (i:Nat) d,l[i]?=some d→d.scalar=true
 | [],_,i,d,h=>by simp at h
 | x::l,hc,i,d,h=>by
  simp only [DV.scalar.scalarAll,Bool.and_eq_true] at hc
  cases i with
  | zero=>simp at h; subst h; exact hc.1
  | succ i=>exact fY l hc.2 i d (by simpa using h)

theorem Rep.scalar {w w' : World}{ok ok' : Nat→Prop}{β β' : Loc}{v:Value}{d:DV}(h:Rep w ok β v d):d.scalar=true→Rep w' ok' β' v d:=by
 induction h with
 | int k n=>exact fun _=>.int k n
 | bool b=>exact fun _=>.bool b
 | str s=>exact fun _=>.str s
 | agg vs ds hl _ ih=>exact fun hc=>.agg vs ds hl fun i v d h1 h2=>ih i v d h1 h2 (fY ds (by simpa [DV.scalar] using hc) i d h2)
 | tup vs ds hl _ ih=>exact fun hc=>.tup vs ds hl fun i v d h1 h2=>ih i v d h1 h2 (fY ds (by simpa [DV.scalar] using hc) i d h2)
 | nilp=>exact fun _=>.nilp
 | nilfn=>exact fun _=>.nilfn
 | nili=>exact fun _=>.nili
 | emp0 c sz=>exact fun _=>.emp0 c sz
 | emp1 A c sz=>exact fun _=>.emp1 A c sz
 | _=>exact fun hc=>by simp [DV.scalar] at hc

theorem Rep.lend (hs:SRep E C a w ok β st){v:Value}{d:DV}(h:Rep w ok β v d):Rep w (fun b=>ok b∨∃ l x,β l=some x∧x.1=b) noLoc v (d.dn [] st.h):=
 h.low hs _ (fun _ h=>.inl h) (fun l x hx _=>.inr ⟨l,x,hx,rfl⟩) (fun l i x h=>by simp at h)

theorem SRep.of_ev {w' : World}{ok1:Nat→Prop}{ok' : Nat→Prop}{β' : Loc}(hs:SRep E C a w ok β st)(he:Ev w ok1 noLoc w' ok' β'):SRep E C a w' ok β st:=
 hs.quiet he.os he.tape he.output he.size (fun b hb=>he.same b hb (fun l x hx=>by simp [noLoc] at hx))

theorem ORep.ren {w:World}{ok:Nat→Prop}{β β' : Loc}{l:Nat}{o:AObj}(h:ORep w ok β l o)(ρ:Nat→Nat)(l' : Nat)(hl:β' l' = β l)(hβ:∀ l x,β l=some x→β' (ρ l)=some x):ORep w ok β' l' (aR ρ o):=by
 cases o with
 | box cs=>
  obtain ⟨b,vs,t,fz,h1,h2,h3,h4,h5⟩:=h
  refine ⟨b,vs,t,fz,hl.trans h1,h2,h3,by simpa using h4,fun i v d hi hd=>?_⟩
  rw [List.getElem?_map] at hd
  cases hd0:cs[i]? with
  | none=>simp [hd0] at hd
  | some d0=>simp [hd0] at hd; subst hd; exact (h5 i v d0 hi hd0).ren ρ hβ
 | arr sz es=>
  obtain ⟨h1,h2⟩:=h
  refine ⟨h1,?_⟩
  rcases h2 with ⟨he,hn⟩|⟨hz,b,x,vs,t,fz,k1,k2,k3,k4,k5⟩
  ·exact .inl ⟨he,hl.trans hn⟩
  ·exact .inr ⟨hz,b,x,vs,t,fz,hl.trans k1,k2,k3,k4,k5⟩
 | iter s pos=>
  obtain ⟨b,h1,h2⟩:=h
  exact ⟨b,hl.trans h1,h2⟩
 | mapo es=>
  obtain ⟨b,h1,h2⟩:=h
  exact ⟨b,hl.trans h1,h2⟩
 | dead=>trivial
 | buf e bs=>
  rcases h with ⟨h1,h2⟩|⟨g,cur,h1,h2,h3⟩
  ·exact .inl ⟨h1,hl.trans h2⟩
  ·exact .inr ⟨g,cur,hl.trans h1,h2,h3⟩
 | gbuf e bs=>
  rcases h with ⟨h1,h2⟩|⟨g,cur,h1,h2,h3⟩
  ·exact .inl ⟨h1,hl.trans h2⟩
  ·exact .inr ⟨g,cur,hl.trans h1,h2,h3⟩

theorem SRep.take {w' : World}{ok' : Nat→Prop}{β' : Loc}{h' : List AObj}(hs:SRep E C a w ok β st)(hg:E.G w')(he:Ev w ok noLoc w' ok' β')(hh:HRep E.N w' ok' β' h') :
  SRep E C a w' ok' (fun l=>if l<st.h.length then β l else β' (l - st.h.length)) { st with h:=st.h++h'.map (aR (st.h.length + ·)) }:=by
 have hold:∀ b,b<w.heap.size→w'.heap[b]?=w.heap[b]?:=fun b hb=>he.same b hb (fun l x hx=>by simp [noLoc] at hx)
 have hlt:∀ l x,β l=some x→l<st.h.length:=fun l x hx=>by
  rcases Nat.lt_or_ge l st.h.length with h|h
  ·exact h
  ·rw [hs.heap.out l h] at hx; cases hx
 have hnew:∀ l x,β' l=some x→w.heap.size≤x.1:=fun l x hx=>by
  rcases he.own l x hx with ⟨l0,x0,h0,_⟩|h
  ·simp [noLoc] at h0
  ·exact h
 have hβ:∀ l x,β l=some x→(fun l=>if l<st.h.length then β l else β' (l - st.h.length)) l=some x∧w'.shape? x.1=w.shape? x.1:=fun l x hx=>
  ⟨by simp [hlt l x hx,hx],by have:=(hs.heap.lt l x.1 x.2 hx).2; simp [World.shape?,hold _ this]⟩
 have hc:∀ b,ok b→w'.heap[b]?=w.heap[b]?:=fun b hk=>hold b (hs.heap.okl b hk)
 have hdn:∀ b,ok' b→ok b∨w.heap.size≤b:=fun b hk=>by
  rcases he.dn b hk with h|⟨l0,x0,h0,_⟩|h
  ·exact .inl h
  ·simp [noLoc] at h0
  ·exact .inr h
 refine ⟨hg,?_,⟨?_,?_,?_,?_,hh.okl,?_⟩,?_,?_,fun s=>(hs.fr s).mono he.up hc hβ,hs.size,hs.defers,Nat.le_trans hs.base he.size⟩
 ·refine hs.ev.trans ⟨he.os,he.tape,he.output,he.size,fun b hb _=>hold b hb,fun l x hx=>?_,he.up,fun b hk=>?_,he.shape⟩
  ·split at hx
   ·exact .inl ⟨l,x,hx,rfl⟩
   ·exact .inr (hnew _ x hx)
  ·rcases hdn b hk with h|h
   ·exact .inl h
   ·exact .inr (.inr h)
 ·intro l hl
  simp only [List.length_append,List.length_map] at hl
  have:¬ l<st.h.length:=by omega
  simp only [this,if_false]
  exact hh.out _ (by omega)
 ·intro l l' b o o' h1 h2
  split at h1 <;> split at h2
  ·exact hs.heap.inj l l' b o o' h1 h2
  ·have:=(hs.heap.lt _ _ _ h1).2; have:=hnew _ _ h2; omega
  ·have:=(hs.heap.lt _ _ _ h2).2; have:=hnew _ _ h1; omega
  ·have:=hh.inj _ _ b o o' h1 h2; omega
 ·intro l b o h1
  split at h1
  ·have:=hs.heap.lt l b o h1; have:=he.size; exact ⟨by omega,by omega⟩
  ·exact hh.lt _ b o h1
 ·intro l b o h1 hk
  split at h1
  ·rcases hdn b hk with h|h
   ·exact hs.heap.dis l b o h1 h
   ·have:=(hs.heap.lt l b o h1).2; omega
  ·exact hh.dis _ b o h1 hk
 ·intro l ob hl
  rcases Nat.lt_or_ge l st.h.length with h|h
  ·rw [List.getElem?_append_left h] at hl
   exact (hs.heap.obj l ob hl).mono he.up hc (by simp [h]) (fun x hx=>hold _ (hs.heap.lt l x.1 x.2 hx).2) hβ
  ·rw [List.getElem?_append_right h,List.getElem?_map] at hl
   cases h0:h'[l - st.h.length]? with
   | none=>simp [h0] at hl
   | some o0=>
    simp [h0] at hl
    subst hl
    have hnl:¬ l<st.h.length:=by omega
    refine (hh.obj _ o0 h0).ren _ l (by simp [hnl]) (fun k x hx=>?_)
    have:¬ st.h.length+k<st.h.length:=by omega
    simp only [this,if_false,Nat.add_sub_cancel_left,hx]
 ·intro l cs hl
  obtain ⟨e,cs',hcs⟩:=hs.fix l cs hl
  have h:l<st.h.length:=by
   rcases Nat.lt_or_ge l st.h.length with h|h
   ·exact h
   ·rw [List.getElem?_eq_none h] at hcs; cases hcs
  exact ⟨by simp [h,e],cs',by simp [List.getElem?_append_left h,hcs]⟩
 ·have:=hs.len; simp; omega

theorem nE:∀ (ls:List Nat)(h os:List AObj),ls.Nodup→(∀ l∈ls,l<h.length)→ls.length≤os.length →
  (bB h ls os).length=h.length∧(∀ l,l∉ls→(bB h ls os)[l]?=h[l]?)∧∀ (i:Nat) l,ls[i]?=some l→(bB h ls os)[l]?=os[i]?
 | [],h,os,_,_,_=>by
  refine ⟨by simp [bB],fun l _=>by simp [bB],fun i l h=>by simp at h⟩
 | l::ls,h,[],_,_,hl=>by simp at hl
 | l::ls,h,o::os,hn,hlt,hl=>by
  rw [List.nodup_cons] at hn
  obtain ⟨h1,h2,h3⟩:=nE ls (h.set l o) os hn.2 (fun k hk=>by simpa using hlt k (by simp [hk])) (by simpa using hl)
  rw [bB]
  refine ⟨by simpa using h1,fun k hk=>?_,fun i k hk=>?_⟩
  ·simp only [List.mem_cons,not_or] at hk
   rw [h2 k hk.2,List.getElem?_set_ne (fun e=>hk.1 e.symm)]
  ·cases i with
   | zero=>
    simp at hk; subst hk
    rw [h2 _ hn.1,List.getElem?_set_self (hlt _ (by simp))]; rfl
   | succ i=>exact h3 i k (by simpa using hk)

theorem IK {ls:List Nat}(hn:ls.Nodup){i l:Nat}(h:ls[i]?=some l):ls.idxOf l=i:=by
 have hi:i<ls.length:=by
  rcases Nat.lt_or_ge i ls.length with h1|h1
  ·exact h1
  ·rw [List.getElem?_eq_none h1] at h; cases h
 rw [List.getElem?_eq_getElem hi] at h
 injection h with h
 subst h
 exact hn.idxOf_getElem i hi
theorem dJ {ls:List Nat}{l:Nat}(h:l∈ls):ls[ls.idxOf l]?=some l:=by
 have hlt:=List.idxOf_lt_length_of_mem h
 rw [List.getElem?_eq_getElem hlt]
 simp

theorem SRep.handed (hs:SRep E C a w ok β st)(kp:Bool)(ls:List Nat)(hnd:ls.Nodup)(hlt:∀ l∈ls,l<st.h.length)
    {w' : World} {ok1 ok' ok2:Nat→Prop} {β1 β' : Loc} {h' : List AObj} (hβ1:∀ i,β1 i=(ls[i]?).bind β) (hg:E.G w') (he:Ev w ok1 β1 w' ok' β') (hh:HRep E.N w' ok' β' h')
    (hfix:∀ i l,ls[i]?=some l→dP st.h[l]?=true→β' i=β l∧dP h'[i]?=true) (hlen:ls.length≤h'.length) (hkp:kp=true→∀ i,i<ls.length→β' i=β1 i)
    (hu:∀ b,ok b→ok2 b) (hd2:∀ b,ok2 b→ok b∨(∃ i x,β1 i=some x∧x.1=b)∨w.heap.size≤b)
    (hr:∀ l o,h'[l]?=some o→ORep w' ok2 β' l o) (hdis:∀ l b o,β' l=some (b,o)→¬ ok2 b) (hokl:∀ b,ok2 b→b<w'.heap.size) :
    ∃ β2,SRep E C a w' ok2 β2 (st.handed kp ls h')∧∀ i x,β' i=some x→β2 (upL st.h.length ls i)=some x:=by
  let β2:Loc:=fun l=>if l∈ls then β' (ls.idxOf l) else if l<st.h.length then β l else β' (l - st.h.length+ls.length)
  let k:=ls.filter fun l => !dP st.h[l]?
  have b_in:∀ i l,ls[i]?=some l→β2 l=β' i:=fun i l h=>by
    have hm:=List.mem_of_getElem? h
    simp only [β2]
    rw [if_pos hm,IK hnd h]
  have b_old:∀ l,l∉ls→l<st.h.length→β2 l=β l:=fun l h1 h2=>by simp only [β2]; rw [if_neg h1,if_pos h2]
  have b_new:∀ l,st.h.length≤l→β2 l=β' (l - st.h.length+ls.length):=fun l h=>by
    have h1:l∉ls:=fun hm=>by have:=hlt l hm; omega
    simp only [β2]; rw [if_neg h1,if_neg (by omega)]
  have hsome:∀ l x,β l=some x→l<st.h.length:=fun l x hx=>by
    rcases Nat.lt_or_ge l st.h.length with h|h
    · exact h
    · rw [hs.heap.out l h] at hx; cases hx
  have h1own:∀ i x,β1 i=some x→∃ l,ls[i]?=some l∧β l=some x:=fun i x hx=>by
    rw [hβ1] at hx
    simpa [Option.bind_eq_some_iff] using hx
  have hkeep:∀ l x,(!kp&&k.contains l)=false→β l=some x→β2 l=some x∧w'.shape? x.1=w.shape? x.1:=fun l x hc hx=>by
    refine ⟨?_,he.shape _ (hs.heap.lt l x.1 x.2 hx).2⟩
    by_cases hm:l∈ls
    · have hi:=dJ hm
      rw [b_in _ l hi]
      cases kp with
      | true=>rw [hkp rfl _ (List.idxOf_lt_length_of_mem hm),hβ1,hi]; exact hx
      | false=>
        have hb:dP st.h[l]?=true:=by
          cases hb:dP st.h[l]? with
          | true=>rfl
          | false=>
            have:k.contains l=true:=by
              simp only [k,List.contains_iff_mem,List.mem_filter]
              exact ⟨hm,by simp [hb]⟩
            rw [this] at hc; simp at hc
        rw [(hfix _ l hi hb).1]; exact hx
    · rw [b_old l hm (hsome l x hx)]; exact hx
  have hold:∀ b,b<w.heap.size→(∀ i x,β1 i=some x→x.1≠b)→w'.heap[b]?=w.heap[b]?:=he.same
  have hown1:∀ l x,l∉ls→β l=some x→∀ i y,β1 i=some y→y.1≠x.1:=fun l x hm hx i y hy e=>by
    obtain ⟨l2,q1,q2⟩:=h1own i y hy
    have:l2=l:=hs.heap.inj l2 l y.1 y.2 x.2 (by rw [q2]) (by rw [hx,e])
    exact hm (this▸List.mem_of_getElem? q1)
  have hokw:∀ b,ok b→w'.heap[b]?=w.heap[b]?:=fun b hb=>hold b (hs.heap.okl b hb) fun i y hy e=>by
    obtain ⟨l2,q1,q2⟩:=h1own i y hy
    exact hs.heap.dis l2 y.1 y.2 (by rw [q2]) (e▸hb)
  have hβ'own:∀ i x,β' i=some x→(∃ j l,ls[j]?=some l∧∃ y,β l=some y∧y.1=x.1)∨w.heap.size≤x.1:=fun i x hx=>by
    rcases he.own i x hx with ⟨j,y,h1,h2⟩|h
    · obtain ⟨l,q1,q2⟩:=h1own j y h1
      exact .inl ⟨j,l,q1,y,q2,h2⟩
    · exact .inr h
  have hclash:∀ l x i y,l∉ls→β l=some x→β' i=some y→x.1≠y.1:=fun l x i y hm hx hy e=>by
    rcases hβ'own i y hy with ⟨j,l2,q1,z,q2,q3⟩|h
    · have:l2=l:=hs.heap.inj l2 l z.1 z.2 x.2 (by rw [q2]) (by rw [hx,q3,← e])
      exact hm (this▸List.mem_of_getElem? q1)
    · have:=(hs.heap.lt l x.1 x.2 hx).2; omega
  have hup:∀ i x,β' i=some x→β2 (upL st.h.length ls i)=some x:=fun i x hx=>by
    simp only [upL]
    cases hi:ls[i]? with
    | some l=>simp only; rw [b_in i l hi]; exact hx
    | none=>
      have hge:ls.length≤i:=by
        rcases Nat.lt_or_ge i ls.length with h|h
        · rw [List.getElem?_eq_getElem h] at hi; cases hi
        · exact h
      simp only
      rw [b_new _ (by omega),show st.h.length+(i - ls.length) - st.h.length+ls.length=i by omega]
      exact hx
  -- the state that is left, ahead of what comes back
  let st1:St:=if (kp||k.isEmpty)=true then st else st.kill k.contains
  have hst1:(∀ s,Rep w' ok2 β2 (C.val a s) (st1.fr s))∧st1.h.length=st.h.length∧(∀ (l:Nat) o,l∉ls→st1.h[l]?=some o→ORep w' ok2 β2 l o)∧(∀ (l:Nat) cs,st.h[l]?=some (AObj.box cs)→∃ cs',st1.h[l]?=some (AObj.box cs')):=by
    have hob:∀ l,l∉ls→∀ x,β l=some x→w'.heap[x.1]?=w.heap[x.1]?:=fun l hm x hx=>hold x.1 (hs.heap.lt l x.1 x.2 hx).2 (hown1 l x hm hx)
    by_cases hc:(kp||k.isEmpty)=true
    · have hno:∀ l,(!kp&&k.contains l)=false:=fun l=>by
        rcases Bool.or_eq_true _ _▸hc with h|h
        · simp [h]
        · have:k=[]:=by simpa using h
          simp [this]
      have est:st1=st:=if_pos hc
      rw [est]
      refine ⟨fun s=>(hs.fr s).mono hu hokw fun l x hx=>hkeep l x (hno l) hx,rfl,fun l o hm ho=>?_,fun l cs h=>⟨cs,h⟩⟩
      have hl:l<st.h.length:=by
        rcases Nat.lt_or_ge l st.h.length with h|h
        · exact h
        · rw [List.getElem?_eq_none h] at ho; cases ho
      exact (hs.heap.obj l o ho).mono hu hokw (b_old l hm hl) (hob l hm) fun l x hx=>hkeep l x (hno l) hx
    · have hkf:kp=false:=by cases kp <;> simp_all
      have hk2:∀ l x,k.contains l=false→β l=some x→β2 l=some x∧w'.shape? x.1=w.shape? x.1:=fun l x h hx=>hkeep l x (by rw [hkf,h]; rfl) hx
      have est:st1=st.kill k.contains:=if_neg hc
      rw [est]
      refine ⟨fun s=>(hs.fr s).kill _ hu hokw hk2,by simp [St.kill],fun l o hm ho=>?_,fun l cs h=>⟨_,by simp only [St.kill,List.getElem?_map,h]; rfl⟩⟩
      simp only [St.kill,List.getElem?_map] at ho
      cases ho0:st.h[l]? with
      | none=>simp [ho0] at ho
      | some o0=>
        simp [ho0] at ho; subst ho
        have hl:l<st.h.length:=by
          rcases Nat.lt_or_ge l st.h.length with h|h
          · exact h
          · rw [List.getElem?_eq_none h] at ho0; cases ho0
        exact (hs.heap.obj l o0 ho0).kill _ hu hokw (b_old l hm hl) (hob l hm) hk2
  obtain ⟨g1,g2,g3,g4⟩:=hst1
  obtain ⟨s1,s2,s3⟩:=nE ls st1.h (h'.map (aR (upL st.h.length ls))) hnd (fun l hl=>by rw [g2]; exact hlt l hl) (by simpa using hlen)
  have hH:(st.handed kp ls h')=⟨st1.fr,bB st1.h ls (h'.map (aR (upL st.h.length ls)))++(h'.drop ls.length).map (aR (upL st.h.length ls))⟩:=rfl
  refine ⟨β2,?_,hup⟩
  rw [hH]
  refine ⟨hg,?_,⟨?_,?_,?_,?_,hokl,?_⟩,?_,?_,g1,hs.size,hs.defers,Nat.le_trans hs.base he.size⟩
  · refine hs.ev.trans ⟨he.os,he.tape,he.output,he.size,fun b hb hn=>hold b hb fun i y hy e=>?_,fun l x hx=>?_,hu,fun b hb=>?_,he.shape⟩
    · obtain ⟨l2,q1,q2⟩:=h1own i y hy
      exact hn l2 y q2 e
    · by_cases hm:l∈ls
      · rw [b_in _ l (dJ hm)] at hx
        rcases hβ'own _ x hx with ⟨j,l2,_,y,q2,q3⟩|h
        · exact .inl ⟨l2,y,q2,q3⟩
        · exact .inr h
      · rcases Nat.lt_or_ge l st.h.length with h | h
        · rw [b_old l hm h] at hx; exact .inl ⟨l,x,hx,rfl⟩
        · rw [b_new l h] at hx
          rcases hβ'own _ x hx with ⟨j,l2,_,y,q2,q3⟩|h
          · exact .inl ⟨l2,y,q2,q3⟩
          · exact .inr h
    · rcases hd2 b hb with h | ⟨i,x,h,e⟩ | h
      · exact .inl h
      · obtain ⟨l2,_,q2⟩:=h1own i x h
        exact .inr (.inl ⟨l2,x,q2,e⟩)
      · exact .inr (.inr h)
  · intro l hl
    simp only [List.length_append,s1,g2,List.length_map,List.length_drop] at hl
    rw [b_new l (by omega)]
    exact hh.out _ (by omega)
  · intro l l' b o o' h1 h2
    by_cases hm:l∈ls <;> by_cases hm' : l' ∈ ls
    · rw [b_in _ l (dJ hm)] at h1
      rw [b_in _ l' (dJ hm')] at h2
      have:=hh.inj _ _ b o o' h1 h2
      have e1:=dJ hm; rw [this,dJ hm'] at e1
      injection e1 with e1; exact e1.symm
    · rw [b_in _ l (dJ hm)] at h1
      rcases Nat.lt_or_ge l' st.h.length with h|h
      · rw [b_old l' hm' h] at h2
        exact (hclash l' _ _ _ hm' h2 h1 rfl).elim
      · rw [b_new l' h] at h2
        have:=hh.inj _ _ b o o' h1 h2
        have:=List.idxOf_lt_length_of_mem hm
        omega
    · rw [b_in _ l' (dJ hm')] at h2
      rcases Nat.lt_or_ge l st.h.length with h|h
      · rw [b_old l hm h] at h1
        exact (hclash l _ _ _ hm h1 h2 rfl).elim
      · rw [b_new l h] at h1
        have:=hh.inj _ _ b o o' h1 h2
        have:=List.idxOf_lt_length_of_mem hm'
        omega
    · rcases Nat.lt_or_ge l st.h.length with h | h <;> rcases Nat.lt_or_ge l' st.h.length with h' | h'
      · rw [b_old l hm h] at h1; rw [b_old l' hm' h'] at h2
        exact hs.heap.inj l l' b o o' h1 h2
      · rw [b_old l hm h] at h1; rw [b_new l' h'] at h2
        exact (hclash l _ _ _ hm h1 h2 rfl).elim
      · rw [b_new l h] at h1; rw [b_old l' hm' h'] at h2
        exact (hclash l' _ _ _ hm' h2 h1 rfl).elim
      · rw [b_new l h] at h1; rw [b_new l' h'] at h2
        have:=hh.inj _ _ b o o' h1 h2
        omega
  · intro l b o h1
    by_cases hm:l∈ls
    · rw [b_in _ l (dJ hm)] at h1; exact hh.lt _ b o h1
    · rcases Nat.lt_or_ge l st.h.length with h | h
      · rw [b_old l hm h] at h1
        have:=hs.heap.lt l b o h1; have:=he.size; exact ⟨by omega,by omega⟩
      · rw [b_new l h] at h1; exact hh.lt _ b o h1
  · intro l b o h1
    by_cases hm:l∈ls
    · rw [b_in _ l (dJ hm)] at h1; exact hdis _ b o h1
    · rcases Nat.lt_or_ge l st.h.length with h | h
      · rw [b_old l hm h] at h1
        intro hk
        rcases hd2 b hk with h|⟨i,x,h,e⟩|h
        · exact hs.heap.dis l b o h1 h
        · exact hown1 l _ hm h1 i x h e
        · have:=(hs.heap.lt l b o h1).2; omega
      · rw [b_new l h] at h1; exact hdis _ b o h1
  · intro l ob hl
    rcases Nat.lt_or_ge l st.h.length with h|h
    · rw [List.getElem?_append_left (by rw [s1,g2]; exact h)] at hl
      by_cases hm:l∈ls
      · have hi:=dJ hm
        rw [s3 _ l hi,List.getElem?_map] at hl
        cases h0:h'[ls.idxOf l]? with
        | none=>simp [h0] at hl
        | some o0=>simp [h0] at hl; subst hl; exact (hr _ o0 h0).ren _ l (b_in _ l hi) hup
      · rw [s2 l hm] at hl
        exact g3 l ob hm hl
    · rw [List.getElem?_append_right (by rw [s1,g2]; exact h),s1,g2,List.getElem?_map,List.getElem?_drop] at hl
      cases h0:h'[ls.length+(l - st.h.length)]? with
      | none=>simp [h0] at hl
      | some o0=>
        simp [h0] at hl; subst hl
        exact (hr _ o0 h0).ren _ l (by rw [b_new l h,Nat.add_comm]) hup
  · intro l cs hl
    obtain ⟨e,cs',hcs⟩:=hs.fix l cs hl
    have hll:l<st.h.length:=by
      rcases Nat.lt_or_ge l st.h.length with h|h
      · exact h
      · rw [List.getElem?_eq_none h] at hcs; cases hcs
    rw [List.getElem?_append_left (by rw [s1,g2]; exact hll)]
    by_cases hm:l∈ls
    · have hi:=dJ hm
      obtain ⟨f1,f2⟩:=hfix _ l hi (by rw [hcs]; rfl)
      refine ⟨by rw [b_in _ l hi,f1,e],?_⟩
      rw [s3 _ l hi,List.getElem?_map]
      cases h0:h'[ls.idxOf l]? with
      | none=>rw [h0] at f2; simp [dP] at f2
      | some o0=>
        rw [h0] at f2
        cases o0 <;> first | exact ⟨_,rfl⟩ | simp [dP] at f2
    · rw [s2 l hm]
      obtain ⟨cs2,h2⟩:=g4 l cs' hcs
      exact ⟨by rw [b_old l hm hll,e],cs2,h2⟩
  · have:=hs.len
    simp only [List.length_append,s1,g2]
    omega

theorem dQ:∀ (l:List DV),DV.free.freeAll l=true→∀ (i:Nat) d,l[i]?=some d→d.free=true
 | [],_,i,d,h=>by simp at h
 | x::l,hc,i,d,h=>by
  simp only [DV.free.freeAll,Bool.and_eq_true] at hc
  cases i with
  | zero=>simp at h; subst h; exact hc.1
  | succ i=>exact dQ l hc.2 i d (by simpa using h)
theorem Rep.ofFree {ok2:Nat→Prop}{v:Value}{d:DV}(h:Rep w ok β v d):d.free=true→Rep w ok2 β v d:=by
 induction h with
 | int k n=>exact fun _=>.int k n
 | bool b=>exact fun _=>.bool b
 | str s=>exact fun _=>.str s
 | agg vs ds hl _ ih=>exact fun hc=>.agg vs ds hl fun i v d h1 h2=>ih i v d h1 h2 (dQ ds (by simpa [DV.free] using hc) i d h2)
 | tup vs ds hl _ ih=>exact fun hc=>.tup vs ds hl fun i v d h1 h2=>ih i v d h1 h2 (dQ ds (by simpa [DV.free] using hc) i d h2)
 | nilp=>exact fun _=>.nilp
 | ptr l o b x h=>exact fun _=>.ptr l o b x h
 | mp l b h=>exact fun _=>.mp l b h
 | aptr sz l j q b x h=>exact fun _=>.aptr sz l j q b x h
 | eptr cs o b x vs hb hcs hr _=>exact fun hc=>by simp [DV.free] at hc
 | nils sz hz=>exact fun _=>.nils sz hz
 | sl A n c sz es b x vs hn hnc hsz hes hA hcs h1 hr _=>
  intro hc
  have:es=[]:=by simpa [DV.free] using hc
  subst this
  have hn0:n=0:=by simpa using hn
  subst hn0
  exact .sl A 0 c sz [] b x vs rfl hnc hsz (by simp) (fun h=>by omega) (fun k hk=>by simp at hk) (fun k hk=>by simp at hk) (fun k d hd=>by simp at hd)
 | oslnil sz l off cap hcap hz=>exact fun _=>.oslnil sz l off cap hcap hz
 | osl sz l off n c b x y t m hb hnc hsz hy hm hr cap hcap=>exact fun _=>.osl sz l off n c b x y t m hb hnc hsz hy hm hr cap hcap
 | fn f vs ds hl _ ih=>exact fun hc=>.fn f vs ds hl fun i v d h1 h2=>ih i v d h1 h2 (dQ ds (by simpa [DV.free] using hc) i d h2)
 | bnd f vs ds hl _ ih=>exact fun hc=>.bnd f vs ds hl fun i v d h1 h2=>ih i v d h1 h2 (dQ ds (by simpa [DV.free] using hc) i d h2)
 | ifc f u ds hl _ ih=>exact fun hc=>.ifc f u ds hl fun i v d h1 h2=>ih i v d h1 h2 (dQ ds (by simpa [DV.free] using hc) i d h2)
 | nilfn=>exact fun _=>.nilfn
 | nili=>exact fun _=>.nili
 | emp0 c sz=>exact fun _=>.emp0 c sz
 | emp1 A c sz=>exact fun _=>.emp1 A c sz
 | selfn l t m b hb hm=>exact fun _=>.selfn l t m b hb hm
 | selfp l t m b hb hm=>exact fun _=>.selfp l t m b hb hm
 | hdrn m e=>exact fun _=>.hdrn m e
 | hdrs m e n g cap hb hm hnc hcm hc0=>exact fun _=>.hdrs m e n g cap hb hm hnc hcm hc0
 | undef v=>exact fun _=>.undef v
theorem ORep.ofFree {ok2:Nat→Prop}{l:Nat}{o:AObj}(h:ORep w ok β l o)(hf:iD o=true):ORep w ok2 β l o:=by
 cases o with
 | box cs=>
  obtain ⟨b,vs,t,fz,h1,h2,h3,h4,h5⟩:=h
  refine ⟨b,vs,t,fz,h1,h2,h3,h4,fun i v d hi hd=>(h5 i v d hi hd).ofFree ?_⟩
  have hf' : cs.all DV.free=true:=hf
  exact List.all_eq_true.1 hf' d (List.mem_of_getElem? hd)
 | arr sz es=>
  obtain ⟨h1,h2⟩:=h
  refine ⟨h1,?_⟩
  rcases h2 with ⟨he,hn⟩|⟨hz,b,x,vs,t,fz,k1,k2,k3,k4,k5⟩
  ·exact .inl ⟨he,hn⟩
  ·refine .inr ⟨hz,b,x,vs,t,fz,k1,k2,k3,k4,fun k v d hi hd=>⟨(k5 k v d hi hd).1,(k5 k v d hi hd).2.ofFree ?_⟩⟩
   have hf' : es.all (fun e=>e.all DV.free)=true:=hf
   obtain ⟨e,he,hde⟩:=List.mem_flatten.1 (List.mem_of_getElem? hd)
   exact List.all_eq_true.1 (List.all_eq_true.1 hf' e he) d hde
 | iter s pos=>exact h
 | mapo es=>exact h
 | dead=>trivial
 | buf e bs=>exact h
 | gbuf e bs=>exact h

theorem Rep.handL (hs:SRep E C a w ok β st)(ls:List Nat){v:Value}{d:DV}(h:Rep w ok β v d)(hin:d.inL ls.contains=true):Rep w ok (fun i=>(ls[i]?).bind β) v (d.dn ls st.h):=by
 have hβ:∀ l i x,ls.idxOf? l=some i→β l=some x→(ls[i]?).bind β=some x:=fun l i x hi hx=>by
  obtain ⟨h1,h2,_⟩:=List.idxOf?_eq_some_iff.1 hi
  rw [List.getElem?_eq_getElem h1]
  simp only [Option.bind_some]
  rw [h2]; exact hx
 have:=h.inL ls.contains hin (β' := fun l=>if l∈ls then β l else none) (fun l x hl hx=>by
  have:l∈ls:=by simpa using hl
  simp [this,hx])
 have hgen:∀ {β2:Loc} {v:Value} {d:DV},Rep w ok β2 v d→β2=β→d.inL ls.contains=true→Rep w ok (fun i=>(ls[i]?).bind β) v (d.dn ls st.h):=by
  intro β2 v d h
  have hcon:∀ l,ls.contains l=true→∃ i,ls.idxOf? l=some i:=fun l hl=>by
   cases hi:ls.idxOf? l with
   | some i=>exact ⟨i,rfl⟩
   | none=>exact absurd (by simpa using hl) (List.idxOf?_eq_none_iff.1 hi)
  induction h with
  | int k n=>exact fun _ _=>.int k n
  | bool b=>exact fun _ _=>.bool b
  | str s=>exact fun _ _=>.str s
  | agg vs ds hl _ ih=>
   intro e hc
   rw [DV.dn,DV.low,bM]
   refine .agg vs _ (by simpa using hl) fun i v d hv hd=>?_
   rw [List.getElem?_map] at hd
   cases hx:ds[i]? with
   | none=>simp [hx] at hd
   | some x=>simp [hx] at hd; subst hd; exact ih i v x hv hx e (bX _ ds (by simpa [DV.inL] using hc) i x hx)
  | tup vs ds hl _ ih=>
   intro e hc
   rw [DV.dn,DV.low,bM]
   refine .tup vs _ (by simpa using hl) fun i v d hv hd=>?_
   rw [List.getElem?_map] at hd
   cases hx:ds[i]? with
   | none=>simp [hx] at hd
   | some x=>simp [hx] at hd; subst hd; exact ih i v x hv hx e (bX _ ds (by simpa [DV.inL] using hc) i x hx)
  | nilp=>exact fun _ _=>.nilp
  | ptr l o b x hb=>
   intro e hc; subst e
   obtain ⟨i,hi⟩:=hcon l (by simpa [DV.inL] using hc)
   simp only [DV.dn,DV.low,hi]
   exact .ptr i o b x (hβ l i _ hi hb)
  | mp l b hb=>
   intro e hc; subst e
   obtain ⟨i,hi⟩:=hcon l (by simpa [DV.inL] using hc)
   simp only [DV.dn,DV.low,hi]
   exact .mp i b (hβ l i _ hi hb)
  | aptr sz l j q b x hb=>
   intro e hc; subst e
   obtain ⟨i,hi⟩:=hcon l (by simpa [DV.inL] using hc)
   simp only [DV.dn,DV.low,hi]
   exact .aptr sz i j q b x (hβ l i _ hi hb)
  | eptr cs o b x vs hb hcs hr _=>exact fun _ _=>.eptr cs o b x vs hb hcs hr
  | nils sz hz=>exact fun _ _=>.nils sz hz
  | sl A n c sz es b x vs hn hnc hsz hes hA hcs h1 hr _=>exact fun _ _=>.sl A n c sz es b x vs hn hnc hsz hes hA hcs h1 hr
  | oslnil sz l off cap hcap hz=>
   intro e hc
   obtain ⟨i,hi⟩:=hcon l (by simpa [DV.inL] using hc)
   simp only [DV.dn,DV.low,hi]
   exact .oslnil sz i off cap hcap hz
  | osl sz l off n c b x y t m hb hnc hsz hy hm hr cap hcap=>
   intro e hc; subst e
   obtain ⟨i,hi⟩:=hcon l (by simpa [DV.inL] using hc)
   simp only [DV.dn,DV.low,hi]
   exact .osl sz i off n c b x y t m (hβ l i _ hi hb) hnc hsz hy hm hr cap hcap
  | fn f vs ds hl _ ih=>
   intro e hc
   rw [DV.dn,DV.low,bM]
   refine .fn f vs _ (by simpa using hl) fun i v d hv hd=>?_
   rw [List.getElem?_map] at hd
   cases hx:ds[i]? with
   | none=>simp [hx] at hd
   | some x=>simp [hx] at hd; subst hd; exact ih i v x hv hx e (bX _ ds (by simpa [DV.inL] using hc) i x hx)
  | bnd f vs ds hl _ ih=>
   intro e hc
   rw [DV.dn,DV.low,bM]
   refine .bnd f vs _ (by simpa using hl) fun i v d hv hd=>?_
   rw [List.getElem?_map] at hd
   cases hx:ds[i]? with
   | none=>simp [hx] at hd
   | some x=>simp [hx] at hd; subst hd; exact ih i v x hv hx e (bX _ ds (by simpa [DV.inL] using hc) i x hx)
  | ifc f u ds hl _ ih=>
   intro e hc
   rw [DV.dn,DV.low,bM]
   refine .ifc f u _ (by simpa using hl) fun i v d hv hd=>?_
   rw [List.getElem?_map] at hd
   cases hx:ds[i]? with
   | none=>simp [hx] at hd
   | some x=>simp [hx] at hd; subst hd; exact ih i v x hv hx e (bX _ ds (by simpa [DV.inL] using hc) i x hx)
  | nilfn=>exact fun _ _=>.nilfn
  | nili=>exact fun _ _=>.nili
  | emp0 c sz=>exact fun _ _=>.emp0 c sz
  | emp1 A c sz=>exact fun _ _=>.emp1 A c sz
  | selfn l t m b hb hm=>
   intro e hc; subst e
   obtain ⟨i,hi⟩:=hcon l (by simpa [DV.inL] using hc)
   simp only [DV.dn,DV.low,hi]
   exact .selfn i t m b (hβ l i _ hi hb) hm
  | selfp l t m b hb hm=>
   intro e hc; subst e
   obtain ⟨i,hi⟩:=hcon l (by simpa [DV.inL] using hc)
   simp only [DV.dn,DV.low,hi]
   exact .selfp i t m b (hβ l i _ hi hb) hm
  | hdrn m e=>
   intro _ hc
   obtain ⟨i,hi⟩:=hcon m (by simpa [DV.inL] using hc)
   simp only [DV.dn,DV.low,hi]
   exact .hdrn i e
  | hdrs m e n g cap hb hm hnc hcm hc0=>
   intro e hc; subst e
   obtain ⟨i,hi⟩:=hcon m (by simpa [DV.inL] using hc)
   simp only [DV.dn,DV.low,hi]
   exact .hdrs i _ n g cap (hβ m i _ hi hb) hm hnc hcm hc0
  | undef v=>exact fun _ _=>.undef v
 exact hgen h rfl hin

theorem uV {full:Bool}{f:Nat}{ds:List DV}{vs:List Value}(hs:SRep E C a w ok β st)(hl:vs.length=ds.length)(hv:∀ (i:Nat) v d,vs[i]?=some v→ds[i]?=some d→Rep w ok β v d)(hk:uK E full f ds K st) :
    Ent E.P f∧Calls E.P f vs.toArray w fun e w' => ∃ v ok' β' d st',e=.returned v∧K d st' ∧ SRep E C a w' ok' β' st' ∧ Rep w' ok' β' v d:=by
  rcases hk with ⟨post,⟨hent,hc⟩,_,hp⟩|⟨post,⟨hent,hc⟩,hcl,_,hp⟩|⟨kp,ls,post,_,hnd,hlt,⟨hent,hc⟩,hp⟩
  · refine ⟨hent,?_⟩
    have hh:HRep E.N w (fun b=>ok b∨∃ l x,β l=some x∧x.1=b) noLoc []:=⟨fun _ _=>rfl,fun l l' b o o' h=>by simp [noLoc] at h,fun l b o h=>by simp [noLoc] at h,fun l b o h=>by simp [noLoc] at h,fun b hb=>by
      rcases hb with hb|⟨l,x,hx,rfl⟩
      · exact hs.heap.okl b hb
      · exact (hs.heap.lt l x.1 x.2 hx).2,fun l o h=>by simp at h⟩
    refine (hc w _ noLoc vs hs.g hs.base hh (by simpa using hl) (cO fun i v d h1 h2=>(hv i v d h1 h2).lend hs)).mono ?_
    rintro e w' ⟨v,ok',β',h',d,rfl,⟨rfl,hpd⟩,hg,hev,hh',hr,_,_⟩
    obtain ⟨h1,h2⟩:=hp d hpd
    exact ⟨v,ok,β,d,st,rfl,h2,hs.of_ev hev,hr.scalar h1⟩
  · refine ⟨hent,?_⟩
    have hh:HRep E.N w ok noLoc []:=⟨fun _ _=>rfl,fun l l' b o o' h=>by simp [noLoc] at h,fun l b o h=>by simp [noLoc] at h,fun l b o h=>by simp [noLoc] at h,hs.heap.okl,fun l o h=>by simp at h⟩
    refine (hc w ok noLoc vs hs.g hs.base hh hl (fun i v d h1 h2=>(hv i v d h1 h2).shut (hcl d (List.mem_of_getElem? h2)))).mono ?_
    rintro e w' ⟨v,ok',β',h',d,rfl,hpd,hg,hev,hh',hr,_,_⟩
    refine ⟨v,ok',_,_,_,rfl,hp h' d hpd,hs.take hg hev hh',hr.ren _ (fun k x hx=>?_)⟩
    have:¬ st.h.length+k<st.h.length:=by omega
    simp only [this,if_false,Nat.add_sub_cancel_left,hx]
  · refine ⟨hent,?_⟩
    let β1:Loc:=fun i=>(ls[i]?).bind β
    have h1own:∀ i x,β1 i=some x→∃ l,ls[i]?=some l∧β l=some x:=fun i x hx=>by simpa [β1,Option.bind_eq_some_iff] using hx
    have hidx:∀ l i,ls.idxOf? l=some i→ls[i]?=some l:=fun l i hi=>by
      obtain ⟨h1,h2,_⟩:=List.idxOf?_eq_some_iff.1 hi
      rw [List.getElem?_eq_getElem h1,h2]
    have hρ:∀ l i x,ls.idxOf? l=some i→β l=some x→β1 i=some x:=fun l i x hi hx=>by simp only [β1,hidx l i hi]; exact hx
    have hobj:∀ (i:Nat) o,(ls.map fun l=>jV (fun l=>ls.idxOf? l) st.h (st.h.getD l .dead))[i]?=some o→∃ l o0,ls[i]?=some l∧st.h[l]?=some o0∧o=jV (fun l=>ls.idxOf? l) st.h o0:=fun i o ho=>by
      rw [List.getElem?_map] at ho
      cases hi:ls[i]? with
      | none=>simp [hi] at ho
      | some l=>
        simp [hi] at ho; subst ho
        have:=hlt l (List.mem_of_getElem? hi)
        exact ⟨l,st.h[l],rfl,List.getElem?_eq_getElem this,by simp [this]⟩
    have hinj1:∀ l l' b o o',β1 l=some (b,o)→β1 l' = some (b,o')→l=l' := fun l l' b o o' h1 h2=>by
      obtain ⟨k1,q1,q2⟩:=h1own _ _ h1
      obtain ⟨k2,q3,q4⟩:=h1own _ _ h2
      have:=hs.heap.inj k1 k2 b o o' q2 q4
      subst this
      have hl1:l<ls.length:=by
        rcases Nat.lt_or_ge l ls.length with h|h
        · exact h
        · rw [List.getElem?_eq_none h] at q1; cases q1
      exact (List.getElem?_inj hl1 hnd).1 (q1.trans q3.symm)
    -- whatever is shared below
    have main:∀ (ok1:Nat→Prop) (sel:Prop),(∀ b,ok b→ok1 b)→(∀ b,ok1 b→b<w.heap.size)→(∀ l b o,β1 l=some (b,o)→¬ ok1 b) →
        (∀ i o,(ls.map fun l=>jV (fun l=>ls.idxOf? l) st.h (st.h.getD l .dead))[i]?=some o→ORep w ok1 β1 i o) →
        (∀ (i:Nat) v d,vs[i]?=some v→(ds.map (DV.dn ls st.h))[i]?=some d→Rep w ok1 β1 v d) →
        (∀ w' ok' β' h' d,post h' d→Ev w ok1 β1 w' ok' β' → HRep E.N w' ok' β' h' → ∃ ok2:Nat→Prop,(∀ b,ok b→ok2 b)∧(∀ b,ok2 b→ok b∨(∃ i x,β1 i=some x∧x.1=b)∨w.heap.size≤b) ∧
          (∀ l o,h'[l]?=some o→ORep w' ok2 β' l o)∧(∀ l b o,β' l=some (b,o)→¬ ok2 b)∧(∀ b,ok2 b→b<w'.heap.size)∧∀ v,Rep w' ok' β' v d→Rep w' ok2 β' v d) →
        Calls E.P f vs.toArray w fun e w' => ∃ v ok' β' d st',e=.returned v∧K d st' ∧ SRep E C a w' ok' β' st' ∧ Rep w' ok' β' v d:=by
      intro ok1 _ _ hokl1 hdis1 hob1 hvs1 hend
      have hh:HRep E.N w ok1 β1 (ls.map fun l=>jV (fun l=>ls.idxOf? l) st.h (st.h.getD l .dead)):=by
        refine ⟨fun l hl=>?_,hinj1,fun l b o h=>?_,hdis1,hokl1,hob1⟩
        · simp only [List.length_map] at hl
          simp only [β1,List.getElem?_eq_none hl]; rfl
        · obtain ⟨k,_,q⟩:=h1own _ _ h; exact hs.heap.lt k b o q
      refine (hc w ok1 β1 vs hs.g hs.base hh (by simpa using hl) hvs1).mono ?_
      rintro e w' ⟨v,ok',β',h',d,rfl,hpd,hg,hev,hh',hr,hfx,hln,hkp⟩
      obtain ⟨ok2,e1,e2,e3,e4,e5,e6⟩:=hend w' ok' β' h' d hpd hev hh'
      obtain ⟨β2,r1,r2⟩:=hs.handed kp ls hnd hlt (fun _=>rfl) hg hev hh' (fun i l hi hb=>by
        cases ho:st.h[l]? with
        | none=>rw [ho] at hb; simp [dP] at hb
        | some o0=>
          rw [ho] at hb
          cases o0 <;> first | (simp [dP] at hb; done) | skip
          rename_i cs
          have hgd:st.h.getD l .dead=.box cs:=by rw [List.getD_eq_getElem?_getD,ho]; rfl
          obtain ⟨f1,cs',f2⟩:=hfx i (cs.map (DV.low (fun l=>ls.idxOf? l) st.h)) (by rw [List.getElem?_map,hi]; simp only [Option.map_some,hgd,jV])
          exact ⟨f1.trans (by simp only [β1,hi]; rfl),by rw [f2]; rfl⟩) (by simpa using hln) (fun hk i hi=>hkp hk i (by simpa using hi)) e1 e2 e3 e4 e5
      exact ⟨v,ok2,β2,_,_,rfl,(hp h' d hpd).2,r1,(e6 v hr).ren _ r2⟩
    by_cases hsel:(ds.all (DV.inL ls.contains)&&ls.all fun l=>inO ls.contains (st.h.getD l .dead))=true
    · rw [Bool.and_eq_true,List.all_eq_true,List.all_eq_true] at hsel
      refine main ok True (fun _ h=>h) hs.heap.okl (fun l b o h hb=>?_) (fun i o ho=>?_) (fun i v d hv' hd=>?_) (fun w' ok' β' h' d hpd hev hh' => ⟨ok',hev.up,hev.dn,hh'.obj,hh'.dis,hh'.okl,fun v h=>h⟩)
      · obtain ⟨k,_,q⟩:=h1own _ _ h; exact hs.heap.dis k b o q hb
      · obtain ⟨l,o0,q1,q2,rfl⟩:=hobj i o ho
        have hb:=hs.heap.obj l o0 q2
        have hbl:β1 i=β l:=by simp only [β1,q1]; rfl
        have hin:=hsel.2 l (List.mem_of_getElem? q1)
        have hgd:st.h.getD l .dead=o0:=by rw [List.getD_eq_getElem?_getD,q2]; rfl
        rw [hgd] at hin
        cases o0 with
        | box cs=>
          obtain ⟨b,vs',t,fz,h1,h2,h3,h4,h5⟩:=hb
          refine ⟨b,vs',t,fz,hbl.trans h1,h2,h3,by simpa using h4,fun j v d hj hd=>?_⟩
          rw [List.getElem?_map] at hd
          cases hd0:cs[j]? with
          | none=>simp [hd0] at hd
          | some d0=>
            simp [hd0] at hd; subst hd
            simp only [inO,List.all_eq_true] at hin
            exact (h5 j v d0 hj hd0).handL hs ls (hin d0 (List.mem_of_getElem? hd0))
        | arr sz es=>
          obtain ⟨h1,h2⟩:=hb
          refine ⟨h1,?_⟩
          rcases h2 with ⟨he,hn⟩|⟨hz,b,x,vs',t,fz,k1,k2,k3,k4,k5⟩
          · exact .inl ⟨he,hbl.trans hn⟩
          · exact .inr ⟨hz,b,x,vs',t,fz,hbl.trans k1,k2,k3,k4,k5⟩
        | iter s pos=>
          obtain ⟨b,h1,h2⟩:=hb
          exact ⟨b,hbl.trans h1,h2⟩
        | mapo es=>
          obtain ⟨b,h1,h2⟩:=hb
          exact ⟨b,hbl.trans h1,h2⟩
        | dead=>trivial
        | buf e bs=>
          rcases hb with ⟨h1,h2⟩|⟨g,cur,h1,h2,h3⟩
          · exact .inl ⟨h1,hbl.trans h2⟩
          · exact .inr ⟨g,cur,hbl.trans h1,h2,h3⟩
        | gbuf e bs=>
          rcases hb with ⟨h1,h2⟩|⟨g,cur,h1,h2,h3⟩
          · exact .inl ⟨h1,hbl.trans h2⟩
          · exact .inr ⟨g,cur,hbl.trans h1,h2,h3⟩
      · rw [List.getElem?_map] at hd
        cases hd0:ds[i]? with
        | none=>simp [hd0] at hd
        | some d0=>simp [hd0] at hd; subst hd; exact (hv i v d0 hv' hd0).handL hs ls (hsel.1 d0 (List.mem_of_getElem? hd0))
    · have hlent:∀ l x,β l=some x→ls.idxOf? l=none→(fun b=>ok b∨∃ l x,l∉ls∧β l=some x∧x.1=b) x.1:=fun l x hx hn=>.inr ⟨l,x,List.idxOf?_eq_none_iff.1 hn,hx,rfl⟩
      refine main (fun b=>ok b∨∃ l x,l∉ls∧β l=some x∧x.1=b) False (fun _ h=>.inl h) (fun b hb=>?_) (fun l b o h hb=>?_) (fun i o ho=>?_) (cO fun i v d h1 h2=>(hv i v d h1 h2).low hs _ (fun _ h=>.inl h) hlent hρ) (fun w' ok' β' h' d hpd hev hh' => ?_)
      · rcases hb with hb | ⟨l,x,_,hx,rfl⟩
        · exact hs.heap.okl b hb
        · exact (hs.heap.lt l x.1 x.2 hx).2
      · obtain ⟨k,q0,q⟩:=h1own _ _ h
        rcases hb with hb|⟨l2,x2,hn,hx2,e⟩
        · exact hs.heap.dis k b o q hb
        · have:=hs.heap.inj l2 k b x2.2 o (by rw [hx2,← e]) q
          exact hn (this▸List.mem_of_getElem? q0)
      · obtain ⟨l,o0,q1,q2,rfl⟩:=hobj i o ho
        exact (hs.heap.obj l o0 q2).low hs _ (fun _ h=>.inl h) hlent hρ i (by simp only [β1,q1]; rfl)
      · obtain ⟨hor,_⟩:=hp h' d hpd
        have hfr:(d.free&&h'.all iD)=true:=by
          rcases hor with h|h
          · exact absurd h hsel
          · exact h
        rw [Bool.and_eq_true,List.all_eq_true] at hfr
        refine ⟨ok,fun _ h=>h,fun b h=>.inl h,fun l o ho=>(hh'.obj l o ho).ofFree (hfr.2 o (List.mem_of_getElem? ho)),fun l b o h hb=>?_,fun b hb=>Nat.lt_of_lt_of_le (hs.heap.okl b hb) hev.size,fun v h=>h.ofFree hfr.1⟩
        rcases hev.own l _ h with ⟨i,x,q1,q2⟩|q
        · obtain ⟨k,_,q3⟩:=h1own _ _ q1
          exact hs.heap.dis k x.1 x.2 q3 (q2▸hb)
        · have:=hs.heap.okl b hb; simp at q; omega
theorem wF {full:Bool}{f:Nat}{ds:List DV}{vs:List Value}(hs:SRep E C a w ok β st)(hl:vs.length=ds.length)(hv:∀ (i:Nat) v d,vs[i]?=some v→ds[i]?=some d→Rep w ok β v d)(hk:acall E full f ds K st) :
  Ent E.P f∧Calls E.P f vs.toArray w fun e w' => ∃ v ok' β' d st',e=.returned v∧K d st' ∧ SRep E C a w' ok' β' st' ∧ Rep w' ok' β' v d:=by
 induction hk generalizing ok β with
 | go h=>exact uV hs hl hv h
 | frz F _ hF _ ih=>
  obtain ⟨ok',β',h1,h2⟩:=hs.freeze F fun l hl=>.inl (hF l hl)
  exact ih h1 (by simpa using hl) (cO fun i v d h3 h4=>h2 _ _ (hv i v d h3 h4))
end
end Go.Ai
