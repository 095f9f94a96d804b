/- Operations, sixth part: append. -/
import Derived.Test.YtgamnnfndidclaaGreatDoorGAiOps5
set_option linter.all false
namespace Go.Ai
open Go.Instr
section
variable {E:Env} {C:Ctx} {a:Act} {w:World} {ok:Nat→Prop} {β:Loc} {st:St} {K:DV→St→Prop}

set_option linter.unusedSimpArgs false
def iQ:TypeDesc→Bool
 | .int _=>true
 | _=>false

theorem tG (newLen:Nat):∀ (r c:Nat),Builtin.growBy newLen r c≤max c (newLen+(newLen+768) / 4)
 | 0,c=>by simp only [Builtin.growBy]; omega
 | r+1,c=>by
  simp only [Builtin.growBy]
  split
  ·omega
  ·have:=tG newLen r (c+(c+768) / 4)
   omega

theorem XI (need cap:Nat)(h:cap<need):Builtin.nextslicecap need cap≤2*need+192:=by
 unfold Builtin.nextslicecap
 split
 ·omega
 ·split
  ·omega
  ·have:=tG need 4 cap
   omega

theorem rN {need cap bytes:Nat}(h:cap<need)(hb:need*bytes≤1099511627776):¬ Builtin.nextslicecap need cap*bytes>2 ^ 48:=by
 have h1:=Nat.mul_le_mul_right bytes (XI need cap h)
 have h2:1*bytes≤need*bytes:=Nat.mul_le_mul_right _ (by omega)
 rw [Nat.add_mul,Nat.mul_assoc] at h1
 omega

theorem cQ (z:Array Value)(n:Nat):(Builtin.zeroCells z n).size=n*z.size:=by simp [Builtin.zeroCells]

theorem cW {T:Array TypeId}{t0 t1 el ty:TypeId}{td1:TypeDesc}{i:TypeInfo}(h0:T[0]?=some t0)(hu0:E.P.underlying t0=some (.slice el))(h1:T[1]?=some t1)(hu1:E.P.underlying t1=some td1)
  (hn1:iQ td1=false) (hi:E.P.info? el=some i) {A:Option Addr} {n c m:Nat} {y:Value} {cs:List Value}
  (hlen:(Builtin.lenOf y).run E.P w=.ok m w) (hfc:(Builtin.firstCells i.size m y).run E.P w=.ok cs.toArray w) (hfit:n+m≤c) {w' : World}
  (hst:∀ ad,A=some ad→(storeCells (ad.add (n*i.size)) cs).run E.P w=.ok () w') (hA:A=none→w' = w) :
  (Builtin.append_ T ty #[.slice A n c,y]).run E.P w=.ok (.slice A (n+m) c) w' := by
 cases A with
 | none=>
  have:=hA rfl
  subst this
  simp only [Builtin.append_,h0,h1]
  simp [run_underlying hu0,run_underlying hu1,sizeOf,typeInfo,hi,hlen,hfc,hfit]
  cases td1 <;> first | (simp [iQ] at hn1; done) | simp [hlen,hfc,hfit]
 | some ad=>
  have:=hst ad rfl
  simp only [Builtin.append_,h0,h1]
  simp [run_underlying hu0,run_underlying hu1,sizeOf,typeInfo,hi,hlen,hfc,hfit,this]
  cases td1 <;> first | (simp [iQ] at hn1; done) | simp [hlen,hfc,hfit,this]

theorem fC {T:Array TypeId}{t0 t1 el ty:TypeId}{td1:TypeDesc}{i:TypeInfo}{z:Value}(h0:T[0]?=some t0)(hu0:E.P.underlying t0=some (.slice el))(h1:T[1]?=some t1)(hu1:E.P.underlying t1=some td1)
  (hn1:iQ td1=false) (hi:E.P.info? el=some i) (hz0:i.zero=some z) {A:Option Addr} {n c m:Nat} {y:Value} {os cs:List Value}
  (hlen:(Builtin.lenOf y).run E.P w=.ok m w) (hgrow:c<n+m) (hb:(n+m)*i.bytes≤1099511627776) (hm:n+m≤1099511627776)
  (hfo:∀ w' : World,w'.heap=w.heap→(Builtin.firstCells i.size n (.slice A n c)).run E.P w' = .ok os.toArray w')
  (hfc:∀ w' : World,w'.heap=w.heap→(Builtin.firstCells i.size m y).run E.P w' = .ok cs.toArray w') :
  ∃ cap,n+m≤cap∧(Builtin.append_ T ty #[.slice A n c,y]).run E.P w =
   .ok (.slice (some ⟨w.heap.size,0,none⟩) (n+m) cap) (w.drew.alloc (.cells (os.toArray++(cs.toArray++Builtin.zeroCells z.cells (cap - (n+m)))) el)):=by
 have hnf:¬ n+m≤c:=by omega
 have hi64:¬ ((n+m:Nat):Int)>IntKind.i64.max:=by
  have:IntKind.i64.max=9223372036854775807:=rfl
  omega
 have hnb:=rN hgrow hb
 refine ⟨(Question.appendCap (n+m) c el).cut (w.tape w.drawn (.appendCap (n+m) c el)),by simp [Question.cut],?_⟩
 have e1:=hfo w.drew rfl
 have e2:=hfc w.drew rfl
 have hnb' : ¬ 2 ^ 48<Builtin.nextslicecap (n+m) c*i.bytes:=hnb
 have hi64' : ¬ IntKind.i64.max<(n:Int)+(m:Int):=by simpa using hi64
 have hi3:¬ (9223372036854775807:Int)<(n:Int)+(m:Int):=hi64'
 have hnb3:¬ 281474976710656<Builtin.nextslicecap (n+m) c*i.bytes:=hnb
 simp only [Builtin.append_,h0,h1]
 simp [run_underlying hu0,run_underlying hu1,sizeOf,typeInfo,hi,hlen]
 cases td1 <;> first | (simp [iQ] at hn1; done) | simp [hlen,hnf,hi3,hnb3,zeroValue,typeInfo,hi,hz0,newRow,Question.forced,e1,e2]

theorem AW {w w' : World}(h:w'.heap=w.heap)(b:Nat):w'.shape? b=w.shape? b:=by simp [World.shape?,h]
theorem Rep.heap {w w' : World}(h:w'.heap=w.heap){v:Value}{d:DV}(r:Rep w ok β v d):Rep w' ok β v d:=
 r.mono (fun _ k=>k) (fun b _=>by rw [h]) (fun l x hx=>⟨hx,AW h _⟩)
theorem vD {sz:Nat}{xs ys:List (List DV)}(hx:∀ e∈xs,e.length=sz){os cs rest:List Value}(ho:os.length=xs.length*sz)(hc:cs.length=ys.length*sz)(hy:∀ e∈ys,e.length=sz)
  {k:Nat} {v:Value} {d:DV} (hv:(os++(cs++rest))[k]?=some v) (hd:(xs++ys).flatten[k]?=some d) :
  (os[k]?=some v∧xs.flatten[k]?=some d)∨(cs[k - os.length]?=some v∧ys.flatten[k - os.length]?=some d):=by
 have h1:=aP hx
 have h2:=aP hy
 rw [List.flatten_append] at hd
 rcases Nat.lt_or_ge k os.length with h|h
 ·rw [List.getElem?_append_left h] at hv
  rw [List.getElem?_append_left (by omega)] at hd
  exact .inl ⟨hv,hd⟩
 ·rw [List.getElem?_append_right h] at hv
  rw [List.getElem?_append_right (by omega),h1,← ho] at hd
  have hk:k - os.length<ys.flatten.length:=by
   rcases Nat.lt_or_ge (k - os.length) ys.flatten.length with h3|h3
   ·exact h3
   ·rw [List.getElem?_eq_none h3] at hd; cases hd
  rw [List.getElem?_append_left (by omega)] at hv
  exact .inr ⟨hv,hd⟩

theorem SRep.setArr {l sz:Nat}{es es' : List (List DV)}(hs:SRep E C a w ok β st)(hl:st.h[l]?=some (.arr sz es))(hr:ORep w ok β l (.arr sz es')):SRep E C a w ok β (st.at l (.arr sz es')):=by
 have hlt:l<st.h.length:=by
  rcases Nat.lt_or_ge l st.h.length with hlt|hge
  ·exact hlt
  ·rw [List.getElem?_eq_none hge] at hl; cases hl
 refine ⟨hs.g,hs.ev,⟨fun k hk=>hs.heap.out k (by simpa [St.at] using hk),hs.heap.inj,hs.heap.lt,hs.heap.dis,hs.heap.okl,fun k o hk=>?_⟩,fun k cs hk=>?_,by simpa [St.at] using hs.len,hs.fr,hs.size,hs.defers,hs.base⟩
 ·simp only [St.at] at hk
  by_cases e:k=l
  ·subst e
   rw [List.getElem?_set_self hlt] at hk
   injection hk with hk; subst hk; exact hr
  ·rw [List.getElem?_set_ne (fun q=>e q.symm)] at hk
   exact hs.heap.obj k o hk
 ·obtain ⟨e,cs',hcs⟩:=hs.fix k cs hk
  refine ⟨e,cs',?_⟩
  have hne:k≠l:=fun q=>by subst q; rw [hl] at hcs; cases hcs
  simp only [St.at]
  rw [List.getElem?_set_ne (fun q=>hne q.symm)]
  exact hcs

theorem ORep.nilArr {l sz:Nat}{es:List (List DV)}(h:ORep w ok β l (.arr sz es)):ORep w ok β l (.arr sz []):=by
 obtain ⟨_,h2⟩:=h
 refine ⟨by simp,?_⟩
 rcases h2 with ⟨_,h2⟩|⟨hz,b,x,vs,t,fz,k1,k2,k3,k4,k5⟩
 ·exact .inl ⟨rfl,h2⟩
 ·exact .inr ⟨hz,b,x,vs,t,fz,k1,k2,k3,by simp; omega,fun k v d _ hd=>by simp at hd⟩

theorem qR {l sz:Nat}{es:List (List DV)}{p:Nat→Bool}(hl:st.h[l]?=some (.arr sz es)):(st.kill p).h[l]?=some (.arr sz es):=by
 simp [St.kill,List.getElem?_map,hl,nF]

theorem PO {l sz n cap:Nat}{es ys:List (List DV)}{os cs:List Value}{z:Value}{el:TypeId}(hs:SRep E C a w ok β st)(hl:st.h[l]?=some (.arr sz es))(hpos:0<sz)(hzs:z.cells.size=sz)(hes:∀ e∈es,e.length=sz)(hn:n≤es.length)
  (hys:∀ e∈ys,e.length=sz) (ho:os.length=n*sz) (hcs:cs.length=ys.length*sz)
  (hor:∀ (k:Nat) u e,os[k]?=some u→(es.take n).flatten[k]?=some e→u.oneCell' = true∧Rep w ok noLoc u e)
  (hcr:∀ (k:Nat) u e,cs[k]?=some u→ys.flatten[k]?=some e→u.oneCell' = true∧Rep w ok noLoc u e) (hcap:n+ys.length≤cap) :
  ∃ β',SRep E C a (w.drew.alloc (.cells (os.toArray++(cs.toArray++Builtin.zeroCells z.cells (cap - (n+ys.length)))) el)) ok β' ((st.kill (· == l)).at l (.arr sz (es.take n++ys))) ∧
   Rep (w.drew.alloc (.cells (os.toArray++(cs.toArray++Builtin.zeroCells z.cells (cap - (n+ys.length)))) el)) ok β' (.slice (some ⟨w.heap.size,0,none⟩) (n+ys.length) cap) (.osl sz l 0 (n+ys.length) none):=by
 have hsz:(os.toArray++(cs.toArray++Builtin.zeroCells z.cells (cap - (n+ys.length)))).size=cap*sz:=by
  simp only [Array.size_append,cQ,hzs,List.size_toArray,ho,hcs]
  rw [← Nat.add_mul,← Nat.add_mul]
  congr 1; omega
 have htl:(es.take n).length=n:=by rw [List.length_take]; omega
 have hte:∀ e∈es.take n,e.length=sz:=fun e he=>hes e (List.mem_of_mem_take he)
 obtain ⟨β',h1,h2⟩:=(hs.drewN 1).move l sz es (es.take n++ys) (.cells (os.toArray++(cs.toArray++Builtin.zeroCells z.cells (cap - (n+ys.length)))) el) hl (fun β' hb=>by
  refine ⟨fun e he=>?_,.inr ⟨hpos,w.heap.size,0,_,el,(0,0),hb,bY w.drew _,.zero _,?_,fun k v d hv hd=>?_⟩⟩
  ·rcases List.mem_append.1 he with he|he
   ·exact hte e he
   ·exact hys e he
  ·rw [hsz,List.length_append,htl,Nat.zero_add]
   exact Nat.mul_le_mul_right _ hcap
  ·rw [Nat.zero_add] at hv
   have hmono:∀ {u:Value} {e:DV},Rep w ok noLoc u e→Rep (w.drew.alloc (.cells (os.toArray++(cs.toArray++Builtin.zeroCells z.cells (cap - (n+ys.length)))) el)) ok noLoc u e:=fun r=>
    r.mono (fun _ k=>k) (fun b hb=>eO w.drew _ (hs.heap.okl b hb)) (fun l x hx=>by simp [noLoc] at hx)
   have hv' : (os++(cs++(Builtin.zeroCells z.cells (cap - (n+ys.length))).toList))[k]?=some v:=by
    have:=hv
    rw [← Array.getElem?_toList] at this
    simpa using this
   rcases vD hte (by rw [htl]; exact ho) hcs hys hv' hd with ⟨q1,q2⟩|⟨q1,q2⟩
   ·exact ⟨(hor k v d q1 q2).1,hmono (hor k v d q1 q2).2⟩
   ·exact ⟨(hcr _ v d q1 q2).1,hmono (hcr _ v d q1 q2).2⟩)
 refine ⟨β',h1,?_⟩
 exact .osl sz l 0 (n+ys.length) cap w.heap.size 0 0 el _ h2 hcap hpos (fun _=>by omega) (jR w.drew _ _ _) (fun _=>by rw [hsz,Nat.zero_add,Nat.zero_add]; exact Nat.le_refl _) none (fun _ h=>by cases h)

theorem yH {sz:Nat}{es ys:List (List DV)}(he:∀ e∈es,e.length=sz)(hy:∀ e∈ys,e.length=sz){j:Nat}(hj:j+ys.length≤es.length){k:Nat}{d:DV}
  (hd:(es.take j++ys++es.drop (j+ys.length)).flatten[k]?=some d) :
  (j*sz≤k∧k<j*sz+ys.length*sz∧ys.flatten[k - j*sz]?=some d)∨((k<j*sz∨j*sz+ys.length*sz≤k)∧es.flatten[k]?=some d):=by
 have h1:(es.take j).flatten.length=j*sz:=by
  rw [aP (sz:=sz) (fun e h=>he e (List.mem_of_mem_take h)),List.length_take]; congr 1; omega
 have h2:ys.flatten.length=ys.length*sz:=aP hy
 rw [List.flatten_append,List.flatten_append] at hd
 rcases Nat.lt_or_ge k (j*sz) with h|h
 ·right
  rw [List.getElem?_append_left (by rw [List.length_append]; omega),List.getElem?_append_left (by omega),fB he,List.getElem?_take,if_pos h] at hd
  exact ⟨.inl h,hd⟩
 ·rcases Nat.lt_or_ge k (j*sz+ys.length*sz) with h3|h3
  ·left
   rw [List.getElem?_append_left (by rw [List.length_append]; omega),List.getElem?_append_right (by omega),h1] at hd
   exact ⟨h,h3,hd⟩
  ·right
   rw [List.getElem?_append_right (by rw [List.length_append]; omega),hE he,List.getElem?_drop,List.length_append,h1,h2,Nat.add_mul] at hd
   refine ⟨.inr h3,?_⟩
   rw [← hd]; congr 1; omega

theorem jF {l sz off n c b x yy:Nat}{es ys:List (List DV)}{cs:List Value}(hs:SRep E C a w ok β st)(hl:st.h[l]?=some (.arr sz es))(hb:β l=some (b,x))(hpos:0<sz)
    (hyy:0<c→yy=x+off*sz) (hno:off+c≤es.length) (hfit:n+ys.length≤c) (hys:∀ e∈ys,e.length=sz) (hcs:cs.length=ys.length*sz)
    (hcr:∀ (k:Nat) u e,cs[k]?=some u→ys.flatten[k]?=some e→u.oneCell' = true∧Rep w ok noLoc u e) :
    ∃ w',(storeCells ((⟨b,yy,none⟩:Addr).add (n*sz)) cs).run E.P w=.ok () w' ∧ SRep E C a w' ok β (st.at l (.arr sz (es.take (off+n)++ys++es.drop (off+n+ys.length))))∧w'.shape? b=w.shape? b:=by
  obtain ⟨hes,h2⟩:=hs.heap.obj l _ hl
  rcases h2 with ⟨_,h2⟩|⟨_,b',x',vs,ty',fz,k1,k2,k3,k4,k5⟩
  · rw [hb] at h2; cases h2
  · rw [hb] at k1
    injection k1 with k1; injection k1 with k1a k1b
    subst k1a; subst k1b
    have hroom:(off+n)*sz+cs.length≤es.length*sz:=by
      rw [hcs,← Nat.add_mul]; exact Nat.mul_le_mul_right _ (by omega)
    have hw:∃ w',(storeCells ((⟨b,yy,none⟩:Addr).add (n*sz)) cs).run E.P w=.ok () w' ∧ w'.os=w.os∧w'.tape=w.tape∧w'.output=w.output∧w'.heap.size=w.heap.size∧(∀ k,k≠b→w'.heap[k]?=w.heap[k]?) ∧
        ∃ cur',w'.heap[b]?=some (.cells cur' ty' fz)∧cur'.size=vs.size∧∀ k,cur'[k]?=if x+(off+n)*sz≤k∧k<x+(off+n)*sz+cs.length then cs[k - (x+(off+n)*sz)]? else vs[k]?:=by
      rcases Nat.eq_zero_or_pos c with h3|h3
      · have hy0:ys.length=0:=by omega
        obtain rfl:cs=[]:=List.eq_nil_of_length_eq_zero (by rw [hcs,hy0,Nat.zero_mul])
        exact ⟨w,rfl,rfl,rfl,rfl,rfl,fun _ _=>rfl,vs,k2,rfl,fun k=>by rw [if_neg (by simp)]⟩
      · have h4:=hyy h3
        have e1:yy+n*sz=x+(off+n)*sz:=by rw [h4,Nat.add_mul]; omega
        have h5:=bI E.P b (yy+n*sz) ty' fz cs 0 vs w k2 k3 (by omega) (fun u hu=>by
          obtain ⟨q,hq',rfl⟩:=List.mem_iff_getElem.1 hu
          have hq2:q<ys.flatten.length:=by rw [aP hys]; omega
          exact (hcr q _ _ (List.getElem?_eq_getElem hq') (List.getElem?_eq_getElem hq2)).1)
        rw [cN]
        rw [e1] at h5 ⊢
        simpa using h5
    obtain ⟨w',r,o1,o2,o3,o4,oth,cur',e1,e2,e3⟩:=hw
    have hmono:∀ {v:Value} {d:DV},Rep w ok noLoc v d→Rep w' ok noLoc v d:=fun h=>h.mono (fun _ k=>k)
      (fun k hk=>oth k fun e=>hs.heap.dis l b x hb (e▸hk)) (fun l' y hy=>by simp [noLoc] at hy)
    have hsh:w'.shape? b=w.shape? b:=by simp [World.shape?,e1,k2,e2]
    have hlen:(es.take (off+n)++ys++es.drop (off+n+ys.length)).length=es.length:=by
      simp only [List.length_append,List.length_take,List.length_drop]; omega
    refine ⟨w',r,hs.write l b x _ _ hb hl (fun cs h=>by cases h) o1 o2 o3 o4 oth hsh ⟨fun e he=>?_,.inr ⟨hpos,b,x,cur',ty',fz,hb,e1,by rw [e2]; exact k3,by rw [e2,hlen]; exact k4,fun k v d hv hd=>?_⟩⟩,hsh⟩
    · rcases List.mem_append.1 he with he | he
      · rcases List.mem_append.1 he with he | he
        · exact hes e (List.mem_of_mem_take he)
        · exact hys e he
      · exact hes e (List.mem_of_mem_drop he)
    · rw [e3] at hv
      rcases yH hes hys (by omega) hd with ⟨q1,q2,q3⟩|⟨q1,q3⟩
      · rw [if_pos (by omega)] at hv
        have e4:x+k - (x+(off+n)*sz)=k - (off+n)*sz:=by omega
        rw [e4] at hv
        obtain ⟨c1,c2⟩:=hcr _ v d hv q3
        exact ⟨c1,hmono c2⟩
      · rw [if_neg (by omega)] at hv
        obtain ⟨c1,c2⟩:=k5 k v d hv q3
        exact ⟨c1,hmono c2⟩

theorem JH {T:Array TypeId}{t0 t1 el ty:TypeId}{td1:TypeDesc}{i:TypeInfo}{z:Value}(h0:T[0]?=some t0)(hu0:E.P.underlying t0=some (.slice el))(h1:T[1]?=some t1)(hu1:E.P.underlying t1=some td1)
    (hn1:iQ td1=false) (hi:E.P.info? el=some i) (hz0:i.zero=some z) (hzs:z.cells.size=i.size) (hpos:0<i.size) {x y:Value} {dx dy:DV}
    (hs:SRep E C a w ok β st) (hx:Rep w ok β x dx) (hy:Rep w ok β y dy) (hk:dI i.size i.bytes dx dy K st):LV E C a K (Builtin.append_ T ty #[x,y]) w:=by
  obtain ⟨ys,cs,hq,hys,hcs,hlen,hfc,hcr⟩:=lZ hs hy hpos hk
  have arr_len:∀ {l:Nat} {es:List (List DV)},st.h[l]?=some (.arr i.size es)→(∀ e∈es,e.length=i.size):=fun hl=>(hs.heap.obj _ _ hl).1
  cases hx with
  | nils sz=>
    obtain ⟨hb,hm,hk⟩:=hq
    by_cases h00:ys.length=0
    · obtain rfl:ys=[]:=List.eq_nil_of_length_eq_zero h00
      obtain rfl:cs=[]:=List.eq_nil_of_length_eq_zero (by simpa using hcs)
      exact ⟨_,w,ok,β,_,_,cW (A:=none) (n:=0) (c:=0) h0 hu0 h1 hu1 hn1 hi hlen (hfc w rfl) (Nat.le_refl _) (fun _ h=>by cases h) (fun _=>rfl),hs.newnone _,.oslnil _ _ _ _ (fun _ h=>by cases h) hpos,hk⟩
    · obtain ⟨cap,hcap,hr⟩:=fC (A:=none) (n:=0) (c:=0) (os:=[]) h0 hu0 h1 hu1 hn1 hi hz0 hlen (by omega) (by simpa using hb) (by simpa using hm) (fun w' _=>by simp [Builtin.firstCells]) hfc
      obtain ⟨β',k1,k2,k3,k4⟩:=(hs.drewN 1).newarr el (#[]++(cs.toArray++Builtin.zeroCells z.cells (cap - (0+ys.length)))) i.size ys hys hpos (by simp [cQ,hcs]) (fun k v d hv hd=>by
        have hk:k<cs.length:=by
          rw [hcs,← aP hys]
          rcases Nat.lt_or_ge k ys.flatten.length with h3|h3
          · exact h3
          · rw [List.getElem?_eq_none h3] at hd; cases hd
        simp at hv
        rw [Array.getElem?_append_left (by simpa using hk)] at hv
        obtain ⟨c1,c2⟩:=hcr k v d (by simpa using hv) hd
        refine ⟨c1,?_⟩; refine c2.mono ?_ ?_ ?_; (exact fun _ k=>k); (exact fun _ _=>rfl); (exact fun l x hx=>by simp [noLoc] at hx))
      have hk4:=k4 (0+ys.length) cap none hcap (by
        simp only [Array.size_append,cQ,hzs]
        simp [hcs]
        rw [← Nat.add_mul]
        exact Nat.mul_le_mul_right _ (by omega)) (fun _ h=>by cases h)
      exact ⟨_,_,ok,β',_,_,hr,k1,by simpa using hk4,hk⟩
  | oslnil sz l off cap0 hcap0 hz=>
    cases cap0 with
    | some c0=>
      obtain ⟨rfl,es,hl,hno,hfit,hk⟩:=hq
      have hc0:=hcap0 _ rfl
      subst hc0
      obtain rfl:ys=[]:=List.eq_nil_of_length_eq_zero (by omega)
      obtain rfl:cs=[]:=List.eq_nil_of_length_eq_zero (by simpa using hcs)
      refine ⟨_,w,ok,β,_,_,cW (A:=none) (n:=0) (c:=0) h0 hu0 h1 hu1 hn1 hi hlen (hfc w rfl) (Nat.le_refl _) (fun _ h=>by cases h) (fun _=>rfl),
        hs.setArr hl ?_,.oslnil _ _ _ _ (fun _ h=>by cases h; rfl) hpos,hk⟩
      have:=hs.heap.obj l _ hl
      simpa using this
    | none=>
    obtain ⟨rfl,rfl,es,hl,hno,hb,hm,hk⟩:=hq
    by_cases h00:ys.length=0
    · obtain rfl:ys=[]:=List.eq_nil_of_length_eq_zero h00
      obtain rfl:cs=[]:=List.eq_nil_of_length_eq_zero (by simpa using hcs)
      exact ⟨_,w,ok,β,_,_,cW (A:=none) (n:=0) (c:=0) h0 hu0 h1 hu1 hn1 hi hlen (hfc w rfl) (Nat.le_refl _) (fun _ h=>by cases h) (fun _=>rfl),
        (hs.kill (· == l)).setArr (qR hl) (by simpa using ORep.nilArr ((hs.kill (· == l)).heap.obj l _ (qR hl))),.oslnil _ _ _ _ (fun _ h=>by cases h) hpos,hk⟩
    · obtain ⟨cap,hcap,hr⟩:=fC (A:=none) (n:=0) (c:=0) (os:=[]) h0 hu0 h1 hu1 hn1 hi hz0 hlen (by omega) hb hm (fun w' _=>by simp [Builtin.firstCells]) hfc
      obtain ⟨β',k1,k2⟩:=PO (z:=z) (el:=el) (n:=0) (os:=[]) hs hl hpos hzs (arr_len hl) hno hys (by simp) hcs (fun k u e hu _=>by simp at hu) hcr hcap
      exact ⟨_,_,ok,β',_,_,hr,k1,k2,hk⟩
  | osl sz l off n c b x yy tt m hb hnc hsz hyy hmm hr cap0 hcap0=>
    cases cap0 with
    | some c0=>
      obtain ⟨rfl,es,hl,hno,hfit,hk⟩:=hq
      have hc0:=hcap0 _ rfl
      subst hc0
      obtain ⟨w',r,hs',hsh⟩:=jF (yy:=yy) (n:=n) (c:=c) hs hl hb hpos hyy hno hfit hys hcs hcr
      exact ⟨_,w',ok,β,_,_,cW h0 hu0 h1 hu1 hn1 hi hlen (hfc w rfl) hfit (fun ad had=>by cases had; exact r) (fun h=>by cases h),hs',
        .osl i.size l off (n+ys.length) c b x yy tt m hb hfit hpos hyy (hsh.trans hmm) hr (some c) (fun _ h=>by cases h; rfl),hk⟩
    | none=>
    obtain ⟨rfl,rfl,es,hl,hno,hbd,hm,hk⟩:=hq
    by_cases hfit:n+ys.length≤c
    · obtain ⟨_,h2⟩:=hs.heap.obj l _ hl
      rcases h2 with ⟨_,h2⟩|⟨_,b',x',vs,ty',fz,k1,k2,k3,k4,k5⟩
      · rw [hb] at h2; cases h2
      · rw [hb] at k1
        injection k1 with k1; injection k1 with k1a k1b
        subst k1a; subst k1b
        have hms:m=vs.size:=by simp [World.shape?,k2] at hmm; exact hmm.2.symm
        have hroom:n*i.size+cs.length≤c*i.size:=by
          rw [hcs,← Nat.add_mul]; exact Nat.mul_le_mul_right _ hfit
        have hin:cs.length=0∨(x+n*i.size+0+cs.length≤vs.size∧yy=x):=by
          rcases Nat.eq_zero_or_pos c with hc0|hc0
          · left; rw [hc0,Nat.zero_mul] at hroom; omega
          · right
            have h3:=hr hc0
            have h4:=hyy hc0
            rw [Nat.zero_add] at h3
            exact ⟨by omega,by simpa using h4⟩
        have hw:∃ w',(storeCells ((⟨b,yy,none⟩:Addr).add (n*i.size)) cs).run E.P w=.ok () w' ∧ w'.os=w.os∧w'.tape=w.tape∧w'.output=w.output∧w'.heap.size=w.heap.size∧(∀ k,k≠b→w'.heap[k]?=w.heap[k]?) ∧
            ∃ cur',w'.heap[b]?=some (.cells cur' ty' fz)∧cur'.size=vs.size∧∀ k,cur'[k]?=if x+n*i.size≤k∧k<x+n*i.size+cs.length then cs[k - (x+n*i.size)]? else vs[k]?:=by
          rcases hin with h3|⟨h3,h4⟩
          · obtain rfl:cs=[]:=List.eq_nil_of_length_eq_zero h3
            exact ⟨w,rfl,rfl,rfl,rfl,rfl,fun _ _=>rfl,vs,k2,rfl,fun k=>by rw [if_neg (by simp)]⟩
          · subst h4
            have h5:=bI E.P b (yy+n*i.size) ty' fz cs 0 vs w k2 k3 h3 (fun u hu=>by
              obtain ⟨q,hq',rfl⟩:=List.mem_iff_getElem.1 hu
              have hq2:q<ys.flatten.length:=by rw [aP hys]; omega
              exact (hcr q _ _ (List.getElem?_eq_getElem hq') (List.getElem?_eq_getElem hq2)).1)
            rw [cN]
            simpa using h5
        obtain ⟨w',r,o1,o2,o3,o4,oth,cur',e1,e2,e3⟩:=hw
        have hmono:∀ {v:Value} {d:DV},Rep w ok noLoc v d→Rep w' ok noLoc v d:=fun h=>h.mono (fun _ k=>k)
          (fun k hk=>oth k fun e=>hs.heap.dis l b x hb (e▸hk)) (fun l' y hy=>by simp [noLoc] at hy)
        have htl:(es.take n).length=n:=by rw [List.length_take]; omega
        have hte:∀ e∈es.take n,e.length=i.size:=fun e he=>arr_len hl e (List.mem_of_mem_take he)
        have hfl:(es.take n).flatten.length=n*i.size:=by rw [aP hte,htl]
        have hsh:w'.shape? b=w.shape? b:=by simp [World.shape?,e1,k2,e2]
        have hro:ORep w' ok β l (.arr i.size (es.take n++ys)):=by
          refine ⟨fun e he=>?_,.inr ⟨hpos,b,x,cur',ty',fz,hb,e1,by rw [e2]; exact k3,?_,fun k v d hv hd=>?_⟩⟩
          · rcases List.mem_append.1 he with he | he
            · exact hte e he
            · exact hys e he
          · rw [e2,List.length_append,htl,Nat.add_mul,← hcs]
            rcases hin with h3|⟨h3,h4⟩
            · have:n*i.size≤es.length*i.size:=Nat.mul_le_mul_right _ hno
              omega
            · omega
          · rw [List.flatten_append] at hd
            rw [e3] at hv
            rcases Nat.lt_or_ge k (n*i.size) with hlt|hge
            · rw [if_neg (by omega)] at hv
              rw [List.getElem?_append_left (by omega),fB (arr_len hl),List.getElem?_take,if_pos hlt] at hd
              obtain ⟨c1,c2⟩:=k5 k v d hv hd
              exact ⟨c1,hmono c2⟩
            · rw [List.getElem?_append_right (by omega),hfl] at hd
              have hk2:k - n*i.size<ys.flatten.length:=by
                rcases Nat.lt_or_ge (k - n*i.size) ys.flatten.length with h3|h3
                · exact h3
                · rw [List.getElem?_eq_none h3] at hd; cases hd
              rw [aP hys,← hcs] at hk2
              rw [if_pos (by omega)] at hv
              have e4:x+k - (x+n*i.size)=k - n*i.size:=by omega
              rw [e4] at hv
              obtain ⟨c1,c2⟩:=hcr _ v d hv hd
              exact ⟨c1,hmono c2⟩
        refine ⟨_,w',ok,β,_,_,cW h0 hu0 h1 hu1 hn1 hi hlen (hfc w rfl) hfit (fun ad had=>by cases had; exact r) (fun h=>by cases h),
          (hs.kill (· == l)).write l b x _ _ hb (qR hl) (fun cs h=>by cases h) o1 o2 o3 o4 oth hsh hro,?_,hk⟩
        exact .osl i.size l 0 (n+ys.length) c b x yy tt m hb hfit hpos hyy (hsh.trans hmm) hr none (fun _ h=>by cases h)
    · have hfo:∃ os:List Value,os.length=n*i.size∧(∀ w' : World,w'.heap=w.heap→(Builtin.firstCells i.size n (.slice (some ⟨b,yy,none⟩) n c)).run E.P w' = .ok os.toArray w') ∧
          ∀ (k:Nat) u e,os[k]?=some u→(es.take n).flatten[k]?=some e→u.oneCell' = true∧Rep w ok noLoc u e:=by
        by_cases hn0:n=0
        · subst hn0
          exact ⟨[],by simp,fun w' _=>by simp [Builtin.firstCells,loadCells,loadCellsFrom],fun k u e hu _=>by simp at hu⟩
        · obtain ⟨os,q1,q2,q3⟩:=fH (off:=0) (n:=n) hs hb hl (by omega) (by omega) hpos (hyy (by omega))
          refine ⟨os,q1,fun w' hw' => ?_,fun k u e hu he=>q3 k u e hu (by simpa using he)⟩
          have hcell:∀ a,w'.cell? a=w.cell? a:=fun a=>by simp [World.cell?,hw']
          have:=fE (E:=E) (w:=w') b yy os (fun k v hv=>by rw [hcell]; exact q2 k v hv)
          rw [q1] at this
          simpa [Builtin.firstCells] using this
      obtain ⟨os,q1,q2,q3⟩:=hfo
      obtain ⟨cap,hcap,hrr⟩:=fC (n:=n) (c:=c) h0 hu0 h1 hu1 hn1 hi hz0 hlen (by omega) hbd hm q2 hfc
      obtain ⟨β',k1,k2⟩:=PO (z:=z) (el:=el) hs hl hpos hzs (arr_len hl) hno hys q1 hcs q3 hcr hcap
      exact ⟨_,_,ok,β',_,_,hrr,k1,k2,hk⟩
  | _=>exact hq.elim

theorem XZ {T:Array TypeId}{t0 el ty:TypeId}{i:TypeInfo}(h0:T[0]?=some t0)(hu0:E.P.underlying t0=some (.slice el))(hi:E.P.info? el=some i)(hpos:0<i.size){x y:Value}{dx dy:DV}
  (hs:SRep E C a w ok β st) (hx:Rep w ok β x dx) (hy:Rep w ok β y dy) (hk:lH i.size dx dy K st):LV E C a K (Builtin.copy_ T ty #[x,y]) w:=by
 obtain ⟨ys,cs,hq,hys,hcs,hlen,hfc,hcr⟩:=lZ hs hy hpos hk
 cases hx with
 | osl sz l off n c b x yy tt m hb hnc hsz hyy hmm hr cap0 hcap0=>
  obtain ⟨rfl,es,hl,hno,hfit,hk⟩:=hq
  obtain ⟨w',r,hs',hsh⟩:=jF (yy:=yy) (n:=0) (c:=n) hs hl hb hpos (fun h=>hyy (by omega)) hno (by omega) hys hcs hcr
  rw [Nat.zero_mul] at r
  have hrun:(Builtin.copy_ T ty #[.slice (some ⟨b,yy,none⟩) n c,y]).run E.P w=.ok (.int .i64 ys.length) w' := by
   have hmin:Nat.min ys.length n=ys.length:=Nat.min_eq_left hfit
   have r' : (storeCells ⟨b,yy,none⟩ cs).run E.P w=.ok () w' := by simpa [cN] using r
   simp [Builtin.copy_,h0,run_underlying hu0,hlen,hmin,sizeOf,typeInfo,hi,hfc w rfl,r',goInt]
  exact ⟨_,w',ok,β,_,_,hrun,by simpa using hs',.int _ _,hk⟩
 | oslnil sz l off cap0 hcap0 hz=>
  obtain ⟨rfl,es,hl,hno,hfit,hk⟩:=hq
  obtain rfl:ys=[]:=List.eq_nil_of_length_eq_zero (by omega)
  obtain rfl:cs=[]:=List.eq_nil_of_length_eq_zero (by simpa using hcs)
  have hrun:(Builtin.copy_ T ty #[.slice none 0 0,y]).run E.P w=.ok (.int .i64 0) w:=by
   have hf:=hfc w rfl
   simp only [List.length_nil] at hf hlen
   simp [Builtin.copy_,h0,run_underlying hu0,hlen,sizeOf,typeInfo,hi,hf,goInt]
  refine ⟨_,w,ok,β,_,_,hrun,hs.setArr hl ?_,.int _ _,hk⟩
  have:=hs.heap.obj l _ hl
  simpa using this
 | _=>exact hq.elim
end
section
variable {E:Env} {C:Ctx} {a:Act} {w:World} {ok:Nat→Prop} {β:Loc} {st:St} {K:DV→St→Prop}

theorem iM (off:Nat):∀ (vs:List Value)(j:Nat)(cells:Array Value),off+j+vs.length≤cells.size →
  ((vs.zipIdx j).foldl (fun cs (c,j)=>cs.setIfInBounds (off+j) c) cells).size=cells.size ∧
  ∀ k,((vs.zipIdx j).foldl (fun cs (c,j)=>cs.setIfInBounds (off+j) c) cells)[k]?=if off+j≤k∧k<off+j+vs.length then vs[k - (off+j)]? else cells[k]?
 | [],j,cells,_=>⟨rfl,fun k=>by rw [if_neg (by simp)]; rfl⟩
 | v::vs,j,cells,h=>by
  simp only [List.length_cons] at h
  obtain ⟨h1,h2⟩:=iM off vs (j+1) (cells.setIfInBounds (off+j) v) (by simp; omega)
  refine ⟨by rw [List.zipIdx_cons,List.foldl_cons,h1]; simp,fun k=>?_⟩
  rw [List.zipIdx_cons,List.foldl_cons,h2]
  simp only [List.length_cons]
  by_cases h0:k=off+j
  ·subst h0
   rw [if_neg (by omega),if_pos (by omega)]
   have:off+j<cells.size:=by omega
   simp [this]
  ·rw [Array.getElem?_setIfInBounds_ne (fun e=>h0 e.symm)]
   by_cases h3:off+(j+1)≤k∧k<off+(j+1)+vs.length
   ·rw [if_pos h3,if_pos (by omega)]
    have:k - (off+j)=(k - (off+(j+1)))+1:=by omega
    rw [this,List.getElem?_cons_succ]
   ·rw [if_neg h3,if_neg (by omega)]

theorem wI (place:Nat→Option (Nat×Nat)):∀ (ps:List (Nat×Value))(ds:List (Nat×Nat×DV))(cells:Array Value)(cs:List DV){Q:List DV→Prop},ps.length=ds.length →
  (∀ (i:Nat) p d,ps[i]?=some p→ds[i]?=some d→place p.1=some (d.1,d.2.1)∧Rep w ok β p.2 d.2.2)→cells.size=cs.length →
  (∀ (k:Nat) v d,cells[k]?=some v→cs[k]?=some d→Rep w ok β v d)→nU cs ds Q →
  ∃ cells' cs',fill place cells ps=some cells' ∧ cells'.size=cs'.length∧(∀ (k:Nat) v d,cells'[k]?=some v→cs'[k]?=some d→Rep w ok β v d)∧Q cs'
 | [],[],cells,cs,Q,_,_,hs,hr,hq=>⟨cells,cs,rfl,hs,hr,hq⟩
 | [],_::_,_,_,_,h,_,_,_,_=>by simp at h
 | _::_,[],_,_,_,h,_,_,_,_=>by simp at h
 | (i,v)::ps,(off,n,d)::ds,cells,cs,Q,hl,hp,hs,hr,hq=>by
  obtain ⟨h1,h2,h3,hq⟩:=hq
  obtain ⟨hpl,hv⟩:=hp 0 (i,v) (off,n,d) rfl rfl
  simp only at hpl hv
  obtain ⟨c1,c2,_⟩:=hv.cells h1
  have hfit:off+0+v.cells.toList.length≤cells.size:=by simp; omega
  obtain ⟨f1,f2⟩:=iM off v.cells.toList 0 cells hfit
  have hlen:(cs.take off++d.cells++cs.drop (off+n)).length=cs.length:=by simp; omega
  obtain ⟨cells',cs',r1,r2,r3,r4⟩:=wI place ps ds ((v.cells.toList.zipIdx 0).foldl (fun cs (c,j)=>cs.setIfInBounds (off+j) c) cells) (cs.take off++d.cells++cs.drop (off+n)) (by simpa using hl)
   (fun j p d hp' hd' => hp (j+1) p d (by simpa using hp') (by simpa using hd')) (by rw [f1,hlen]; exact hs) (fun k u e hu he=>by
    rw [kG _ _ _ _ _ h2 h3] at he
    rw [f2] at hu
    have e1:v.cells.toList.length=n:=by simp; omega
    rw [e1] at hu
    by_cases hk:off≤k∧k<off+n
    ·rw [if_pos hk] at he
     rw [if_pos (by omega),Nat.add_zero] at hu
     exact c2 _ u e (by simpa using hu) he
    ·rw [if_neg hk] at he
     rw [if_neg (by omega)] at hu
     exact hr k u e hu he) hq
  refine ⟨cells',cs',?_,r2,r3,r4⟩
  rw [fill,hpl]
  have hfe:v.cells.zipIdx.foldl (fun cs (c,j)=>cs.setIfInBounds (off+j) c) cells=(v.cells.toList.zipIdx 0).foldl (fun cs (c,j)=>cs.setIfInBounds (off+j) c) cells:=by
   rw [← Array.foldl_toList]
   simp
  show (if (decide (v.cells.size≠n)||decide (off+v.cells.size>cells.size))=true then none else fill place (v.cells.zipIdx.foldl (fun cs (c,j)=>cs.setIfInBounds (off+j) c) cells) ps)=some cells'
  rw [if_neg (by simp; omega),hfe]
  exact r1

theorem xP (P:Program)(w:World)(f:Field→Sem (Nat×Nat))(g:Field→Nat×Nat):∀ (l:List Field),(∀ x∈l,(f x).run P w=.ok (g x) w)→(l.mapM f).run P w=.ok (l.map g) w
 | [],_=>rfl
 | x::l,h=>by
  rw [List.mapM_cons]
  simp [h x (by simp),xP P w f g l (fun y hy=>h y (by simp [hy]))]

theorem PM {t:TypeId}{fields:Array Field}(hu:E.P.underlying t=some (.struct fields)){z:Value}(hz:(E.P.info? t).bind (·.zero)=some z){zs:List DV}
  (hf:∀ x∈fields.toList,(E.P.info? x.type).isSome=true) (hzl:z.cells.size=zs.length) (hzr:∀ (k:Nat) v d,z.cells[k]?=some v→zs[k]?=some d→Rep w ok β v d)
  {ps:Array (Nat×Value)} {ds:List (Nat×Nat×DV)} (hl:ps.size=ds.length)
  (hp:∀ (i:Nat) p d,ps[i]?=some p→ds[i]?=some d→(∃ fd,fields[p.1]?=some fd∧fd.offset=d.1∧E.P.cellsOf fd.type=d.2.1)∧Rep w ok β p.2 d.2.2)
  (hs:SRep E C a w ok β st) (hk:nU zs ds fun cs=>K (.agg cs) st):LV E C a K (build t ps) w:=by
 have hm:(fields.mapM fun (f:Field)=>do pure (f.offset,← sizeOf f.type)).run E.P w=.ok (fields.map fun (f:Field)=>(f.offset,E.P.cellsOf f.type)) w:=by
  rw [Array.mapM_eq_mapM_toList]
  have:=xP E.P w (fun (f:Field)=>do pure (f.offset,← sizeOf f.type)) (fun (f:Field)=>(f.offset,E.P.cellsOf f.type)) fields.toList (fun x hx=>by
   have h1:=hf x hx
   cases hi:E.P.info? x.type with
   | none=>simp [hi] at h1
   | some i=>simp [sizeOf,typeInfo,hi,Program.cellsOf])
  simp only [Sem.run_map]
  rw [this]
  simp only [Result.andThen_ok]
  rw [← Array.toList_map,Array.toArray_toList]
 obtain ⟨cells',cs',r1,r2,r3,r4⟩:=wI (w:=w) (ok:=ok) (β:=β) ((fields.map fun (f:Field)=>(f.offset,E.P.cellsOf f.type))[·]?) ps.toList ds z.cells zs (by simpa using hl) (fun i p d h1 h2=>by
  obtain ⟨⟨fd,q1,q2,q3⟩,q4⟩:=hp i p d (by simpa using h1) h2
  exact ⟨by simp [q1,q2,q3],q4⟩) hzl hzr hk
 refine LV.same (v:=.agg cells') ?_ hs (by
  have:=Rep.agg (w:=w) (ok:=ok) (β:=β) cells'.toList cs' (by simpa using r2) (fun i v d h1 h2=>r3 i v d (by simpa using h1) h2)
  simpa using this) r4
 cases hi:E.P.info? t with
 | none=>simp [hi] at hz
 | some i=>
  simp [hi] at hz
  simp only [build,zeroValue,typeInfo,Sem.run_bind,run_program,Result.andThen_ok,hi,Sem.run_pure,hz,run_underlying hu,hm,r1]

theorem pD (sz:Nat)(place:Nat→Option (Nat×Nat))(hpl:∀ i,place i=some (i*sz,sz)):∀ (vs:List Value)(j:Nat)(cells:Array Value),(∀ v∈vs,v.cells.size=sz)→(j+vs.length)*sz≤cells.size →
  ∃ cells',fill place cells ((vs.zipIdx j).map fun (v,i)=>(i,v))=some cells' ∧ cells'.size=cells.size ∧
   ∀ k,cells'[k]?=if j*sz≤k∧k<(j+vs.length)*sz then (vs.map fun v=>v.cells.toList).flatten[k - j*sz]? else cells[k]?
 | [],j,cells,_,_=>⟨cells,rfl,rfl,fun k=>by rw [if_neg (by simp)]⟩
 | v::vs,j,cells,hv,h=>by
  have h1:v.cells.size=sz:=hv v (by simp)
  simp only [List.length_cons] at h
  have e0:(j+(vs.length+1))*sz=j*sz+sz+vs.length*sz:=by rw [Nat.add_mul,Nat.add_mul,Nat.one_mul]; omega
  have hfit:j*sz+0+v.cells.toList.length≤cells.size:=by simp; omega
  obtain ⟨f1,f2⟩:=iM (j*sz) v.cells.toList 0 cells hfit
  obtain ⟨cells',r1,r2,r3⟩:=pD sz place hpl vs (j+1) ((v.cells.toList.zipIdx 0).foldl (fun cs (c,q)=>cs.setIfInBounds (j*sz+q) c) cells) (fun u hu=>hv u (by simp [hu])) (by
   rw [f1]
   have:(j+1+vs.length)*sz=(j+(vs.length+1))*sz:=by congr 1; omega
   omega)
  refine ⟨cells',?_,by rw [r2,f1],fun k=>?_⟩
  ·rw [List.zipIdx_cons,List.map_cons,fill,hpl]
   have hfe:v.cells.zipIdx.foldl (fun cs (c,q)=>cs.setIfInBounds (j*sz+q) c) cells=(v.cells.toList.zipIdx 0).foldl (fun cs (c,q)=>cs.setIfInBounds (j*sz+q) c) cells:=by
    rw [← Array.foldl_toList]
    simp
   show (if (decide (v.cells.size≠sz)||decide (j*sz+v.cells.size>cells.size))=true then none else fill place (v.cells.zipIdx.foldl (fun cs (c,q)=>cs.setIfInBounds (j*sz+q) c) cells) _)=some cells'
   rw [if_neg (by simp; omega),hfe]
   exact r1
  ·rw [r3,f2]
   simp only [List.length_cons,List.map_cons,List.flatten_cons]
   have e1:(j+1)*sz=j*sz+sz:=Nat.succ_mul j sz
   have e2:(j+1+vs.length)*sz=j*sz+sz+vs.length*sz:=by rw [Nat.add_mul,Nat.add_mul,Nat.one_mul]
   have e3:v.cells.toList.length=sz:=by simpa using h1
   rw [e1,e2,e0]
   by_cases hk:j*sz+sz≤k∧k<j*sz+sz+vs.length*sz
   ·rw [if_pos hk,if_pos (by omega),List.getElem?_append_right (by omega),e3]
    congr 1
    omega
   ·rw [if_neg hk,e3]
    by_cases hk2:j*sz≤k∧k<j*sz+sz
    ·rw [if_pos (by omega),if_pos (by omega),List.getElem?_append_left (by omega)]
     simp
    ·rw [if_neg (by omega),if_neg (by omega)]

theorem kY {d e:DV}(h:d.closed=true)(he:e∈d.cells):e.closed=true:=by
 cases d with
 | agg l=>
  simp only [DV.cells] at he
  obtain ⟨i,hi,rfl⟩:=List.mem_iff_getElem.1 he
  exact bT l (by simpa [DV.closed] using h) i _ (List.getElem?_eq_getElem hi)
 | _=>simp [DV.cells] at he; subst he; exact h

theorem lU {sz:Nat}:∀ (vs:List Value)(ds:List DV),vs.length=ds.length→(∀ (k:Nat) v d,vs[k]?=some v→ds[k]?=some d→Rep w ok β v d)→(∀ d∈ds,d.closed=true∧d.cells.all DV.one=true∧d.cells.length=sz) →
  (∀ v∈vs,v.cells.size=sz)→∀ (k:Nat) v d,(vs.map fun v=>v.cells.toList).flatten[k]?=some v→(ds.map DV.cells).flatten[k]?=some d→v.oneCell' = true∧Rep w ok noLoc v d
 | [],ds,hl,_,_,_,k,v,d,hv,hd=>by simp at hv
 | u::vs,[],hl,_,_,_,k,v,d,hv,hd=>by simp at hl
 | u::vs,e::ds,hl,hr,hc,hz,k,v,d,hv,hd=>by
  obtain ⟨h1,h2,h3⟩:=hc e (by simp)
  obtain ⟨c1,c2,c3⟩:=(hr 0 u e rfl rfl).cells h2
  rw [List.map_cons,List.flatten_cons] at hv hd
  have e1:u.cells.toList.length=e.cells.length:=by simpa using c1
  rcases Nat.lt_or_ge k e.cells.length with h|h
  ·rw [List.getElem?_append_left (by omega)] at hv
   rw [List.getElem?_append_left h] at hd
   refine ⟨c3 v (List.mem_of_getElem? hv),(c2 k v d (by simpa using hv) hd).shut ?_⟩
   exact kY h1 (List.mem_of_getElem? hd)
  ·rw [List.getElem?_append_right (by omega)] at hv
   rw [List.getElem?_append_right h] at hd
   rw [e1] at hv
   exact lU vs ds (by simpa using hl) (fun k v d h1 h2=>hr (k+1) v d (by simpa using h1) (by simpa using h2)) (fun d hd=>hc d (by simp [hd])) (fun v hv=>hz v (by simp [hv])) _ v d hv hd

theorem sP {t el:TypeId}{i:TypeInfo}{z:Value}{n:Nat}(hu:E.P.underlying t=some (.slice el))(hi:E.P.info? el=some i)(hz:i.zero=some z)(hzs:z.cells.size=i.size)(hpos:0<i.size){vs:List Value}{ds:List DV}(hl:vs.length=ds.length)
  (hn:n=vs.length) (hmax:n*i.size≤2 ^ 24) (hv:∀ (k:Nat) v d,vs[k]?=some v→ds[k]?=some d→Rep w ok β v d) (hd:∀ d∈ds,d.closed=true∧d.cells.all DV.one=true∧d.cells.length=i.size)
  (hs:SRep E C a w ok β st) (hk:K (.osl i.size st.h.length 0 ds.length none) (st.new (.arr i.size (ds.map DV.cells)))) {ps:Array (Nat×Value)} (hps:ps.toList=(vs.zipIdx 0).map fun (v,i)=>(i,v)):LV E C a K (buildSlice t n ps) w:=by
 subst hn
 have hcell:∀ v∈vs,v.cells.size=i.size:=fun v hvm=>by
  obtain ⟨k,hk,rfl⟩:=List.mem_iff_getElem.1 hvm
  have hk' : k<ds.length:=by omega
  have h1:=hd ds[k] (List.getElem_mem hk')
  have:=((hv k _ _ (List.getElem?_eq_getElem hk) (List.getElem?_eq_getElem hk')).cells h1.2.1).1
  omega
 obtain ⟨cells',r1,r2,r3⟩:=pD i.size (fun k=>some (k*i.size,i.size)) (fun _=>rfl) vs 0 ((Array.range (vs.length*i.size)).map (z.cells[· % z.cells.size]!)) hcell (by simp)
 have hsz:cells'.size=vs.length*i.size:=by rw [r2]; simp
 have hds:∀ e∈ds.map DV.cells,e.length=i.size:=fun e he=>by
  obtain ⟨d,hd',rfl⟩:=List.mem_map.1 he
  exact (hd d hd').2.2
 obtain ⟨β',n1,n2,n3,n4⟩:=hs.newarr el cells' i.size (ds.map DV.cells) hds hpos (by rw [hsz]; simp [hl]) (fun k v d hv' hd' => by
  have hk:k<vs.length*i.size:=by
   rw [hl]
   have:(ds.map DV.cells).flatten.length=ds.length*i.size:=by rw [aP hds]; simp
   rcases Nat.lt_or_ge k (ds.length*i.size) with h|h
   ·exact h
   ·rw [List.getElem?_eq_none (by omega)] at hd'; cases hd'
  rw [r3,if_pos (by simpa using hk)] at hv'
  simp only [Nat.zero_mul,Nat.sub_zero] at hv'
  exact lU vs ds hl hv hd hcell k v d hv' hd')
 refine ⟨_,_,ok,β',_,_,?_,n1,n4 ds.length ds.length none (Nat.le_refl _) (by rw [hsz,hl]; exact Nat.le_refl _) (fun _ h=>by cases h),hk⟩
 have hno:¬ vs.length*i.size>2 ^ 24:=by omega
 have hno' : ¬ 16777216<vs.length*i.size:=by omega
 rw [← hl]
 by_cases h0:vs.length*i.size=0
 ·have hv0:vs=[]:=by
   rcases Nat.mul_eq_zero.1 h0 with h|h
   ·exact List.eq_nil_of_length_eq_zero h
   ·omega
  subst hv0
  have hps' : ps.toList=[]:=by simpa using hps
  have hc' : cells' = #[]:=Array.eq_empty_of_size_eq_zero (by simpa using hsz)
  subst hc'
  obtain rfl:ps=#[]:=by simpa using hps'
  simp [buildSlice,run_underlying hu,sizeOf,typeInfo,hi,fill,newRow]
  have e0:Array.map (fun _=>(default:Value)) (Array.range 0)=#[]:=Array.eq_empty_of_size_eq_zero (by simp)
  rw [e0]
 ·have hmul:¬ (vs=[]∨i.size=0):=fun h=>by
   rcases h with h|h
   ·subst h; simp at h0
   ·omega
  simp only [buildSlice,Sem.run_bind,run_underlying hu,Result.andThen_ok,sizeOf,typeInfo,run_program,hi,Sem.run_pure]
  simp only [if_neg hno,if_neg h0,zeroValue,typeInfo,Sem.run_bind,run_program,Result.andThen_ok,hi,Sem.run_pure,hz,hps,r1]
  simp [newRow]
end
end Go.Ai
