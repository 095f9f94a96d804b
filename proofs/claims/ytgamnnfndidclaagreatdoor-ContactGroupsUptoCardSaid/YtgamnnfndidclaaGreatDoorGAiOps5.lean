/- Operations, third part: parts of texts and rows, conversions, iterators. -/
import Derived.Test.YtgamnnfndidclaaGreatDoorGAiOps2
import Derived.Laws.BytesArg
set_option linter.all false
namespace Go.Ai
open Go.Instr
section
variable {E:Env} {C:Ctx} {a:Act} {w:World} {ok:Nat→Prop} {β:Loc} {st:St} {K:DV→St→Prop}

theorem hE {sz:Nat}:∀ {es:List (List DV)}(_:∀ e∈es,e.length=sz)(i:Nat),(es.drop i).flatten=es.flatten.drop (i*sz)
 | [],_,i=>by simp
 | e::es,h,0=>by simp
 | e::es,h,i+1=>by
  have h0:e.length=sz:=h e (by simp)
  have hd:e.drop ((i+1)*sz)=[]:=List.drop_eq_nil_of_le (by rw [h0,Nat.succ_mul]; omega)
  rw [List.drop_succ_cons,hE (fun e he=>h e (by simp [he])) i,List.flatten_cons,List.drop_append,hd,List.nil_append]
  congr 1
  rw [h0,Nat.succ_mul]; omega
theorem fB {sz:Nat}:∀ {es:List (List DV)}(_:∀ e∈es,e.length=sz)(i:Nat),(es.take i).flatten=es.flatten.take (i*sz)
 | [],_,i=>by simp
 | e::es,h,0=>by simp
 | e::es,h,i+1=>by
  have h0:e.length=sz:=h e (by simp)
  rw [List.take_succ_cons,List.flatten_cons,fB (fun e he=>h e (by simp [he])) i,List.flatten_cons,List.take_append,List.take_of_length_le (l:=e) (by rw [h0,Nat.succ_mul]; omega)]
  congr 2
  rw [h0,Nat.succ_mul]; omega

theorem CZ {sz:Nat}{es:List (List DV)}(h:∀ e∈es,e.length=sz)(i n k:Nat)(d:DV)(hd:((es.drop i).take n).flatten[k]?=some d):es.flatten[i*sz+k]?=some d:=by
 rw [fB (fun e he=>h e (List.mem_of_mem_drop he)),hE h,List.getElem?_take] at hd
 split at hd
 ·rwa [List.getElem?_drop] at hd
 ·cases hd

theorem hU {ρ:Operand→Value}{lo hi:Option AX}{lo' hi' : Option Operand}(hlo:∀ x,lo=some x→∃ y,lo' = some y∧Rep w ok β (ρ y) (x.ev st.fr))(hlo' : lo=none→lo' = none)
  (hhi:∀ x,hi=some x→∃ y,hi' = some y∧Rep w ok β (ρ y) (x.ev st.fr)) (hhi' : hi=none→hi' = none) (n c:Nat) (hnc:n≤c) (isS:Bool) {Q:Nat→Nat→Prop} (h:bnd st.fr lo hi n c Q) (P:Program) :
  ∃ i j,i≤j∧j≤c∧(hi=none→j=n)∧Q i j∧(sliceBounds isS n c (lo'.map ρ) (hi'.map ρ) none).run P w=.ok (i,j,c) w:=by
 unfold bnd at h
 cases lo with
 | none=>
  have:=hlo' rfl
  subst this
  cases hi with
  | none=>
   have:=hhi' rfl
   subst this
   exact ⟨0,n,Nat.zero_le _,hnc,fun _=>rfl,h,by simp [sliceBounds]⟩
  | some y=>
   obtain ⟨y',rfl,hy⟩:=hhi y rfl
   simp only at h
   generalize AX.ev st.fr y=d at h hy
   cases d <;> (try exact h.elim)
   obtain ⟨h0,h1,hq⟩:=h
   have:=hy.int_inv
   refine ⟨0,_,Nat.zero_le _,by omega,(fun e=>by cases e),hq,?_⟩
   simp [sliceBounds,sliceBound,asIntOf,this,h0,h1]
 | some x=>
  obtain ⟨x',rfl,hx⟩:=hlo x rfl
  cases hi with
  | none=>
   have:=hhi' rfl
   subst this
   simp only at h
   generalize AX.ev st.fr x=d at h hx
   cases d <;> (try exact h.elim)
   obtain ⟨h0,h1,hq⟩:=h
   have:=hx.int_inv
   refine ⟨_,n,by omega,hnc,fun _=>rfl,hq,?_⟩
   simp [sliceBounds,sliceBound,asIntOf,this,h0,h1]
  | some y=>
   obtain ⟨y',rfl,hy⟩:=hhi y rfl
   simp only at h
   generalize AX.ev st.fr x=d at h hx
   generalize AX.ev st.fr y=d' at h hy
   cases d <;> cases d' <;> (try exact h.elim)
   obtain ⟨h0,h1,h2,hq⟩:=h
   have e1:=hx.int_inv
   have e2:=hy.int_inv
   rename_i k i k' j
   have h3:i≤(j.toNat:Int):=by omega
   refine ⟨_,_,by omega,by omega,(fun e=>by cases e),hq,?_⟩
   have h4:0≤j:=by omega
   simp [sliceBounds,sliceBound,asIntOf,e1,e2,h0,h2,h4]
   omega

theorem yY {lo hi:Option AX}{n c c' : Nat}(hc:c≤c'){Q:Nat→Nat→Prop}{fr:Nat→DV}(h:bnd fr lo hi n c Q):bnd fr lo hi n c' Q:=by
 unfold bnd at *
 cases lo with
 | none=>
  cases hi with
  | none=>exact h
  | some y=>
   simp only at *
   generalize AX.ev fr y=d at *
   cases d <;> (try exact h.elim)
   exact ⟨h.1,by have:=h.2.1; omega,h.2.2⟩
 | some x=>
  cases hi with
  | none=>exact h
  | some y=>
   simp only at *
   generalize AX.ev fr x=d at *
   generalize AX.ev fr y=d' at *
   cases d <;> cases d' <;> (try exact h.elim)
   exact ⟨h.1,h.2.1,by have:=h.2.2.1; omega,h.2.2.2⟩

theorem aCA {lo hi:Option AX}{n:Nat}{Q:Nat→Nat→Prop}{fr:Nat→DV}(h:bnd fr lo hi n n Q):bnd fr lo hi n n (fun i j=>j≤n∧Q i j):=by
 unfold bnd at *
 cases lo with
 | none=>
  cases hi with
  | none=>exact ⟨Nat.le_refl _,h⟩
  | some y=>
   simp only at *
   generalize AX.ev fr y=d at *
   cases d <;> (try exact h.elim)
   exact ⟨h.1,h.2.1,by have:=h.2.1; omega,h.2.2⟩
 | some x=>
  cases hi with
  | none=>
   simp only at *
   generalize AX.ev fr x=d at *
   cases d <;> (try exact h.elim)
   exact ⟨h.1,h.2.1,Nat.le_refl _,h.2.2⟩
  | some y=>
   simp only at *
   generalize AX.ev fr x=d at *
   generalize AX.ev fr y=d' at *
   cases d <;> cases d' <;> (try exact h.elim)
   exact ⟨h.1,h.2.1,h.2.2.1,by have:=h.2.2.1; omega,h.2.2.2⟩

theorem uP (s:ByteArray)(i j:Nat):(s.extract i j).data.toList=(s.data.toList.drop i).take (j - i):=by
 rw [ByteArray.data_extract,Array.toList_extract,List.extract_eq_take_drop]

theorem yU {t:TypeId}{td:TypeDesc}(hu:E.P.underlying t=some td){k:Option Nat}(htd:(td=.string∧k=none)∨∃ e i,td=.slice e∧E.P.info? e=some i∧k=some i.size){ρ:Operand→Value}{x:AX}{lo hi:Option AX}{lo' hi' : Option Operand}
    (hlo:∀ x,lo=some x→∃ y,lo' = some y∧Rep w ok β (ρ y) (x.ev st.fr)) (hlo' : lo=none→lo' = none)
    (hhi:∀ x,hi=some x→∃ y,hi' = some y∧Rep w ok β (ρ y) (x.ev st.fr)) (hhi' : hi=none→hi' = none) {v:Value}
    (hs:SRep E C a w ok β st) (h:Rep w ok β v (x.ev st.fr)) (hk:aop E (.slice k x lo hi) K st):LV E C a K (sliceAt t v (lo'.map ρ) (hi'.map ρ) none) w:=by
  simp only [aop] at hk
  generalize x.ev st.fr=d at h hk
  have hsl:k.isSome=true→∃ e i,td=.slice e∧E.P.info? e=some i∧k=some i.size:=fun h=>by
    rcases htd with ⟨_,h2⟩|h2
    · subst h2; cases h
    · exact h2
  have hrunS:∀ (i:TypeInfo) (e:TypeId) (A:Option Addr) (n c p q:Nat),td=.slice e→E.P.info? e=some i→(sliceBounds true n c (lo'.map ρ) (hi'.map ρ) none).run E.P w=.ok (p,q,c) w →
      (sliceAt t (.slice A n c) (lo'.map ρ) (hi'.map ρ) none).run E.P w=.ok (.slice (if c=p then A else A.map (·.add (p*i.size))) (q - p) (c - p)) w:=fun i e A n c p q ht hi hr=>by
    subst ht
    simp [sliceAt,slice,run_underlying hu,hr,sizeOf,typeInfo,hi]
  cases h with
  | str s=>
    obtain ⟨hk0,hk⟩:=hk
    subst hk0
    have:td=.string:=by rcases htd with ⟨h1,_⟩ | ⟨_,_,_,_,h⟩; exact h1; cases h
    subst this
    obtain ⟨p,q,h1,h2,_,hq,hr⟩:=hU hlo hlo' hhi hhi' s.data.toList.length s.data.toList.length (Nat.le_refl _) false hk E.P
    refine LV.same (v:=.string (s.extract p q)) ?_ hs (dK _ _ (uP s p q)) hq
    have hr' : (sliceBounds false s.size s.size (lo'.map ρ) (hi'.map ρ) none).run E.P w=.ok (p,q,s.data.toList.length) w:=by simpa using hr
    simp [sliceAt,slice,run_underlying hu,hr']
  | sl A n c sz es b x vs hn hnc hsz hes hA hc h1 hh=>
    obtain ⟨hk0,hk⟩:=hk
    subst hk0
    obtain ⟨e,i,ht,hinf,he0⟩:=hsl rfl
    have he:sz=i.size:=by injection he0
    subst hn
    have hk' : bnd st.fr lo hi es.length c fun i j=>j≤es.length∧K (.sl sz ((es.drop i).take (j - i))) st:=yY hnc (aCA hk)
    obtain ⟨p,q,h1',h2',_,⟨hqn,hq⟩,hr⟩:=hU hlo hlo' hhi hhi' es.length c hnc true hk' E.P
    refine LV.same (hrunS i e A es.length c p q ht hinf hr) hs ?_ hq
    have hlen:((es.drop p).take (q - p)).length=q - p:=by rw [List.length_take,List.length_drop]; omega
    have hbd:∀ k,k<(q - p)*sz→p*sz+k<es.length*sz:=fun k hk=>by
      have:q*sz≤es.length*sz:=Nat.mul_le_mul_right _ hqn
      have e3:q*sz=p*sz+(q - p)*sz:=by rw [← Nat.add_mul]; congr 1; omega
      omega
    refine .sl _ _ _ sz _ b (x+p*sz) (fun k=>vs (p*sz+k)) hlen.symm (by omega) hsz (fun e he=>hes e (List.mem_of_mem_drop (List.mem_of_mem_take he))) (fun hp=>?_)
      (fun k hk=>by rw [Nat.add_assoc]; exact hc _ (hbd k hk)) (fun k hk=>h1 _ (hbd k hk)) (fun k d hd=>hh _ d (CZ hes p _ k d hd))
    obtain ⟨hA1,hA2⟩:=hA (by omega)
    refine ⟨?_,hA2⟩
    rw [if_neg (by omega),hA1]
    simp only [Option.map_some,cN,he]
  | oslnil sz l off cap hcap hz=>
    have hk0:k=some sz:=by cases cap <;> exact hk.1
    subst hk0
    obtain ⟨e,i,ht,hinf,he0⟩:=hsl rfl
    have h0:∃ p q,p=0∧q=0∧K (.osl sz l (off+p) (q - p) (cap.map (· - p))) st∧(sliceBounds true 0 0 (lo'.map ρ) (hi'.map ρ) none).run E.P w=.ok (p,q,0) w:=by
      cases cap with
      | none=>
        obtain ⟨p,q,h1,h2,_,hq,hr⟩:=hU hlo hlo' hhi hhi' 0 0 (Nat.le_refl _) true hk.2 E.P
        exact ⟨p,q,by omega,by omega,hq,hr⟩
      | some c=>
        have:=hcap c rfl
        subst this
        obtain ⟨p,q,h1,h2,_,hq,hr⟩:=hU hlo hlo' hhi hhi' 0 0 (Nat.le_refl _) true hk.2 E.P
        exact ⟨p,q,by omega,by omega,hq,hr⟩
    obtain ⟨p,q,rfl,rfl,hq,hr⟩:=h0
    refine LV.same (hrunS i e none 0 0 0 0 ht hinf hr) hs ?_ hq
    exact .oslnil _ _ _ _ (fun k hk=>by
      cases cap with
      | none=>cases hk
      | some c=>have:=hcap c rfl; subst this; simp at hk; omega) hz
  | nils sz hz=>
    obtain ⟨hk0,hk⟩:=hk
    obtain ⟨e,i,ht,hinf,he0⟩:=hsl hk0
    obtain ⟨p,q,h1,h2,_,hq,hr⟩:=hU hlo hlo' hhi hhi' 0 0 (Nat.le_refl _) true hk E.P
    obtain rfl:p=0:=by omega
    obtain rfl:q=0:=by omega
    exact LV.same (hrunS i e none 0 0 0 0 ht hinf hr) hs (.nils sz hz) hq
  | osl sz l off n c b x y ty m hb hnc hsz hy hm' hr' cap hcap=>
    have hk0:k=some sz:=by cases cap <;> exact hk.1
    subst hk0
    obtain ⟨e,i,ht,hinf,he0⟩:=hsl rfl
    have he:sz=i.size:=by injection he0
    have h0:∃ p q,p≤q∧q≤c∧K (.osl sz l (off+p) (q - p) (cap.map (· - p))) st∧(sliceBounds true n c (lo'.map ρ) (hi'.map ρ) none).run E.P w=.ok (p,q,c) w:=by
      cases cap with
      | none=>
        have hk' : bnd st.fr lo hi n c fun i j=>K (.osl sz l (off+i) (j - i) none) st:=yY hnc hk.2
        obtain ⟨p,q,h1,h2,_,hq,hr⟩:=hU hlo hlo' hhi hhi' n c hnc true hk' E.P
        exact ⟨p,q,h1,h2,hq,hr⟩
      | some c' =>
        have:=hcap c' rfl
        subst this
        obtain ⟨p,q,h1,h2,_,hq,hr⟩:=hU hlo hlo' hhi hhi' n c hnc true hk.2 E.P
        exact ⟨p,q,h1,h2,hq,hr⟩
    obtain ⟨p,q,h1,h2,hq,hr⟩:=h0
    refine LV.same (hrunS i e (some ⟨b,y,none⟩) n c p q ht hinf hr) hs ?_ hq
    have hcap' : ∀ k,cap.map (· - p)=some k→c - p=k:=fun k hk=>by
      cases cap with
      | none=>cases hk
      | some c' => have:=hcap c' rfl; subst this; simpa using hk
    by_cases hcp:c=p
    · rw [if_pos hcp]
      exact .osl sz l (off+p) (q - p) (c - p) b x y ty m hb (by omega) hsz (fun h=>by omega) hm' (fun h=>by omega) _ hcap'
    · rw [if_neg hcp]
      have hy' := hy (by omega)
      subst hy'
      simp only [Option.map_some,cN]
      refine .osl sz l (off+p) (q - p) (c - p) b x _ ty m hb (by omega) hsz (fun h=>?_) hm' (fun h=>?_) _ hcap'
      · rw [he,Nat.add_mul]; omega
      · have:=hr' (by omega)
        have e2:off+p+(c - p)=off+c:=by omega
        rw [e2]; exact this
  | _=>exact hk.elim
end
section
variable {E:Env} {C:Ctx} {a:Act} {w:World} {ok:Nat→Prop} {β:Loc} {st:St} {K:DV→St→Prop}

theorem jR (w:World)(vs:Array Value)(t:TypeId)(fz:Nat×Nat):(w.alloc (.cells vs t fz)).shape? w.heap.size=some (t,vs.size):=by
 unfold World.shape?; rw [bY]

theorem SRep.newarr (hs:SRep E C a w ok β st)(t:TypeId)(vs:Array Value)(sz:Nat)(es:List (List DV))(hes:∀ e∈es,e.length=sz)(hsz:0<sz)(hle:es.length*sz≤vs.size)
  (hrep:∀ (k:Nat) v d,vs[k]?=some v→es.flatten[k]?=some d→v.oneCell' = true∧Rep w ok noLoc v d) :
  ∃ β',SRep E C a (w.alloc (.cells vs t)) ok β' (st.new (.arr sz es))∧β' st.h.length=some (w.heap.size,0)∧(∀ l x,β l=some x→β' l=some x) ∧
   ∀ (n c:Nat) (cap:Option Nat),n≤c→c*sz≤vs.size→(∀ k,cap=some k→c=k)→Rep (w.alloc (.cells vs t)) ok β' (.slice (some ⟨w.heap.size,0,none⟩) n c) (.osl sz st.h.length 0 n cap):=by
 obtain ⟨β',n1,n2,n3⟩:=hs.new (.cells vs t) (.arr sz es) (fun β' hβ' hn=>
  ⟨hes,.inr ⟨hsz,w.heap.size,0,vs,t,(0,0),hn,bY w _,.zero _,by omega,fun k v d hv hd=>by
   rw [Nat.zero_add] at hv
   obtain ⟨h1,h2⟩:=hrep k v d hv hd
   exact ⟨h1,h2.mono (fun _ h=>h) (fun b hb=>eO w _ (hs.heap.okl b hb)) (fun l x hx=>by simp [noLoc] at hx)⟩⟩⟩)
 refine ⟨β',n1,n2,n3,fun n c cap hn hc hcap=>?_⟩
 exact .osl sz _ 0 n c w.heap.size 0 0 t vs.size n2 hn hsz (fun _=>by omega) (jR w vs t _) (fun _=>by rw [Nat.zero_add,Nat.zero_add]; exact hc) cap hcap

theorem SRep.mark (hs:SRep E C a w ok β st){l b:Nat}{sz:Nat}{es:List (List DV)}{vs:Array Value}{t:TypeId}(hl:st.h[l]?=some (.arr sz es))(hb:β l=some (b,0))(hw:w.heap[b]?=some (.cells vs t (0,0))) :
  SRep E C a (w.freeze ⟨b,vs.size,none⟩ 1) ok β st∧(w.freeze ⟨b,vs.size,none⟩ 1).shape? b=w.shape? b:=by
 have hw' : (w.freeze ⟨b,vs.size,none⟩ 1).heap[b]?=some (.cells vs t (vs.size,vs.size+1)):=by
  simp [World.freeze,Array.getElem?_modify,hw]
 have ho:∀ k,k≠b→(w.freeze ⟨b,vs.size,none⟩ 1).heap[k]?=w.heap[k]?:=fun k hk=>by
  simp only [World.freeze,Nat.one_ne_zero,if_false,Array.getElem?_modify]
  rw [if_neg (fun e:b=k=>hk e.symm)]
 have hsh:(w.freeze ⟨b,vs.size,none⟩ 1).shape? b=w.shape? b:=by simp [World.shape?,hw',hw]
 refine ⟨?_,hsh⟩
 have hlt:l<st.h.length:=by
  rcases Nat.lt_or_ge l st.h.length with hlt|hge
  ·exact hlt
  ·rw [List.getElem?_eq_none hge] at hl; cases hl
 have:=hs.write (w' := w.freeze ⟨b,vs.size,none⟩ 1) l b 0 (.arr sz es) _ hb hl (fun cs h=>by cases h) rfl rfl rfl (by simp [World.freeze]) ho hsh (by
  obtain ⟨h1,h2⟩:=hs.heap.obj l _ hl
  rcases h2 with ⟨_,h2⟩|⟨hz,b',x,vs',t',fz,k1,k2,k3,k4,k5⟩
  ·rw [hb] at h2; cases h2
  ·rw [hb] at k1
   injection k1 with k1; injection k1 with k1a k1b
   subst k1a; subst k1b
   rw [hw] at k2
   injection k2 with k2; injection k2 with k2a k2b k2c
   subst k2a; subst k2b
   refine ⟨h1,.inr ⟨hz,b,0,vs,t,_,hb,hw',fun o ho=>by simp; omega,k4,fun k v d hv hd=>⟨(k5 k v d hv hd).1,(k5 k v d hv hd).2.mono (fun _ h=>h) (fun c hc=>ho c fun e=>hs.heap.dis l b 0 hb (e▸hc)) (fun l x hx=>by simp [noLoc] at hx)⟩⟩⟩)
 have e:st.at l (.arr sz es)=st:=by
  simp only [St.at]
  congr 1
  apply List.ext_getElem?
  intro k
  by_cases hk:l=k
  ·subst hk; rw [List.getElem?_set_self hlt,hl]
  ·rw [List.getElem?_set_ne hk]
 rwa [e] at this

theorem fG {α:Type}(l:List α)(f:α→DV):(l.map fun x=>[f x]).flatten=l.map f:=by
 induction l with
 | nil=>rfl
 | cons x l ih=>simp [ih]

theorem DK {α:Type}(l:List α)(f:α→DV)(g:α→Value)(hfg:∀ x (w:World) ok,(g x).oneCell' = true∧Rep w ok noLoc (g x) (f x))(t:TypeId)(hs:SRep E C a w ok β st)(cap:Nat)(hc:l.length≤cap)(z:Value) :
    ∃ β',SRep E C a (w.alloc (.cells ((l.map g).toArray++Array.replicate (cap - l.length) z) t)) ok β' (st.new (.arr 1 (l.map fun x=>[f x])))∧β' st.h.length=some (w.heap.size,0) ∧
      Rep (w.alloc (.cells ((l.map g).toArray++Array.replicate (cap - l.length) z) t)) ok β' (.slice (some ⟨w.heap.size,0,none⟩) l.length cap) (.osl 1 st.h.length 0 l.length none):=by
  obtain ⟨β',h1,h2,_,h4⟩:=hs.newarr t ((l.map g).toArray++Array.replicate (cap - l.length) z) 1 (l.map fun x=>[f x]) (fun e he=>by
      obtain ⟨x,_,rfl⟩:=List.mem_map.1 he; rfl) (by omega) (by simp) (fun k v d hv hd=>by
      rw [fG] at hd
      rw [List.getElem?_map] at hd
      cases hx:l[k]? with
      | none=>simp [hx] at hd
      | some x=>
        simp [hx] at hd
        subst hd
        have hk:k<l.length:=by
          rcases Nat.lt_or_ge k l.length with hlt|hge
          · exact hlt
          · rw [List.getElem?_eq_none hge] at hx; cases hx
        rw [Array.getElem?_append_left (by simpa using hk)] at hv
        simp [hx] at hv
        subst hv
        exact hfg x w ok)
  exact ⟨β',h1,h2,h4 _ _ none hc (by simp; omega) (fun _ h=>by cases h)⟩

theorem lX (s:ByteArray):∀ (n i:Nat)(acc:Array Value),Conv.runesFrom s n i acc=acc++((bF s.data.toList n i).map fun r=>Value.int .i32 r).toArray
 | 0,i,acc=>by simp [Conv.runesFrom,bF]
 | n+1,i,acc=>by
  simp only [Conv.runesFrom,bF,kU]
  by_cases h:i<s.size
  ·rw [if_pos h,if_pos (by simpa using h)]
   rw [lX s n]
   simp
  ·rw [if_neg h,if_neg (by simpa using h)]
   simp

theorem DN {src dst e:TypeId}{td:TypeDesc}(hsrc:E.P.underlying src=some td)(hdst:E.P.underlying dst=some (.slice e))(he:E.P.underlying e=some (.int .u8)){v:Value}{s:List UInt8}
  (hs:SRep E C a w ok β st) (h:Rep w ok β v (.str s)) (hk:K (.osl 1 st.h.length 0 s.length none) (st.new (.arr 1 (s.map fun b=>[.int .u8 b.toNat])))):LV E C a K (convert src dst v) w:=by
 obtain ⟨s,rfl,rfl⟩:=h.str_inv
 have hs1:=hs.drewN 1
 let cap:=(Question.appendCap s.size 0 e).cut (w.tape w.drawn (.appendCap s.size 0 e))
 have hcap:s.data.toList.length≤cap:=by simp [cap,Question.cut]
 obtain ⟨β',h1,h2,h3⟩:=DK s.data.toList (fun b=>DV.int .u8 b.toNat) (fun b:UInt8=>Value.int .u8 b.toNat) (fun x w ok=>⟨rfl,.int _ _⟩) e hs1 cap hcap (.int .u8 0)
 obtain ⟨h4,h5⟩:=h1.mark (l:=st.h.length) (sz:=1) (es:=s.data.toList.map fun b=>[.int .u8 b.toNat]) (by simp [St.new]) h2 (bY _ _)
 have hw2:=bY { w with drawn:=w.drawn+1 } (.cells ((s.data.toList.map fun b:UInt8=>Value.int .u8 b.toNat).toArray++Array.replicate (cap - s.data.toList.length) (Value.int .u8 0)) e)
 refine ⟨_,_,ok,β',_,_,?_,h4,h3.mono (fun _ h=>h) (fun b hb=>?_) (fun l x hx=>⟨hx,?_⟩),hk⟩
 ·have e1:(s.data.toList.map fun b:UInt8=>Value.int .u8 b.toNat).toArray=s.data.map fun b=>Value.int .u8 b.toNat:=by rw [← Array.toList_map,Array.toArray_toList]
  simp only [convert,Sem.run_bind,run_underlying hsrc,run_underlying hdst,Result.andThen_ok,run_underlying he,Conv.stringToBytes,run_choose,Question.forced]
  simp [newRow,markStringish,cap,jR,e1]
 ·have hne:b≠w.heap.size:=fun e' => by have:=hs.heap.okl b hb; omega
  simp only [World.freeze,Nat.one_ne_zero,if_false,Array.getElem?_modify]
  rw [if_neg (fun e' : w.heap.size=b=>hne e'.symm)]
 ·by_cases hx1:x.1=w.heap.size
  ·rw [hx1]; exact h5
  ·simp only [World.shape?,World.freeze,Nat.one_ne_zero,if_false,Array.getElem?_modify]
   rw [if_neg (fun e' : w.heap.size=x.1=>hx1 e'.symm)]
theorem KC {src dst e:TypeId}{td:TypeDesc}(hsrc:E.P.underlying src=some td)(hdst:E.P.underlying dst=some (.slice e))(he:E.P.underlying e=some (.int .u8)){s:ByteArray}{v' : Value}{w' : World}
  (hr:(convert src dst (.string s)).run E.P w=.ok v' w'):∃ A n c,v' = .slice (some A) n c:=by
 simp only [convert,Sem.run_bind,run_underlying hsrc,run_underlying hdst,Result.andThen_ok,run_underlying he,Conv.stringToBytes,run_choose,Question.forced] at hr
 simp [newRow,markStringish,jR] at hr
 exact ⟨_,_,_,hr.1.symm⟩
theorem aBq {src dst e:TypeId}{td:TypeDesc}(hsrc:E.P.underlying src=some td)(hdst:E.P.underlying dst=some (.slice e))(he:E.P.underlying e=some (.int .u8)){v:Value}{s:List UInt8}
  (hs:SRep E C a w ok β st) (h:Rep w ok β v (.str s)) (hk:K (.osl 1 st.h.length 0 s.length none) (st.new (.arr 1 (s.map fun b=>[.int .u8 b.toNat])))∨(s=[]∧K (.emp false 1) (st.new (.arr 1 [])))):LV E C a K (convert src dst v) w:=by
 rcases hk with hk|⟨rfl,hk⟩
 ·exact DN hsrc hdst he hs h hk
 ·obtain ⟨v',w',ok',β',d,st',k1,k2,k3,rfl,rfl⟩:=DN (K:=fun d st' => d=.osl 1 st.h.length 0 0 none∧st' = st.new (.arr 1 [])) hsrc hdst he hs h ⟨rfl,rfl⟩
  obtain ⟨s,rfl,_⟩:=h.str_inv
  obtain ⟨A,n,c,rfl⟩:=KC hsrc hdst he k1
  refine ⟨_,w',ok',β',_,_,k1,k2,?_,hk⟩
  cases k3 with
  | osl=>exact .emp1 _ _ _
end
section
variable {E:Env} {C:Ctx} {a:Act} {w:World} {ok:Nat→Prop} {β:Loc} {st:St} {K:DV→St→Prop}

theorem aBQ {src dst e:TypeId}{td:TypeDesc}(hsrc:E.P.underlying src=some td)(hdst:E.P.underlying dst=some (.slice e))(he:E.P.underlying e=some (.int .i32)){v:Value}{s:List UInt8}
  (hs:SRep E C a w ok β st) (h:Rep w ok β v (.str s)) (hk:K (.osl 1 st.h.length 0 (bF s s.length 0).length none) (st.new (.arr 1 ((bF s s.length 0).map fun r=>[.int .i32 r])))) :
  LV E C a K (convert src dst v) w:=by
 obtain ⟨s,rfl,rfl⟩:=h.str_inv
 have hs1:=hs.drewN 1
 have hl0:s.data.toList.length=s.size:=by simp
 generalize hL:bF s.data.toList s.data.toList.length 0=L at hk
 have hcv:Conv.runesFrom s s.size 0 #[]=(L.map fun r=>Value.int .i32 r).toArray:=by
  rw [lX,← hL,hl0]; simp
 let cap:=(Question.appendCap L.length 0 e).cut (w.tape w.drawn (.appendCap L.length 0 e))
 have hcap:L.length≤cap:=by simp [cap,Question.cut]
 obtain ⟨β',h1,h2,h3⟩:=DK L (fun r=>DV.int .i32 r) (fun r:Int=>Value.int .i32 r) (fun x w ok=>⟨rfl,.int _ _⟩) e hs1 cap hcap (.int .i32 0)
 refine ⟨_,_,ok,β',_,_,?_,h1,h3,hk⟩
 simp only [convert,Sem.run_bind,run_underlying hsrc,run_underlying hdst,Result.andThen_ok,run_underlying he,Conv.stringToRunes,run_choose,Question.forced,hcv]
 simp [newRow,cap]

theorem aCI {src dst:TypeId}{k:IntKind}(hsrc:E.P.underlying src=some (.int k))(hdst:E.P.underlying dst=some .string){v:Value}{k' : IntKind}{n:Int}
  (hs:SRep E C a w ok β st) (h:Rep w ok β v (.int k' n)) (hk:K (.str (Utf8.encode n).data.toList) st):LV E C a K (convert src dst v) w:=by
 have:=h.int_inv
 subst this
 refine LV.same (v:=.string (Utf8.encode n)) ?_ hs (.str _) hk
 simp [convert,run_underlying hsrc,run_underlying hdst,Conv.intToString]

theorem ZZ {src dst:TypeId}{td:TypeDesc}{k:IntKind}(hsrc:E.P.underlying src=some td)(hdst:E.P.underlying dst=some (.int k)){v:Value}{k' : IntKind}{n:Int}
  (hs:SRep E C a w ok β st) (h:Rep w ok β v (.int k' n)) (hk:K (.int k (k.wrap n)) st):LV E C a K (convert src dst v) w:=by
 have:=h.int_inv
 subst this
 refine LV.same (v:=.int k (k.wrap n)) ?_ hs (.int _ _) hk
 simp [convert,run_underlying hsrc,run_underlying hdst,Conv.intToInt]

theorem aDK {src dst:TypeId}{td:TypeDesc}(hsrc:E.P.underlying src=some td)(hdst:E.P.underlying dst=some .string){v:Value}{s:List UInt8}
  (hs:SRep E C a w ok β st) (h:Rep w ok β v (.str s)) (hk:K (.str s) st):LV E C a K (convert src dst v) w:=by
 obtain ⟨s,rfl,rfl⟩:=h.str_inv
 refine LV.same (v:=.string s) ?_ hs (.str _) hk
 simp [convert,run_underlying hsrc,run_underlying hdst]

theorem wZ (bs:List UInt8){x b:Nat}{vs:Nat→Value}(hc:∀ k,k<bs.length→w.cell? ⟨b,x+k,none⟩=some (vs k))(hr:∀ k d,(bs.map fun b=>DV.int .u8 b.toNat)[k]?=some d→Rep w ok noLoc (vs k) d) :
  ∀ k,k<bs.length→w.cell? ⟨b,x+k,none⟩=some (.int .u8 ((bs.getD k 0).toNat:Int)):=fun k hk=>by
 have:=hr k (.int .u8 (bs[k].toNat)) (by simp [List.getElem?_eq_getElem hk])
 rw [hc k hk,this.int_inv,List.getD_eq_getElem?_getD,List.getElem?_eq_getElem hk]
 rfl

theorem uE {src dst e:TypeId}(hsrc:E.P.underlying src=some (.slice e))(hdst:E.P.underlying dst=some .string)(he:E.P.underlying e=some (.int .u8)){bs:List UInt8}{b x c:Nat}
  (hc:∀ k,k<bs.length→w.cell? ⟨b,x+k,none⟩=some (.int .u8 ((bs.getD k 0).toNat:Int))) :
  (convert src dst (.slice (some ⟨b,x,none⟩) bs.length c)).run E.P w=.ok (.string ⟨bs.toArray⟩) w:=by
 have h:=run_convert_bytes_arg (P:=E.P) w src e hsrc he b x bs.length c (bs.map fun b=>(b.toNat:Int)) (by simp) (fun i hi=>by
  rw [hc i hi]
  simp [List.getD_eq_getElem?_getD,List.getElem?_map,List.getElem?_eq_getElem hi]) dst hdst
 have e1:strOfNums (bs.map fun b=>(b.toNat:Int))=⟨bs.toArray⟩:=by
  unfold strOfNums
  congr 2
  rw [List.map_map]
  conv=>rhs; rw [← List.map_id bs]
  apply List.map_congr_left
  intro x _
  simp
 rwa [e1] at h

theorem oH {src dst e:TypeId}(hsrc:E.P.underlying src=some (.slice e))(hdst:E.P.underlying dst=some .string)(he:E.P.underlying e=some (.int .u8))(n c:Nat) :
  (convert src dst (.slice none n c)).run E.P w=.ok (.string .empty) w:=by
 simp [convert,run_underlying hsrc,run_underlying hdst,run_underlying he,Conv.bytesToString]

theorem fH {sz l off n b x y:Nat}{es:List (List DV)}(hs:SRep E C a w ok β st)(hb:β l=some (b,x))(hl:st.h[l]?=some (.arr sz es))(hn:0<n)(hoff:off+n≤es.length)(hsz:0<sz)(hy:y=x+off*sz) :
  ∃ cs:List Value,cs.length=n*sz∧(∀ (k:Nat) v,cs[k]?=some v→w.cell? ⟨b,y+k,none⟩=some v) ∧
   ∀ (k:Nat) v d,cs[k]?=some v→((es.drop off).take n).flatten[k]?=some d→v.oneCell' = true∧Rep w ok noLoc v d:=by
 obtain ⟨h1,h2⟩:=hs.heap.obj l _ hl
 rcases h2 with ⟨h2,_⟩|⟨_,b',x',vs,ty,fz,k1,k2,k3,k4,k5⟩
 ·subst h2; simp at hoff; omega
 ·rw [hb] at k1
  injection k1 with k1; injection k1 with k1a k1b
  subst k1a; subst k1b
  subst hy
  have hbd:∀ k,k<n*sz→x+off*sz+k<vs.size:=fun k hk=>by
   have h3:(off+n)*sz≤es.length*sz:=Nat.mul_le_mul_right _ hoff
   rw [Nat.add_mul] at h3
   omega
  refine ⟨(vs.toList.drop (x+off*sz)).take (n*sz),by simp only [List.length_take,List.length_drop,Array.length_toList]; have:=hbd (n*sz - 1) (by have:0<n*sz:=Nat.mul_pos hn hsz; omega); have:0<n*sz:=Nat.mul_pos hn hsz; omega,fun k v hv=>?_,fun k v d hv hd=>?_⟩
  ·rw [List.getElem?_take] at hv
   split at hv
   ·rw [List.getElem?_drop] at hv
    simpa [World.cell?,k2] using hv
   ·cases hv
  ·rw [List.getElem?_take] at hv
   split at hv
   ·rw [List.getElem?_drop] at hv
    exact k5 (off*sz+k) v d (by rw [← Nat.add_assoc]; simpa using hv) (CZ h1 off n k d hd)
   ·cases hv

theorem aCg {src dst e:TypeId}(hsrc:E.P.underlying src=some (.slice e))(hdst:E.P.underlying dst=some .string)(he:E.P.underlying e=some (.int .u8)){v:Value}{d:DV}
  (hs:SRep E C a w ok β st) (h:Rep w ok β v d) (hk:gG .b2s d K st):LV E C a K (convert src dst v) w:=by
 cases h with
 | sl A n c sz es b x vs hn hnc hsz hes hA hc h1 hh=>
  unfold gG at hk
  split at hk <;> first | exact hk.elim | skip
  all_goals rename_i h1 h2 <;> first | (cases h1; done) | skip
  all_goals first | (cases h2; done) | skip
  obtain ⟨bs,rfl,hk⟩:=hk
  cases h2
  have hlen:n=bs.length:=by simpa using hn
  subst hlen
  refine LV.same (v:=.string ⟨bs.toArray⟩) ?_ hs (dK _ _ (by simp)) hk
  by_cases h0:bs.length=0
  ·obtain rfl:bs=[]:=List.eq_nil_of_length_eq_zero h0
   cases A with
   | none=>exact oH hsrc hdst he _ _
   | some A=>
    have:=uE (w:=w) hsrc hdst he (bs:=[]) (b:=A.block) (x:=A.off) (c:=c) (fun k hk=>by simp at hk)
    simp [convert,run_underlying hsrc,run_underlying hdst,run_underlying he,Conv.bytesToString,loadCells,loadCellsFrom]
    rfl
  ·obtain ⟨hA1,_⟩:=hA (by omega)
   subst hA1
   refine uE hsrc hdst he (wZ bs (vs:=vs) (fun k hk=>hc k (by omega)) (fun k d hd=>hh k d (by rw [fG]; exact hd)))
 | nils sz=>exact LV.same (oH hsrc hdst he 0 0) hs (dK _ _ rfl) hk
 | oslnil sz l off cap hcap hz=>
  unfold gG at hk
  split at hk <;> first | exact hk.elim | skip
  all_goals rename_i h1 h2 <;> first | (cases h1; done) | skip
  all_goals first | (cases h2; done) | skip
  cases h2
  rcases hk with ⟨_,hk⟩|⟨es,hl,ho,bs,hbs,hk⟩
  ·exact LV.same (oH hsrc hdst he 0 0) hs (dK _ _ rfl) hk
  have h0:bs=[]:=by
   have:=congrArg List.length hbs
   simp at this
   exact List.eq_nil_of_length_eq_zero this.symm
  subst h0
  exact LV.same (oH hsrc hdst he 0 0) hs (dK _ _ rfl) hk
 | osl sz l off n c b x y ty m hb hnc hsz hy hm hr cap hcap=>
  unfold gG at hk
  split at hk <;> first | exact hk.elim | skip
  all_goals rename_i h1 h2 <;> first | (cases h1; done) | skip
  all_goals first | (cases h2; done) | skip
  cases h2
  rcases hk with ⟨rfl,hk⟩|⟨es,hl,ho,bs,hbs,hk⟩
  ·refine LV.same (v:=.string .empty) ?_ hs (dK _ _ (by simp)) hk
   simp [convert,run_underlying hsrc,run_underlying hdst,run_underlying he,Conv.bytesToString,loadCells,loadCellsFrom]
  have hlen:n=bs.length:=by
   have:=congrArg List.length hbs
   simp at this
   omega
  refine LV.same (v:=.string ⟨bs.toArray⟩) ?_ hs (dK _ _ (by simp)) hk
  by_cases h0:n=0
  ·subst h0
   obtain rfl:bs=[]:=List.eq_nil_of_length_eq_zero hlen.symm
   simp [convert,run_underlying hsrc,run_underlying hdst,run_underlying he,Conv.bytesToString,loadCells,loadCellsFrom]
   rfl
  ·obtain ⟨cs,e1,e2,e3⟩:=fH hs hb hl (by omega) ho hsz (hy (by omega))
   subst hlen
   refine uE hsrc hdst he (wZ (ok:=ok) bs (vs:=fun k=>cs.getD k undef) (fun k hk=>?_) (fun k d hd=>?_))
   ·have hk' : k<cs.length:=by omega
    exact e2 k _ (by rw [List.getD_eq_getElem?_getD,List.getElem?_eq_getElem hk']; rfl)
   ·have hk:k<bs.length:=by
     rcases Nat.lt_or_ge k bs.length with hlt|hge
     ·exact hlt
     ·rw [List.getElem?_eq_none (by simpa using hge)] at hd; cases hd
    have hk' : k<cs.length:=by omega
    exact (e3 k _ d (by rw [List.getD_eq_getElem?_getD,List.getElem?_eq_getElem hk']; rfl) (by rw [hbs,fG]; exact hd)).2
 | _=>exact hk.elim

theorem fE (b y:Nat)(cs:List Value)(h:∀ (k:Nat) v,cs[k]?=some v→w.cell? ⟨b,y+k,none⟩=some v):(loadCells ⟨b,y,none⟩ cs.length).run E.P w=.ok cs.toArray w:=
 run_loadCells_list (P:=E.P) w ⟨b,y,none⟩ cs (fun j v hv=>by rw [cN]; exact h j v hv)

theorem lZ {sz:Nat}{Q:List (List DV)→Prop}{v:Value}{d:DV}(hs:SRep E C a w ok β st)(h:Rep w ok β v d)(hsz:0<sz)(hq:elems st.h d sz Q) :
  ∃ (ys:List (List DV)) (cs:List Value),Q ys∧(∀ e∈ys,e.length=sz)∧cs.length=ys.length*sz∧(Builtin.lenOf v).run E.P w=.ok ys.length w∧(∀ w' : World,w'.heap=w.heap→(Builtin.firstCells sz ys.length v).run E.P w' = .ok cs.toArray w') ∧
   ∀ (k:Nat) u e,cs[k]?=some u→ys.flatten[k]?=some e→u.oneCell' = true∧Rep w ok noLoc u e:=by
 cases h with
 | str s=>
  obtain ⟨rfl,hq⟩:=hq
  refine ⟨_,s.data.toList.map fun b=>.int .u8 b.toNat,hq,by simp,by simp,by simp [Builtin.lenOf],fun w' _=>?_,fun k u e hu he=>?_⟩
  ·have:s.extract 0 s.size=s:=ByteArray.extract_zero_size
   simp [Builtin.firstCells,this]
   rw [← Array.toList_map,Array.toArray_toList]
  ·rw [fG] at he
   rw [List.getElem?_map] at hu he
   cases hx:s.data.toList[k]? with
   | none=>simp [hx] at hu
   | some x=>simp [hx] at hu he; subst hu; subst he; exact ⟨rfl,.int _ _⟩
 | nils sz' => exact ⟨[],[],hq,by simp,by simp,by simp [Builtin.lenOf],(fun w' _=>by simp [Builtin.firstCells]),fun k u e hu _=>by simp at hu⟩
 | emp0 c sz' => exact ⟨[],[],hq,by simp,by simp,by simp [Builtin.lenOf],(fun w' _=>by simp [Builtin.firstCells]),fun k u e hu _=>by simp at hu⟩
 | emp1 A c sz' =>
  refine ⟨[],[],hq,by simp,by simp,by simp [Builtin.lenOf],(fun w' _=>?_),fun k u e hu _=>by simp at hu⟩
  simp [Builtin.firstCells,loadCells,loadCellsFrom]
 | sl A n c sz' es b x vs hn hnc hsz' hes hA hc h1 hh=>
  obtain ⟨hor,hq⟩:=hq
  subst hn
  by_cases h0:es=[]
  ·subst h0
   refine ⟨[],[],hq,by simp,by simp,by simp [Builtin.lenOf],(fun w' _=>?_),fun k u e hu _=>by simp at hu⟩
   cases A <;> simp [Builtin.firstCells,loadCells,loadCellsFrom]
  ·have hsz2:sz' = sz:=hor.resolve_left h0
   subst hsz2
   have hpos:0<es.length:=List.length_pos_iff.2 h0
   obtain ⟨hA1,hA2⟩:=hA hpos
   subst hA1
   refine ⟨es,(List.range (es.length*sz')).map vs,hq,hes,by simp,by simp [Builtin.lenOf],(fun w' hw' => ?_),fun k u e hu he=>?_⟩
   ·have hcell:∀ a,w'.cell? a=w.cell? a:=fun a=>by simp [World.cell?,hw']
    have:=fE (E:=E) (w:=w') b x ((List.range (es.length*sz')).map vs) (fun k v hv=>by
     rw [List.getElem?_map] at hv
     rcases Nat.lt_or_ge k (es.length*sz') with hlt|hge
     ·rw [List.getElem?_range hlt] at hv; simp at hv; subst hv; rw [hcell]; exact hc k hlt
     ·rw [List.getElem?_eq_none (by simpa using hge)] at hv; cases hv)
    simpa [Builtin.firstCells] using this
   ·rw [List.getElem?_map] at hu
    rcases Nat.lt_or_ge k (es.length*sz') with hlt|hge
    ·rw [List.getElem?_range hlt] at hu; simp at hu; subst hu; exact ⟨h1 k hlt,hh k e he⟩
    ·rw [List.getElem?_eq_none (by simpa using hge)] at hu; cases hu
 | oslnil sz' l off cap hcap=>
  obtain ⟨rfl,es,hl,ho,hq⟩:=hq
  refine ⟨_,[],hq,by simp,by simp,by simp [Builtin.lenOf],(fun w' _=>by simp [Builtin.firstCells]),fun k u e hu _=>by simp at hu⟩
 | osl sz' l off n c b x y ty m hb hnc hsz' hy hm hr cap hcap=>
  obtain ⟨rfl,es,hl,ho,hq⟩:=hq
  have hlen:((es.drop off).take n).length=n:=by rw [List.length_take,List.length_drop]; omega
  have hes:=(hs.heap.obj l _ hl).1
  by_cases h0:n=0
  ·subst h0
   refine ⟨_,[],hq,by simp,by simp,by simp [Builtin.lenOf],(fun w' _=>by simp [Builtin.firstCells,loadCells,loadCellsFrom]),fun k u e hu _=>by simp at hu⟩
  ·obtain ⟨cs,e1,e2,e3⟩:=fH hs hb hl (by omega) ho hsz' (hy (by omega))
   refine ⟨_,cs,hq,fun e he=>hes e (List.mem_of_mem_drop (List.mem_of_mem_take he)),by rw [hlen]; exact e1,by simp [Builtin.lenOf,hlen],(fun w' hw' => ?_),e3⟩
   have hcell:∀ a,w'.cell? a=w.cell? a:=fun a=>by simp [World.cell?,hw']
   have:=fE (E:=E) (w:=w') b y cs (fun k v hv=>by rw [hcell]; exact e2 k v hv)
   rw [e1] at this
   rw [hlen]
   simpa [Builtin.firstCells] using this
 | _=>exact hq.elim

theorem JN {t:TypeId}(hu:E.P.underlying t=some .string){v:Value}{s:List UInt8}(hs:SRep E C a w ok β st)(h:Rep w ok β v (.str s))(hk:K (.ptr st.h.length 0) (st.new (.iter s 0))) :
  LV E C a K (range t v) w:=by
 obtain ⟨s,rfl,rfl⟩:=h.str_inv
 obtain ⟨β',n1,n2,n3⟩:=hs.new (.stringIter s 0) (.iter s.data.toList 0) (fun β' _ hn=>⟨_,hn,by rw [bY,kU]⟩)
 refine ⟨_,_,ok,β',_,_,?_,n1,.ptr _ 0 _ 0 n2,hk⟩
 simp [range,run_underlying hu]

theorem RE {t:TypeId}{v:Value}{l:Nat}{s:List UInt8}{pos:Nat}(hs:SRep E C a w ok β st)(h:Rep w ok β v (.ptr l 0))(hl:st.h[l]?=some (.iter s pos))
  (hk1:pos<s.length→K (.tup [.bool true,.int .i64 pos,.int .i32 (Utf8.decode ⟨s.toArray⟩ pos).1]) (st.at l (.iter s (pos+(Utf8.decode ⟨s.toArray⟩ pos).2))))
  (hk2:¬ pos<s.length→K (.tup [.bool false]) st):LV E C a K (next v true t) w:=by
 obtain ⟨b,hb,hw⟩:=hs.heap.obj l _ hl
 cases h with
 | ptr l o b' x hb' =>
  rw [hb] at hb'
  injection hb' with hb'; injection hb' with e1 e2
  subst e1; subst e2
  by_cases hp:pos<s.length
  ·let w' : World:={ w with heap:=w.heap.setIfInBounds b (.stringIter ⟨s.toArray⟩ (pos+(Utf8.decode ⟨s.toArray⟩ pos).2)) }
   have hblt:b<w.heap.size:=(hs.heap.lt l b 0 hb).2
   have hw' : w'.heap[b]?=some (.stringIter ⟨s.toArray⟩ (pos+(Utf8.decode ⟨s.toArray⟩ pos).2)):=by simp [w',hblt]
   have hs' := hs.write (w' := w') l b 0 (.iter s (pos+(Utf8.decode ⟨s.toArray⟩ pos).2)) _ hb hl (fun cs h=>by cases h) rfl rfl rfl (by simp [w']) (fun k hk=>by
    simp only [w']; rw [Array.getElem?_setIfInBounds_ne (fun e=>hk e.symm)]) (by simp [World.shape?,hw',hw]) ⟨b,hb,hw'⟩
   refine ⟨_,w',ok,β,_,_,?_,hs',.tup [.bool true,.int .i64 pos,.int .i32 (Utf8.decode ⟨s.toArray⟩ pos).1] _ rfl (fun i v d h1 h2=>?_),hk1 hp⟩
   ·have hp' : pos<(⟨s.toArray⟩:ByteArray).size:=hp
    simp only [next,Nat.zero_add,Sem.run_bind,getObj,Sem.run,hw,Result.andThen_ok]
    simp only [if_pos hp']
    simp only [Sem.run_bind,setObj,Sem.run,hw,Result.andThen_ok]
    rfl
   ·match i with
    | 0=>simp at h1 h2; subst h1; subst h2; exact .bool _
    | 1=>simp at h1 h2; subst h1; subst h2; exact .int _ _
    | 2=>simp at h1 h2; subst h1; subst h2; exact .int _ _
    | i+3=>simp at h1
  ·refine LV.same (v:=.tuple #[.bool false]) ?_ hs (.tup [.bool false] _ rfl (fun i v d h1 h2=>?_)) (hk2 hp)
   ·have hp' : ¬ pos<(⟨s.toArray⟩:ByteArray).size:=hp
    simp only [next,Nat.zero_add,Sem.run_bind,getObj,Sem.run,hw,Result.andThen_ok]
    simp only [if_neg hp']
    rfl
   ·match i with
    | 0=>simp at h1 h2; subst h1; subst h2; exact .bool _
    | i+1=>simp at h1
end
end Go.Ai
