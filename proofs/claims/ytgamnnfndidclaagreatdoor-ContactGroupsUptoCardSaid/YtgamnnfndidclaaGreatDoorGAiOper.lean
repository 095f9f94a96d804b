/- Each operation of the model does what ours says: all of them. -/
import Derived.Test.YtgamnnfndidclaaGreatDoorGAiSound
import Derived.Tactics
set_option linter.all false
namespace Go.Ai
open Go.Instr
section
variable {E:Env} {C:Ctx} {a:Act} {w:World} {ok:Nat→Prop} {β:Loc} {st:St} {K:DV→St→Prop}

theorem QD {P:Program}{t:TypeId}{m:String}{f:Nat}(h:zA P t m=some f){v:Value}{w:World}{n:Nat}:(method (n+1) t v m).run P w=.ok (f,v) w:=by
 unfold zA at h
 split at h
 ·rename_i e row hu hr
  split at h
  ·rename_i hp hf
   injection h with h
   subst h
   rw [Option.bind_eq_some_iff] at hr
   obtain ⟨i,hi,hr⟩:=hr
   have hp0:row.path=#[]:=by simpa using hp
   simp [method,run_typeInfo w hi,hr,hp0,follow,hf,receiverAt,run_underlying hu,Place.get]
  ·cases h
 ·cases h
theorem pC {full:Bool}{o:Oper}{f:Nat}{args:Array Value}{ds:List DV}(he:∀ P' : Program,P' = E.P→(execOp a.eval o).run P' w=(callFunc f args).run P' w)(hs:SRep E C a w ok β st)(hl:args.toList.length=ds.length)
  (hv:∀ (i:Nat) v d,args.toList[i]?=some v→ds[i]?=some d→Rep w ok β v d) (hk:acall E full f ds K st) {next:Act→World→Prop} {Q:Exit→Act→World→Prop}
  (hn:∀ v d w' ok' β' st',K d st' → SRep E C a w' ok' β' st' → Rep w' ok' β' v d→next (a.put o.dst v) w'):o.wp E.P a w next Q:=by
 obtain ⟨⟨fn,h1,h2,h3⟩,hc⟩:=wF hs hl hv hk
 have hr:(callFunc f args).run E.P w=.ok (.enter f args) w:=by
  simp only [callFunc,Sem.run_bind,run_program,Result.andThen_ok,h1]
  rw [if_neg (by simp [h2]),if_neg (by simp [h3])]
  rfl
 unfold Oper.wp
 rw [he E.P rfl,hr,Oper.upon_enter]
 have:args.toList.toArray=args:=by simp
 rw [this] at hc
 refine hc.mono ?_
 rintro e w' ⟨v,ok',β',d,st',rfl,k1,k2,k3⟩
 exact hn v d w' ok' β' st' k1 k2 k3

theorem qN {fs:Array Field}:∀ {ps:List (Nat×Operand)}{qs:List (Nat×Nat×AX)}(_:pQ E.P fs ps=some qs)(_:SRep E C a w ok β st),ps.length=qs.length ∧
  ∀ (i:Nat) p q,ps[i]?=some p→qs[i]?=some q→(∃ fd,fs[p.1]?=some fd∧fd.offset=q.1∧E.P.cellsOf fd.type=q.2.1)∧Rep w ok β (a.eval p.2) (q.2.2.ev st.fr)
 | [],qs,h,hs=>by simp [pQ] at h; subst h; exact ⟨rfl,fun i p q hp _=>by simp at hp⟩
 | (j,x)::ps,qs,h,hs=>by
  simp only [pQ] at h
  split at h
  ·rename_i f hf
   simp only [Option.bind_eq_some_iff,Option.map_eq_some_iff] at h
   obtain ⟨y,hy,qs',hqs,rfl⟩:=h
   obtain ⟨h1,h2⟩:=qN hqs hs
   refine ⟨by simp [h1],fun i p q hp hq=>?_⟩
   cases i with
   | zero=>simp at hp hq; subst hp; subst hq; exact ⟨⟨f,hf,rfl,rfl⟩,aH hy hs⟩
   | succ i=>exact h2 i p q (by simpa using hp) (by simpa using hq)
  ·cases h

theorem wB:∀ {ps:List (Nat×Operand)}{k:Nat}{qs:List AX}(_:QP ps k=some qs)(_:SRep E C a w ok β st),ps.length=qs.length ∧
  (ps.map fun (i,x)=>(i,a.eval x))=((ps.map fun (_,x)=>a.eval x).zipIdx k).map (fun (v,i)=>(i,v)) ∧
  ∀ (i:Nat) v q,(ps.map fun (_,x)=>a.eval x)[i]?=some v→(qs.map (·.ev st.fr))[i]?=some q→Rep w ok β v q
 | [],k,qs,h,hs=>by simp [QP] at h; subst h; exact ⟨rfl,rfl,fun i p q hp _=>by simp at hp⟩
 | (j,x)::ps,k,qs,h,hs=>by
  simp only [QP] at h
  split at h
  ·rename_i hj
   subst hj
   simp only [Option.bind_eq_some_iff,Option.map_eq_some_iff] at h
   obtain ⟨y,hy,qs',hqs,rfl⟩:=h
   obtain ⟨h1,h2,h3⟩:=wB hqs hs
   refine ⟨by simp [h1],?_,fun i p q hp hq=>?_⟩
   ·simp only [List.map_cons,List.zipIdx_cons,h2]
   ·cases i with
    | zero=>simp at hp hq; subst hp; subst hq; exact aH hy hs
    | succ i=>exact h3 i p q (by simpa using hp) (by simpa using hq)
  ·cases h

theorem oT {x:Option Operand}{y:Option AX}(h:cxo x=some y)(hs:SRep E C a w ok β st):(∀ z,y=some z→∃ u,x=some u∧Rep w ok β (a.eval u) (z.ev st.fr))∧(y=none→x=none):=by
 cases x with
 | none=>simp [cxo] at h; subst h; exact ⟨(fun z hz=>by cases hz),fun _=>rfl⟩
 | some u=>
  simp only [cxo,Option.map_eq_some_iff] at h
  obtain ⟨z,hz,rfl⟩:=h
  exact ⟨(fun z' hz' => by injection hz' with hz'; subst hz'; exact ⟨u,rfl,aH hz hs⟩),(fun h=>by cases h)⟩

theorem GE {full:Bool}{o:Oper}{op:AOp}(hc:cop E.P full o=some op)(hs:SRep E C a w ok β st)(hk:aop E op K st){next:Act→World→Prop}{Q:Exit→Act→World→Prop}
  (hn:∀ v d w' ok' β' st',K d st' → SRep E C a w' ok' β' st' → Rep w' ok' β' v d→next (a.put o.dst v) w'):o.wp E.P a w next Q:=by
 obtain ⟨dst,oop,ty,pos,after,guard⟩:=o
 cases oop with
 | move x=>
  simp only [cop,Option.map_eq_some_iff] at hc
  obtain ⟨y,hy,rfl⟩:=hc
  exact rL rfl hs (aH hy hs) hk hn
 | assign x=>
  simp only [cop] at hc
  split at hc
  ·split at hc
   ·split at hc
    ·rename_i hp
     injection hc with hc; subst hc
     cases full with
     | true=>exact rL rfl (hs.newnone _) (.oslnil _ _ _ _ (fun _ h=>by cases h) hp) hk hn
     | false=>exact rL rfl hs (.nils _ hp) hk hn
    ·cases hc
   ·cases hc
  ·simp only [Option.map_eq_some_iff] at hc
   obtain ⟨y,hy,rfl⟩:=hc
   cases full with
   | true=>
    obtain ⟨h1,h2⟩:=uY hs (aH hy hs)
    exact rL rfl h1 h2 hk hn
   | false=>exact rL rfl hs (aH hy hs) hk hn
 | pick c x y=>
  simp only [cop,Option.map_eq_some_iff,Option.bind_eq_some_iff] at hc
  obtain ⟨c',hc',x',hx',y',hy',rfl⟩:=hc
  have hr:=aH hc' hs
  simp only [aop] at hk
  generalize hd:c'.ev st.fr=d at hr hk
  cases d with
  | bool t=>
   have ht:a.eval c=.bool t:=by generalize a.eval c=v at hr; cases hr; rfl
   unfold Oper.wp
   cases t with
   | true=>
    simp only [execOp,ht,asBool,Sem.run_bind,Sem.run_pure,Result.andThen_ok,if_true,Oper.upon_value]
    exact hn _ _ _ _ _ _ hk hs (aH hx' hs)
   | false=>
    simp only [execOp,ht,asBool,Sem.run_bind,Sem.run_pure,Result.andThen_ok,Bool.false_eq_true,if_false,Oper.upon_value]
    exact hn _ _ _ _ _ _ hk hs (aH hy' hs)
  | _=>exact hk.elim
 | alloc t=>
  simp only [cop,Option.map_eq_some_iff] at hc
  obtain ⟨ds,hds,rfl⟩:=hc
  obtain ⟨z,h1,h2,h3⟩:=tK hds
  cases hself:FN E.P t ds with
  | some e=>
   rw [hself] at hk
   obtain rfl:=SY hself
   exact bK rfl (IH t hs h1 h2 (h3 w ok β) e hk) hn
  | none=>
   rw [hself] at hk
   exact bK rfl (OA t hs h1 h2 (h3 w ok β) hk) hn
 | box t x=>
  simp only [cop,Option.map_eq_some_iff] at hc
  obtain ⟨y,hy,rfl⟩:=hc
  exact bK rfl (aCZ t hs (aH hy hs) hk.1 hk.2) hn
 | build t parts=>
  simp only [cop] at hc
  split at hc
  ·rename_i fs hu
   split at hc
   ·rename_i hall
    simp only [Option.map_eq_some_iff,Option.bind_eq_some_iff] at hc
    obtain ⟨ds,hds,qs,hqs,rfl⟩:=hc
    obtain ⟨z,h1,h2,h3⟩:=tK hds
    obtain ⟨k1,k2⟩:=qN hqs hs
    refine bK rfl (PM hu h1 (fun x hx=>by simpa using List.all_eq_true.1 hall x hx) h2 (h3 w ok β) (by simpa using k1) (fun i p d hp hd=>?_) hs hk) hn
    rw [Array.getElem?_map] at hp
    rw [List.getElem?_map] at hd
    cases hp0:parts[i]? with
    | none=>simp [hp0] at hp
    | some p0=>
     cases hd0:qs[i]? with
     | none=>simp [hd0] at hd
     | some q0=>
      simp [hp0] at hp
      simp [hd0] at hd
      subst hp; subst hd
      exact k2 i p0 q0 (by simpa using hp0) hd0
   ·cases hc
  ·cases hc
 | buildSlice t n parts=>
  simp only [cop] at hc
  split at hc
  ·rename_i e hu
   split at hc
   ·rename_i i hi
    split at hc
    ·rename_i z hz
     split at hc
     ·rename_i hcond
      obtain ⟨c1,c2,c3,c4⟩:=hcond
      simp only [Option.map_eq_some_iff] at hc
      obtain ⟨qs,hqs,rfl⟩:=hc
      obtain ⟨k1,k2,k3⟩:=wB hqs hs
      cases full with
      | false=>
       have hk1:=hk.1
       refine bK rfl (sP (vs:=parts.toList.map fun (_,x)=>a.eval x) (ds:=qs.map (·.ev st.fr)) hu hi hz c2 c1 (by simpa using k1) (by simpa using c4.symm) c3 k3 (fun d hd=>?_) hs (by simpa [Function.comp_def] using hk.2) (by simpa using k2)) hn
       obtain ⟨q,hq,rfl⟩:=List.mem_map.1 hd
       exact hk1 q hq
      | true=>
       simp only [aop] at hk
       obtain ⟨ds',st',ok',β',hk,hs',hlen,hds,hp⟩:=nG hs hk
       have hl2:ds'.length=qs.length:=by simpa using hlen
       refine bK rfl (sP (vs:=parts.toList.map fun (_,x)=>a.eval x) (ds:=ds') hu hi hz c2 c1 (by simpa [hl2] using k1) (by simpa using c4.symm) c3 (hds _ k3) hk.1 hs' (by rw [hl2]; exact hk.2) (by simpa using k2)) hn
     ·cases hc
    ·cases hc
   ·cases hc
  ·cases hc
 | load t x=>
  simp only [cop] at hc
  split at hc
  ·rename_i td i hu hi
   simp only [Option.map_eq_some_iff] at hc
   obtain ⟨y,hy,rfl⟩:=hc
   exact bK rfl (BJ hu hi hs (aH hy hs) hk) hn
  ·cases hc
 | store t x v=>
  simp only [cop] at hc
  split at hc
  ·rename_i i hi
   simp only [Option.map_eq_some_iff,Option.bind_eq_some_iff] at hc
   obtain ⟨x',hx,v',hv,rfl⟩:=hc
   obtain ⟨w',ok',β',st',r1,r2,r3⟩:=yQ (o:=default) hi hs (aH hx hs) (aH hv hs) hk
   unfold Oper.wp
   simp only [execOp,Sem.run_bind,r1,Result.andThen_ok,Sem.run_pure,Oper.upon_skip]
   exact hn _ _ _ _ _ _ r3 r2 (.undef _)
  ·cases hc
 | nilCheck x=>
  simp only [cop,Option.map_eq_some_iff] at hc
  obtain ⟨y,hy,rfl⟩:=hc
  have hr:=aH hy hs
  simp only [aop] at hk
  generalize hd:y.ev st.fr=d at hr hk
  have hx:∃ v,a.eval x=v:=⟨_,rfl⟩
  obtain ⟨v,hv⟩:=hx
  rw [hv] at hr
  unfold Oper.wp
  simp only [execOp,hv]
  cases hr with
  | ptr l o b x' h=>exact hn _ _ _ _ _ _ hk hs (.ptr l o b x' h)
  | aptr sz l j q b x' h=>exact hn _ _ _ _ _ _ hk hs (.aptr sz l j q b x' h)
  | eptr cs o b x' vs hok hcc hh=>exact hn _ _ _ _ _ _ hk hs (.eptr cs o b x' vs hok hcc hh)
  | fn f vs ds hl hh=>exact hn _ _ _ _ _ _ hk hs (.fn f vs ds hl hh)
  | _=>exact hk.elim
 | binOp op t x y yt=>
  simp only [cop,Option.map_eq_some_iff,Option.bind_eq_some_iff] at hc
  obtain ⟨x',hx,y',hy,rfl⟩:=hc
  refine bK rfl (aBS op (HO E.P t y) t x y hs (aH hx hs) (aH hy hs) (fun h=>QC (jL h (by intro e; cases e))) (fun ks h=>KT (jL h (by intro e; cases e))) (fun h=>SW (jL h (by intro e; cases e))) (fun h=>RC (jL h (by intro e; cases e))) (fun h=>⟨VS (jL h (by intro e; cases e)),NV h⟩) hk) hn
 | unOp op t x=>
  simp only [cop,Option.map_eq_some_iff] at hc
  obtain ⟨y,hy,rfl⟩:=hc
  exact bK rfl (aDU op hs (aH hy hs) hk) hn
 | convert s d x=>
  simp only [cop,Option.map_eq_some_iff,Option.bind_eq_some_iff] at hc
  obtain ⟨k,hkk,y,hy,rfl⟩:=hc
  refine bK rfl ?_ hn
  have hr:=aH hy hs
  simp only [aop] at hk
  generalize hd:y.ev st.fr=dv at hr hk
  unfold YS at hkk
  split at hkk
  ·rename_i k1 k2 h1 h2
   injection hkk with hkk; subst hkk
   cases dv <;> first | exact hk.elim | exact ZZ h1 h2 hs hr hk
  ·rename_i h1 h2
   injection hkk with hkk; subst hkk
   cases dv <;> first | exact hk.elim | exact aDK h1 h2 hs hr hk
  ·rename_i k1 h1 h2
   injection hkk with hkk; subst hkk
   cases dv <;> first | exact hk.elim | exact aCI h1 h2 hs hr hk
  ·rename_i e h1 h2
   split at hkk
   ·rename_i he
    injection hkk with hkk; subst hkk
    cases dv <;> first | exact hk.elim | exact aBq h1 h2 he hs hr hk
   ·rename_i he
    injection hkk with hkk; subst hkk
    cases dv <;> first | exact hk.elim | exact aBQ h1 h2 he hs hr hk
   ·cases hkk
  ·rename_i e h1 h2
   split at hkk
   ·rename_i he
    injection hkk with hkk; subst hkk
    exact aCg h1 h2 he hs hr hk
   ·rename_i he
    injection hkk with hkk; subst hkk
    exact aCj h1 h2 he hs hr hk
   ·cases hkk
  ·cases hkk
 | makeFunc fn first caps=>
  cases fn with
  | func f=>
   simp only [cop] at hc
   split at hc
   ·rename_i hf
    simp only [Option.map_eq_some_iff] at hc
    obtain ⟨ys,hys,rfl⟩:=hc
    obtain ⟨h1,h2⟩:=gP hys hs
    have hf0:first=#[]:=by simpa using hf
    subst hf0
    refine bK rfl (LV.same (v:=.func (.func f) #[] (caps.toList.map a.eval).toArray) ?_ hs (.fn f _ _ h1 h2) hk) hn
    have e1:(caps.toList.map a.eval).toArray=caps.map a.eval:=by rw [← Array.toList_map,Array.toArray_toList]
    rw [e1]
    simp [makeFunc]
   ·split at hc
    ·rename_i x hx1 hc1
     simp only [Option.map_eq_some_iff] at hc
     obtain ⟨x',hx,rfl⟩:=hc
     have hr:=aH hx hs
     have hc0:caps=#[]:=by simpa using hc1
     have hf0:first=#[x]:=by have:=congrArg List.toArray hx1; simpa using this
     subst hc0; subst hf0
     refine bK rfl (LV.same (v:=.func (.func f) [a.eval x].toArray #[]) ?_ hs (.bnd f [a.eval x] _ rfl (fun i v d hv hd=>?_)) hk) hn
     ·simp [makeFunc]
     ·cases i with
      | zero=>simp at hv hd; subst hv; subst hd; exact hr
      | succ i=>simp at hv
    ·cases hc
  | _=>simp [cop] at hc
 | makeInterface t x=>
  simp only [cop] at hc
  split at hc
  ·cases hc
  ·rename_i d hne hu
   simp only [Option.map_eq_some_iff] at hc
   obtain ⟨x',hx,rfl⟩:=hc
   have hr:=aH hx hs
   refine bK rfl (LV.same (v:=.iface t (a.eval x)) ?_ hs (.ifc t _ _ rfl (fun i v d hv hd=>?_)) hk) hn
   ·simp only [Instr.makeInterface,Sem.run_bind,run_underlying hu,Result.andThen_ok]
    cases d <;> first | rfl | exact absurd hu (hne _)
   ·cases i with
    | zero=>simp at hv hd; subst hv; subst hd; exact hr
    | succ i=>simp at hv
  ·cases hc
 | makeSlice t l c=>
  simp only [cop] at hc
  split at hc
  ·rename_i e hu
   split at hc
   ·rename_i i hi
    split at hc
    ·rename_i z hz
     simp only [Option.bind_eq_some_iff] at hc
     obtain ⟨zs,hzs,hc⟩:=hc
     split at hc
     ·rename_i hcond
      obtain ⟨c1,c2,c3⟩:=hcond
      simp only [Option.map_eq_some_iff,Option.bind_eq_some_iff] at hc
      obtain ⟨l',hl',c',hc',rfl⟩:=hc
      obtain ⟨z2,q1,q2,q3⟩:=iB hzs
      have:z2=z:=by rw [hi] at q1; simp at q1; rw [hz] at q1; injection q1 with q1; exact q1.symm
      subst this
      exact bK rfl (AK hu hi hz c1 c2 q2 c3 q3 hs (aH hl' hs) (aH hc' hs) hk) hn
     ·cases hc
    ·cases hc
   ·cases hc
  ·cases hc
 | slice t x lo hi mx=>
  cases mx with
  | some m=>simp [cop] at hc
  | none=>
   simp only [cop] at hc
   split at hc
   ·rename_i hu
    simp only [Option.map_eq_some_iff,Option.bind_eq_some_iff] at hc
    obtain ⟨x',hx,lo',hlo,hi',hhi,rfl⟩:=hc
    obtain ⟨l1,l2⟩:=oT hlo hs
    obtain ⟨r1,r2⟩:=oT hhi hs
    exact bK rfl (yU hu (.inl ⟨rfl,rfl⟩) l1 l2 r1 r2 hs (aH hx hs) hk) hn
   ·rename_i e hu
    split at hc
    ·rename_i hi0
     obtain ⟨i,hi0⟩:=Option.isSome_iff_exists.1 hi0
     simp only [Option.map_eq_some_iff,Option.bind_eq_some_iff] at hc
     obtain ⟨x',hx,lo',hlo,hi',hhi,rfl⟩:=hc
     obtain ⟨l1,l2⟩:=oT hlo hs
     obtain ⟨r1,r2⟩:=oT hhi hs
     have hsz:E.P.cellsOf e=i.size:=by simp [Program.cellsOf,hi0]
     exact bK rfl (yU hu (.inr ⟨e,i,rfl,hi0,by rw [hsz]⟩) l1 l2 r1 r2 hs (aH hx hs) hk) hn
    ·cases hc
   ·cases hc
 | fieldAddr S x f=>
  simp only [cop] at hc
  split at hc
  ·rename_i fs hu
   split at hc
   ·rename_i fd hf
    split at hc
    ·rename_i hp
     simp only [Option.map_eq_some_iff] at hc
     obtain ⟨x',hx,rfl⟩:=hc
     have hr:=aH hx hs
     simp only [aop] at hk
     generalize hd:x'.ev st.fr=d at hr hk
     cases hi:E.P.info? fd.type with
     | none=>simp [Program.cellsOf,hi] at hp
     | some i=>
      have hz:i.size≠0:=by simp [Program.cellsOf,hi] at hp; omega
      exact bK rfl (QN hu hf hi hz hs hr (by cases d <;> exact hk)) hn
    ·cases hc
   ·cases hc
  ·cases hc
 | indexAddr t x i=>
  simp only [cop] at hc
  split at hc
  ·rename_i e hu
   split at hc
   ·rename_i hi0
    obtain ⟨inf,hi0⟩:=Option.isSome_iff_exists.1 hi0
    simp only [Option.map_eq_some_iff,Option.bind_eq_some_iff] at hc
    obtain ⟨x',hx,i',hi',rfl⟩:=hc
    have hsz:E.P.cellsOf e=inf.size:=by simp [Program.cellsOf,hi0]
    have hr:=aH hx hs
    have hr2:=aH hi' hs
    simp only [aop,hsz] at hk
    generalize hd:x'.ev st.fr=d at hr hk
    generalize hd2:i'.ev st.fr=d2 at hr2 hk
    exact bK rfl (JL hu hi0 hs hr hr2 (by cases d <;> cases d2 <;> exact hk)) hn
   ·cases hc
  ·rename_i n e hu
   split at hc
   ·rename_i hi0
    obtain ⟨inf,hi0⟩:=Option.isSome_iff_exists.1 hi0
    simp only [Option.map_eq_some_iff,Option.bind_eq_some_iff] at hc
    obtain ⟨x',hx,i',hi',rfl⟩:=hc
    have hsz:E.P.cellsOf e=inf.size:=by simp [Program.cellsOf,hi0]
    have hr:=aH hx hs
    have hr2:=aH hi' hs
    simp only [aop,hsz] at hk
    generalize hd:x'.ev st.fr=d at hr hk
    generalize hd2:i'.ev st.fr=d2 at hr2 hk
    exact bK rfl (JO hu hi0 hs hr hr2 (by cases d <;> cases d2 <;> exact hk)) hn
   ·cases hc
  ·cases hc
 | index t x i=>
  simp only [cop] at hc
  split at hc
  ·rename_i hu
   simp only [Option.map_eq_some_iff,Option.bind_eq_some_iff] at hc
   obtain ⟨x',hx,i',hi',rfl⟩:=hc
   have hr:=aH hx hs
   have hr2:=aH hi' hs
   simp only [aop] at hk
   generalize hd:x'.ev st.fr=d at hr hk
   generalize hd2:i'.ev st.fr=d2 at hr2 hk
   exact bK rfl (VO hu hs hr hr2 (by cases d <;> cases d2 <;> exact hk)) hn
  ·cases hc
 | range t x=>
  simp only [cop] at hc
  split at hc
  ·rename_i hu
   simp only [Option.map_eq_some_iff] at hc
   obtain ⟨x',hx,rfl⟩:=hc
   have hr:=aH hx hs
   simp only [aop] at hk
   generalize hd:x'.ev st.fr=d at hr hk
   cases d with
   | str s=>exact bK rfl (JN hu hs hr hk) hn
   | _=>exact hk.elim
  ·cases hc
 | next x b=>
  cases b with
  | false=>simp [cop] at hc
  | true=>
   simp only [cop,Option.map_eq_some_iff] at hc
   obtain ⟨x',hx,rfl⟩:=hc
   have hr:=aH hx hs
   simp only [aop] at hk
   generalize hd:x'.ev st.fr=d at hr hk
   cases d with
   | ptr l o=>
    cases o with
    | zero=>
     obtain ⟨s,p,hl,k1,k2⟩:=hk
     exact bK rfl (RE hs hr hl k1 k2) hn
    | succ o=>exact hk.elim
   | _=>exact hk.elim
 | makeMap t r=>
  cases r with
  | some x=>simp [cop] at hc
  | none=>
   simp only [cop] at hc
   split at hc
   ·injection hc with hc; subst hc
    exact bK rfl (QE t hs hk) hn
   ·cases hc
 | lookup t x k b=>
  simp only [cop] at hc
  split at hc
  ·rename_i kt e ht
   split at hc
   ·rename_i z hkt hz
    simp only [Option.map_eq_some_iff,Option.bind_eq_some_iff] at hc
    obtain ⟨x',hx,k',hk',rfl⟩:=hc
    have hrx:=aH hx hs
    have hrk:=aH hk' hs
    simp only [aop] at hk
    generalize hdx:x'.ev st.fr=dx at hrx hk
    generalize hdk:k'.ev st.fr=dk at hrk hk
    cases dx <;> first | exact hk.elim | skip
    cases dk <;> first | exact hk.elim | skip
    obtain ⟨es,hl,hK⟩:=hk
    obtain ⟨zv,h1,h2⟩:=wO hz
    exact bK rfl (TH b ht hkt h1 h2 hs hrx hrk hl hK) hn
   ·cases hc
  ·cases hc
 | mapEntry t x k=>
  simp only [cop] at hc
  split at hc
  ·rename_i kt e ht
   split at hc
   ·rename_i z hkt hz
    simp only [Option.map_eq_some_iff,Option.bind_eq_some_iff] at hc
    obtain ⟨x',hx,k',hk',rfl⟩:=hc
    have hrx:=aH hx hs
    have hrk:=aH hk' hs
    simp only [aop] at hk
    generalize hdx:x'.ev st.fr=dx at hrx hk
    generalize hdk:k'.ev st.fr=dk at hrk hk
    cases dx <;> first | exact hk.elim | skip
    cases dk <;> first | exact hk.elim | skip
    obtain ⟨es,hl,hK⟩:=hk
    obtain ⟨zv,h1,h2⟩:=wO hz
    exact bK rfl (VL ht hkt h1 h2 hs hrx hrk hl hK) hn
   ·cases hc
  ·cases hc
 | entryStore t x i v=>
  simp only [cop,Option.map_eq_some_iff,Option.bind_eq_some_iff] at hc
  obtain ⟨x',hx,k',hk',v',hv',rfl⟩:=hc
  have hrv:=aH hv' hs
  have hrx:=aH hx hs
  have hrk:=aH hk' hs
  simp only [aop] at hk
  generalize hdx:x'.ev st.fr=dx at hrx hk
  generalize hdk:k'.ev st.fr=dk at hrk hk
  cases dx <;> first | exact hk.elim | skip
  cases dk <;> first | exact hk.elim | skip
  obtain ⟨es,hl,h0,h1,p,hp,hK⟩:=hk
  obtain ⟨w',r1,r2⟩:=VX t hs hrx hrk hrv hp hl h0 h1
  unfold Oper.wp
  simp only [execOp,Sem.run_bind,r1,Result.andThen_ok,Sem.run_pure,Oper.upon_skip]
  exact hn _ _ _ _ _ _ hK r2 (.undef _)
 | mapUpdate t x k v=>
  simp only [cop] at hc
  split at hc
  ·rename_i kt e ht
   split at hc
   ·rename_i hkt
    simp only [Option.map_eq_some_iff,Option.bind_eq_some_iff] at hc
    obtain ⟨x',hx,k',hk',v',hv',rfl⟩:=hc
    have hrv:=aH hv' hs
    have hrx:=aH hx hs
    have hrk:=aH hk' hs
    simp only [aop] at hk
    generalize hdx:x'.ev st.fr=dx at hrx hk
    generalize hdk:k'.ev st.fr=dk at hrk hk
    cases dx <;> first | exact hk.elim | skip
    cases dk <;> first | exact hk.elim | skip
    obtain ⟨es,hl,p,hp,hK⟩:=hk
    obtain ⟨w',r1,r2⟩:=DE ht hkt hs hrx hrk hrv hp hl
    unfold Oper.wp
    simp only [execOp,Sem.run_bind,r1,Result.andThen_ok,Sem.run_pure,Oper.upon_skip]
    exact hn _ _ _ _ _ _ hK r2 (.undef _)
   ·cases hc
  ·cases hc
 | insert t x k v=>
  simp only [cop] at hc
  split at hc
  ·rename_i kt e ht
   split at hc
   ·rename_i hkt
    simp only [Option.map_eq_some_iff,Option.bind_eq_some_iff] at hc
    obtain ⟨x',hx,k',hk',v',hv',rfl⟩:=hc
    have hrv:=aH hv' hs
    have hrx:=aH hx hs
    have hrk:=aH hk' hs
    simp only [aop] at hk
    generalize hdx:x'.ev st.fr=dx at hrx hk
    generalize hdk:k'.ev st.fr=dk at hrk hk
    cases dx <;> first | exact hk.elim | skip
    cases dk <;> first | exact hk.elim | skip
    obtain ⟨es,hl,p,hp,hK⟩:=hk
    obtain ⟨w',r1,r2⟩:=DE ht hkt hs hrx hrk hrv hp hl
    unfold Oper.wp
    simp only [execOp,Sem.run_bind,r1,Result.andThen_ok,Sem.run_pure,Oper.upon_skip]
    exact hn _ _ _ _ _ _ hK r2 (.undef _)
   ·cases hc
  ·cases hc
 | extract x n=>
  simp only [cop,Option.map_eq_some_iff] at hc
  obtain ⟨x',hx,rfl⟩:=hc
  have hr:=aH hx hs
  simp only [aop] at hk
  generalize hd:x'.ev st.fr=d at hr hk
  exact bK rfl (RI hs hr (by cases d <;> exact hk)) hn
 | call c=>
  obtain ⟨callee,args,argTypes⟩:=c
  cases callee with
  | value x=>
   have hdyn:∀ (x' : AX) (ys:List AX),cx x=some x' → cxs args.toList=some ys→aop E (.callv full x' ys) K st→Oper.wp E.P ⟨dst,.call ⟨.value x,args,argTypes⟩,ty,pos,after,guard⟩ a w next Q:=fun x' ys hx hys hk=>by
    have hr:=aH hx hs
    obtain ⟨h1,h2⟩:=gP hys hs
    simp only [aop] at hk
    generalize hd:x'.ev st.fr=d at hr hk
    generalize hv:a.eval x=v at hr
    cases hr with
    | fn f vs ds hl hh=>
     refine pC (f:=f) (args:=args.map a.eval++vs.toArray) (fun P' hP=>?_) hs (by simp at h1; simp; omega) (fun i v d hv hd=>?_) hk hn
     ·simp [execOp,resolve,hv,Deferred.ofValue,invoke]
     ·rw [Array.toList_append,Array.toList_map] at hv
      have hl1:(args.toList.map a.eval).length=(ys.map (·.ev st.fr)).length:=h1
      rcases Nat.lt_or_ge i (args.toList.map a.eval).length with hlt|hge
      ·rw [List.getElem?_append_left hlt] at hv
       rw [List.getElem?_append_left (by omega)] at hd
       exact h2 i v d hv hd
      ·rw [List.getElem?_append_right hge] at hv
       rw [List.getElem?_append_right (by omega),← hl1] at hd
       exact hh _ v d (by simpa using hv) hd
    | bnd f vs ds hl hh=>
     refine pC (f:=f) (args:=vs.toArray++args.map a.eval) (fun P' hP=>?_) hs (by simp at h1; simp; omega) (fun i v d hv hd=>?_) hk hn
     ·simp [execOp,resolve,hv,Deferred.ofValue,invoke]
     ·rw [Array.toList_append,Array.toList_map] at hv
      rcases Nat.lt_or_ge i vs.length with hlt|hge
      ·rw [List.getElem?_append_left (by simpa using hlt)] at hv
       rw [List.getElem?_append_left (by omega)] at hd
       exact hh i v d (by simpa using hv) hd
      ·rw [List.getElem?_append_right (by simpa using hge)] at hv
       rw [List.getElem?_append_right (by omega),← hl] at hd
       exact h2 _ v d (by simpa using hv) hd
    | _=>exact hk.elim
   cases x with
   | func f=>
    simp only [cop,Option.map_eq_some_iff] at hc
    obtain ⟨ys,hys,rfl⟩:=hc
    obtain ⟨h1,h2⟩:=gP hys hs
    refine pC (f:=f) (args:=args.map a.eval) (fun P' hP=>?_) hs (by simpa using h1) (fun i v d hv hd=>h2 i v d (by simpa using hv) hd) hk hn
    simp [execOp,resolve,Act.eval,Deferred.ofValue,invoke]
   | _=>
    simp only [cop,Option.map_eq_some_iff,Option.bind_eq_some_iff] at hc
    obtain ⟨x',hx,ys,hys,rfl⟩:=hc
    exact hdyn x' ys hx hys hk
  | invoke r m=>
   simp only [cop,Option.map_eq_some_iff,Option.bind_eq_some_iff] at hc
   obtain ⟨x',hx,ys,hys,rfl⟩:=hc
   have hr:=aH hx hs
   obtain ⟨h1,h2⟩:=gP hys hs
   have hk:aFI E full m (x'.ev st.fr) (ys.map (·.ev st.fr)) K st:=hk
   generalize hd:x'.ev st.fr=d at hr hk
   generalize hv:a.eval r=v at hr
   cases hr with
   | ifc t u ds hl hh=>
    obtain ⟨f,hm,hk⟩:∃ f,zA E.P t m=some f∧acall E full f (ds++ys.map (·.ev st.fr)) K st:=hk
    have hm:(method (E.P.types.size+Made.depth) t u m).run E.P w=.ok (f,u) w:=QD (n:=E.P.types.size+99) hm
    refine pC (f:=f) (args:=#[u]++args.map a.eval) (fun P' hP=>?_) hs (by simp at h1 hl; simp; omega) (fun i v d hv hd=>?_) hk hn
    ·subst hP
     have e1:(#[Value.iface t u]++args.map a.eval).extract 1 (#[Value.iface t u]++args.map a.eval).size=args.map a.eval:=by
      apply Array.ext'
      simp only [Array.toList_extract,Array.toList_append,Array.size_append,List.extract_eq_take_drop]
      simp
      exact List.take_of_length_le (by simp)
     have e0:(#[Value.iface t u]++args.map a.eval)[0]?=some (.iface t u):=by
      rw [Array.getElem?_append_left (by simp)]; rfl
     simp only [execOp,resolve,hv,Sem.run_bind,Sem.run_pure,Result.andThen_ok,invoke,e0,e1,callMethod,run_program,hm]
    ·rw [Array.toList_append,Array.toList_map] at hv
     have hl1:[u].length=ds.length:=hl
     rcases Nat.lt_or_ge i [u].length with hlt|hge
     ·have hv' : [u][i]?=some v:=by
       rw [← hv,List.getElem?_append_left (by simpa using hlt)]
      rw [List.getElem?_append_left (by omega)] at hd
      exact hh i v d hv' hd
     ·rw [List.getElem?_append_right (by simpa using hge)] at hv
      rw [List.getElem?_append_right (by omega),← hl1] at hd
      exact h2 _ v d (by simpa using hv) hd
   | _=>exact hk.elim
  | builtin b=>
   cases b with
   | len=>
    simp only [cop] at hc
    split at hc
    ·rename_i x hxs ht
     simp only [Option.map_eq_some_iff] at hc
     obtain ⟨y,hy,rfl⟩:=hc
     simp only [Option.bind_eq_some_iff] at ht
     obtain ⟨t,ht,hu⟩:=ht
     have hargs:args=#[x]:=by have:=congrArg List.toArray hxs; simpa using this
     subst hargs
     have:=LQ (T:=argTypes) (ty:=ty) (v:=a.eval x) ht hu (.inl ⟨rfl,rfl⟩) hs (aH hy hs) hk
     exact bK (by simp [execOp,resolve,invoke,builtin]) this hn
    ·rename_i x e hxs ht
     simp only [Option.map_eq_some_iff] at hc
     obtain ⟨y,hy,rfl⟩:=hc
     simp only [Option.bind_eq_some_iff] at ht
     obtain ⟨t,ht,hu⟩:=ht
     have hargs:args=#[x]:=by have:=congrArg List.toArray hxs; simpa using this
     subst hargs
     have:=LQ (T:=argTypes) (ty:=ty) (v:=a.eval x) ht hu (.inr ⟨e,rfl,rfl⟩) hs (aH hy hs) hk
     exact bK (by simp [execOp,resolve,invoke,builtin]) this hn
    ·cases hc
   | cap=>
    simp only [cop] at hc
    split at hc
    ·rename_i x e hxs ht
     simp only [Option.map_eq_some_iff] at hc
     obtain ⟨y,hy,rfl⟩:=hc
     simp only [Option.bind_eq_some_iff] at ht
     obtain ⟨t,ht,hu⟩:=ht
     have hargs:args=#[x]:=by have:=congrArg List.toArray hxs; simpa using this
     subst hargs
     exact bK (by simp [execOp,resolve,invoke,builtin]) (ZH (T:=argTypes) (ty:=ty) ht hu hs (aH hy hs) hk) hn
    ·cases hc
   | copy=>
    simp only [cop] at hc
    split at hc
    ·rename_i x y t0 hxs ht0
     split at hc
     ·rename_i e hu0
      split at hc
      ·rename_i i hi
       have hargs:args=#[x,y]:=by have:=congrArg List.toArray hxs; simpa using this
       subst hargs
       split at hc
       ·rename_i hpos
        simp only [Option.map_eq_some_iff,Option.bind_eq_some_iff] at hc
        obtain ⟨x',hx,y',hy,rfl⟩:=hc
        have:=XZ (ty:=ty) ht0 hu0 hi hpos hs (aH hx hs) (aH hy hs) hk
        exact bK (by simp [execOp,resolve,invoke,builtin]) this hn
       ·cases hc
      ·cases hc
     ·cases hc
    ·cases hc
   | clear=>
    simp only [cop] at hc
    split at hc
    ·rename_i x t0 hxs ht0
     split at hc
     ·rename_i e hu0
      split at hc
      ·rename_i i hi
       have hargs:args=#[x]:=by have:=congrArg List.toArray hxs; simpa using this
       subst hargs
       split at hc
       ·rename_i z hz
        simp only [Option.bind_eq_some_iff] at hc
        obtain ⟨zs,hzs,hc⟩:=hc
        split at hc
        ·rename_i hcond
         obtain ⟨c1,c2,c3⟩:=hcond
         simp only [Option.map_eq_some_iff] at hc
         obtain ⟨x',hx,rfl⟩:=hc
         obtain ⟨z2,q1,q2,q3⟩:=iB hzs
         have:z2=z:=by rw [hi] at q1; simp at q1; rw [hz] at q1; injection q1 with q1; exact q1.symm
         subst this
         have:=NG (ty:=ty) ht0 hu0 hi hz c1 c2 q2 c3 q3 hs (aH hx hs) hk
         exact bK (by simp [execOp,resolve,invoke,builtin]) this hn
        ·cases hc
       ·cases hc
      ·cases hc
     ·cases hc
    ·cases hc
   | max=>
    simp only [cop,Option.map_eq_some_iff] at hc
    obtain ⟨ys,hys,rfl⟩:=hc
    obtain ⟨h1,h2⟩:=gP hys hs
    exact bK (by simp [execOp,resolve,invoke,builtin,← Array.toList_map]) (aEp (T:=argTypes) (ty:=ty) hs h1 h2 hk) hn
   | min=>
    simp only [cop,Option.map_eq_some_iff] at hc
    obtain ⟨ys,hys,rfl⟩:=hc
    obtain ⟨h1,h2⟩:=gP hys hs
    exact bK (by simp [execOp,resolve,invoke,builtin,← Array.toList_map]) (aDE (T:=argTypes) (ty:=ty) hs h1 h2 hk) hn
   | append=>
    simp only [cop] at hc
    split at hc
    ·rename_i x y t0 t1 hxs ht0 ht1
     split at hc
     ·rename_i e td1 hu0 hu1
      split at hc
      ·rename_i i hi
       split at hc
       ·rename_i z hz
        have hargs:args=#[x,y]:=by have:=congrArg List.toArray hxs; simpa using this
        subst hargs
        split at hc
        ·rename_i c1
         split at hc
         ·rename_i hcond
          obtain ⟨c2,c3⟩:=hcond
          simp only [Option.map_eq_some_iff,Option.bind_eq_some_iff] at hc
          obtain ⟨x',hx,y',hy,rfl⟩:=hc
          have:=JH (ty:=ty) ht0 hu0 ht1 hu1 c1 hi hz c2 c3 hs (aH hx hs) (aH hy hs) hk
          exact bK (by simp [execOp,resolve,invoke,builtin]) this hn
         ·cases hc
        ·rename_i c1
         simp only [Option.bind_eq_some_iff] at hc
         obtain ⟨zs,hzs,hc⟩:=hc
         split at hc
         ·rename_i hcond
          obtain ⟨c2,c3,c4⟩:=hcond
          simp only [Option.map_eq_some_iff,Option.bind_eq_some_iff] at hc
          obtain ⟨x',hx,y',hy,rfl⟩:=hc
          obtain ⟨z',hz',hzl,hzr⟩:=iB hzs
          have:z' = z:=by rw [hi] at hz'; simp [hz] at hz'; exact hz'.symm
          subst this
          have:=BS (ty:=ty) ht0 hu0 ht1 hu1 (by simpa using c1) hi hz c2 c3 hzl c4 hzr hs (aH hx hs) (aH hy hs) hk
          exact bK (by simp [execOp,resolve,invoke,builtin]) this hn
         ·cases hc
       ·cases hc
      ·cases hc
     ·cases hc
    ·cases hc
   | _=>simp [cop] at hc
 | _=>simp [cop] at hc
end
end Go.Ai

namespace Go.Ai
section
variable {full bad:Bool} {E:Env} {C:Ctx} {a:Act} {w:World} {ok:Nat→Prop} {β:Loc} {st:St}

def YP (n:Nat):Option Tmp→Bool
 | some d=>decide (d<n)
 | none=>true
def SR (P:Program)(full bad:Bool)(o:Oper):Option AOp:=match cop P full o with
 | some op=>some op
 | none=>bif bad then some .bad else none
theorem pN {E:Env}{C:Ctx}{a:Act}{w:World}{ok:Nat→Prop}{β:Loc}{st:St}{K:DV→St→Prop}{full bad:Bool}{o:Oper}{op:AOp}(hc:SR E.P full bad o=some op)(hs:SRep E C a w ok β st)(hk:aop E op K st){next:Act→World→Prop}{Q:Exit→Act→World→Prop}
  (hn:∀ v d w' ok' β' st',K d st' → SRep E C a w' ok' β' st' → Rep w' ok' β' v d→next (a.put o.dst v) w'):o.wp E.P a w next Q:=by
 unfold SR at hc
 split at hc
 ·rename_i op' h
  injection hc with hc; subst hc
  exact GE h hs hk hn
 ·cases bad with
  | false=>cases hc
  | true=>injection hc with hc; subst hc; exact hk.elim
def IW (P:Program)(o:Oper):Option AOp:=match o.op with
 | .call c=>match c.callee with
  | .builtin .append=>match c.args.toList,c.argTypes[0]?,c.argTypes[1]? with
   | [x,y],some t0,some t1=>match P.underlying t0,P.underlying t1 with
    | some (.slice e),some td1=>match P.info? e with
     | some i=>match i.zero with
      | some z=>if iQ td1=false then (if z.cells.size=i.size∧0<i.size then (cx x).bind fun x=>(cx y).map fun y=>.appendf i.size i.bytes x y else none) else none
      | none=>none
     | none=>none
    | _,_=>none
   | _,_,_=>none
  | _=>none
 | _=>none
theorem BN {E:Env}{C:Ctx}{a:Act}{w:World}{ok:Nat→Prop}{β:Loc}{st:St}{K:DV→St→Prop}{o:Oper}{op:AOp}(hc:IW E.P o=some op)(hs:SRep E C a w ok β st)(hk:aop E op K st){next:Act→World→Prop}{Q:Exit→Act→World→Prop}
  (hn:∀ v d w' ok' β' st',K d st' → SRep E C a w' ok' β' st' → Rep w' ok' β' v d→next (a.put o.dst v) w'):o.wp E.P a w next Q:=by
 obtain ⟨dst,oop,ty,pos,after,guard⟩:=o
 cases oop with
 | call c=>
  obtain ⟨callee,args,argTypes⟩:=c
  cases callee with
  | builtin b=>
   cases b with
   | append=>
    simp only [IW] at hc
    split at hc
    ·rename_i x y t0 t1 hxs ht0 ht1
     split at hc
     ·rename_i e td1 hu0 hu1
      split at hc
      ·rename_i i hi
       split at hc
       ·rename_i z hz
        have hargs:args=#[x,y]:=by have:=congrArg List.toArray hxs; simpa using this
        subst hargs
        split at hc
        ·rename_i c1
         split at hc
         ·rename_i hcond
          obtain ⟨c2,c3⟩:=hcond
          simp only [Option.map_eq_some_iff,Option.bind_eq_some_iff] at hc
          obtain ⟨x',hx,y',hy,rfl⟩:=hc
          have:=BX (ty:=ty) ht0 hu0 ht1 hu1 c1 hi hz c3 hs (aH hx hs) (aH hy hs) hk
          exact bK (by simp [execOp,resolve,invoke,builtin]) this hn
         ·cases hc
        ·cases hc
       ·cases hc
      ·cases hc
     ·cases hc
    ·cases hc
   | _=>simp [IW] at hc
  | _=>simp [IW] at hc
 | _=>simp [IW] at hc
def ZQ (all:Array Oper)(d:Option Tmp):Bool:=all.toList.any fun r=>match r.op with
 | .call c=>(match c.callee with
  | .value _=>true
  | _=>false)&&c.args.toList.any fun q=>match q with
   | .tmp t=>d == some t
   | _=>false
 | _=>false
def aDt (all:Array Oper)(o:Oper):Bool:=match o.op with
 | .call c=>match c.callee with
  | .builtin .append=>match c.args.toList.head? with
   | some (.tmp x)=>ZQ all o.dst&&all.toList.any (fun q=>q.dst == some x&&match q.op with
    | .move (.tmp v) => !(all.toList.any fun r=>r.dst == some v)
    | _=>false)
   | _=>false
  | _=>false
 | _=>false
def aAE (P:Program)(full bad:Bool)(all:Array Oper)(o:Oper):Option AOp:=
 if aDt all o=true then (match IW P o with | some op=>some op | none=>SR P full bad o) else SR P full bad o
theorem rR {E:Env}{C:Ctx}{a:Act}{w:World}{ok:Nat→Prop}{β:Loc}{st:St}{K:DV→St→Prop}{full bad:Bool}{all:Array Oper}{o:Oper}{op:AOp}(hc:aAE E.P full bad all o=some op)(hs:SRep E C a w ok β st)(hk:aop E op K st){next:Act→World→Prop}{Q:Exit→Act→World→Prop}
  (hn:∀ v d w' ok' β' st',K d st' → SRep E C a w' ok' β' st' → Rep w' ok' β' v d→next (a.put o.dst v) w'):o.wp E.P a w next Q:=by
 unfold aAE at hc
 split at hc
 ·split at hc
  ·rename_i op' h
   injection hc with hc; subst hc
   exact BN h hs hk hn
  ·exact pN hc hs hk hn
 ·exact pN hc hs hk hn
def FC (P:Program)(full bad:Bool)(n:Nat)(all:Array Oper)(o:Oper):Option AOper:=
 (aAE P full bad all o).bind fun op=>
  if YP n o.dst=true then
   match o.guard with
   | none=>some ⟨o.dst,op,none⟩
   | some (j,want)=>((all[j]?).bind (·.dst)).bind fun g=>if g<1000000 then some ⟨o.dst,op,some (g,want)⟩ else none
  else none
def eV (P:Program)(full bad:Bool)(n:Nat)(all:Array Oper):List Oper→Option (List AOper)
 | []=>some []
 | o::l=>(FC P full bad n all o).bind fun x=>(eV P full bad n all l).map (x :: ·)

theorem kH {o:Oper}{ao:AOper}{all:Array Oper}(hc:FC E.P full bad C.n all o=some ao)(hs:SRep E C a w ok β st){K:St→Prop}(hk:ao.run E K st){next:Act→World→Prop}{Q:Exit→Act→World→Prop}
  (hn:∀ a' w' ok' β' st',K st' → SRep E C a' w' ok' β' st' → next a' w') :
  if Region.wanted o (yielded all a.tmps) then o.wp E.P a w next Q else next (a.put o.dst undef) w:=by
 rw [AOper.run_iff] at hk
 simp only [FC,Option.bind_eq_some_iff] at hc
 obtain ⟨op,hop,hc⟩:=hc
 split at hc
 ·rename_i hd
  have hdst:∀ s,o.dst=some s→s<C.n:=fun s h=>by rw [h] at hd; simpa [YP] using hd
  split at hc
  ·rename_i hg
   injection hc with hc; subst hc
   have hw:Region.wanted o (yielded all a.tmps)=true:=by simp [Region.wanted,hg]
   rw [if_pos hw]
   exact rR (K:=fun d st' => K (st'.put o.dst d)) hop hs hk fun v d w' ok' β' st' k1 k2 k3=>hn _ _ _ _ _ k1 (k2.put k3 _ hdst)
  ·rename_i j want hg
   simp only [Option.bind_eq_some_iff] at hc
   obtain ⟨g,hgd0,hc⟩:=hc
   have hgd:(all[j]?).bind (·.dst)=some g:=by simpa [Option.bind_eq_some_iff] using hgd0
   split at hc
   case isFalse=>cases hc
   rename_i hg6
   injection hc with hc; subst hc
   simp only [AOper.run0] at hk
   have hr:=hs.frt hg6
   generalize hdv:st.fr g=d at hr hk
   cases d with
   | bool b=>
    have hv:a.tmps.getD g undef=.bool b:=by generalize a.tmps.getD g undef=v at hr; cases hr; rfl
    have hv' : a.tmps[g]?=some (.bool b):=by
     rw [Array.getD_eq_getD_getElem?] at hv
     cases hx:a.tmps[g]? with
     | none=>rw [hx] at hv; simp [undef] at hv
     | some x=>rw [hx] at hv; simp at hv; rw [hv]
    have hw:Region.wanted o (yielded all a.tmps)=(b == want):=by
     simp only [Region.wanted,hg,yielded,hgd,Option.bind_some,hv']
     cases b <;> cases want <;> rfl
    rw [hw]
    by_cases hb:b=want
    ·rw [if_pos (by simp [hb])]
     exact rR (K:=fun d st' => K (st'.put o.dst d)) hop hs (hk.1 hb) fun v d w' ok' β' st' k1 k2 k3=>hn _ _ _ _ _ k1 (k2.put k3 _ hdst)
    ·rw [if_neg (by simp [hb])]
     exact hn _ _ _ _ _ (hk.2 (by cases b <;> cases want <;> simp_all)) (hs.put (.tup [] [] rfl (fun i v d hv _=>by simp at hv)) _ hdst)
   | tup l=>
    cases l with
    | cons _ _=>exact hk.elim
    | nil=>
     have hv:a.tmps.getD g undef=undef:=by
      generalize a.tmps.getD g undef=v at hr
      cases hr with
      | tup vs ds hl _=>
       obtain rfl:vs=[]:=List.eq_nil_of_length_eq_zero (by simpa using hl)
       rfl
     have hw:Region.wanted o (yielded all a.tmps)=false:=by
      simp only [Region.wanted,hg,yielded,hgd,Option.bind_some]
      rw [Array.getD_eq_getD_getElem?] at hv
      cases hx:a.tmps[g]? with
      | none=>simp
      | some x=>
       rw [hx] at hv
       simp at hv
       subst hv
       simp [undef]
     rw [hw,if_neg (by simp)]
     exact hn _ _ _ _ _ hk (hs.put (.tup [] [] rfl (fun i v d hv _=>by simp at hv)) _ hdst)
   | _=>exact hk.elim
 ·cases hc

theorem nP {all:Array Oper}{Q:Exit→Act→World→Prop}{K:St→Prop}(hQ:∀ a' w' ok' β' st',K st' → SRep E C a' w' ok' β' st' → Q .normal a' w') :
  ∀ (l:List Oper) (al:List AOper) (_:eV E.P full bad C.n all l=some al) (st:St) (a:Act) (w:World) (ok:Nat→Prop) (β:Loc),SRep E C a w ok β st→eB E al K st→wpList E.P all Q l a w
 | [],al,hc,st,a,w,ok,β,hs,hk=>by
  simp [eV] at hc; subst hc
  exact hQ a w ok β st hk hs
 | o::l,al,hc,st,a,w,ok,β,hs,hk=>by
  simp only [eV,Option.bind_eq_some_iff,Option.map_eq_some_iff] at hc
  obtain ⟨x,hx,xs,hxs,rfl⟩:=hc
  have:=kH (next:=wpList E.P all Q l) (Q:=Q) hx hs hk (fun a' w' ok' β' st' k1 k2=>nP hQ l xs hxs st' a' w' ok' β' k2 k1)
  unfold wpList
  split
  ·rename_i hw; rw [if_pos hw] at this; exact .inl this
  ·rename_i hw; rw [if_neg hw] at this; exact this

end
end Go.Ai
