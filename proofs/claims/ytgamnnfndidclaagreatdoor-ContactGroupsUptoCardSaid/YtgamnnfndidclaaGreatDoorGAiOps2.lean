/- Each operation does in memory what it does in the abstract state. -/
import Derived.Test.YtgamnnfndidclaaGreatDoorGAiWp
import GoSem.Dispatch
import Derived.Laws.Strings
import Derived.Laws.StructEq
set_option linter.all false
namespace Go.Ai
open Go.Instr

def LV (E:Env)(C:Ctx)(a:Act)(K:DV→St→Prop)(s:Sem Value)(w:World):Prop:=
 ∃ v w' ok' β' d st',s.run E.P w=.ok v w' ∧ SRep E C a w' ok' β' st' ∧ Rep w' ok' β' v d∧K d st'

section
variable {E:Env} {C:Ctx} {a:Act} {w:World} {ok:Nat→Prop} {β:Loc} {st:St} {K:DV→St→Prop}

theorem LV.pure {v:Value}{d:DV}(hs:SRep E C a w ok β st)(hv:Rep w ok β v d)(hk:K d st):LV E C a K (pure v) w:=
 ⟨v,w,ok,β,d,st,rfl,hs,hv,hk⟩

theorem LV.same {s:Sem Value}{v:Value}{d:DV}(hr:s.run E.P w=.ok v w)(hs:SRep E C a w ok β st)(hv:Rep w ok β v d)(hk:K d st):LV E C a K s w:=
 ⟨v,w,ok,β,d,st,hr,hs,hv,hk⟩

theorem Rep.oneCell {v:Value}{d:DV}(h:Rep w ok β v d)(h1:d.one=true):v.oneCell' = true:=by
 cases h <;> first | rfl | simp [DV.one] at h1
theorem Rep.cells {v:Value}{d:DV}(h:Rep w ok β v d)(h1:d.cells.all DV.one=true) :
  v.cells.size=d.cells.length∧(∀ (i:Nat) u e,v.cells[i]?=some u→d.cells[i]?=some e→Rep w ok β u e)∧∀ u∈v.cells.toList,u.oneCell' = true:=by
 cases h with
 | agg vs ds hl hh=>
  refine ⟨by simpa [Value.cells,DV.cells] using hl,fun i u e hu he=>hh i u e (by simpa [Value.cells] using hu) he,fun u hu=>?_⟩
  simp only [Value.cells] at hu
  obtain ⟨i,hi,rfl⟩:=List.mem_iff_getElem.1 hu
  have hi' : i<ds.length:=by rw [← hl]; exact hi
  have hd:ds[i].one=true:=by
   simp only [DV.cells,List.all_eq_true] at h1
   exact h1 _ (List.getElem_mem hi')
  exact (hh i vs[i] ds[i] (List.getElem?_eq_getElem hi) (List.getElem?_eq_getElem hi')).oneCell hd
 | tup vs ds hl hh=>simp [DV.cells,DV.one] at h1
 | undef v=>simp [DV.cells,DV.one] at h1
 | _=>
  refine ⟨rfl,fun i u e hu he=>?_,fun u hu=>?_⟩
  ·cases i with
   | zero=>
    simp [Value.cells] at hu
    simp [DV.cells] at he
    subst hu; subst he
    constructor <;> assumption
   | succ i=>simp [Value.cells] at hu
  ·simp [Value.cells] at hu
   subst hu
   rfl

theorem sJ {v:Value}{d:DV}(hs:SRep E C a w ok β st)(hv:Rep w ok β v d) :
  SRep E C a w ok β { st with h:=(eJ d st.h).2 }∧Rep w ok β v (eJ d st.h).1:=by
 cases hv with
 | nils sz hz=>exact ⟨hs.newnone sz,.oslnil _ _ _ _ (fun _ h=>by cases h) hz⟩
 | _=>exact ⟨hs,by constructor <;> assumption⟩

theorem dA:∀ (ds:List DV)(vs:List Value)(st:St),SRep E C a w ok β st→vs.length=ds.length →
  (∀ (i:Nat) v d,vs[i]?=some v→ds[i]?=some d→Rep w ok β v d) →
  SRep E C a w ok β { st with h:=(aK ds st.h).2 }∧(aK ds st.h).1.length=ds.length ∧
   ∀ (i:Nat) v d,vs[i]?=some v→(aK ds st.h).1[i]?=some d→Rep w ok β v d
 | [],vs,st,hs,hl,h=>⟨hs,rfl,fun i v d _ hd=>by simp [aK] at hd⟩
 | d::ds,[],st,hs,hl,h=>by simp at hl
 | d::ds,v::vs,st,hs,hl,h=>by
  obtain ⟨h1,h2⟩:=sJ (st:=st) hs (h 0 v d rfl rfl)
  obtain ⟨k1,k2,k3⟩:=dA ds vs { st with h:=(eJ d st.h).2 } h1 (by simpa using hl) (fun i v' d' hv hd=>h (i+1) v' d' (by simpa using hv) (by simpa using hd))
  refine ⟨k1,by simp only [aK,List.length_cons]; exact congrArg (· + 1) k2,fun i v' d' hv hd=>?_⟩
  cases i with
  | zero=>simp [aK] at hd; simp at hv; subst hd; subst hv; exact h2
  | succ i=>exact k3 i v' d' (by simpa using hv) (by simpa [aK] using hd)

theorem yM (d:DV)(h:List AObj):∃ tl,(eJ d h).2=h++tl:=by
 cases d <;> first | exact ⟨_,rfl⟩ | exact ⟨[],by simp [eJ]⟩
theorem kZ:∀ (ds:List DV)(h:List AObj),∃ tl,(aK ds h).2=h++tl
 | [],h=>⟨[],by simp [aK]⟩
 | d::ds,h=>by
  obtain ⟨t1,h1⟩:=yM d h
  obtain ⟨t2,h2⟩:=kZ ds (eJ d h).2
  exact ⟨t1++t2,by simp only [aK]; rw [h2,h1,List.append_assoc]⟩
theorem uY {v:Value}{d:DV}(hs:SRep E C a w ok β st)(hv:Rep w ok β v d) :
  SRep E C a w ok β { st with h:=(vC d st.h).2 }∧Rep w ok β v (vC d st.h).1:=by
 cases hv with
 | agg vs ds hl hh=>
  obtain ⟨h1,h2,h3⟩:=dA ds vs st hs hl hh
  exact ⟨h1,.agg vs _ (by rw [h2]; exact hl) h3⟩
 | nils sz hz=>exact ⟨hs.newnone sz,.oslnil _ _ _ _ (fun _ h=>by cases h) hz⟩
 | _=>exact ⟨hs,by constructor <;> assumption⟩

theorem aCZ (t:TypeId){v:Value}{d:DV}(hs:SRep E C a w ok β st)(hv:Rep w ok β v d)(h1:d.cells.all DV.one=true)
  (hk:K (.ptr (aK d.cells st.h).2.length 0) { st with h:=(aK d.cells st.h).2++[.box (aK d.cells st.h).1] }) :
  LV E C a K (Instr.box t v) w:=by
 obtain ⟨c1,c2,_⟩:=hv.cells h1
 obtain ⟨k1,k2,k3⟩:=dA d.cells v.cells.toList st hs (by simpa using c1) (fun i u e hu he=>c2 i u e (by simpa using hu) he)
 obtain ⟨β',n1,n2,n3⟩:=k1.new (.cells v.cells t) (.box (aK d.cells st.h).1) (fun β' hβ' hn=>by
  refine ⟨w.heap.size,v.cells,t,(0,0),hn,bY w _,.zero _,by rw [k2]; exact c1,fun i u e hu he=>?_⟩
  exact (k3 i u e (by simpa using hu) he).mono (fun _ h=>h) (fun b hb=>eO w _ (hs.heap.okl b hb)) hβ')
 exact ⟨_,_,ok,β',_,_,rfl,n1,.ptr _ 0 _ 0 n2,hk⟩

theorem OA (t:TypeId){z:Value}{zs:List DV}(hs:SRep E C a w ok β st)(hz:(E.P.info? t).bind (·.zero)=some z)
  (hlen:z.cells.size=zs.length) (hv:∀ (i:Nat) u e,z.cells[i]?=some u→zs[i]?=some e→Rep w ok β u e)
  (hk:K (.ptr (aK zs st.h).2.length 0) { st with h:=(aK zs st.h).2++[.box (aK zs st.h).1] }) :
  LV E C a K (Instr.alloc t true (.tuple #[])) w:=by
 obtain ⟨k1,k2,k3⟩:=dA zs z.cells.toList st hs (by simpa using hlen) (fun i u e hu he=>hv i u e (by simpa using hu) he)
 obtain ⟨β',n1,n2,n3⟩:=k1.new (.cells z.cells t) (.box (aK zs st.h).1) (fun β' hβ' hn=>by
  refine ⟨w.heap.size,z.cells,t,(0,0),hn,bY w _,.zero _,by rw [k2]; exact hlen,fun i u e hu he=>?_⟩
  exact (k3 i u e (by simpa using hu) he).mono (fun _ h=>h) (fun b hb=>eO w _ (hs.heap.okl b hb)) hβ')
 refine ⟨_,_,ok,β',_,_,?_,n1,.ptr _ 0 _ 0 n2,hk⟩
 cases hi:E.P.info? t with
 | none=>simp [hi] at hz
 | some i=>
  simp [hi] at hz
  simp [Instr.alloc,zeroValue,typeInfo,hi,hz,newVar,newRow]

theorem IH (t:TypeId){z:Value}(hs:SRep E C a w ok β st)(hz:(E.P.info? t).bind (·.zero)=some z)
  (hlen:z.cells.size=2) (hv:∀ (i:Nat) u e,z.cells[i]?=some u→([.nilp,.nils 1]:List DV)[i]?=some e→Rep w ok β u e)
  (e:Nat) (hk:K (.ptr (st.h.length+1) 0) { st with h:=(st.h++[.buf e []])++[.box [.self (st.h.length+1) t 2,.hdr st.h.length e 0]] }) :
  LV E C a K (Instr.alloc t true (.tuple #[])) w:=by
 have k1:=hs.newbuf e
 obtain ⟨β',n1,n2,n3⟩:=k1.new (.cells z.cells t) (.box [.self (st.h.length+1) t 2,.hdr st.h.length e 0]) (fun β' hβ' hn=>by
  have hl:((st.h++[AObj.buf e []]).length)=st.h.length+1:=by simp
  refine ⟨w.heap.size,z.cells,t,(0,0),hn,bY w _,.zero _,by simpa using hlen,fun i u e hu he=>?_⟩
  match i,he with
  | 0,he=>
   simp at he; subst he
   have r:=hv 0 u .nilp hu rfl
   cases r
   refine .selfn _ t 2 w.heap.size ?_ ?_
   ·rw [← hl]; exact hn
   ·unfold World.shape?; rw [bY]; simp [hlen]
  | 1,he=>
   simp at he; subst he
   have r:=hv 1 u (.nils 1) hu rfl
   cases r with
   | nils sz hz=>exact .hdrn _ _)
 refine ⟨.pointer (some ⟨w.heap.size,0,none⟩),_,ok,β',_,_,?_,n1,?_,hk⟩
 rotate_left
 ·have hl:((st.h++[AObj.buf e []]).length)=st.h.length+1:=by simp
  exact .ptr _ 0 w.heap.size 0 (by rw [← hl]; exact n2)
 cases hi:E.P.info? t with
 | none=>simp [hi] at hz
 | some i=>
  simp [hi] at hz
  simp [Instr.alloc,zeroValue,typeInfo,hi,hz,newVar,newRow]

def gZ:TypeDesc→Bool
 | .struct _ | .array _ _=>true
 | _=>false

theorem jU {t:TypeId}{d:TypeDesc}(h:E.P.underlying t=some d)(b:Bool)(hb:gZ d=b)(w:World) :
  (isAgg t).run E.P w=.ok b w:=by
 subst hb
 simp only [isAgg,Sem.run_bind,run_underlying h,Result.andThen_ok]
 cases d <;> rfl

theorem sE {t:TypeId}{d:TypeDesc}(ht:E.P.underlying t=some d)(hb:gZ d=false)
  {ad:Addr} {v:Value} {e:DV} (hs:SRep E C a w ok β st) (hc:w.cell? ad=some v) (hv:Rep w ok β v e) (hk:K e st) :
  LV E C a K (loadAt t (.pointer (some ad))) w:=by
 refine LV.same (v:=v) ?_ hs hv hk
 simp [loadAt,sureAddr,loadVar,jU ht false hb,hc]

theorem rI {t:TypeId}{d:TypeDesc}{i:TypeInfo}(ht:E.P.underlying t=some d)(hb:gZ d=true)
  (hi:E.P.info? t=some i) {ad:Addr} {vs:List Value} {es:List DV} (hn:vs.length=i.size) (hl:vs.length=es.length) (hs:SRep E C a w ok β st)
  (hc:∀ (j:Nat) v,vs[j]?=some v→w.cell? (ad.add j)=some v) (hv:∀ (j:Nat) v e,vs[j]?=some v→es[j]?=some e→Rep w ok β v e) (hk:K (.agg es) st) :
  LV E C a K (loadAt t (.pointer (some ad))) w:=by
 refine LV.same (v:=.agg vs.toArray) ?_ hs (.agg vs es hl hv) hk
 have hL:=run_loadCells_list (P:=E.P) w ad vs hc
 rw [hn] at hL
 simp [loadAt,sureAddr,loadVar,jU ht true hb,sizeOf,typeInfo,hi,hL]

theorem cN (b x n:Nat):(⟨b,x,none⟩:Addr).add n=⟨b,x+n,none⟩:=by
 unfold Addr.add; split
 ·rename_i h; subst h; rfl
 ·rfl

theorem bI (P:Program)(b x:Nat)(t:TypeId)(fz:Nat×Nat):∀ (vs:List Value)(i:Nat)(cur:Array Value)(w:World),w.heap[b]?=some (.cells cur t fz) →
  Thaw fz cur.size→x+i+vs.length≤cur.size→(∀ v∈vs,v.oneCell' = true) →
  ∃ w',(storeCells ⟨b,x,none⟩ vs i).run P w=.ok () w' ∧ w'.os=w.os∧w'.tape=w.tape∧w'.output=w.output∧w'.heap.size=w.heap.size∧(∀ k,k≠b→w'.heap[k]?=w.heap[k]?) ∧
   ∃ cur',w'.heap[b]?=some (.cells cur' t fz)∧cur'.size=cur.size∧∀ k,cur'[k]?=if x+i≤k∧k<x+i+vs.length then vs[k - (x+i)]? else cur[k]?
 | [],i,cur,w,hg,_,_,_=>⟨w,rfl,rfl,rfl,rfl,rfl,fun _ _=>rfl,cur,hg,rfl,fun k=>by rw [if_neg (by simp)]⟩
 | v::vs,i,cur,w,hg,hth,hl,h1=>by
  simp only [List.length_cons] at hl
  have hi:x+i<cur.size:=by omega
  have hcell:w.cell? ⟨b,x+i,none⟩=some cur[x+i]:=by simp [World.cell?,hg,hi]
  have hfro:w.frozen? ⟨b,x+i,none⟩=false:=by
   obtain ⟨lo,hi'⟩:=fz
   have:=hth (x+i) hi
   simpa [World.frozen?,hg] using this
  have hw1:(w.setCell ⟨b,x+i,none⟩ v).heap[b]?=some (.cells (cur.setIfInBounds (x+i) v) t fz):=by
   simp [World.setCell,Array.getElem?_modify,hg]
  have hst:(store ((⟨b,x,none⟩:Addr).add i) v).run P w=.ok () (w.setCell ⟨b,x+i,none⟩ v):=by
   rw [run_store P w _ v .plain (h1 v (by simp)),cN,hcell]
   simp [hfro]
  obtain ⟨w',r,o,tp,ot,sz,oth,cur',g',s',c'⟩:=bI P b x t fz vs (i+1) (cur.setIfInBounds (x+i) v) (w.setCell ⟨b,x+i,none⟩ v) hw1
   (by simpa using hth) (by simp; omega) (fun u hu=>h1 u (by simp [hu]))
  refine ⟨w',?_,o,tp,ot,by rw [sz]; simp [World.setCell],fun k hk=>?_,cur',g',by rw [s']; simp,fun k=>?_⟩
  ·rw [storeCells]
   simp only [Sem.run_bind,hst,Result.andThen_ok]
   exact r
  ·rw [oth k hk]
   simp only [World.setCell,Array.getElem?_modify]
   rw [if_neg (fun e:b=k=>hk e.symm)]
  ·rw [c' k]
   simp only [List.length_cons]
   by_cases h0:k=x+i
   ·subst h0
    rw [if_neg (by omega),if_pos (by omega)]
    simp [hi]
   ·rw [Array.getElem?_setIfInBounds_ne (fun e=>h0 e.symm)]
    by_cases h2:x+(i+1)≤k∧k<x+(i+1)+vs.length
    ·rw [if_pos h2,if_pos (by omega)]
     have:k - (x+i)=(k - (x+(i+1)))+1:=by omega
     rw [this,List.getElem?_cons_succ]
    ·rw [if_neg h2,if_neg (by omega)]

theorem lW {t:TypeId}{i:TypeInfo}(hi:E.P.info? t=some i){v:Value}(hn:v.cells.size=i.size){b x:Nat}{s:Sem Unit}
  (hr:(storeCells ⟨b,x,none⟩ v.cells.toList).run E.P w=s.run E.P w):(storeAt t (.pointer (some ⟨b,x,none⟩)) v).run E.P w=s.run E.P w:=by
 simp [storeAt,sureAddr,storeVar,sizeOf,typeInfo,hi,hn,hr]

theorem kG (cs new:List DV)(o n k:Nat)(hn:new.length=n)(ho:o+n≤cs.length) :
  (cs.take o++new++cs.drop (o+n))[k]?=if o≤k∧k<o+n then new[k - o]? else cs[k]?:=by
 have ht:(cs.take o).length=o:=by rw [List.length_take]; omega
 rcases Nat.lt_or_ge k o with h|h
 ·rw [if_neg (by omega),List.append_assoc,List.getElem?_append_left (by omega),List.getElem?_take,if_pos h]
 ·rcases Nat.lt_or_ge k (o+n) with h2|h2
  ·rw [if_pos ⟨h,h2⟩,List.append_assoc,List.getElem?_append_right (by omega),List.getElem?_append_left (by omega),ht]
  ·rw [if_neg (by omega),List.getElem?_append_right (by simp [ht]; omega),List.getElem?_drop]
   congr 1
   simp [ht]; omega

theorem FX {t:TypeId}{i:TypeInfo}(hi:E.P.info? t=some i){l o b x:Nat}{v:Value}{d:DV}{cs:List DV}
  (hs:SRep E C a w ok β st) (hb:β l=some (b,x)) (hl:st.h[l]?=some (.box cs)) (hv:Rep w ok β v d) (h1:d.cells.all DV.one=true) (hn:d.cells.length=i.size)
  (ho:o+i.size≤cs.length) :
  ∃ w',(storeAt t (.pointer (some ⟨b,x+o,none⟩)) v).run E.P w=.ok () w' ∧
   SRep E C a w' ok β ({ st with h:=(aK d.cells st.h).2 }.at l (.box (cs.take o++(aK d.cells st.h).1++cs.drop (o+i.size)))):=by
 obtain ⟨c1,c2,c3⟩:=hv.cells h1
 obtain ⟨k1,k2,k3⟩:=dA d.cells v.cells.toList st hs (by simpa using c1) (fun i u e hu he=>c2 i u e (by simpa using hu) he)
 obtain ⟨b',vs,ty,fz,g1,g2,g3,g4,g5⟩:=hs.heap.obj l _ hl
 rw [hb] at g1
 injection g1 with g1; injection g1 with g1a g1b
 subst g1a; subst g1b
 obtain ⟨w',r,o1,o2,o3,o4,oth,cur',e1,e2,e3⟩:=bI E.P b (0+o) ty fz v.cells.toList 0 vs w g2 g3 (by simp; omega) c3
 refine ⟨w',?_,?_⟩
 ·have:=lW (w:=w) hi (v:=v) (by omega) (b:=b) (x:=0+o) (s:=storeCells ⟨b,0+o,none⟩ v.cells.toList) rfl
  rw [this]; exact r
 ·have hlt:l<st.h.length:=by
   rcases Nat.lt_or_ge l st.h.length with hlt|hge
   ·exact hlt
   ·rw [List.getElem?_eq_none hge] at hl; cases hl
  have hmono:∀ {v:Value} {d:DV},Rep w ok β v d→Rep w' ok β v d:=fun h=>h.mono (fun _ k=>k)
   (fun k hk=>oth k fun e=>hs.heap.dis l b 0 hb (e▸hk)) (fun l' y hy=>⟨hy,by
    by_cases e:y.1=b
    ·rw [e]; simp [World.shape?,e1,g2,e2]
    ·simp [World.shape?,oth _ e]⟩)
  have hold:(aK d.cells st.h).2[l]?=some (.box cs):=by
   obtain ⟨tl,htl⟩:=kZ d.cells st.h
   rw [htl,List.getElem?_append_left hlt,hl]
  refine k1.write l b 0 _ _ hb hold (fun cs' _=>⟨_,rfl⟩) o1 o2 o3 o4 oth (by simp [World.shape?,e1,g2,e2]) ?_
  refine ⟨b,cur',ty,fz,hb,e1,by rw [e2]; exact g3,?_,fun k u e hu he=>?_⟩
  ·rw [e2,g4]; simp [k2]; omega
  ·rw [kG _ _ _ _ _ (by rw [k2]; exact hn) ho] at he
   rw [e3] at hu
   have hcl:v.cells.toList.length=i.size:=by simp; omega
   rw [hcl] at hu
   by_cases hk:o≤k∧k<o+i.size
   ·rw [if_pos hk] at he
    rw [if_pos (by omega)] at hu
    have:k - (0+o+0)=k - o:=by omega
    rw [this] at hu
    exact hmono (k3 _ _ _ hu he)
   ·rw [if_neg hk] at he
    rw [if_neg (by omega)] at hu
    exact hmono (g5 k u e hu he)
end
section
variable {E:Env} {C:Ctx} {a:Act} {w:World} {ok:Nat→Prop} {β:Loc} {st:St} {K:DV→St→Prop}

theorem eQ (op:BinOp)(t:TypeId)(x y:Operand)(k k' : IntKind)(m n:Int)(P:Program)(w:World):(eqGuard op t x y (.int k m) (.int k' n)).run P w=.ok () w:=by
 unfold eqGuard; split <;> rfl
theorem nK (op:BinOp)(t:TypeId)(x y:Operand)(m n:ByteArray)(P:Program)(w:World):(eqGuard op t x y (.string m) (.string n)).run P w=.ok () w:=by
 unfold eqGuard; split <;> rfl
theorem uF (op:BinOp)(t:TypeId)(x y:Operand)(m n:Bool)(P:Program)(w:World):(eqGuard op t x y (.bool m) (.bool n)).run P w=.ok () w:=by
 unfold eqGuard; split <;> rfl

theorem dK (s:ByteArray)(l:List UInt8)(h:s.data.toList=l){β:Loc}:Rep w ok β (.string s) (.str l):=by subst h; exact .str s

theorem aGm (s s' : ByteArray):(s.data == s'.data)=decide (s.data=s'.data):=by rw [Bool.eq_iff_iff]; simp

theorem vT {P:Program}{t:TypeId}(d:Nat)(hu:P.underlying t=some .bool)(m n:Bool)(w:World):(Op.equalIn (d+1) t (.bool m) (.bool n)).run P w=.ok (m == n) w:=by
 simp only [Op.equalIn,Sem.run_bind,run_underlying hu,Result.andThen_ok]
 rfl

def FKt (P:Program)(t:TypeId):FK→Prop
 | .int=>∃ k,P.underlying t=some (.int k)
 | .str=>P.underlying t=some .string
 | .bool=>P.underlying t=some .bool
structure FlatT (P:Program) (t:TypeId) (ks:List FK):Prop where
  st:P.stoodInHeld t=false
  eg:P.eqGuardType P.depth t=false
  un:P.underlying t=some (.struct (P.fieldsOf t))
  fs : ∀ (j : Nat) f, (P.fieldsOf t).toList[j]? = some f → ∃ k, ks[j]? = some k ∧ (f.name ≠ "_") ∧ f.offset = 0 + j ∧ FKt P f.type k
  len:(P.fieldsOf t).toList.length=ks.length
theorem Rep.int_in {v:Value}{k:IntKind}{n:Int}(h:Rep w ok β v (.int k n)):v=.int k n:=by cases h; rfl
theorem Rep.bool_in {v:Value}{b:Bool}(h:Rep w ok β v (.bool b)):v=.bool b:=by cases h; rfl
theorem Rep.str_in {v:Value}{l:List UInt8}(h:Rep w ok β v (.str l)):∃ s:ByteArray,v=.string s∧s.data.toList=l:=by cases h; exact ⟨_,rfl,rfl⟩
theorem DG {P:Program}{d:Nat}{ds ds' : List DV}{vs vs' : List Value}(hl:vs.length=ds.length)(hl' : vs'.length=ds'.length)
    (h:∀ (i:Nat) v d,vs[i]?=some v→ds[i]?=some d→Rep w ok β v d) (h' : ∀ (i:Nat) v d,vs'[i]?=some v→ds'[i]?=some d→Rep w ok β v d):∀ (fs:List Field) (ks:List FK) (i:Nat) (es es' : List DV) (b:Bool),
    ds.drop i=es→ds'.drop i=es' → fs.length=ks.length→eqL ks es es' = some b →
    (∀ (j : Nat) f, fs[j]? = some f → ∃ k, ks[j]? = some k ∧ (f.name ≠ "_") ∧ f.offset = i + j ∧ FKt P f.type k) →
    (Op.eqFields (d+1) vs.toArray vs'.toArray fs).run P w=.ok b w
  | [],ks,i,es,es',b,h1,h2,hlen,hb,_=>by
    have:ks=[]:=List.length_eq_zero_iff.1 hlen.symm
    subst this
    cases es <;> cases es' <;> simp only [eqL,Option.some.injEq] at hb <;> first | (subst hb; rfl) | (cases hb; done)
  | f::fs,ks,i,es,es',b,h1,h2,hlen,hb,hf=>by
    obtain ⟨k,hk,hn,ho,ht⟩:=hf 0 f rfl
    cases ks with
    | nil=>simp at hlen
    | cons k0 ks=>
    simp only [List.getElem?_cons_zero,Option.some.injEq] at hk
    subst hk
    cases es with
    | nil=>cases k0 <;> simp [eqL] at hb
    | cons e es=>
      cases es' with
      | nil=>cases k0 <;> cases e <;> simp [eqL] at hb
      | cons e' es' =>
        have g1:ds[i]?=some e:=by have:=congrArg (·[0]?) h1; simpa using this
        have g2:ds'[i]?=some e' := by have:=congrArg (·[0]?) h2; simpa using this
        have n1:ds.drop (i+1)=es:=by rw [← List.drop_drop,h1]; rfl
        have n2:ds'.drop (i+1)=es' := by rw [← List.drop_drop,h2]; rfl
        have l1:i<vs.length:=by rw [hl]; exact (List.getElem?_eq_some_iff.1 g1).1
        have l2:i<vs'.length:=by rw [hl']; exact (List.getElem?_eq_some_iff.1 g2).1
        have k1:vs[i]?=some vs[i]:=List.getElem?_eq_getElem l1
        have k2:vs'[i]?=some vs'[i]:=List.getElem?_eq_getElem l2
        have r1:=h i _ _ k1 g1
        have r2:=h' i _ _ k2 g2
        have ho' : f.offset=i:=by simpa using ho
        have hrest:∀ (b' : Bool),eqL ks es es' = some b' → (Op.eqFields (d+1) vs.toArray vs'.toArray fs).run P w=.ok b' w:=fun b' hb' =>
          DG hl hl' h h' fs ks (i+1) es es' b' n1 n2 (by simpa using hlen) hb' fun j f hj=>by
            obtain ⟨k,q1,q2,q3,q4⟩:=hf (j+1) f (by simpa using hj)
            exact ⟨k,by simpa using q1,q2,by omega,q4⟩
        have hag:∀ w:World,(isAgg f.type).run P w=.ok false w:=fun w=>by
          cases k0 <;> simp only [FKt] at ht <;> (try obtain ⟨_,ht⟩:=ht) <;> simp [isAgg,run_underlying ht]
        have hp1:(part f.type vs.toArray f.offset).run P w=.ok vs[i] w:=by
          simp only [part,Sem.run_bind,hag,Result.andThen_ok,Bool.false_eq_true,if_false,ho',List.getElem?_toArray,k1]; rfl
        have hp2:(part f.type vs'.toArray f.offset).run P w=.ok vs'[i] w:=by
          simp only [part,Sem.run_bind,hag,Result.andThen_ok,Bool.false_eq_true,if_false,ho',List.getElem?_toArray,k2]; rfl
        rw [Op.eqFields,if_pos hn]
        simp only [Sem.run_bind,hp1,hp2,Result.andThen_ok]
        have fin:∀ (q b' : Bool),(Op.equalIn (d+1) f.type vs[i] vs'[i]).run P w=.ok q w→eqL ks es es' = some b' → b=(q&&b') →
            ((Op.equalIn (d+1) f.type vs[i] vs'[i]).run P w).andThen (fun r w=>(if (!r)=true then pure false else Op.eqFields (d+1) vs.toArray vs'.toArray fs:Sem Bool).run P w)=.ok b w:=by
          intro q b' hq hb' e
          rw [hq,Result.andThen_ok]
          cases q with
          | true=>simpa [e] using hrest b' hb'
          | false=>simp [e]
        cases k0 <;> cases e <;> cases e' <;> simp only [eqL] at hb <;> try (cases hb; done)
        · rename_i ka a kb b2
          split at hb
          · rename_i ek
            subst ek
            rw [Option.map_eq_some_iff] at hb
            obtain ⟨b',hb',e⟩:=hb
            refine fin (decide (a=b2)) b' ?_ hb' e.symm
            obtain ⟨k,ht⟩:=ht
            rw [r1.int_in,r2.int_in,run_equalIn_int w d _ _ _ _ _ ht]
            congr 1
          · cases hb
        · rename_i s1 s2
          rw [Option.map_eq_some_iff] at hb
          obtain ⟨b',hb',e⟩:=hb
          refine fin (decide (s1=s2)) b' ?_ hb' e.symm
          obtain ⟨t1,e1,q1⟩:=r1.str_in
          obtain ⟨t2,e2,q2⟩:=r2.str_in
          rw [e1,e2,run_equalIn_string w d _ _ _ ht]
          congr 1
          rw [ByteArray.toList_eq,ByteArray.toList_eq,q1,q2,Bool.eq_iff_iff]; simp
        · rename_i b1 b2
          rw [Option.map_eq_some_iff] at hb
          obtain ⟨b',hb',e⟩:=hb
          refine fin (b1 == b2) b' ?_ hb' e.symm
          rw [r1.bool_in,r2.bool_in,run_equalIn_bool' w d _ _ _ ht]
theorem RQ {P:Program}{t:TypeId}{ks:List FK}(hT:FlatT P t ks){v1 v2:Value}{l l' : List DV}{b:Bool}(h1:Rep w ok β v1 (.agg l))(h2:Rep w ok β v2 (.agg l'))(hb:eqL ks l l' = some b)(op:BinOp)(x y:Operand) :
  (eqGuard op t x y v1 v2).run P w=.ok () w∧(binOp .eql t v1 v2).run P w=.ok (.bool b) w∧(binOp .neq t v1 v2).run P w=.ok (.bool !b) w:=by
 cases h1 with | agg vs _ hl hh=>
 cases h2 with | agg vs' _ hl' hh' =>
 have hr:(Op.equalIn 10000 t (.agg vs.toArray) (.agg vs'.toArray)).run P w=.ok b w:=by
  rw [run_equalIn_agg w 9999 t _ _ hT.un hT.st]
  exact DG (d:=9998) hl hl' hh hh' _ ks 0 l l' b rfl rfl hT.len hb hT.fs
 refine ⟨run_eqGuard_agg w op t x y _ _ hT.eg,?_,?_⟩
 ·rw [run_eql_struct,hr]; rfl
 ·rw [run_neq_struct,hr]; rfl
theorem Rep.osl_some {v:Value}{sz l off n:Nat}{c:Option Nat}(h:Rep w ok β v (.osl sz l off n c))(hn:0<n):∃ a i k,v=.slice (some a) i k:=by
 cases h with
 | oslnil=>omega
 | osl=>exact ⟨_,_,_,rfl⟩
theorem Rep.sl_some {v:Value}{sz:Nat}{es:List (List DV)}(h:Rep w ok β v (.sl sz es))(hn:es≠[]):∃ a i k,v=.slice (some a) i k:=by
 cases h with
 | sl A n c _ _ b x vs h1 _ _ _ hA=>
  have:0<n:=by rw [h1]; exact List.length_pos_iff.2 hn
  rw [(hA this).1]
  exact ⟨_,_,_,rfl⟩
theorem fW (op:BinOp)(t:TypeId)(x y:Operand)(m n:Option Addr)(P:Program)(w:World):(eqGuard op t x y (.pointer m) (.pointer n)).run P w=.ok () w:=by
 unfold eqGuard; split <;> rfl
theorem iX (op:BinOp)(t:TypeId)(x y:Operand)(m n:Option Addr)(a b c d:Nat)(P:Program)(w:World):(eqGuard op t x y (.slice m a b) (.slice n c d)).run P w=.ok () w:=by
 unfold eqGuard; split <;> rfl
theorem vH (d:Nat){P:Program}{t e:TypeId}(hu:P.underlying t=some (.pointer e))(w:World):(Op.equalIn (d+1) t (.pointer none) (.pointer none)).run P w=.ok true w:=by
 simp only [Op.equalIn,Sem.run_bind,run_underlying hu,Result.andThen_ok]; rfl
theorem uL (d:Nat){P:Program}{t e:TypeId}(hu:P.underlying t=some (.pointer e))(a:Addr)(w:World):(Op.equalIn (d+1) t (.pointer (some a)) (.pointer none)).run P w=.ok false w:=by
 simp only [Op.equalIn,Sem.run_bind,run_underlying hu,Result.andThen_ok]; rfl
theorem vZ (d:Nat){P:Program}{t e:TypeId}(hu:P.underlying t=some (.slice e))(a:Addr)(n c k l:Nat)(w:World):(Op.equalIn (d+1) t (.slice (some a) n c) (.slice none k l)).run P w=.ok false w:=by
 simp only [Op.equalIn,Sem.run_bind,run_underlying hu,Result.andThen_ok]; rfl
theorem AN {P:Program}{t e:TypeId}(hu:P.underlying t=some (.pointer e))(w:World):(Op.equal t (.pointer none) (.pointer none)).run P w=.ok true w:=vH 9999 hu w
theorem kJ {P:Program}{t e:TypeId}(hu:P.underlying t=some (.pointer e))(a:Addr)(w:World):(Op.equal t (.pointer (some a)) (.pointer none)).run P w=.ok false w:=uL 9999 hu a w
theorem vR (d:Nat){P:Program}{t e:TypeId}(hu:P.underlying t=some (.slice e))(n c k l:Nat)(w:World):(Op.equalIn (d+1) t (.slice none n c) (.slice none k l)).run P w=.ok true w:=by
 simp only [Op.equalIn,Sem.run_bind,run_underlying hu,Result.andThen_ok]; rfl
theorem CO {P:Program}{t e:TypeId}(hu:P.underlying t=some (.slice e))(n c k l:Nat)(w:World):(Op.equal t (.slice none n c) (.slice none k l)).run P w=.ok true w:=vR 9999 hu n c k l w
theorem mR {P:Program}{t e:TypeId}(hu:P.underlying t=some (.slice e))(a:Addr)(n c k l:Nat)(w:World):(Op.equal t (.slice (some a) n c) (.slice none k l)).run P w=.ok false w:=vZ 9999 hu a n c k l w
theorem mZ (op:BinOp)(t:TypeId)(x:Operand)(c:Value)(v:Value)(P:Program)(w:World):(eqGuard op t x (.const c) v .nilIface).run P w=.ok () w:=by
 unfold eqGuard
 cases op <;> cases v <;> first | rfl | (cases x <;> rfl)
theorem uQ (d:Nat){P:Program}{t:TypeId}{e:Array (String×TypeId)}(hu:P.underlying t=some (.interface e))(w:World):(Op.equalIn (d+1) t .nilIface .nilIface).run P w=.ok true w:=by
 simp only [Op.equalIn,Sem.run_bind,run_underlying hu,Result.andThen_ok]; rfl
theorem vE (d:Nat){P:Program}{t u:TypeId}{v:Value}{e:Array (String×TypeId)}(hu:P.underlying t=some (.interface e))(w:World):(Op.equalIn (d+1) t (.iface u v) .nilIface).run P w=.ok false w:=by
 simp only [Op.equalIn,Sem.run_bind,run_underlying hu,Result.andThen_ok]; rfl
theorem BF {P:Program}{t:TypeId}{e:Array (String×TypeId)}(hu:P.underlying t=some (.interface e))(w:World):(Op.equal t .nilIface .nilIface).run P w=.ok true w:=uQ 9999 hu w
theorem CK {P:Program}{t u:TypeId}{v:Value}{e:Array (String×TypeId)}(hu:P.underlying t=some (.interface e))(w:World):(Op.equal t (.iface u v) .nilIface).run P w=.ok false w:=vE 9999 hu w
theorem aBS (op:BinOp)(ty:Ty)(t:TypeId)(x y:Operand){v1 v2:Value}{d1 d2:DV}(hs:SRep E C a w ok β st)(h1:Rep w ok β v1 d1)(h2:Rep w ok β v2 d2)
    (hty:ty=.bool→E.P.underlying t=some .bool) (hfl:∀ ks,ty=.flat ks→FlatT E.P t ks) (hpt:ty=.ptr→∃ e,E.P.underlying t=some (.pointer e)) (hsc:ty=.slc→∃ e,E.P.underlying t=some (.slice e)) (hif:ty=.ifc→(∃ e,E.P.underlying t=some (.interface e))∧∃ c,y=.const c) (hk:aT op ty d1 d2 fun d=>K d st):LV E C a K (do eqGuard op t x y v1 v2; binOp op t v1 v2) w:=by
  unfold aT at hk
  split at hk
  · cases h1; cases h2
    rename_i k m k' n
    cases op <;> (try exact hk.elim) <;> first
      | (obtain ⟨rfl,hk⟩:=hk
         first
           | (obtain ⟨hz,hk⟩:=hk
              refine LV.same ?_ hs (.int _ _) hk
              simp [eQ,binOp,Op.intDiv,hz]
              done)
           | (refine LV.same ?_ hs (.int _ _) hk
              simp [eQ,binOp,Op.intArith,Op.intBits]
              done)
           | (refine LV.same ?_ hs (.bool _) hk
              simp [eQ,binOp,Op.intCmp]
              done)
           | (refine LV.same ?_ hs (.bool _) hk
              simp [eQ,binOp,Op.intCmp]
              rfl))
      | (obtain ⟨hb,hk⟩:=hk
         refine LV.same ?_ hs (.int _ _) hk
         have hb' : ¬ n<0:=by omega
         simp [eQ,binOp,Op.shift,hb'])
  · cases h1; cases h2
    rename_i s s'
    cases op <;> (try exact hk.elim)
    case add=>
      obtain ⟨hl,hk⟩:=hk
      refine LV.same (v:=.string (s++s')) ?_ hs (dK _ _ (by simp [ByteArray.data_append])) hk
      have hsz:¬ ((s.size+s'.size:Nat):Int)>IntKind.i64.max:=by
        have e1:s.data.toList.length=s.size:=by simp
        have e2:s'.data.toList.length=s'.size:=by simp
        have:IntKind.i64.max=9223372036854775807:=rfl
        rw [e1,e2] at hl
        omega
      simp only [Sem.run_bind,nK,Result.andThen_ok,binOp,Op.stringOp]
      rw [if_neg hsz]
      rfl
    all_goals
      refine LV.same ?_ hs (.bool _) hk
      simp [nK,binOp,Op.stringOp,ByteArray.toList_eq,aGm]
  · cases h1; cases h2
    have hu:=hty rfl
    have hq:∀ (m n:Bool) (w:World),(Op.equal t (.bool m) (.bool n)).run E.P w=.ok (m == n) w:=fun m n w=>by
      exact vT 9999 hu m n w
    cases op <;> (try exact hk.elim)
    all_goals
      refine LV.same ?_ hs (.bool _) hk
      simp [uF,binOp,hq]
  · cases op <;> (try exact hk.elim)
    all_goals
      obtain ⟨b,hb,hk⟩:=hk
      have hq:=fun op' => RQ (hfl _ rfl) h1 h2 hb op' x y
      refine LV.same ?_ hs (.bool _) hk
      simp only [Sem.run_bind,(hq _).1,Result.andThen_ok,(hq .eql).2.1,(hq .eql).2.2]
  · cases h1; cases h2
    obtain ⟨e,hu⟩:=hpt rfl
    cases op <;> (try exact hk.elim)
    all_goals
      refine LV.same ?_ hs (.bool _) hk
      simp [fW,binOp,AN hu]
  · cases h1; cases h2
    obtain ⟨e,hu⟩:=hpt rfl
    cases op <;> (try exact hk.elim)
    all_goals
      refine LV.same ?_ hs (.bool _) hk
      simp [fW,binOp,kJ hu]
  · cases h1; cases h2
    obtain ⟨e,hu⟩:=hpt rfl
    cases op <;> (try exact hk.elim)
    all_goals
      refine LV.same ?_ hs (.bool _) hk
      simp [fW,binOp,kJ hu]
  · cases h1; cases h2
    obtain ⟨e,hu⟩:=hpt rfl
    cases op <;> (try exact hk.elim)
    all_goals
      refine LV.same ?_ hs (.bool _) hk
      simp [fW,binOp,kJ hu]
  · obtain ⟨e,hu⟩:=hsc rfl
    obtain ⟨hn,hk⟩:=hk
    obtain ⟨a,k,c,rfl⟩:=h1.osl_some hn
    cases h2
    cases op <;> (try exact hk.elim)
    all_goals
      refine LV.same ?_ hs (.bool _) hk
      simp [iX,binOp,mR hu]
  · obtain ⟨e,hu⟩:=hsc rfl
    obtain ⟨hn,hk⟩:=hk
    obtain ⟨a,k,c,rfl⟩:=h1.sl_some hn
    cases h2
    cases op <;> (try exact hk.elim)
    all_goals
      refine LV.same ?_ hs (.bool _) hk
      simp [iX,binOp,mR hu]
  · obtain ⟨e,hu⟩:=hsc rfl
    cases h2
    cases h1
    all_goals
      cases op <;> (try exact hk.elim)
      all_goals
        refine LV.same ?_ hs (.bool _) hk
        simp [iX,binOp,mR hu,CO hu]
  · cases h1; cases h2
    obtain ⟨⟨e,hu⟩,c,rfl⟩:=hif rfl
    cases op <;> (try exact hk.elim)
    all_goals
      refine LV.same ?_ hs (.bool _) hk
      simp [mZ,binOp,BF hu]
  · cases h1; cases h2
    obtain ⟨⟨e,hu⟩,c,rfl⟩:=hif rfl
    cases op <;> (try exact hk.elim)
    all_goals
      refine LV.same ?_ hs (.bool _) hk
      simp [mZ,binOp,CK hu]
  · exact hk.elim

theorem aDU (op:UnOp){v:Value}{d:DV}(hs:SRep E C a w ok β st)(h:Rep w ok β v d)(hk:unD op d fun d=>K d st):LV E C a K (Op.unary op v) w:=by
 unfold unD at hk
 split at hk
 ·cases h; exact LV.same rfl hs (.bool _) hk
 ·cases h; exact LV.same rfl hs (.int _ _) hk
 ·exact hk.elim

theorem Rep.str_inv {v:Value}{l:List UInt8}(h:Rep w ok β v (.str l)):∃ s:ByteArray,v=.string s∧s.data.toList=l:=by
 cases h with | str s=>exact ⟨s,rfl,rfl⟩
theorem Rep.int_inv {v:Value}{k:IntKind}{n:Int}(h:Rep w ok β v (.int k n)):v=.int k n:=by cases h; rfl
theorem kU (s:ByteArray):(⟨s.data.toList.toArray⟩:ByteArray)=s:=by cases s; simp

theorem QN {S:TypeId}{fields:Array Field}{f:Nat}{fd:Field}(hu:E.P.underlying S=some (.struct fields))(hf:fields[f]?=some fd)
  {i:TypeInfo} (hi:E.P.info? fd.type=some i) (hz:i.size≠0) {v:Value} {d:DV} (hs:SRep E C a w ok β st) (h:Rep w ok β v d)
  (hk:match d with
   | .ptr l o=>K (.ptr l (o+fd.offset)) st
   | .aptr sz l j q=>K (.aptr sz l j (q+fd.offset)) st
   | .eptr cs o=>K (.eptr cs (o+fd.offset)) st
   | _=>False):LV E C a K (fieldAt S v f) w:=by
 have hrun:∀ b x,(fieldAt S (.pointer (some ⟨b,x,none⟩)) f).run E.P w=.ok (.pointer (some ⟨b,x+fd.offset,none⟩)) w:=fun b x=>by
  simp [fieldAt,run_underlying hu,hf,sureAddr,fieldPlace,sizeOf,typeInfo,hi,hz,cN]
 cases h with
 | ptr l o b x hb=>exact LV.same (hrun b (x+o)) hs (by rw [Nat.add_assoc]; exact .ptr l _ b x hb) hk
 | aptr sz l j q b x hb=>exact LV.same (hrun b _) hs (by rw [Nat.add_assoc,Nat.add_assoc]; exact .aptr sz l j _ b x hb) hk
 | eptr cs o b x vs hok hc hh=>exact LV.same (hrun b (x+o)) hs (by rw [Nat.add_assoc]; exact .eptr cs _ b x vs hok hc hh) hk
 | _=>exact hk.elim

theorem bZ {sz:Nat}:∀ {es:List (List DV)}(_:∀ e∈es,e.length=sz){j:Nat}{e:List DV}(_:es[j]?=some e){q:Nat}(_:q<sz),es.flatten[j*sz+q]?=e[q]?
 | [],_,j,e,hj,q,_=>by simp at hj
 | e0::es,hes,0,e,hj,q,hq=>by
  simp at hj
  subst hj
  have:e0.length=sz:=hes e0 (by simp)
  simp [List.getElem?_append_left (show q<e0.length by omega)]
 | e0::es,hes,j+1,e,hj,q,hq=>by
  have h0:e0.length=sz:=hes e0 (by simp)
  rw [List.flatten_cons,List.getElem?_append_right (by rw [h0,Nat.succ_mul]; omega)]
  have:(j+1)*sz+q - e0.length=j*sz+q:=by rw [h0,Nat.succ_mul]; omega
  rw [this]
  exact bZ (fun e he=>hes e (by simp [he])) (by simpa using hj) hq
theorem aP {sz:Nat}:∀ {es:List (List DV)}(_:∀ e∈es,e.length=sz),es.flatten.length=es.length*sz
 | [],_=>by simp
 | e::es,h=>by
  rw [List.flatten_cons,List.length_append,aP (fun e he=>h e (by simp [he])),h e (by simp),List.length_cons,Nat.succ_mul]
  omega

theorem JO {t el:TypeId}{n:Nat}(hu:E.P.underlying t=some (.array n el)){i:TypeInfo}(hi:E.P.info? el=some i){v v2:Value}{d d2:DV}
  (hs:SRep E C a w ok β st) (h:Rep w ok β v d) (h2:Rep w ok β v2 d2)
  (hk:match d,d2 with
   | .ptr l o,.int _ j=>0≤j∧j<n∧K (.ptr l (o+j.toNat*i.size)) st
   | _,_=>False):LV E C a K (indexAt t v v2) w:=by
 cases h with
 | ptr l o b x hb=>
  cases h2 with
  | int k j=>
   obtain ⟨h0,hj,hk⟩:=hk
   have hrun:(indexAt t (.pointer (some ⟨b,x+o,none⟩)) (.int k j)).run E.P w=.ok (.pointer (some ⟨b,x+o+j.toNat*i.size,none⟩)) w:=by
    simp [indexAt,asIntOf,sureAddr,run_underlying hu,h0,hj,sizeOf,typeInfo,hi,cN]
   refine LV.same hrun hs ?_ hk
   have:=Rep.ptr (w:=w) (ok:=ok) (β:=β) l (o+j.toNat*i.size) b x hb
   rw [← Nat.add_assoc] at this
   exact this
  | _=>exact hk.elim
 | _=>first | exact hk.elim | (cases h2 <;> exact hk.elim)
theorem JL {t el:TypeId}(hu:E.P.underlying t=some (.slice el)){i:TypeInfo}(hi:E.P.info? el=some i){v v2:Value}{d d2:DV}
  (hs:SRep E C a w ok β st) (h:Rep w ok β v d) (h2:Rep w ok β v2 d2)
  (hk:match d,d2 with
   | .sl sz' es,.int _ j=>sz' = i.size∧0≤j∧∃ e,es[j.toNat]?=some e∧K (.eptr e 0) st
   | .osl sz' l off n _,.int _ j=>sz' = i.size∧0≤j∧j<n∧K (.aptr i.size l (off+j.toNat) 0) st
   | _,_=>False):LV E C a K (indexAt t v v2) w:=by
 have hrun:∀ (b x n c:Nat) (k:IntKind) (j:Int),0≤j→j<(n:Int)→(indexAt t (.slice (some ⟨b,x,none⟩) n c) (.int k j)).run E.P w=.ok (.pointer (some ⟨b,x+j.toNat*i.size,none⟩)) w:=fun b x n c k j h0 h1=>by
  simp [indexAt,asIntOf,run_underlying hu,h0,h1,sizeOf,typeInfo,hi,cN]
 cases h with
 | sl A n c sz es b x vs hn hnc hsz hes hA hc h1 hh=>
  cases h2 with
  | int k j=>
   obtain ⟨rfl,h0,e,he,hk⟩:=hk
   have hj:j.toNat<es.length:=by
    rcases Nat.lt_or_ge j.toNat es.length with hlt|hge
    ·exact hlt
    ·rw [List.getElem?_eq_none hge] at he; cases he
   obtain ⟨hA1,hA2⟩:=hA (by omega)
   subst hA1
   have hel:e.length=i.size:=hes e (List.mem_of_getElem? he)
   have hbd:∀ q,q<i.size→j.toNat*i.size+q<n*i.size:=fun q hq=>by
    have:(j.toNat+1)*i.size≤n*i.size:=Nat.mul_le_mul_right _ (by omega)
    rw [Nat.succ_mul] at this; omega
   refine LV.same (hrun b x n c k j h0 (by omega)) hs ?_ hk
   have:=Rep.eptr (w:=w) (ok:=ok) (β:=β) e 0 b (x+j.toNat*i.size) (fun q=>vs (j.toNat*i.size+q)) hA2
    (fun q hq=>by rw [Nat.add_assoc]; exact hc _ (hbd q (by omega)))
    (fun q d hd=>by
     have hq:q<i.size:=by
      rcases Nat.lt_or_ge q e.length with hlt|hge
      ·omega
      ·rw [List.getElem?_eq_none hge] at hd; cases hd
     exact hh _ d (by rw [bZ hes he hq]; exact hd))
   exact this
  | _=>exact hk.elim
 | osl sz l off n c b x y ty m hb hnc hsz hy hm hr cap hcap=>
  cases h2 with
  | int k j=>
   obtain ⟨rfl,h0,hj,hk⟩:=hk
   have hy' := hy (by omega)
   subst hy'
   refine LV.same (hrun b _ n c k j h0 hj) hs ?_ hk
   have:=Rep.aptr (w:=w) (ok:=ok) (β:=β) i.size l (off+j.toNat) 0 b x hb
   rw [Nat.add_mul,Nat.add_zero,← Nat.add_assoc] at this
   exact this
  | _=>exact hk.elim
 | oslnil sz l off cap hcap hz=>
  cases h2 with
  | int k j=>obtain ⟨_,h0,hj,_⟩:=hk; omega
  | _=>exact hk.elim
 | _=>exact hk.elim

theorem VO {t:TypeId}(hu:E.P.underlying t=some .string){v v2:Value}{d d2:DV}(hs:SRep E C a w ok β st)(h:Rep w ok β v d)(h2:Rep w ok β v2 d2)
  (hk:match d,d2 with
   | .str s,.int _ j=>0≤j∧j<s.length∧K (.int .u8 (bt s j.toNat)) st
   | _,_=>False):LV E C a K (index t v v2) w:=by
 cases h with
 | str s=>
  cases h2 with
  | int k j=>
   obtain ⟨h0,hj,hk⟩:=hk
   have hlt:j.toNat<s.size:=by simp at hj; omega
   refine LV.same (v:=.int .u8 (bt s.data.toList j.toNat)) ?_ hs (.int _ _) hk
   have e:s[j.toNat]?=some s[j.toNat]:=getElem?_pos s j.toNat hlt
   have eb:bt s.data.toList j.toNat=((s[j.toNat]'hlt).toNat:Int):=by
    have:s.data.toList.getD j.toNat 0=s[j.toNat]'hlt:=by
     rw [List.getD_eq_getElem?_getD,List.getElem?_eq_getElem (by simpa using hlt)]; rfl
    unfold bt; rw [this]
   simp [index,asIntOf,run_underlying hu,h0,e,eb]
  | _=>exact hk.elim
 | _=>exact hk.elim

theorem RI {v:Value}{d:DV}{n:Nat}(hs:SRep E C a w ok β st)(h:Rep w ok β v d)
  (hk:match d with
   | .tup l=>∃ d,l[n]?=some d∧K d st
   | _=>False):LV E C a K (extract v n) w:=by
 cases h with
 | tup vs ds hl hh=>
  obtain ⟨d,hd,hk⟩:=hk
  have hn:n<vs.length:=by
   rcases Nat.lt_or_ge n ds.length with hlt|hge
   ·omega
   ·rw [List.getElem?_eq_none hge] at hd; cases hd
  refine LV.same (v:=vs[n]) ?_ hs (hh n _ d (List.getElem?_eq_getElem hn) hd) hk
  simp [extract,List.getElem?_eq_getElem hn]
 | _=>exact hk.elim

theorem LQ {t:TypeId}{T:Array TypeId}{td:TypeDesc}{k:Bool}(hT:T[0]?=some t)(hu:E.P.underlying t=some td)(htd:(td=.string∧k=true)∨∃ e,td=.slice e∧k=false){ty:TypeId}{v:Value}{x:AX}
  (hs:SRep E C a w ok β st) (h:Rep w ok β v (x.ev st.fr)) (hk:aop E (.len k x) K st):LV E C a K (Builtin.len_ T ty #[v]) w:=by
 simp only [aop] at hk
 generalize x.ev st.fr=d at h hk
 have hsl:k=false→∃ e,td=.slice e:=fun h=>by
  rcases htd with ⟨_,h2⟩|⟨e,h2,_⟩
  ·subst h2; cases h
  ·exact ⟨e,h2⟩
 cases h with
 | str s=>
  obtain ⟨hk0,hk⟩:=hk
  have:td=.string:=by rcases htd with ⟨h1,_⟩ | ⟨_,_,h⟩; exact h1; rw [h] at hk0; cases hk0
  subst this
  refine LV.same (v:=.int .i64 s.data.toList.length) ?_ hs (.int _ _) hk
  simp [Builtin.len_,hT,run_underlying hu,goInt]
 | sl A n c sz es b x vs hn=>
  obtain ⟨hk0,hk⟩:=hk
  obtain ⟨e,rfl⟩:=hsl hk0
  refine LV.same (v:=.int .i64 es.length) ?_ hs (.int _ _) hk
  simp [Builtin.len_,hT,run_underlying hu,goInt,hn]
 | osl sz l off n c b x y=>
  obtain ⟨hk0,hk⟩:=hk
  obtain ⟨e,rfl⟩:=hsl hk0
  refine LV.same (v:=.int .i64 n) ?_ hs (.int _ _) hk
  simp [Builtin.len_,hT,run_underlying hu,goInt]
 | oslnil sz l off=>
  obtain ⟨hk0,hk⟩:=hk
  obtain ⟨e,rfl⟩:=hsl hk0
  refine LV.same (v:=.int .i64 (0:Nat)) ?_ hs (.int _ _) hk
  simp [Builtin.len_,hT,run_underlying hu,goInt]
 | nils sz=>
  obtain ⟨hk0,hk⟩:=hk
  obtain ⟨e,rfl⟩:=hsl hk0
  refine LV.same (v:=.int .i64 0) ?_ hs (.int _ _) hk
  simp [Builtin.len_,hT,run_underlying hu,goInt]
 | emp0 c sz=>
  obtain ⟨hk0,hk⟩:=hk
  obtain ⟨e,rfl⟩:=hsl hk0
  refine LV.same (v:=.int .i64 0) ?_ hs (.int _ _) hk
  simp [Builtin.len_,hT,run_underlying hu,goInt]
 | emp1 A c sz=>
  obtain ⟨hk0,hk⟩:=hk
  obtain ⟨e,rfl⟩:=hsl hk0
  refine LV.same (v:=.int .i64 0) ?_ hs (.int _ _) hk
  simp [Builtin.len_,hT,run_underlying hu,goInt]
 | _=>exact hk.elim
end
end Go.Ai
