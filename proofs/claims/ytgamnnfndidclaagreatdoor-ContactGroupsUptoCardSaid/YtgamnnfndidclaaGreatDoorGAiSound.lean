/- From the model's operations to ours, once and for all. -/
import Derived.Test.YtgamnnfndidclaaGreatDoorGAiCall
set_option linter.all false
namespace Go.Ai
open Go.Instr

def cv:Value→Option DV
 | .bool b=>some (.bool b)
 | .int k n=>some (.int k n)
 | .string s=>some (.str s.data.toList)
 | .pointer none=>some .nilp
 | .slice none 0 0=>some (.nils 1)
 | .nilFunc=>some .nilfn
 | .nilIface=>some .nili
 | _=>none
def cx:Operand→Option AX
 | .tmp t=>if t<1000000 then some (.t t) else none
 | .const v=>(cv v).map .c
 | .func f=>some (.c (.fn f []))
 | .global _=>none
def cxs:List Operand→Option (List AX)
 | []=>some []
 | x::l=>(cx x).bind fun y=>(cxs l).map (y :: ·)

def vOK:Value→DV→Bool
 | .bool b,.bool c=>b == c
 | .int k n,.int k' m=>decide (k=k')&&decide (n=m)
 | .string s,.str l=>s.data.toList == l
 | .pointer none,.nilp=>true
 | .slice none 0 0,.nils sz=>decide (0<sz)
 | .nilFunc,.nilfn=>true
 | .nilIface,.nili=>true
 | _,_=>false
def HF:List Value→List DV→Bool
 | [],[]=>true
 | v::vs,d::ds=>vOK v d&&HF vs ds
 | _,_=>false

def OO (P:Program):Nat→TypeId→Option (List DV)
 | 0,_=>none
 | n+1,t=>match P.underlying t with
  | some .bool=>some [.bool false]
  | some (.int k)=>some [.int k 0]
  | some .string=>some [.str []]
  | some (.pointer _)=>some [.nilp]
  | some (.slice e)=>some [.nils (P.cellsOf e)]
  | some (.func _ _ _)=>some [.nilfn]
  | some (.interface _)=>some [.nili]
  | some (.struct fs)=>fs.toList.foldr (fun f r=>(OO P n f.type).bind fun a=>r.map (a ++ ·)) (some [])
  | some (.array k e)=>(OO P n e).map fun a=>(List.replicate k a).flatten
  | _=>none
def kF (P:Program)(t:TypeId):Option (List DV):=
 match (P.info? t).bind (·.zero),OO P 8 t with
 | some z,some ds=>if HF z.cells.toList ds then some ds else none
 | _,_=>none

def pQ (P:Program)(fs:Array Field):List (Nat×Operand)→Option (List (Nat×Nat×AX))
 | []=>some []
 | (i,x)::l=>match fs[i]? with
  | some f=>(cx x).bind fun y=>(pQ P fs l).map ((f.offset,P.cellsOf f.type,y) :: ·)
  | none=>none
def QP:List (Nat×Operand)→Nat→Option (List AX)
 | [],_=>some []
 | (i,x)::l,k=>if i=k then (cx x).bind fun y=>(QP l (k+1)).map (y :: ·) else none
def cxo:Option Operand→Option (Option AX)
 | none=>some none
 | some x=>(cx x).map some

def YS (P:Program)(s d:TypeId):Option CV:=
 match P.underlying s,P.underlying d with
 | some (.int _),some (.int k)=>some (.int k)
 | some .string,some .string=>some .id
 | some (.int _),some .string=>some .i2s
 | some .string,some (.slice e)=>match P.underlying e with
  | some (.int .u8)=>some .s2b
  | some (.int .i32)=>some .s2r
  | _=>none
 | some (.slice e),some .string=>match P.underlying e with
  | some (.int .u8)=>some .b2s
  | some (.int .i32)=>some .r2s
  | _=>none
 | _,_=>none

def YV:TypeDesc→Option FK
 | .int _=>some .int
 | .string=>some .str
 | .bool=>some .bool
 | _=>none
def xD (P:Program):List Field→Nat→Option (List FK)
  | [],_=>some []
  | f :: fs, i => bif f.name != "_" && f.offset == i then (match P.underlying f.type with | some d => (YV d).bind fun k => (xD P fs (i + 1)).map (k :: ·) | none => none) else none
def YO (P:Program)(t:TypeId)(fs:Array Field):Option (List FK):=bif !P.stoodInHeld t && !P.eqGuardType P.depth t then xD P fs.toList 0 else none
def cty (P:Program)(t:TypeId):Ty:=
 match P.underlying t with
 | some (.struct fs)=>match YO P t fs with | some l=>.flat l | none=>.other
 | some (.int _) | some .string=>.prim
 | some .bool=>.bool
 | some (.pointer _)=>.ptr
 | some (.slice _)=>.slc
 | some (.interface _)=>.ifc
 | _=>.other

def isC:Operand→Bool
 | .const _=>true
 | _=>false
def HO (P:Program)(t:TypeId)(y:Operand):Ty:=bif cty P t == .ifc && !isC y then .other else cty P t
theorem jL {P:Program}{t:TypeId}{y:Operand}{k:Ty}(h:HO P t y=k)(hk:k≠.other):cty P t=k:=by
 unfold HO at h
 cases hc:(cty P t == .ifc && !isC y) with
 | true=>rw [hc] at h; exact absurd h.symm hk
 | false=>rw [hc] at h; exact h
theorem NV {P:Program}{t:TypeId}{y:Operand}(h:HO P t y=.ifc):∃ c,y=.const c:=by
 have h1:=jL h (by intro e; cases e)
 unfold HO at h
 rw [h1] at h
 cases y with
 | const c=>exact ⟨c,rfl⟩
 | _=>simp [isC] at h
theorem QC {P:Program}{t:TypeId}(h:cty P t=.bool):P.underlying t=some .bool:=by
 unfold cty at h
 split at h <;> first | (cases h; done) | assumption | skip
 split at h <;> cases h
theorem SW {P:Program}{t:TypeId}(h:cty P t=.ptr):∃ e,P.underlying t=some (.pointer e):=by
 unfold cty at h
 split at h <;> first | (cases h; done) | exact ⟨_,by assumption⟩ | skip
 split at h <;> cases h
theorem VS {P:Program}{t:TypeId}(h:cty P t=.ifc):∃ e,P.underlying t=some (.interface e):=by
 unfold cty at h
 split at h <;> first | (cases h; done) | exact ⟨_,by assumption⟩ | skip
 split at h <;> cases h
theorem RC {P:Program}{t:TypeId}(h:cty P t=.slc):∃ e,P.underlying t=some (.slice e):=by
 unfold cty at h
 split at h <;> first | (cases h; done) | exact ⟨_,by assumption⟩ | skip
 split at h <;> cases h
theorem yW {P:Program}:∀ {fs:List Field}{i:Nat}{ks:List FK},xD P fs i=some ks→fs.length=ks.length ∧
    ∀ (j : Nat) f, fs[j]? = some f → ∃ k, ks[j]? = some k ∧ (f.name ≠ "_") ∧ f.offset = i + j ∧ FKt P f.type k
  | [],i,ks,h=>by
    simp only [xD,Option.some.injEq] at h
    subst h
    exact ⟨rfl,fun j f hj=>by simp at hj⟩
  | f::fs,i,ks,h=>by
    simp only [xD] at h
    cases hc : (f.name != "_" && f.offset == i) with
    | false=>rw [hc] at h; cases h
    | true=>
      rw [hc,cond_true] at h
      rw [Bool.and_eq_true] at hc
      have hn : f.name ≠ "_" := by simpa using hc.1
      have ho:f.offset=i:=by simpa using hc.2
      cases hu:P.underlying f.type with
      | none=>rw [hu] at h; cases h
      | some d=>
        rw [hu] at h
        simp only [Option.bind_eq_some_iff,Option.map_eq_some_iff] at h
        obtain ⟨k,hd,ks',hks,rfl⟩:=h
        have ih:=yW hks
        refine ⟨by simp [ih.1],fun j g hj=>?_⟩
        cases j with
        | zero=>
          simp at hj
          subst hj
          refine ⟨k,rfl,hn,by simpa using ho,?_⟩
          cases d <;> simp only [YV,Option.some.injEq] at hd <;> first | (cases hd; done) | (subst hd; exact ⟨_,hu⟩) | (subst hd; exact hu)
        | succ j=>
          obtain ⟨k',q1,q2,q3,q4⟩:=ih.2 j g (by simpa using hj)
          exact ⟨k',by simpa using q1,q2,by omega,q4⟩
theorem KT {P:Program}{t:TypeId}{ks:List FK}(h:cty P t=.flat ks):FlatT P t ks:=by
 unfold cty at h
 split at h <;> first | (cases h; done) | skip
 rename_i fs hu
 split at h
 ·rename_i l hl
  injection h with h
  subst h
  have hf:P.fieldsOf t=fs:=by simp [Program.fieldsOf,hu]
  unfold YO at hl
  cases hc:(!P.stoodInHeld t && !P.eqGuardType P.depth t) with
  | false=>rw [hc] at hl; cases hl
  | true=>
   rw [hc,cond_true] at hl
   rw [Bool.and_eq_true] at hc
   have q:=yW hl
   exact ⟨by simpa using hc.1,by simpa using hc.2,by rw [hf]; exact hu,by rw [hf]; exact q.2,by rw [hf]; exact q.1⟩
 ·cases h
def FN (P:Program)(t:TypeId)(z:List DV):Option Nat:=
 match P.underlying t,z with
 | some (.struct fs),[.nilp,.nils 1]=>match fs[0]?,fs[1]? with
  | some f,some g=>match P.underlying f.type,P.underlying g.type with
   | some (.pointer u),some (.slice e)=>if u=t then some e else none
   | _,_=>none
  | _,_=>none
 | _,_=>none
theorem SY {P:Program}{t:TypeId}{z:List DV}{e:Nat}(h:FN P t z=some e):z=[.nilp,.nils 1]:=by
 unfold FN at h
 split at h
 ·rfl
 ·cases h
def DV.thin:DV→DV
 | .nils n=>.emp true n
 | d=>d
def EY (P:Program)(t:TypeId):Option (List DV):=(kF P t).map fun z=>if z.length≤64 then z else z.map DV.thin
def TR (P:Program)(e:TypeId):Option PV:=
 match kF P e,(P.info? e).bind (·.zero) with
 | some [.int k n],some (.int k' n')=>if k=k' ∧ n=n' then some (.int k n) else none
 | some [.bool b],some (.bool b')=>if b=b' then some (.bool b) else none
 | some [.str s],some (.string s')=>if s'.data.toList=s then some (.str s) else none
 | _,_=>none
theorem wO {P:Program}{e:TypeId}{z:PV}(h:TR P e=some z):∃ zv,(P.info? e).bind (·.zero)=some zv∧zv=z.val:=by
 unfold TR at h
 split at h
 ·rename_i hz
  split at h
  ·rename_i hq; obtain ⟨rfl,rfl⟩:=hq; injection h with h; subst h; exact ⟨_,hz,rfl⟩
  ·cases h
 ·rename_i hz
  split at h
  ·rename_i hq; subst hq; injection h with h; subst h; exact ⟨_,hz,rfl⟩
  ·cases h
 ·rename_i hz
  split at h
  ·rename_i hq; subst hq; injection h with h; subst h
   refine ⟨_,hz,?_⟩
   simp only [PV.val,kU]
  ·cases h
 ·cases h
def cop (P:Program)(full:Bool)(o:Oper):Option AOp:=
 match o.op with
 | .move x=>(cx x).map .mov
 | .assign x=>
  match x with
  | .const (.slice none 0 0)=>match P.underlying o.type with
   | some (.slice e)=>if 0<P.cellsOf e then some (if full=true then .newnil (P.cellsOf e) else .mov (.c (.nils (P.cellsOf e)))) else none
   | _=>none
  | x=>(cx x).map fun x=>if full=true then .set x else .mov x
 | .pick c a b=>(cx c).bind fun c=>(cx a).bind fun a=>(cx b).map fun b=>.pick c a b
 | .alloc t=>(EY P t).map fun z=>match FN P t z with | some e=>.allocb t e | none=>.alloc z
 | .box _ x=>(cx x).map .box
 | .build t parts=>match P.underlying t with
  | some (.struct fs)=>if fs.toList.all (fun f=>(P.info? f.type).isSome) then (EY P t).bind fun z=>(pQ P fs parts.toList).map fun ps=>.build z ps else none
  | _=>none
 | .buildSlice t n parts=>match P.underlying t with
  | some (.slice e)=>match P.info? e with
   | some i=>match i.zero with
    | some z=>if 0<i.size∧z.cells.size=i.size∧n*i.size≤16777216∧parts.size=n then (QP parts.toList 0).map fun ps=>.bslice full i.size ps else none
    | none=>none
   | none=>none
  | _=>none
 | .load t x=>match P.underlying t,P.info? t with
  | some d,some i=>(cx x).map (.load (if gZ d then some i.size else none))
  | _,_=>none
 | .store t x v=>match P.info? t with
  | some i=>(cx x).bind fun x=>(cx v).map fun v=>.store full i.size x v
  | none=>none
 | .nilCheck x=>(cx x).map .nilchk
 | .binOp op t x y0 _=>(cx x).bind fun x=>(cx y0).map fun y=>.bin op (HO P t y0) x y
 | .unOp op _ x=>(cx x).map (.un op)
 | .convert s d x=>(YS P s d).bind fun k=>(cx x).map (.conv k)
 | .makeFunc (.func f) first caps=>if first.isEmpty then (cxs caps.toList).map (.mkfn f) else match first.toList,caps.isEmpty with
  | [x],true=>(cx x).map (.mkbnd f)
  | _,_=>none
 | .makeInterface t x=>match P.underlying t with
  | some (.interface _)=>none
  | some _=>(cx x).map (.mkifc t)
  | none=>none
 | .makeSlice t l c=>match P.underlying t with
  | some (.slice e)=>match P.info? e with
   | some i=>match i.zero with
    | some z=>(kF P e).bind fun zs=>if z.cells.size=i.size∧0<i.size∧z.cells.all (·.oneCell')=true then (cx l).bind fun l=>(cx c).map fun c=>.mkslice i.size i.bytes zs l c else none
    | none=>none
   | none=>none
  | _=>none
 | .slice t x lo hi none=>match P.underlying t with
  | some .string=>(cx x).bind fun x=>(cxo lo).bind fun lo=>(cxo hi).map fun hi=>.slice none x lo hi
  | some (.slice e)=>if (P.info? e).isSome then (cx x).bind fun x=>(cxo lo).bind fun lo=>(cxo hi).map fun hi=>.slice (some (P.cellsOf e)) x lo hi else none
  | _=>none
 | .fieldAddr S x f=>match P.underlying S with
  | some (.struct fs)=>match fs[f]? with
   | some fd=>if 0<P.cellsOf fd.type then (cx x).map (.faddr fd.offset) else none
   | none=>none
  | _=>none
 | .indexAddr t x i=>match P.underlying t with
  | some (.slice e)=>if (P.info? e).isSome then (cx x).bind fun x=>(cx i).map fun i=>.iaddr (P.cellsOf e) x i else none
  | some (.array n e)=>if (P.info? e).isSome then (cx x).bind fun x=>(cx i).map fun i=>.baddr n (P.cellsOf e) x i else none
  | _=>none
 | .index t x i=>match P.underlying t with
  | some .string=>(cx x).bind fun x=>(cx i).map fun i=>.sidx x i
  | _=>none
 | .range t x=>match P.underlying t with
  | some .string=>(cx x).map .range
  | _=>none
 | .next x true=>(cx x).map .next
 | .makeMap t none=>match P.underlying t with
  | some (.map _ _)=>some .mkmap
  | _=>none
 | .lookup t x k b=>match P.underlying t with
  | some (.map kt e)=>match P.underlying kt,TR P e with
   | some .string,some z=>(cx x).bind fun x=>(cx k).map fun k=>.look b z x k
   | _,_=>none
  | _=>none
 | .mapEntry t x k=>match P.underlying t with
  | some (.map kt e)=>match P.underlying kt,TR P e with
   | some .string,some z=>(cx x).bind fun x=>(cx k).map fun k=>.ment z x k
   | _,_=>none
  | _=>none
 | .entryStore _ x i v=>(cx x).bind fun x=>(cx i).bind fun i=>(cx v).map fun v=>.mset x i v
 | .mapUpdate t x k v | .insert t x k v=>match P.underlying t with
  | some (.map kt _)=>match P.underlying kt with
   | some .string=>(cx x).bind fun x=>(cx k).bind fun k=>(cx v).map fun v=>.mput x k v
   | _=>none
  | _=>none
 | .extract x i=>(cx x).map (.extr · i)
 | .call c=>match c.callee with
  | .value (.func f)=>(cxs c.args.toList).map (.call full f)
  | .value x=>(cx x).bind fun x=>(cxs c.args.toList).map (.callv full x)
  | .invoke r m=>(cx r).bind fun x=>(cxs c.args.toList).map (.inv full m x)
  | .builtin .len=>match c.args.toList,(c.argTypes[0]?).bind P.underlying with
   | [x],some .string=>(cx x).map (.len true)
   | [x],some (.slice _)=>(cx x).map (.len false)
   | _,_=>none
  | .builtin .cap=>match c.args.toList,(c.argTypes[0]?).bind P.underlying with
   | [x],some (.slice _)=>(cx x).map .cap
   | _,_=>none
  | .builtin .copy=>match c.args.toList,c.argTypes[0]? with
   | [x,y],some t0=>match P.underlying t0 with
    | some (.slice e)=>match P.info? e with
     | some i=>if 0<i.size then (cx x).bind fun x=>(cx y).map fun y=>.cpy i.size x y else none
     | none=>none
    | _=>none
   | _,_=>none
  | .builtin .clear=>match c.args.toList,c.argTypes[0]? with
   | [x],some t0=>match P.underlying t0 with
    | some (.slice e)=>match P.info? e with
     | some i=>match i.zero with
      | some z=>(kF P e).bind fun zs=>if z.cells.size=i.size∧0<i.size∧z.cells.all (·.oneCell')=true then (cx x).map fun x=>.clr i.size zs x else none
      | none=>none
     | none=>none
    | _=>none
   | _,_=>none
  | .builtin .max=>(cxs c.args.toList).map .mx
  | .builtin .min=>(cxs c.args.toList).map .mn
  | .builtin .append=>match c.args.toList,c.argTypes[0]?,c.argTypes[1]? with
   | [x,y],some t0,some t1=>match P.underlying t0,P.underlying t1 with
    | some (.slice e),some td1=>match P.info? e with
     | some i=>match i.zero with
      | some z=>if iQ td1=false then (if z.cells.size=i.size∧0<i.size then (cx x).bind fun x=>(cx y).map fun y=>.append i.size i.bytes x y else none)
       else (kF P e).bind fun zs=>if z.cells.size=i.size∧0<i.size∧z.cells.all (·.oneCell')=true then (cx x).bind fun x=>(cx y).map fun y=>.appendz i.size i.bytes zs x y else none
      | none=>none
     | none=>none
    | _,_=>none
   | _,_,_=>none
  | _=>none
 | _=>none

section
variable {E:Env} {C:Ctx} {a:Act} {w:World} {ok:Nat→Prop} {β:Loc} {st:St} {K:DV→St→Prop}

theorem aH {x:Operand}{y:AX}(h:cx x=some y)(hs:SRep E C a w ok β st):Rep w ok β (a.eval x) (y.ev st.fr):=by
 cases x with
 | tmp t=>simp [cx] at h; obtain ⟨ht,h⟩:=h; subst h; exact hs.frt ht
 | const v=>
  simp only [cx,Option.map_eq_some_iff] at h
  obtain ⟨d,hd,rfl⟩:=h
  show Rep w ok β v d
  unfold cv at hd
  split at hd <;> first | (cases hd; done) | (injection hd with hd; subst hd)
  ·exact .bool _
  ·exact .int _ _
  ·exact .str _
  ·exact .nilp
  ·exact .nils 1 (by omega)
  ·exact .nilfn
  ·exact .nili
 | global g=>simp [cx] at h
 | func f=>simp [cx] at h; subst h; exact .fn f [] [] rfl (fun i v d hv _=>by simp at hv)

theorem gP:∀ {xs:List Operand}{ys:List AX}(_:cxs xs=some ys)(_:SRep E C a w ok β st),(xs.map a.eval).length=(ys.map (·.ev st.fr)).length ∧
  ∀ (i:Nat) v d,(xs.map a.eval)[i]?=some v→(ys.map (·.ev st.fr))[i]?=some d→Rep w ok β v d
 | [],ys,h,hs=>by
  simp [cxs] at h; subst h; exact ⟨rfl,fun i v d hv _=>by simp at hv⟩
 | x::xs,ys,h,hs=>by
  simp only [cxs,Option.bind_eq_some_iff,Option.map_eq_some_iff] at h
  obtain ⟨y,hy,ys',hys,rfl⟩:=h
  obtain ⟨h1,h2⟩:=gP hys hs
  refine ⟨by simpa using h1,fun i v d hv hd=>?_⟩
  cases i with
  | zero=>simp at hv hd; subst hv; subst hd; exact aH hy hs
  | succ i=>exact h2 i v d (by simpa using hv) (by simpa using hd)

theorem VV {v:Value}{d:DV}(h:vOK v d=true):Rep w ok β v d:=by
 unfold vOK at h
 split at h
 ·simp at h; subst h; exact .bool _
 ·simp at h; obtain ⟨rfl,rfl⟩:=h; exact .int _ _
 ·rename_i s l; exact dK s l (by simpa using h)
 ·exact .nilp
 ·exact .nils _ (by simpa using h)
 ·exact .nilfn
 ·exact .nili
 ·cases h
theorem rF:∀ {vs:List Value}{ds:List DV}(_:HF vs ds=true),vs.length=ds.length∧∀ (i:Nat) v d,vs[i]?=some v→ds[i]?=some d→Rep w ok β v d
 | [],[],_=>⟨rfl,fun i v d hv _=>by simp at hv⟩
 | [],_::_,h=>by simp [HF] at h
 | _::_,[],h=>by simp [HF] at h
 | v::vs,d::ds,h=>by
  simp only [HF,Bool.and_eq_true] at h
  obtain ⟨h1,h2⟩:=rF h.2
  refine ⟨by simp [h1],fun i v' d' hv hd=>?_⟩
  cases i with
  | zero=>simp at hv hd; subst hv; subst hd; exact VV h.1
  | succ i=>exact h2 i v' d' (by simpa using hv) (by simpa using hd)
theorem iB {t:TypeId}{ds:List DV}(h:kF E.P t=some ds):∃ z,(E.P.info? t).bind (·.zero)=some z∧z.cells.size=ds.length∧∀ (w:World) ok β (i:Nat) v d,z.cells[i]?=some v→ds[i]?=some d→Rep w ok β v d:=by
 unfold kF at h
 split at h
 ·rename_i z ds' hz _
  split at h
  ·rename_i hok
   injection h with h; subst h
   refine ⟨z,hz,?_,fun w ok β i v d hv hd=>(rF hok).2 i v d (by simpa using hv) hd⟩
   have:=(rF (w:=default) (ok:=fun _=>True) (β:=noLoc) hok).1
   simpa using this
  ·cases h
 ·cases h

theorem QY {z:List Value}{ds:List DV}{w:World}{ok:Nat→Prop}{β:Loc}(h:∀ (i:Nat) v d,z[i]?=some v→ds[i]?=some d→Rep w ok β v d)(i:Nat)(v:Value)(d:DV)(hv:z[i]?=some v)(hd:(ds.map DV.thin)[i]?=some d):Rep w ok β v d:=by
 rw [List.getElem?_map] at hd
 cases h0:ds[i]? with
 | none=>simp [h0] at hd
 | some d0=>
  simp [h0] at hd; subst hd
  have r:=h i v d0 hv h0
  cases d0 <;> first | exact r | (cases r; exact .emp0 _ _)
theorem tK {t:TypeId}{ds:List DV}(h:EY E.P t=some ds):∃ z,(E.P.info? t).bind (·.zero)=some z∧z.cells.size=ds.length∧∀ (w:World) ok β (i:Nat) v d,z.cells[i]?=some v→ds[i]?=some d→Rep w ok β v d:=by
 simp only [EY,Option.map_eq_some_iff] at h
 obtain ⟨ds0,h0,rfl⟩:=h
 obtain ⟨z,h1,h2,h3⟩:=iB h0
 split
 ·exact ⟨z,h1,h2,h3⟩
 ·exact ⟨z,h1,by simpa using h2,fun w ok β i u e hu he=>QY (z:=z.cells.toList) (fun i v d hv hd=>h3 w ok β i v d (by simpa using hv) hd) i u e (by simpa using hu) he⟩
theorem bK {o:Oper}{s:Sem Value}(he:execOp a.eval o=(do pure (.value (← s)))){next:Act→World→Prop}{Q:Exit→Act→World→Prop}(h:LV E C a K s w)
  (hn:∀ v d w' ok' β' st',K d st' → SRep E C a w' ok' β' st' → Rep w' ok' β' v d→next (a.put o.dst v) w'):o.wp E.P a w next Q:=by
 obtain ⟨v,w',ok',β',d,st',hr,h1,h2,h3⟩:=h
 unfold Oper.wp
 rw [he]
 simp only [Sem.run_bind,hr,Result.andThen_ok,Sem.run_pure]
 exact hn v d w' ok' β' st' h3 h1 h2
theorem rL {o:Oper}{v:Value}(he:execOp a.eval o=pure (.value v)){next:Act→World→Prop}{Q:Exit→Act→World→Prop}{d:DV}(hs:SRep E C a w ok β st)(hv:Rep w ok β v d)(hk:K d st)
  (hn:∀ v d w' ok' β' st',K d st' → SRep E C a w' ok' β' st' → Rep w' ok' β' v d→next (a.put o.dst v) w'):o.wp E.P a w next Q:=by
 unfold Oper.wp
 rw [he]
 exact hn v d w ok β st hk hs hv
end
section
variable {E:Env} {C:Ctx} {a:Act} {w:World} {ok:Nat→Prop} {β:Loc} {st:St} {K:DV→St→Prop}

theorem BJ {t:TypeId}{td:TypeDesc}{i:TypeInfo}(ht:E.P.underlying t=some td)(hi:E.P.info? t=some i){v:Value}{x:AX}(hs:SRep E C a w ok β st)(hv:Rep w ok β v (x.ev st.fr))
  (hk:aop E (.load (if gZ td then some i.size else none) x) K st):LV E C a K (loadAt t v) w:=by
 cases hb:gZ td with
 | false=>
  simp only [hb,Bool.false_eq_true,if_false,aop] at hk
  generalize hd:x.ev st.fr=d at hv hk
  have hb' := hb
  cases hv with
  | ptr l o b x' h=>
   obtain ⟨cs,hl,d,hd',hk⟩:=hk
   obtain ⟨b',vs,ty,fz,g1,g2,g3,g4,g5⟩:=hs.heap.obj l _ hl
   rw [h] at g1
   injection g1 with g1; injection g1 with e1 e2
   subst e1; subst e2
   have ho:o<vs.size:=by
    rcases Nat.lt_or_ge o cs.length with h' | h'
    ·omega
    ·rw [List.getElem?_eq_none h'] at hd'; cases hd'
   exact sE ht hb' hs (v:=vs[o]) (by simp [World.cell?,g2,ho]) (g5 o _ d (Array.getElem?_eq_getElem ho) hd') hk
  | aptr sz l j q b x' h=>
   obtain ⟨es,hl,e,he,d,hd',hk⟩:=hk
   obtain ⟨h1,h2⟩:=hs.heap.obj l _ hl
   have hel:=h1 e (List.mem_of_getElem? he)
   rcases h2 with ⟨h2,_⟩|⟨hz,b',x2,vs,ty,fz,g1,g2,g3,g4,g5⟩
   ·subst h2; simp at he
   ·rw [h] at g1
    injection g1 with g1; injection g1 with e1 e2
    subst e1; subst e2
    have hq:q<sz:=by
     rcases Nat.lt_or_ge q e.length with h' | h'
     ·omega
     ·rw [List.getElem?_eq_none h'] at hd'; cases hd'
    have hj:j<es.length:=by
     rcases Nat.lt_or_ge j es.length with h' | h'
     ·exact h'
     ·rw [List.getElem?_eq_none h'] at he; cases he
    have hin:x' + (j*sz+q)<vs.size:=by
     have:(j+1)*sz≤es.length*sz:=Nat.mul_le_mul_right _ hj
     rw [Nat.succ_mul] at this; omega
    have hf:=bZ h1 he hq
    exact sE ht hb' hs (v:=vs[x' + (j*sz+q)]) (by simp [World.cell?,g2,hin]) ((g5 _ _ d (Array.getElem?_eq_getElem hin) (by rw [hf]; exact hd')).2.shut_none) hk
  | eptr cs o b x' vs hok hc hh=>
   obtain ⟨d,hd',hk⟩:=hk
   have ho:o<cs.length:=by
    rcases Nat.lt_or_ge o cs.length with h' | h'
    ·exact h'
    ·rw [List.getElem?_eq_none h'] at hd'; cases hd'
   exact sE ht hb' hs (hc o ho) ((hh o d hd').shut_none) hk
  | _=>exact hk.elim
 | true=>
  simp only [hb,if_true,aop] at hk
  generalize hd:x.ev st.fr=d at hv hk
  have hb' := hb
  cases hv with
  | ptr l o b x' h=>
   obtain ⟨cs,hl,hn,hk⟩:=hk
   obtain ⟨b',vs,ty,fz,g1,g2,g3,g4,g5⟩:=hs.heap.obj l _ hl
   rw [h] at g1
   injection g1 with g1; injection g1 with e1 e2
   subst e1; subst e2
   refine rI ht hb' hi (vs:=(vs.toList.drop o).take i.size) (by simp; omega) (by simp; omega) hs (fun j v hv=>?_) (fun j v e hv he=>?_) hk
   ·rw [List.getElem?_take] at hv
    split at hv
    ·rw [List.getElem?_drop] at hv
     rw [cN]
     simpa [World.cell?,g2,Nat.add_assoc] using hv
    ·cases hv
   ·rw [List.getElem?_take] at hv he
    split at hv
    ·rename_i hj
     rw [if_pos hj,List.getElem?_drop] at he
     rw [List.getElem?_drop] at hv
     exact g5 _ v e (by simpa using hv) he
    ·cases hv
  | aptr sz l j q b x' h=>
   obtain ⟨es,hl,e,he,hn,hk⟩:=hk
   obtain ⟨h1,h2⟩:=hs.heap.obj l _ hl
   have hel:=h1 e (List.mem_of_getElem? he)
   rcases h2 with ⟨h2,_⟩|⟨hz,b',x2,vs,ty,fz,g1,g2,g3,g4,g5⟩
   ·subst h2; simp at he
   ·rw [h] at g1
    injection g1 with g1; injection g1 with e1 e2
    subst e1; subst e2
    have hj:j<es.length:=by
     rcases Nat.lt_or_ge j es.length with h' | h'
     ·exact h'
     ·rw [List.getElem?_eq_none h'] at he; cases he
    have hin:x' + (j*sz+q)+i.size≤vs.size:=by
     have:(j+1)*sz≤es.length*sz:=Nat.mul_le_mul_right _ hj
     rw [Nat.succ_mul] at this; omega
    refine rI ht hb' hi (vs:=(vs.toList.drop (x' + (j*sz+q))).take i.size) (by simp; omega) (by simp; omega) hs (fun k v hv=>?_) (fun k v d hv hd2=>?_) hk
    ·rw [List.getElem?_take] at hv
     split at hv
     ·rw [List.getElem?_drop] at hv
      rw [cN]
      simpa [World.cell?,g2] using hv
     ·cases hv
    ·rw [List.getElem?_take] at hv hd2
     split at hv
     ·rename_i hk'
      rw [if_pos hk',List.getElem?_drop] at hd2
      rw [List.getElem?_drop] at hv
      have hf:=bZ h1 he (q:=q+k) (by omega)
      exact (g5 (j*sz+(q+k)) v d (by
       have e3:x' + (j*sz+(q+k))=x' + (j*sz+q)+k:=by omega
       rw [e3]; simpa using hv) (by rw [hf]; exact hd2)).2.shut_none
     ·cases hv
  | eptr cs o b x' vs hok hc hh=>
   obtain ⟨hn,hk⟩:=hk
   refine rI ht hb' hi (vs:=(List.range i.size).map fun k=>vs (o+k)) (by simp) (by simp; omega) hs (fun j v hv=>?_) (fun j v e hv he=>?_) hk
   ·rw [List.getElem?_map] at hv
    rcases Nat.lt_or_ge j i.size with h' | h'
    ·rw [List.getElem?_range h'] at hv
     simp at hv
     subst hv
     rw [cN,Nat.add_assoc]
     exact hc _ (by omega)
    ·rw [List.getElem?_eq_none (by simpa using h')] at hv; cases hv
   ·rw [List.getElem?_map] at hv
    rcases Nat.lt_or_ge j i.size with h' | h'
    ·rw [List.getElem?_range h'] at hv
     simp at hv
     subst hv
     rw [List.getElem?_take,if_pos h',List.getElem?_drop] at he
     exact (hh _ e he).shut_none
    ·rw [List.getElem?_eq_none (by simpa using h')] at hv; cases hv
  | _=>exact hk.elim

theorem Rep.aptr_inv {v:Value}{sz l j q:Nat}(h:Rep w ok β v (.aptr sz l j q)):∃ b x,β l=some (b,x)∧v=.pointer (some ⟨b,x+(j*sz+q),none⟩):=by
 cases h with
 | aptr _ _ _ _ b x h=>exact ⟨b,x,h,rfl⟩

theorem CN {t:TypeId}{i:TypeInfo}(hi:E.P.info? t=some i){u:Value}{e:DV}{sz l j q b x' : Nat}{es:List (List DV)}{el:List DV}(hs:SRep E C a w ok β st)(h:β l=some (b,x'))(hu:Rep w ok β u e)
  (hl:st.h[l]?=some (.arr sz es)) (hel:es[j]?=some el) (hcl:e.closed=true) (h1:e.cells.all DV.one=true) (h2:e.cells.length=i.size) (h3:q+i.size≤el.length)
  (hk:K .undef (st.at l (.arr sz (es.set j (el.take q++e.cells++el.drop (q+i.size)))))):∃ w' β' st',(storeAt t (.pointer (some ⟨b,x' + (j*sz+q),none⟩)) u).run E.P w=.ok () w' ∧ SRep E C a w' ok β' st' ∧ K .undef st' := by
 obtain ⟨c1,c2,c3⟩:=hu.cells h1
 obtain ⟨q1,q2⟩:=hs.heap.obj l _ hl
 have hell:=q1 el (List.mem_of_getElem? hel)
 have hj:j<es.length:=by
  rcases Nat.lt_or_ge j es.length with h' | h'
  ·exact h'
  ·rw [List.getElem?_eq_none h'] at hel; cases hel
 rcases q2 with ⟨q2,_⟩|⟨hz,b',x2,vs,ty,fz,g1,g2,g3,g4,g5⟩
 ·subst q2; simp at hj
 ·rw [h] at g1
  injection g1 with g1; injection g1 with e1 e2
  subst e1; subst e2
  have hrow:(j+1)*sz≤es.length*sz:=Nat.mul_le_mul_right _ hj
  rw [Nat.succ_mul] at hrow
  have hcl' : u.cells.toList.length=i.size:=by simp; omega
  obtain ⟨w',r,o1,o2,o3,o4,oth,cur',f1,f2,f3⟩:=bI E.P b (x' + (j*sz+q)) ty fz u.cells.toList 0 vs w g2 g3 (by rw [hcl']; omega) c3
  have hmono:∀ {v:Value} {d:DV},Rep w ok noLoc v d→Rep w' ok noLoc v d:=fun h' => h'.mono (fun _ k=>k)
   (fun k hk=>oth k fun e=>hs.heap.dis l b x' h (e▸hk)) (fun l' y hy=>by simp [noLoc] at hy)
  have hset:∀ e' ∈ es.set j (el.take q++e.cells++el.drop (q+i.size)),e'.length=sz:=fun e' he' => by
   rcases List.mem_or_eq_of_mem_set he' with h' | h'
   ·exact q1 e' h'
   ·subst h'; simp; omega
  refine ⟨w',β,_,?_,hs.write l b x' (.arr sz (es.set j (el.take q++e.cells++el.drop (q+i.size)))) _ h hl (fun cs h' => by cases h') o1 o2 o3 o4 oth (by simp [World.shape?,f1,g2,f2])
   ⟨hset,.inr ⟨hz,b,x',cur',ty,fz,h,f1,by rw [f2]; exact g3,by rw [f2]; simpa using g4,fun k v d hv' hd' => ?_⟩⟩,hk⟩
  ·have:=lW (w:=w) hi (v:=u) (by omega) (b:=b) (x:=x' + (j*sz+q)) (s:=storeCells ⟨b,x' + (j*sz+q),none⟩ u.cells.toList) rfl
   rw [this]; exact r
  ·rw [f3,hcl'] at hv'
   have hfl:(es.set j (el.take q++e.cells++el.drop (q+i.size))).flatten[k]?=if j*sz+q≤k∧k<j*sz+q+i.size then e.cells[k - (j*sz+q)]? else es.flatten[k]?:=by
    have hkd:k<es.length*sz∨es.length*sz≤k:=Nat.lt_or_ge _ _
    rcases hkd with hk1|hk1
    ·have hkm:k / sz<es.length:=Nat.div_lt_of_lt_mul (by rw [Nat.mul_comm]; exact hk1)
     have hkr:k % sz<sz:=Nat.mod_lt _ hz
     have hke:k=k / sz*sz+k % sz:=by have:=Nat.div_add_mod k sz; rw [Nat.mul_comm] at this; omega
     have hgs:(es.set j (el.take q++e.cells++el.drop (q+i.size)))[k / sz]?=some (if k / sz=j then el.take q++e.cells++el.drop (q+i.size) else es[k / sz]):=by
      by_cases hj2:k / sz=j
      ·rw [if_pos hj2,hj2,List.getElem?_set_self (by omega)]
      ·rw [if_neg hj2,List.getElem?_set_ne (fun q=>hj2 q.symm),List.getElem?_eq_getElem hkm]
     have hf1:=bZ hset hgs hkr
     rw [← hke] at hf1
     rw [hf1]
     by_cases hj2:k / sz=j
     ·rw [if_pos hj2,kG _ _ _ _ _ h2 h3]
      have hf2:=bZ q1 hel hkr
      have hke2:j*sz+k % sz=k:=by rw [← hj2]; exact hke.symm
      rw [hke2] at hf2
      by_cases hin:q≤k % sz∧k % sz<q+i.size
      ·rw [if_pos hin,if_pos (by omega)]
       congr 1; omega
      ·rw [if_neg hin,if_neg (by omega),hf2]
     ·rw [if_neg hj2,if_neg (by
       rintro ⟨hh1,hh2⟩
       have:k / sz=j:=by
        apply Nat.div_eq_of_lt_le
        ·omega
        ·rw [Nat.succ_mul]; omega
       exact hj2 this)]
      have hf2:=bZ q1 (List.getElem?_eq_getElem hkm) hkr
      rw [← hke] at hf2
      exact hf2.symm
    ·rw [List.getElem?_eq_none (by rw [aP hset]; simpa using hk1),if_neg (by omega),List.getElem?_eq_none (by rw [aP q1]; exact hk1)]
   rw [hfl] at hd'
   by_cases hin:j*sz+q≤k∧k<j*sz+q+i.size
   ·rw [if_pos hin] at hd'
    rw [if_pos (by omega)] at hv'
    have e4:x' + k - (x' + (j*sz+q)+0)=k - (j*sz+q):=by omega
    rw [e4] at hv'
    exact ⟨c3 v (List.mem_of_getElem? hv'),hmono ((c2 _ v d (by simpa using hv') hd').shut (kY hcl (List.mem_of_getElem? hd')))⟩
   ·rw [if_neg hin] at hd'
    rw [if_neg (by omega)] at hv'
    exact ⟨(g5 k v d hv' hd').1,hmono (g5 k v d hv' hd').2⟩

theorem yQ {o:Oper}{t:TypeId}{i:TypeInfo}(hi:E.P.info? t=some i){v u:Value}{x y:AX}(hs:SRep E C a w ok β st)(hv:Rep w ok β v (x.ev st.fr))(hu:Rep w ok β u (y.ev st.fr))
  {full:Bool} (hk:aop E (.store full i.size x y) K st):∃ w' ok' β' st',(storeAt t v u).run E.P w=.ok () w' ∧ SRep E C a w' ok' β' st' ∧ K .undef st' := by
 simp only [aop] at hk
 generalize hd:x.ev st.fr=d at hv hk
 generalize he:y.ev st.fr=e at hu hk
 cases hv with
 | ptr l o b x' h=>
  obtain ⟨cs,hl,h1,h2,h3,hk⟩:=hk
  obtain ⟨b',vs,ty,fz,g1,g2,g3,g4,g5⟩:=hs.heap.obj l _ hl
  rw [h] at g1
  injection g1 with g1; injection g1 with e1 e2
  subst e1; subst e2
  obtain ⟨w',r1,r2⟩:=FX (o:=o) hi hs h hl hu h1 h2 h3
  exact ⟨w',ok,β,_,r1,r2,hk⟩
 | aptr sz l j q b x' h=>
  obtain ⟨ds',st',ok',β',hk,hs',hlen,hds,hp⟩:=nG hs hk.2
  obtain ⟨d',rfl,es,hl,el,hel,hcl,h1,h2,h3,hk⟩:=hk
  have hu' := hds [u] (fun i v d hv hd=>by
   cases i with
   | zero=>simp at hv hd; subst hv; subst hd; exact hu
   | succ i=>simp at hv) 0 u d' rfl rfl
  have hv' := hp _ sz l j q sz es (.aptr sz l j q b x' h) hl
  obtain ⟨b2,x2,h',e'⟩:=hv'.aptr_inv
  obtain ⟨w',β2,st2,r1,r2,r3⟩:=CN hi hs' h' hu' hl hel hcl h1 h2 h3 hk
  exact ⟨w',ok',β2,st2,by rw [e']; exact r1,r2,r3⟩
 | _=>exact hk.elim
end
end Go.Ai
