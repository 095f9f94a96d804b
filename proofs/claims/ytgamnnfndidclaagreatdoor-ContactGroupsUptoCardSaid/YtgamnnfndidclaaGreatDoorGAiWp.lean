/- The small language that a function's text is turned into, and what must hold ahead of it. -/
import Derived.Test.YtgamnnfndidclaaGreatDoorGAiState
set_option linter.all false
namespace Go.Ai

inductive AX where
 | t (s:Nat)
 | c (d:DV)
 deriving Inhabited
def AX.ev (fr:Nat→DV):AX→DV
 | .t s=>fr s
 | .c d=>d

inductive CV where
 | int (k:IntKind) | id | i2s | s2b | b2s | s2r | r2s
 deriving DecidableEq,Inhabited
inductive FK where
 | int | str | bool
 deriving DecidableEq,Inhabited
inductive Ty where
 | prim | bool | ptr | slc | ifc | flat (l:List FK) | other
 deriving DecidableEq,Inhabited

inductive AOp where
 | mov (x:AX)
 | set (x:AX)
 | newnil (sz:Nat)
 | pick (c a b:AX)
 | box (x:AX)
 | alloc (zero:List DV)
 | allocb (t e:Nat)
 | build (zero:List DV) (parts:List (Nat×Nat×AX))
 | bslice (full:Bool) (sz:Nat) (parts:List AX)
 | load (agg:Option Nat) (x:AX)
 | store (full:Bool) (n:Nat) (x v:AX)
 | nilchk (x:AX)
 | bin (op:BinOp) (ty:Ty) (x y:AX)
 | un (op:UnOp) (x:AX)
 | conv (k:CV) (x:AX)
 | mkfn (f:Nat) (caps:List AX)
 | mkifc (t:Nat) (x:AX)
 | mkbnd (f:Nat) (x:AX)
 | inv (full:Bool) (m:String) (x:AX) (args:List AX)
 | mkslice (sz bytes:Nat) (zero:List DV) (l c:AX)
 | slice (k:Option Nat) (x:AX) (lo hi:Option AX)
 | faddr (off:Nat) (x:AX)
 | field (off:Nat) (agg:Option Nat) (x:AX)
 | iaddr (sz:Nat) (x i:AX)
 | baddr (n sz:Nat) (x i:AX)
 | sidx (x i:AX)
 | range (x:AX)
 | next (x:AX)
 | extr (x:AX) (i:Nat)
 | call (full:Bool) (f:Nat) (args:List AX)
 | callv (full:Bool) (x:AX) (args:List AX)
 | len (s:Bool) (x:AX)
 | cap (x:AX)
 | append (sz bytes:Nat) (x y:AX)
 | appendz (sz bytes:Nat) (zero:List DV) (x n:AX)
 | appendf (sz bytes:Nat) (x y:AX)
 | cpy (sz:Nat) (x y:AX)
 | clr (sz:Nat) (z:List DV) (x:AX)
 | mkmap
 | look (ok:Bool) (z:PV) (x k:AX)
 | ment (z:PV) (x k:AX)
 | mset (x i v:AX)
 | mput (x k v:AX)
 | bad
 | mn (args:List AX)
 | mx (args:List AX)
 deriving Inhabited

structure AOper where
 dst:Option Nat
 op:AOp
 guard:Option (Nat×Bool)
 deriving Inhabited

inductive ACode where
 | skip
 | region (draw:Bool) (ops:List AOper)
 | seq (a b:ACode)
 | cond (c:AX) (a b:ACode)
 | block (id:Nat) (b:ACode)
 | loop (b:ACode)
 | exit (id:Nat)
 | ret
 | jump (g:Nat) (a b:ACode)
 | both (a b:ACode)
 | wk (a:ACode)
 deriving Inhabited

inductive RV where
 | t (s:Nat)
 | cell (s:Nat) (agg:Option Nat)
 deriving Inhabited
structure AFun where
 np:Nat
 nt:Nat
 res:List RV
 body:ACode
 deriving Inhabited

def DV.cells:DV→List DV
 | .agg l=>l
 | d=>[d]

def eJ (d:DV)(h:List AObj):DV×List AObj:=
 match d with
 | .nils sz=>(.osl sz h.length 0 0 none,h++[.arr sz []])
 | d=>(d,h)
def aK:List DV→List AObj→List DV×List AObj
 | [],h=>([],h)
 | d::l,h=>let (d',h1):=eJ d h; let (l',h2):=aK l h1; (d' :: l',h2)
def vC (d:DV)(h:List AObj):DV×List AObj:=
 match d with
 | .agg l=>let (l',h'):=aK l h; (.agg l',h')
 | d=>eJ d h

def DV.scalar:DV→Bool
 | .int _ _ | .bool _ | .str _ | .nilp | .nilfn | .nili=>true
 | .agg l | .tup l=>scalarAll l
 | _=>false
where scalarAll:List DV→Bool
 | []=>true
 | d::l=>d.scalar&&scalarAll l

def DV.low (ρ:Nat→Option Nat)(h:List AObj):DV→DV
 | .ptr l o=>match ρ l with
  | some i=>.ptr i o
  | none=>match h[l]? with
   | some (.box cs)=>if cs.all DV.closed=true then .eptr cs o else .undef
   | _=>.undef
 | .mp l=>match ρ l with | some i=>.mp i | none=>.undef
 | .aptr sz l j q=>match ρ l with | some i=>.aptr sz i j q | none=>.undef
 | .self l t m=>match ρ l with | some i=>.self i t m | none=>.undef
 | .hdr m e n=>match ρ m with | some i=>.hdr i e n | none=>.undef
 | .osl sz l off n cap=>match ρ l with
  | some i=>.osl sz i off n cap
  | none=>match h[l]? with
   | some (.arr sz' es)=>if sz' = sz∧off+n≤es.length then .sl sz ((es.drop off).take n) else .undef
   | _=>.undef
 | .agg l=>.agg (lowAll ρ h l)
 | .tup l=>.tup (lowAll ρ h l)
 | .fn f l=>.fn f (lowAll ρ h l)
 | .ifc f l=>.ifc f (lowAll ρ h l)
 | .bnd f l=>.bnd f (lowAll ρ h l)
 | d=>d
where lowAll (ρ:Nat→Option Nat) (h:List AObj):List DV→List DV
 | []=>[]
 | d::l=>d.low ρ h::lowAll ρ h l
def jV (ρ:Nat→Option Nat)(h:List AObj):AObj→AObj
 | .box cs=>.box (cs.map (DV.low ρ h))
 | o=>o
def DV.dn (ls:List Nat)(h:List AObj):DV→DV:=DV.low (fun l=>ls.idxOf? l) h

def DV.ren (ρ:Nat→Nat):DV→DV
 | .ptr l o=>.ptr (ρ l) o
 | .mp l=>.mp (ρ l)
 | .aptr sz l j q=>.aptr sz (ρ l) j q
 | .osl sz l off n cap=>.osl sz (ρ l) off n cap
 | .self l t m=>.self (ρ l) t m
 | .hdr m e n=>.hdr (ρ m) e n
 | .agg l=>.agg (renAll ρ l)
 | .tup l=>.tup (renAll ρ l)
 | .fn f l=>.fn f (renAll ρ l)
 | .ifc f l=>.ifc f (renAll ρ l)
 | .bnd f l=>.bnd f (renAll ρ l)
 | d=>d
where renAll (ρ:Nat→Nat):List DV→List DV
 | []=>[]
 | d::l=>d.ren ρ::renAll ρ l
def aR (ρ:Nat→Nat):AObj→AObj
 | .box cs=>.box (cs.map (DV.ren ρ))
 | o=>o

def Ent (P : Program) (f : Nat) : Prop := ∃ fn, P.funcs[f]? = some fn ∧ (fn.name == "runtime.NumGoroutine") = false ∧ fn.body.isNone = false

def eK (E:Env)(kp:Bool)(f:Nat)(h:List AObj)(args:List DV)(post:List AObj→DV→Prop):Prop:=
 Ent E.P f∧∀ (w:World) (ok:Nat→Prop) (β:Loc) (vs:List Value),E.G w→E.N≤w.heap.size→HRep E.N w ok β h→vs.length=args.length →
  (∀ (i:Nat) v d,vs[i]?=some v→args[i]?=some d→Rep w ok β v d) →
  Calls E.P f vs.toArray w fun e w' => ∃ v ok' β' h' d,e=.returned v∧post h' d∧E.G w' ∧ Ev w ok β w' ok' β' ∧ HRep E.N w' ok' β' h' ∧ Rep w' ok' β' v d ∧
   (∀ (l:Nat) cs,h[l]?=some (.box cs)→β' l=β l∧∃ cs',h'[l]?=some (.box cs'))∧h.length≤h'.length∧(kp=true→∀ l,l<h.length→β' l=β l)
abbrev ACalls (E:Env)(f:Nat)(h:List AObj)(args:List DV)(post:List AObj→DV→Prop):Prop:=eK E false f h args post

def DV.inL (p:Nat→Bool):DV→Bool
 | .ptr l _=>p l
 | .mp l=>p l
 | .aptr _ l _ _=>p l
 | .osl _ l _ _ _=>p l
 | .self l _ _=>p l
 | .hdr m _ _=>p m
 | .agg l | .tup l | .fn _ l | .ifc _ l | .bnd _ l=>inAll p l
 | _=>true
where inAll (p:Nat→Bool):List DV→Bool
 | []=>true
 | d::l=>d.inL p&&inAll p l
def DV.under (m:Nat)(d:DV):Bool:=d.inL (fun l=>decide (l<m))
def inO (p:Nat→Bool):AObj→Bool
 | .box cs=>cs.all (DV.inL p)
 | _=>true
def DV.free:DV→Bool
 | .sl _ es=>es.isEmpty
 | .eptr _ _=>false
 | .agg l | .tup l | .fn _ l | .ifc _ l | .bnd _ l=>freeAll l
 | _=>true
where freeAll:List DV→Bool
 | []=>true
 | d::l=>d.free&&freeAll l
def iD:AObj→Bool
 | .box cs=>cs.all DV.free
 | .arr _ es=>es.all fun e=>e.all DV.free
 | _=>true
def dP:Option AObj→Bool
 | some (.box _)=>true
 | _=>false
def upL (n:Nat)(ls:List Nat)(i:Nat):Nat:=match ls[i]? with | some l=>l | none=>n+(i - ls.length)
def bB:List AObj→List Nat→List AObj→List AObj
 | h,l::ls,o::os=>bB (h.set l o) ls os
 | h,_,_=>h
def St.handed (st:St)(kp:Bool)(ls:List Nat)(h' : List AObj):St:=
 let k:=ls.filter fun l => !dP st.h[l]?
 let st1:=if kp||k.isEmpty then st else st.kill k.contains
 ⟨st1.fr,bB st1.h ls (h'.map (aR (upL st.h.length ls)))++(h'.drop ls.length).map (aR (upL st.h.length ls))⟩

def uK (E:Env)(full:Bool)(f:Nat)(ds:List DV)(K:DV→St→Prop)(st:St):Prop:=
 (∃ post:DV→Prop,ACalls E f [] (ds.map (DV.dn [] st.h)) (fun h' d=>h' = []∧post d)∧(∃ d,post d)∧∀ d,post d→d.scalar=true∧K d st) ∨
 (∃ post:List AObj→DV→Prop,ACalls E f [] ds post∧(∀ d∈ds,d.closed=true)∧(∃ h' d,post h' d) ∧
  ∀ h' d,post h' d→K (d.ren (st.h.length + ·)) { st with h:=st.h++h'.map (aR (st.h.length + ·)) }) ∨
 (∃ (kp:Bool) (ls:List Nat) (post:List AObj→DV→Prop),(full=true∨(kp=false∧ls=[]∧∃ h' d,post h' d))∧ls.Nodup∧(∀ l∈ls,l<st.h.length) ∧
  eK E kp f (ls.map fun l=>jV (fun l=>ls.idxOf? l) st.h (st.h.getD l .dead)) (ds.map (DV.dn ls st.h)) post ∧
  ∀ h' d,post h' d→((ds.all (DV.inL ls.contains)&&ls.all (fun l=>inO ls.contains (st.h.getD l .dead)))=true∨(d.free&&h'.all iD)=true) ∧
   K (d.ren (upL st.h.length ls)) (st.handed kp ls h'))

def DV.owns:DV→List Nat
 | .osl _ l _ _ _=>[l]
 | .agg l | .tup l | .fn _ l | .ifc _ l | .bnd _ l=>ownsAll l
 | _=>[]
where ownsAll:List DV→List Nat
 | []=>[]
 | d::l=>d.owns++ownsAll l
def cP:Option AObj→Bool
 | some (.arr _ _)=>true
 | _=>false
def frz (F:List Nat)(l:Nat):Option Nat:=if F.contains l then none else some l
def lL (F:List Nat)(h:List AObj)(l:Nat)(o:AObj):AObj:=if F.contains l then .dead else jV (frz F) h o
def St.freeze (st:St)(F:List Nat):St:=⟨fun s=>(st.fr s).low (frz F) st.h,st.h.zipIdx.map fun (o,l)=>lL F st.h l o⟩
inductive acall (E:Env) (full:Bool) (f:Nat):List DV→(DV→St→Prop)→St→Prop
 | go {ds:List DV} {K:DV→St→Prop} {st:St} (h:uK E full f ds K st):acall E full f ds K st
 | frz {ds:List DV} {K:DV→St→Prop} {st:St} (F:List Nat) (hf:full=true) (hF:∀ l∈F,cP st.h[l]?=true) (h:acall E full f (ds.map fun d=>d.low (Go.Ai.frz F) st.h) K (st.freeze F)):acall E full f ds K st
def fP (ds:List DV)(st:St)(K:List DV→St→Prop):Prop:=
 if ds.all DV.closed=true then K ds st
 else K (ds.map (DV.low (frz ((ds.flatMap DV.owns).filter fun l=>cP st.h[l]?)) st.h)) (st.freeze ((ds.flatMap DV.owns).filter fun l=>cP st.h[l]?))

def eqL:List FK→List DV→List DV→Option Bool
 | [],[],[]=>some true
 | .int::f,.int k a::l,.int k' b::l' => if k=k' then (eqL f l l').map (decide (a=b) && ·) else none
 | .str::f,.str a::l,.str b::l' => (eqL f l l').map (decide (a=b) && ·)
 | .bool::f,.bool a::l,.bool b::l' => (eqL f l l').map ((a == b) && ·)
 | _,_,_=>none
def iI (op:BinOp)(b:Bool)(K:DV→Prop):Prop:=
 match op with
 | .eql=>K (.bool b)
 | .neq=>K (.bool !b)
 | _=>False
def aT (op:BinOp)(ty:Ty)(x y:DV)(K:DV→Prop):Prop:=
 match ty,x,y with
 | .prim,.int k a,.int k' b=>
  match op with
  | .shl=>0≤b∧K (.int k (k.wrap (a*2 ^ min b.toNat k.bits)))
  | .shr=>0≤b∧K (.int k (a.fdiv (2 ^ min b.toNat k.bits)))
  | .add=>k=k' ∧ K (.int k (k.wrap (a+b)))
  | .sub=>k=k' ∧ K (.int k (k.wrap (a - b)))
  | .mul=>k=k' ∧ K (.int k (k.wrap (a*b)))
  | .quo=>k=k' ∧ b≠0∧K (.int k (k.wrap (a.tdiv b)))
  | .rem=>k=k' ∧ b≠0∧K (.int k (a.tmod b))
  | .and=>k=k' ∧ K (.int k (k.wrap (BitVec.ofInt k.bits a &&& BitVec.ofInt k.bits b).toNat))
  | .or=>k=k' ∧ K (.int k (k.wrap (BitVec.ofInt k.bits a ||| BitVec.ofInt k.bits b).toNat))
  | .xor=>k=k' ∧ K (.int k (k.wrap (BitVec.ofInt k.bits a ^^^ BitVec.ofInt k.bits b).toNat))
  | .eql=>k=k' ∧ K (.bool (decide (a=b)))
  | .neq=>k=k' ∧ K (.bool (!decide (a=b)))
  | .lss=>k=k' ∧ K (.bool (decide (a<b)))
  | .leq=>k=k' ∧ K (.bool (decide (a≤b)))
  | .gtr=>k=k' ∧ K (.bool (decide (b<a)))
  | .geq=>k=k' ∧ K (.bool (decide (b≤a)))
  | _=>False
 | .prim,.str a,.str b=>
  match op with
  | .add=>a.length+b.length≤4611686018427387904∧K (.str (a++b))
  | .eql=>K (.bool (decide (a=b)))
  | .neq=>K (.bool (!decide (a=b)))
  | .lss=>K (.bool (Op.bytesLess a b))
  | .leq=>K (.bool (Op.bytesLess a b||decide (a=b)))
  | .gtr=>K (.bool (!(Op.bytesLess a b||decide (a=b))))
  | .geq=>K (.bool (!Op.bytesLess a b))
  | _=>False
 | .bool,.bool a,.bool b=>
  match op with
  | .eql=>K (.bool (a == b))
  | .neq=>K (.bool (!(a == b)))
  | _=>False
 | .flat n,.agg l,.agg l' =>
  match op with
  | .eql=>∃ b,eqL n l l' = some b∧K (.bool b)
  | .neq=>∃ b,eqL n l l' = some b∧K (.bool !b)
  | _=>False
 | .ptr,.nilp,.nilp=>iI op true K
 | .ptr,.ptr _ _,.nilp=>iI op false K
 | .ptr,.aptr _ _ _ _,.nilp=>iI op false K
 | .ptr,.eptr _ _,.nilp=>iI op false K
 | .slc,.osl _ _ _ n _,.nils _=>0<n∧iI op false K
 | .slc,.sl _ es,.nils _=>es≠[]∧iI op false K
 | .slc,.emp b _,.nils _=>iI op b K
 | .ifc,.nili,.nili=>iI op true K
 | .ifc,.ifc _ _,.nili=>iI op false K
 | _,_,_=>False

def unD (op:UnOp)(x:DV)(K:DV→Prop):Prop:=
 match op,x with
 | .not,.bool b=>K (.bool !b)
 | .neg,.int k n=>K (.int k (k.wrap (0 - n)))
 | _,_=>False

def bF (s:List UInt8):Nat→Nat→List Int
 | 0,_=>[]
 | n+1,i=>if i<s.length then ((Utf8.decode ⟨s.toArray⟩ i).1:Int)::bF s n (i+(Utf8.decode ⟨s.toArray⟩ i).2) else []

def gG (cv:CV)(x:DV)(K:DV→St→Prop)(st:St):Prop:=
 match cv,x with
 | .int k,.int _ n=>K (.int k (k.wrap n)) st
 | .id,.str s=>K (.str s) st
 | .i2s,.int _ n=>K (.str (Utf8.encode n).data.toList) st
 | .s2b,.str s=>K (.osl 1 st.h.length 0 s.length none) (st.new (.arr 1 (s.map fun b=>[.int .u8 b.toNat])))∨(s=[]∧K (.emp false 1) (st.new (.arr 1 [])))
 | .s2r,.str s=>K (.osl 1 st.h.length 0 (bF s s.length 0).length none) (st.new (.arr 1 ((bF s s.length 0).map fun r=>[.int .i32 r])))
 | .b2s,.sl 1 es=>∃ bs:List UInt8,es=bs.map (fun b=>[.int .u8 b.toNat])∧K (.str bs) st
 | .b2s,.osl 1 l off n _=>(n=0∧K (.str []) st)∨∃ es,st.h[l]?=some (.arr 1 es)∧off+n≤es.length∧∃ bs:List UInt8,(es.drop off).take n=bs.map (fun b=>[.int .u8 b.toNat])∧K (.str bs) st
 | .b2s,.nils _=>K (.str []) st
 | .r2s,.sl 1 es=>∃ rs:List Int,es=rs.map (fun r=>[.int .i32 r])∧K (.str (rs.flatMap fun r=>(Utf8.encode r).data.toList)) st
 | .r2s,.osl 1 l off n _=>(n=0∧K (.str []) st)∨∃ es,st.h[l]?=some (.arr 1 es)∧off+n≤es.length∧∃ rs:List Int,(es.drop off).take n=rs.map (fun r=>[.int .i32 r])∧K (.str (rs.flatMap fun r=>(Utf8.encode r).data.toList)) st
 | .r2s,.nils _=>K (.str []) st
 | _,_=>False

def bt (s:List UInt8)(i:Nat):Int:=((s.getD i 0).toNat:Int)

def elems (h:List AObj)(d:DV)(sz:Nat)(K:List (List DV)→Prop):Prop:=
 match d with
 | .sl sz' es=>(es=[]∨sz' = sz)∧K es
 | .nils _=>K []
 | .emp _ _=>K []
 | .osl sz' l off n _=>sz' = sz∧∃ es,h[l]?=some (.arr sz es)∧off+n≤es.length∧K ((es.drop off).take n)
 | .str s=>sz=1∧K (s.map fun b=>[.int .u8 b.toNat])
 | _=>False

def dI (sz bytes:Nat)(x y:DV)(K:DV→St→Prop)(st:St):Prop:=
  elems st.h y sz fun ys=>
    match x with
    | .osl sz' l off n none=>sz' = sz∧off=0∧∃ es,st.h[l]?=some (.arr sz es)∧n≤es.length∧(n+ys.length)*bytes≤1099511627776∧n+ys.length≤1099511627776 ∧
        K (.osl sz l 0 (n+ys.length) none) ((st.kill (· == l)).at l (.arr sz (es.take n++ys)))
    | .osl sz' l off n (some c)=>sz' = sz∧∃ es,st.h[l]?=some (.arr sz es)∧off+c≤es.length∧n+ys.length≤c ∧
        K (.osl sz l off (n+ys.length) (some c)) (st.at l (.arr sz (es.take (off+n)++ys++es.drop (off+n+ys.length))))
    | .nils _=>ys.length*bytes≤1099511627776∧ys.length≤1099511627776∧K (.osl sz st.h.length 0 ys.length none) (st.new (.arr sz ys))
    | _=>False

def iR (sz bytes:Nat)(x y:DV)(K:DV→St→Prop)(st:St):Prop:=
  elems st.h y sz fun ys=>
    match x with
    | .osl sz' l off n none=>sz' = sz∧off=0∧∃ es,st.h[l]?=some (.arr sz es)∧n=es.length∧(n+ys.length)*bytes≤1099511627776∧n+ys.length≤1099511627776 ∧
        K (.sl sz (es++ys)) (st.freeze [l])
    | _=>False

def lH (sz:Nat)(x y:DV)(K:DV→St→Prop)(st:St):Prop:=
  elems st.h y sz fun ys=>
    match x with
    | .osl sz' l off n _=>sz' = sz∧∃ es,st.h[l]?=some (.arr sz es)∧off+n≤es.length∧ys.length≤n ∧
        K (.int .i64 ys.length) (st.at l (.arr sz (es.take off++ys++es.drop (off+ys.length))))
    | _=>False
def vO (sz:Nat)(z:List DV)(x:DV)(K:DV→St→Prop)(st:St):Prop:=
 match x with
 | .osl sz' l off n _=>sz' = sz∧∃ es,st.h[l]?=some (.arr sz es)∧off+n≤es.length∧K (.tup []) (st.at l (.arr sz (es.take off++List.replicate n z++es.drop (off+n))))
 | .nils _=>K (.tup []) st
 | .emp _ _=>K (.tup []) st
 | _=>False
def DV.one:DV→Bool
 | .agg _ | .tup _ | .undef=>false
 | _=>true

def nU:List DV→List (Nat×Nat×DV)→(List DV→Prop)→Prop
 | cs,[],K=>K cs
 | cs,(off,n,d)::l,K=>d.cells.all DV.one=true∧d.cells.length=n∧off+n≤cs.length∧nU (cs.take off++d.cells++cs.drop (off+n)) l K

def bnd (fr:Nat→DV)(lo hi:Option AX)(n c:Nat)(K:Nat→Nat→Prop):Prop:=
 match lo,hi with
 | none,none=>K 0 n
 | some a,none=>match a.ev fr with | .int _ i=>0≤i∧i≤n∧K i.toNat n | _=>False
 | none,some b=>match b.ev fr with | .int _ j=>0≤j∧j≤c∧K 0 j.toNat | _=>False
 | some a,some b=>match a.ev fr,b.ev fr with | .int _ i,.int _ j=>0≤i∧i≤j∧j≤c∧K i.toNat j.toNat | _,_=>False

def mmF (f:Int→Int→Int)(K:DV→Prop):DV→List DV→Prop
 | d,[]=>K d
 | .int k x,.int _ y::l=>mmF f K (.int k (f x y)) l
 | _,_=>False
def mm (f:Int→Int→Int)(l:List DV)(K:DV→Prop):Prop:=
 match l with
 | .int k x::l=>mmF f K (.int k x) l
 | _=>False

def zA (P:Program)(t:TypeId)(m:String):Option Nat:=
 match P.underlying t,(P.info? t).bind (fun i=>i.methods.find? (·.name == m)) with
 | some (.pointer _),some row=>match row.path.isEmpty,row.func with
  | true,some (f,true)=>some f
  | _,_=>none
 | _,_=>none
def aFI (E:Env)(full:Bool)(m:String):DV→List DV→(DV→St→Prop)→St→Prop
 | .ifc t l,as,K,st=>∃ f,zA E.P t m=some f∧acall E full f (l++as) K st
 | _,_,_,_=>False
def dX (s:List UInt8):List (List UInt8×PV)→Nat
 | []=>0
 | p::es=>if p.1=s then 0 else dX s es+1
def hB (s:List UInt8)(z:PV):List (List UInt8×PV)→PV
 | []=>z
 | p::es=>if p.1=s then p.2 else hB s z es
def eX (s:List UInt8):List (List UInt8×PV)→Bool
 | []=>false
 | p::es=>if p.1=s then true else eX s es
def mL (es:List (List UInt8×PV))(i:Nat)(v:PV):List (List UInt8×PV):=es.modify i fun p=>(p.1,v)
def BQ (es:List (List UInt8×PV))(s:List UInt8)(z:PV):List (List UInt8×PV):=if eX s es=true then es else es++[(s,z)]
def CR (es:List (List UInt8×PV))(s:List UInt8)(v:PV):List (List UInt8×PV):=if eX s es=true then mL es (dX s es) v else es++[(s,v)]
def sR (ok:Bool)(z:PV)(es:List (List UInt8×PV))(s:List UInt8):DV:=match ok with
 | false=>(hB s z es).dv
 | true=>.tup [(hB s z es).dv,.bool (eX s es)]
def aop (E:Env)(op:AOp)(K:DV→St→Prop)(st:St):Prop:=
  match op with
  | .mov x=>K (x.ev st.fr) st
  | .set x=>K (vC (x.ev st.fr) st.h).1 { st with h:=(vC (x.ev st.fr) st.h).2 }
  | .newnil sz=>K (.osl sz st.h.length 0 0 none) (st.new (.arr sz []))
  | .pick c a b=>match c.ev st.fr with
    | .bool t=>match t with | true=>K (a.ev st.fr) st | false=>K (b.ev st.fr) st
    | _=>False
  | .box x=>(x.ev st.fr).cells.all DV.one=true ∧
      K (.ptr (aK (x.ev st.fr).cells st.h).2.length 0) { st with h:=(aK (x.ev st.fr).cells st.h).2++[.box (aK (x.ev st.fr).cells st.h).1] }
  | .alloc zero=>K (.ptr (aK zero st.h).2.length 0) { st with h:=(aK zero st.h).2++[.box (aK zero st.h).1] }
  | .allocb t e=>K (.ptr (st.h.length+1) 0) { st with h:=(st.h++[.buf e []])++[.box [.self (st.h.length+1) t 2,.hdr st.h.length e 0]] }
  | .build zero parts=>nU zero (parts.map fun (o,n,x)=>(o,n,x.ev st.fr)) fun cs=>K (.agg cs) st
  | .bslice false sz parts=>(∀ p∈parts,(p.ev st.fr).closed=true∧(p.ev st.fr).cells.all DV.one=true∧(p.ev st.fr).cells.length=sz) ∧
      K (.osl sz st.h.length 0 parts.length none) (st.new (.arr sz (parts.map fun p=>(p.ev st.fr).cells)))
  | .bslice true sz parts=>fP (parts.map (·.ev st.fr)) st fun ds st' => (∀ d∈ds,d.closed=true∧d.cells.all DV.one=true∧d.cells.length=sz) ∧
      K (.osl sz st'.h.length 0 parts.length none) (st'.new (.arr sz (ds.map DV.cells)))
  | .load none x=>match x.ev st.fr with
    | .ptr l o=>∃ cs,st.h[l]?=some (.box cs)∧∃ d,cs[o]?=some d∧K d st
    | .aptr sz l j q=>∃ es,st.h[l]?=some (.arr sz es)∧∃ e,es[j]?=some e∧∃ d,e[q]?=some d∧K d st
    | .eptr cs o=>∃ d,cs[o]?=some d∧K d st
    | _=>False
  | .load (some n) x=>match x.ev st.fr with
    | .ptr l o=>∃ cs,st.h[l]?=some (.box cs)∧o+n≤cs.length∧K (.agg ((cs.drop o).take n)) st
    | .aptr sz l j q=>∃ es,st.h[l]?=some (.arr sz es)∧∃ e,es[j]?=some e∧q+n≤e.length∧K (.agg ((e.drop q).take n)) st
    | .eptr cs o=>o+n≤cs.length∧K (.agg ((cs.drop o).take n)) st
    | _=>False
  | .store full n x v=>match x.ev st.fr with
    | .ptr l o=>∃ cs,st.h[l]?=some (.box cs)∧(v.ev st.fr).cells.all DV.one=true∧(v.ev st.fr).cells.length=n∧o+n≤cs.length ∧
        K .undef ({ st with h:=(aK (v.ev st.fr).cells st.h).2 }.at l (.box (cs.take o++(aK (v.ev st.fr).cells st.h).1++cs.drop (o+n))))
    | .aptr sz l j q=>(full=true∨(v.ev st.fr).closed=true)∧fP [v.ev st.fr] st fun ds st' => ∃ d,ds=[d]∧∃ es,st'.h[l]?=some (.arr sz es)∧∃ e,es[j]?=some e∧d.closed=true∧d.cells.all DV.one=true∧d.cells.length=n∧q+n≤e.length ∧
        K .undef (st'.at l (.arr sz (es.set j (e.take q++d.cells++e.drop (q+n)))))
    | _=>False
  | .nilchk x=>match x.ev st.fr with
    | .ptr l o=>K (.ptr l o) st
    | .aptr sz l j q=>K (.aptr sz l j q) st
    | .eptr cs o=>K (.eptr cs o) st
    | .fn f caps=>K (.fn f caps) st
    | _=>False
  | .bin op ty x y=>aT op ty (x.ev st.fr) (y.ev st.fr) fun d=>K d st
  | .un op x=>unD op (x.ev st.fr) fun d=>K d st
  | .conv cv x=>gG cv (x.ev st.fr) K st
  | .mkfn f caps=>K (.fn f (caps.map (·.ev st.fr))) st
  | .mkifc t x=>K (.ifc t [x.ev st.fr]) st
  | .mkbnd f x=>K (.bnd f [x.ev st.fr]) st
  | .inv full m x args=>aFI E full m (x.ev st.fr) (args.map (·.ev st.fr)) K st
  | .slice k x lo hi=>
    match x.ev st.fr with
    | .str s=>k=none∧bnd st.fr lo hi s.length s.length fun i j=>K (.str ((s.drop i).take (j - i))) st
    | .sl sz es=>k=some sz∧bnd st.fr lo hi es.length es.length fun i j=>K (.sl sz ((es.drop i).take (j - i))) st
    | .osl sz l off n none=>k=some sz∧bnd st.fr lo hi n n fun i j=>K (.osl sz l (off+i) (j - i) none) st
    | .osl sz l off n (some c)=>k=some sz∧bnd st.fr lo hi n c fun i j=>K (.osl sz l (off+i) (j - i) (some (c - i))) st
    | .nils sz=>k.isSome=true∧bnd st.fr lo hi 0 0 fun _ _=>K (.nils sz) st
    | _=>False
  | .faddr off x=>match x.ev st.fr with
    | .ptr l o=>K (.ptr l (o+off)) st
    | .aptr sz l j q=>K (.aptr sz l j (q+off)) st
    | .eptr cs o=>K (.eptr cs (o+off)) st
    | _=>False
  | .field off none x=>match x.ev st.fr with
    | .agg l=>∃ d,l[off]?=some d∧K d st
    | _=>False
  | .field off (some n) x=>match x.ev st.fr with
    | .agg l=>off+n≤l.length∧K (.agg ((l.drop off).take n)) st
    | _=>False
  | .iaddr sz x i=>match x.ev st.fr,i.ev st.fr with
    | .sl sz' es,.int _ j=>sz' = sz∧0≤j∧∃ e,es[j.toNat]?=some e∧K (.eptr e 0) st
    | .osl sz' l off n _,.int _ j=>sz' = sz∧0≤j∧j<n∧K (.aptr sz l (off+j.toNat) 0) st
    | _,_=>False
  | .baddr n sz x i=>match x.ev st.fr,i.ev st.fr with
    | .ptr l o,.int _ j=>0≤j∧j<n∧K (.ptr l (o+j.toNat*sz)) st
    | _,_=>False
  | .sidx x i=>match x.ev st.fr,i.ev st.fr with
    | .str s,.int _ j=>0≤j∧j<s.length∧K (.int .u8 (bt s j.toNat)) st
    | _,_=>False
  | .range x=>match x.ev st.fr with
    | .str s=>K (.ptr st.h.length 0) (st.new (.iter s 0))
    | _=>False
  | .next x=>match x.ev st.fr with
    | .ptr l 0=>∃ s pos,st.h[l]?=some (.iter s pos) ∧
        (pos<s.length→K (.tup [.bool true,.int .i64 pos,.int .i32 (Utf8.decode ⟨s.toArray⟩ pos).1]) (st.at l (.iter s (pos+(Utf8.decode ⟨s.toArray⟩ pos).2)))) ∧
        (¬ pos<s.length→K (.tup [.bool false]) st)
    | _=>False
  | .extr x i=>match x.ev st.fr with
    | .tup l=>∃ d,l[i]?=some d∧K d st
    | _=>False
  | .call full f args=>acall E full f (args.map (·.ev st.fr)) K st
  | .callv full x args=>match x.ev st.fr with
    | .fn f caps=>acall E full f (args.map (·.ev st.fr)++caps) K st
    | .bnd f caps=>acall E full f (caps++args.map (·.ev st.fr)) K st
    | _=>False
  | .len k x=>match x.ev st.fr with
    | .str s=>k=true∧K (.int .i64 s.length) st
    | .sl _ es=>k=false∧K (.int .i64 es.length) st
    | .osl _ _ _ n _=>k=false∧K (.int .i64 n) st
    | .nils _=>k=false∧K (.int .i64 0) st
    | .emp _ _=>k=false∧K (.int .i64 0) st
    | _=>False
  | .append sz bytes x y=>dI sz bytes (x.ev st.fr) (y.ev st.fr) K st
  | .appendf sz bytes x y=>iR sz bytes (x.ev st.fr) (y.ev st.fr) K st
  | .mkslice sz bytes zero l c=>match l.ev st.fr,c.ev st.fr with
    | .int .i64 n,.int .i64 m=>0≤n∧n≤m∧m*bytes≤1099511627776∧m≤1099511627776∧K (.osl sz st.h.length 0 n.toNat (some m.toNat)) (st.new (.arr sz (List.replicate m.toNat zero)))
    | _,_=>False
  | .cap x=>match x.ev st.fr with
    | .osl _ _ _ _ (some c)=>K (.int .i64 c) st
    | .nils _=>K (.int .i64 0) st
    | _=>False
  | .appendz sz bytes zero x n=>match x.ev st.fr,n.ev st.fr with
    | .nils _,.int .i64 m=>0≤m∧m*bytes≤1099511627776∧m≤1099511627776∧K (.osl sz st.h.length 0 m.toNat none) (st.new (.arr sz (List.replicate m.toNat zero)))
    | _,_=>False
  | .cpy sz x y=>lH sz (x.ev st.fr) (y.ev st.fr) K st
  | .clr sz z x=>vO sz z (x.ev st.fr) K st
  | .mkmap=>K (.mp st.h.length) (st.new (.mapo []))
  | .look b z x k=>match x.ev st.fr,k.ev st.fr with
    | .mp l,.str s=>∃ es,st.h[l]?=some (.mapo es)∧K (sR b z es s) st
    | _,_=>False
  | .ment z x k=>match x.ev st.fr,k.ev st.fr with
    | .mp l,.str s=>∃ es,st.h[l]?=some (.mapo es)∧K (.tup [(hB s z es).dv,.int .i64 (dX s es)]) (st.at l (.mapo (BQ es s z)))
    | _,_=>False
  | .mset x i v=>match x.ev st.fr,i.ev st.fr with
    | .mp l,.int _ n=>∃ es,st.h[l]?=some (.mapo es)∧0≤n∧n<es.length∧∃ p,(v.ev st.fr).pv=some p∧K .undef (st.at l (.mapo (mL es n.toNat p)))
    | _,_=>False
  | .mput x k v=>match x.ev st.fr,k.ev st.fr with
    | .mp l,.str s=>∃ es,st.h[l]?=some (.mapo es)∧∃ p,(v.ev st.fr).pv=some p∧K .undef (st.at l (.mapo (CR es s p)))
    | _,_=>False
  | .bad=>False
  | .mn args=>mm (fun x y=>if y<x then y else x) (args.map (·.ev st.fr)) fun d=>K d st
  | .mx args=>mm (fun x y=>if y>x then y else x) (args.map (·.ev st.fr)) fun d=>K d st

inductive AExit where
 | normal
 | exit (id:Nat)
 | ret

def AOper.run0 (E:Env)(o:AOper)(K:St→Prop)(st:St):Prop:=
 match o.guard with
 | none=>aop E o.op (fun d st' => K (st'.put o.dst d)) st
 | some (g,want)=>match st.fr g with
  | .bool b=>(b=want→aop E o.op (fun d st' => K (st'.put o.dst d)) st)∧(b = !want→K (st.put o.dst (.tup [])))
  | .tup []=>K (st.put o.dst (.tup []))
  | _=>False
def gen (op:AOp)(d:DV)(k:DV→Prop):Prop:=
 match op,d with
 | .bin ..,.int kd n | .un ..,.int kd n | .conv ..,.int kd n | .mx _,.int kd n | .mn _,.int kd n=>∀ v,v=n→k (.int kd v)
 | .bin ..,.bool b | .un ..,.bool b=>(b=true→k (.bool true))∧(b=false→k (.bool false))
 | _,d=>k d
theorem AL (op:AOp)(d:DV)(k:DV→Prop):gen op d k=k d:=by
 apply propext
 unfold gen
 split <;> first | exact Iff.rfl | exact ⟨fun h=>h _ rfl,fun h v e=>e▸h⟩ | (rename_i b; exact ⟨fun h=>by cases b <;> simp_all,fun h=>⟨fun e=>e▸h,fun e=>e▸h⟩⟩)
def AOper.run (E:Env)(o:AOper)(K:St→Prop)(st:St):Prop:=
 match o.guard with
 | none=>aop E o.op (fun d st' => gen o.op d fun d=>K (st'.put o.dst d)) st
 | some (g,want)=>match st.fr g with
  | .bool b=>match b == want with
   | true=>aop E o.op (fun d st' => gen o.op d fun d=>K (st'.put o.dst d)) st
   | false=>K (st.put o.dst (.tup []))
  | .tup []=>K (st.put o.dst (.tup []))
  | _=>False
theorem AOper.run_iff {E:Env}{o:AOper}{K:St→Prop}{st:St}:o.run E K st↔o.run0 E K st:=by
 unfold AOper.run AOper.run0
 have e:(fun d (st' : St)=>gen o.op d fun d=>K (st'.put o.dst d))=fun d st' => K (st'.put o.dst d):=by
  funext d st'; exact AL _ _ _
 rw [e]
 cases o.guard with
 | none=>exact Iff.rfl
 | some g=>
  obtain ⟨g,want⟩:=g
  simp only
  split
  ·rename_i b hb
   cases b <;> cases want <;> simp
  ·exact Iff.rfl
  ·exact Iff.rfl

def eB (E:Env):List AOper→(St→Prop)→St→Prop
 | [],K,st=>K st
 | o::l,K,st=>o.run E (eB E l K) st

structure Wk (m0:Nat) (st st' : St):Prop where
 ex:(∃ m,m0≤m∧st'.h=st.h.take m∧(∀ s,st'.fr s=.undef∨st'.fr s=st.fr s∧(m<st.h.length→(st.fr s).under m=true)) ∧
  (m<st.h.length→∀ (l:Nat) cs,l<m→st.h[l]?=some (.box cs)→∀ d∈cs,d.under m=true)) ∨
  ∃ ρ:List Nat,ρ.Nodup∧m0≤ρ.length∧(∀ i,i<m0→ρ[i]?=some i)∧(∀ l∈ρ,l<st.h.length)∧(∀ l∈ρ,inO ρ.contains (st.h.getD l .dead)=true) ∧
   st'.h=(ρ.map fun l=>aR (ρ.idxOf ·) (st.h.getD l .dead))∧∀ s,st'.fr s=.undef∨st'.fr s=(st.fr s).ren (ρ.idxOf ·)∧(st.fr s).inL ρ.contains=true

def awp (E:Env)(m0:Nat):ACode→(AExit→St→Prop)→St→Prop
  | .skip,K,st=>K .normal st
  | .region _ ops,K,st=>eB E ops (K .normal) st
  | .seq a b,K,st=>awp E m0 a (fun e st' => match e with | .normal=>awp E m0 b K st' | e=>K e st') st
  | .cond c a b,K,st=>match c.ev st.fr with
    | .bool t=>match t with | true=>awp E m0 a K st | false=>awp E m0 b K st
    | _=>False
  | .block id b,K,st=>awp E m0 b (fun e st' => match e with | .exit id' => if id' = id then K .normal st' else K (.exit id') st' | e=>K e st') st
  | .loop b,K,st=>∃ (γ:Type) (S:γ→St) (P:γ→Prop) (μ:γ→Nat),(∃ g,Wk m0 st (S g)∧P g) ∧
      ∀ g,P g→awp E m0 b (fun e st' => match e with | .normal=>∃ g',Wk m0 st' (S g')∧P g' ∧ μ g' < μ g | e=>K e st') (S g)
  | .exit id,K,st=>K (.exit id) st
  | .ret,K,st=>K .ret st
  | .jump g a b,K,st=>awp E m0 a (fun e st' => match e with
      | .exit id' => if id' = g then awp E m0 b (fun e st' => match e with | .exit id' => id' < 1000000∧K (.exit id') st' | e=>K e st') st' else id' < 1000000∧K (.exit id') st'
      | e=>K e st') st
  | .both a b,K,st=>awp E m0 a K st∧awp E m0 b K st
  | .wk a,K,st=>awp E m0 a (fun e st' => ∃ st'',Wk m0 st' st'' ∧ K e st'') st

def rv1 (st:St):RV→Option DV
 | .t s=>some (st.fr s)
 | .cell s agg=>match st.fr s with
  | .ptr l o=>match st.h[l]?,agg with
   | some (.box cs),none=>cs[o]?
   | some (.box cs),some n=>if o+n≤cs.length then some (.agg ((cs.drop o).take n)) else none
   | _,_=>none
  | _=>none
def rvl (st:St):List RV→Option (List DV)
 | []=>some []
 | r::l=>(rv1 st r).bind fun d=>(rvl st l).map (d :: ·)
def rvd:List DV→DV
 | [d]=>d
 | l=>.tup l

def MD (post:List AObj→DV→Prop)(h:List AObj)(d:DV):Prop:=post h d

def fin (m0:Nat)(res:List RV)(post:List AObj→DV→Prop):AExit→St→Prop
  | .exit _,_=>False
  | _,st=>∃ ds,rvl st res=some ds∧∃ ρ:List Nat,ρ.Nodup∧m0≤ρ.length∧(∀ i,i<m0→ρ[i]?=some i)∧(∀ l∈ρ,l<st.h.length)∧(rvd ds).inL ρ.contains=true ∧
      (∀ l∈ρ,inO ρ.contains (st.h.getD l .dead)=true) ∧
      MD post (ρ.map fun l=>aR (ρ.idxOf ·) (st.h.getD l .dead)) ((rvd ds).ren (ρ.idxOf ·))

def UB (m0:Nat)(post:List AObj→DV→Prop)(ds:List DV)(h:List AObj):Prop:=
  ∃ ρ:List Nat,ρ.Nodup∧m0≤ρ.length∧(∀ i,i<m0→ρ[i]?=some i)∧(∀ l∈ρ,l<h.length)∧(rvd ds).inL ρ.contains=true ∧
      (∀ l∈ρ,inO ρ.contains (h.getD l .dead)=true) ∧
      MD post (ρ.map fun l=>aR (ρ.idxOf ·) (h.getD l .dead)) ((rvd ds).ren (ρ.idxOf ·))
def zR (m0:Nat)(res:List RV)(post:List AObj→DV→Prop):AExit→St→Prop
 | .exit _,_=>False
 | _,st=>∃ ds,rvl st res=some ds∧∃ F:List Nat,(∀ l∈F,m0≤l)∧UB m0 post (ds.map (DV.low (frz F) st.h)) (st.freeze F).h

end Go.Ai
