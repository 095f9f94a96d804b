/- Steps by rewriting from the outside in: every rule is tried ahead of a term's parts; a part that must be reckoned first is named. -/
import Derived.Test.YtgamnnfndidclaaGreatDoorCAiSub
set_option linter.all false
namespace Go.Ai
def evl {α:Type}(x:α)(K:α→Prop):Prop:=K x
@[congr] theorem aHy {α:Type} {x x' : α} {K:α→Prop} (h:x=x'):evl x K=evl x' K:=by rw [h]
def nrm {α:Type}(x:α):α:=x
theorem aEC {α:Type}{x:α}:nrm x=x:=rfl
theorem aHg {α:Type}{x:α}{K:α→Prop}:evl x K=K x:=rfl
def chk (p q:Prop):Prop:=p∧q
@[congr] theorem aHw {p p' q:Prop} (h:p=p'):chk p q=chk p' q:=by rw [h]
theorem XN {q:Prop}:chk True q=q:=by simp [chk]
section
variable {E:Env} {m0:Nat} {post:AExit→St→Prop} {ks:List Fr} {L:List (Nat×DV)} {h:List AObj}
theorem wH {g:Nat}{b:ACode}{id' : Nat}:goK E m0 post (.jump g b::ks) (.exit id') L h=sel (id' == g) (goN E m0 post (.low::ks) b L h) (chk (id' ≤ 999999) (goK E m0 post ks (.exit id') L h)):=by
 unfold goK
 simp only [eH]
 by_cases e:id' = g
 ·simp only [e,if_true,beq_self_eq_true,eP]; rfl
 ·have:(id' == g)=false:=by simpa using e
  simp only [e,if_false,this,jQ,chk,Nat.lt_succ_iff]
theorem yJ {id' : Nat}:goK E m0 post (.low::ks) (.exit id') L h=chk (id' ≤ 999999) (goK E m0 post ks (.exit id') L h):=by
 unfold goK
 simp only [eH,chk,Nat.lt_succ_iff]
end
def fX {α:Type}(x:Option α)(K:α→Prop):Prop:=∃ a,x=some a∧K a
@[congr] theorem aEl {α:Type} {x x' : Option α} {K:α→Prop} (h:x=x'):fX x K=fX x' K:=by rw [h]
theorem xU {α:Type}{a:α}{K:α→Prop}:fX (some a) K=K a:=by simp [fX]
theorem AM {α β:Type}{f:α→β}{l:List α}{i:Nat}{K:β→Prop}:fX (l.map f)[i]? K=fX l[i]? fun a=>K (f a):=by
 unfold fX; rw [List.getElem?_map]; cases l[i]? <;> simp
theorem fI {α:Type}{x:Option α}{K:α→Prop}(a:α)(h:x=some a)(hk:K a):fX x K:=⟨a,h,hk⟩
def EV (x:Option AObj)(K:List DV→Prop):Prop:=∃ cs,x=some (.box cs)∧K cs
@[congr] theorem aGq {x x' : Option AObj} {K:List DV→Prop} (h:x=x'):EV x K=EV x' K:=by rw [h]
theorem MW {cs:List DV}{K:List DV→Prop}:EV (some (.box cs)) K=K cs:=by simp [EV]
def nB (sz:Nat)(x:Option AObj)(K:List (List DV)→Prop):Prop:=∃ es,x=some (.arr sz es)∧K es
@[congr] theorem aFL {sz:Nat} {x x' : Option AObj} {K:List (List DV)→Prop} (h:x=x'):nB sz x K=nB sz x' K:=by rw [h]
theorem LS {sz:Nat}{es:List (List DV)}{K:List (List DV)→Prop}:nB sz (some (.arr sz es)) K=K es:=by simp [nB]
def AJ (x:Option AObj)(K:List UInt8→Nat→Prop):Prop:=∃ s pos,x=some (.iter s pos)∧K s pos
@[congr] theorem aDq {x x' : Option AObj} {K:List UInt8→Nat→Prop} (h:x=x'):AJ x K=AJ x' K:=by rw [h]
theorem FS {s:List UInt8}{pos:Nat}{K:List UInt8→Nat→Prop}:AJ (some (.iter s pos)) K=K s pos:=by
 unfold AJ; apply propext; constructor
 ·rintro ⟨s',p',h,k⟩; cases h; exact k
 ·exact fun k=>⟨s,pos,rfl,k⟩
def BO (x:Option AObj)(K:List (List UInt8×PV)→Prop):Prop:=∃ es,x=some (.mapo es)∧K es
@[congr] theorem aDS {x x' : Option AObj} {K:List (List UInt8×PV)→Prop} (h:x=x'):BO x K=BO x' K:=by rw [h]
theorem OT {es:List (List UInt8×PV)}{K:List (List UInt8×PV)→Prop}:BO (some (.mapo es)) K=K es:=by simp [BO]
def jL (h:List AObj)(o:AObj)(K:Nat→List AObj→Prop):Prop:=K h.length (h++[o])
theorem aBo {h:List AObj}{o:AObj}{K:Nat→List AObj→Prop}:jL h o K=evl (nrm h.length) fun i=>evl (nrm (h++[o])) fun h' => K i h' := rfl
def ocP (l:List DV)(h:List AObj)(K:List DV→List AObj→Prop):Prop:=K (aQ l h).1 (aQ l h).2
section
variable {l:List DV} {h:List AObj} {K:List DV→List AObj→Prop}
theorem aCJ:ocP [] h K=K [] h:=rfl
theorem aAh {k:IntKind}{n:Int}:ocP (.int k n::l) h K=ocP l h fun l' h' => K (.int k n::l') h' := rfl
theorem VT {b:Bool}:ocP (.bool b::l) h K=ocP l h fun l' h' => K (.bool b::l') h' := rfl
theorem aCy {s:List UInt8}:ocP (.str s::l) h K=ocP l h fun l' h' => K (.str s::l') h' := rfl
theorem VU:ocP (.nilp::l) h K=ocP l h fun l' h' => K (.nilp::l') h' := rfl
theorem aBM {i o:Nat}:ocP (.ptr i o::l) h K=ocP l h fun l' h' => K (.ptr i o::l') h' := rfl
theorem WS {sz i j q:Nat}:ocP (.aptr sz i j q::l) h K=ocP l h fun l' h' => K (.aptr sz i j q::l') h' := rfl
theorem TE {cs:List DV}{o:Nat}:ocP (.eptr cs o::l) h K=ocP l h fun l' h' => K (.eptr cs o::l') h' := rfl
theorem aEN {sz:Nat}{es:List (List DV)}:ocP (.sl sz es::l) h K=ocP l h fun l' h' => K (.sl sz es::l') h' := rfl
theorem aBS {sz i off n:Nat}{c:Option Nat}:ocP (.osl sz i off n c::l) h K=ocP l h fun l' h' => K (.osl sz i off n c::l') h' := rfl
theorem aEh {f:Nat}{cs:List DV}:ocP (.fn f cs::l) h K=ocP l h fun l' h' => K (.fn f cs::l') h' := rfl
theorem aBD {f:Nat}{cs:List DV}:ocP (.ifc f cs::l) h K=ocP l h fun l' h' => K (.ifc f cs::l') h' := rfl
theorem aAd {f:Nat}{cs:List DV}:ocP (.bnd f cs::l) h K=ocP l h fun l' h' => K (.bnd f cs::l') h' := rfl
theorem UK:ocP (.nili::l) h K=ocP l h fun l' h' => K (.nili::l') h' := rfl
theorem YI {b:Bool}{n:Nat}:ocP (.emp b n::l) h K=ocP l h fun l' h' => K (.emp b n::l') h' := rfl
theorem aDW {i:Nat}:ocP (.mp i::l) h K=ocP l h fun l' h' => K (.mp i::l') h' := rfl
theorem MO:ocP (.nilfn::l) h K=ocP l h fun l' h' => K (.nilfn::l') h' := rfl
theorem VY {sz:Nat}:ocP (.nils sz::l) h K=jL h (.arr sz []) fun i h1=>ocP l h1 fun l' h' => K (.osl sz i 0 0 none::l') h' := rfl
end

def kgo (E:Env)(m0:Nat)(post:AExit→St→Prop)(ks:List Fr)(dst:Option Nat)(l:List AOper)(d:DV)(st:St):Prop:=fP E l (eH E m0 post ks .normal) (st.put dst d)
def knm (E:Env)(m0:Nat)(post:AExit→St→Prop)(ks:List Fr)(dst:Option Nat)(l:List AOper)(d:DV)(st:St):Prop:=
 match d with
 | .int k n=>∀ v,v=n→kgo E m0 post ks dst l (.int k v) st
 | .bool b=>(b=true→kgo E m0 post ks dst l (.bool true) st)∧(b=false→kgo E m0 post ks dst l (.bool false) st)
 | d=>kgo E m0 post ks dst l d st
section
variable {E:Env} {m0:Nat} {post:AExit→St→Prop} {ks:List Fr} {L:List (Nat×DV)} {h:List AObj} {l:List AOper} {K:DV→St→Prop} {st:St}
theorem OC (L:List (Nat×DV))(dst:Option Nat)(d:DV):(sta L h).put dst d=sta (match dst with | some t=>(t,d)::L | none=>L) h:=by
 cases dst with
 | none=>rfl
 | some t=>
  simp only [St.put,sta]
  congr 1
theorem lJ {t:Nat}{d:DV}:kgo E m0 post ks (some t) l d (sta L h)=goO E m0 post ks l ((t,d)::L) h:=by
 unfold kgo; rw [OC]; rfl
theorem SQ {d:DV}:kgo E m0 post ks none l d (sta L h)=goO E m0 post ks l L h:=rfl
theorem YT {t:Nat}{k:IntKind}{n:Int}:knm E m0 post ks (some t) l (.int k n) (sta L h)=∀ v,v=n→goO E m0 post ks l ((t,.int k v)::L) h:=by
 unfold knm; simp only [lJ]
def DE (E:Env)(m0:Nat)(post:AExit→St→Prop)(ks:List Fr)(t:Nat)(l:List AOper)(L:List (Nat×DV))(h:List AObj)(b:Bool):Prop:=
 (b=true→goO E m0 post ks l ((t,.bool true)::L) h)∧(b=false→goO E m0 post ks l ((t,.bool false)::L) h)
@[congr] theorem aEF {E:Env} {m0:Nat} {post:AExit→St→Prop} {ks:List Fr} {t:Nat} {l:List AOper} {L:List (Nat×DV)} {h:List AObj} {b b' : Bool} (e:b=b'):DE E m0 post ks t l L h b=DE E m0 post ks t l L h b' := by rw [e]
theorem MD {t:Nat}:DE E m0 post ks t l L h true=goO E m0 post ks l ((t,.bool true)::L) h:=by simp [DE]
theorem EG {t:Nat}:DE E m0 post ks t l L h false=goO E m0 post ks l ((t,.bool false)::L) h:=by simp [DE]
theorem aEj {t:Nat}{b:Bool}:DE E m0 post ks t l L h b=((b=true→goO E m0 post ks l ((t,.bool true)::L) h)∧(b=false→goO E m0 post ks l ((t,.bool false)::L) h)):=rfl
theorem QE {t:Nat}{b:Bool}:knm E m0 post ks (some t) l (.bool b) (sta L h)=DE E m0 post ks t l L h (nrm b):=by
 unfold knm; simp only [lJ]; rfl
theorem YM {t:Nat}{s:List UInt8}:knm E m0 post ks (some t) l (.str s) (sta L h)=goO E m0 post ks l ((t,.str s)::L) h:=by
 unfold knm; simp only [lJ]
theorem aCU {t:Nat}{a b c d:Nat}{e:Option Nat}:knm E m0 post ks (some t) l (.osl a b c d e) (sta L h)=goO E m0 post ks l ((t,.osl a b c d e)::L) h:=by
 unfold knm; simp only [lJ]
theorem aAW {dst:Option Nat}{op:AOp}{g:Option (Nat×Bool)}(_hn:nm op=false):kop E m0 post ks ⟨dst,op,g⟩ l=kgo E m0 post ks dst l:=by
 funext d st
 unfold kop kgo
 rw [FX]
theorem aDH {dst:Option Nat}{d:DV}:knm E m0 post ks dst l d st=kgo E m0 post ks dst l d st:=by
 cases d <;> first | rfl | (simp [knm]; done) | skip
 rename_i b
 cases b <;> simp [knm]
theorem aCo {dst:Option Nat}{op:AOp}{g:Option (Nat×Bool)}(_hn:nm op=true):kop E m0 post ks ⟨dst,op,g⟩ l=knm E m0 post ks dst l:=by
 funext d st
 unfold kop
 rw [FX,aDH]
 rfl
theorem FN {dst:Option Nat}{op:AOp}{g:Nat}{want:Bool}:goO E m0 post ks (⟨dst,op,some (g,want)⟩::l) L h =
  kA (slots L g) want (goO E m0 post ks (⟨dst,op,none⟩::l) L h) (kgo E m0 post ks dst l (.tup []) (sta L h)):=by
 rw [MK,UQ]
 rfl
theorem aW {dst:Option Nat}{op:AOp}(hn:nm op=false):goO E m0 post ks (⟨dst,op,none⟩::l) L h=aH E (op.sub (slots L)) (kgo E m0 post ks dst l) (sta L h):=by
 rw [XI,aAW hn]
theorem oQ {dst:Option Nat}{op:AOp}(hn:nm op=true):goO E m0 post ks (⟨dst,op,none⟩::l) L h=aH E (op.sub (slots L)) (knm E m0 post ks dst l) (sta L h):=by
 rw [XI,aCo hn]
theorem aJS {dst:Option Nat}{x:AX}:goO E m0 post ks (⟨dst,.mov x,none⟩::l) L h=aH E (.mov (x.sub (slots L))) (kgo E m0 post ks dst l) (sta L h):=aW rfl
theorem aJf {dst:Option Nat}{x:AX}:goO E m0 post ks (⟨dst,.set x,none⟩::l) L h=aH E (.set (x.sub (slots L))) (kgo E m0 post ks dst l) (sta L h):=aW rfl
theorem UC {dst:Option Nat}{n:Nat}:goO E m0 post ks (⟨dst,.newnil n,none⟩::l) L h=jL h (.arr n []) fun i h' => kgo E m0 post ks dst l (.osl n i 0 0 none) (sta L h'):=aW rfl
theorem aEB {dst:Option Nat}{c a b:AX}:goO E m0 post ks (⟨dst,.pick c a b,none⟩::l) L h=aH E (.pick (c.sub (slots L)) (a.sub (slots L)) (b.sub (slots L))) (kgo E m0 post ks dst l) (sta L h):=aW rfl
theorem aIM {dst:Option Nat}{x:AX}:goO E m0 post ks (⟨dst,.box x,none⟩::l) L h=aH E (.box (x.sub (slots L))) (kgo E m0 post ks dst l) (sta L h):=aW rfl
theorem aBX {dst:Option Nat}{z:List DV}:goO E m0 post ks (⟨dst,.alloc z,none⟩::l) L h=ocP z h fun z' h' => jL h' (.box z') fun i h'' => kgo E m0 post ks dst l (.ptr i 0) (sta L h''):=aW rfl
theorem UH {dst:Option Nat}{t e:Nat}:goO E m0 post ks (⟨dst,.allocb t e,none⟩::l) L h=jL h (.buf e []) fun i h' => jL h' (.box [.self (i+1) t 2,.hdr i e 0]) fun _ h'' => kgo E m0 post ks dst l (.ptr (i+1) 0) (sta L h''):=aW rfl
theorem aCn {dst:Option Nat}{z:List DV}{ps:List (Nat×Nat×AX)}:goO E m0 post ks (⟨dst,.build z ps,none⟩::l) L h=aH E (.build z (ps.map fun p=>(p.1,p.2.1,p.2.2.sub (slots L)))) (kgo E m0 post ks dst l) (sta L h):=aW rfl
theorem RX {dst:Option Nat}{b:Bool}{n:Nat}{ps:List AX}:goO E m0 post ks (⟨dst,.bslice b n ps,none⟩::l) L h=aH E (.bslice b n (ps.map (AX.sub (slots L)))) (kgo E m0 post ks dst l) (sta L h):=aW rfl
theorem aDE {dst:Option Nat}{a:Option Nat}{x:AX}:goO E m0 post ks (⟨dst,.load a x,none⟩::l) L h=aH E (.load a (x.sub (slots L))) (kgo E m0 post ks dst l) (sta L h):=aW rfl
theorem aAT {dst:Option Nat}{b:Bool}{n:Nat}{x v:AX}:goO E m0 post ks (⟨dst,.store b n x v,none⟩::l) L h=aH E (.store b n (x.sub (slots L)) (v.sub (slots L))) (kgo E m0 post ks dst l) (sta L h):=aW rfl
theorem XG {dst:Option Nat}{x:AX}:goO E m0 post ks (⟨dst,.nilchk x,none⟩::l) L h=aH E (.nilchk (x.sub (slots L))) (kgo E m0 post ks dst l) (sta L h):=aW rfl
theorem aAi {dst:Option Nat}{t:Nat}{x:AX}:goO E m0 post ks (⟨dst,.mkifc t x,none⟩::l) L h=aH E (.mkifc t (x.sub (slots L))) (kgo E m0 post ks dst l) (sta L h):=aW rfl
theorem ZF {dst:Option Nat}{t:Nat}{x:AX}:goO E m0 post ks (⟨dst,.mkbnd t x,none⟩::l) L h=aH E (.mkbnd t (x.sub (slots L))) (kgo E m0 post ks dst l) (sta L h):=aW rfl
theorem aJD {dst:Option Nat}{o:BinOp}{t:Ty}{x y:AX}:goO E m0 post ks (⟨dst,.bin o t x y,none⟩::l) L h=aH E (.bin o t (x.sub (slots L)) (y.sub (slots L))) (knm E m0 post ks dst l) (sta L h):=oQ rfl
theorem aLd {dst:Option Nat}{o:UnOp}{x:AX}:goO E m0 post ks (⟨dst,.un o x,none⟩::l) L h=aH E (.un o (x.sub (slots L))) (knm E m0 post ks dst l) (sta L h):=oQ rfl
theorem aDZ {dst:Option Nat}{c:CV}{x:AX}:goO E m0 post ks (⟨dst,.conv c x,none⟩::l) L h=aH E (.conv c (x.sub (slots L))) (knm E m0 post ks dst l) (sta L h):=oQ rfl
theorem aFU {dst:Option Nat}{f:Nat}{cs:List AX}:goO E m0 post ks (⟨dst,.mkfn f cs,none⟩::l) L h=aH E (.mkfn f (cs.map (AX.sub (slots L)))) (kgo E m0 post ks dst l) (sta L h):=aW rfl
theorem NE {dst:Option Nat}{a b:Nat}{z:List DV}{x y:AX}:goO E m0 post ks (⟨dst,.mkslice a b z x y,none⟩::l) L h=aH E (.mkslice a b z (x.sub (slots L)) (y.sub (slots L))) (kgo E m0 post ks dst l) (sta L h):=aW rfl
theorem YH {dst:Option Nat}{k:Option Nat}{x:AX}{lo hi:Option AX}:goO E m0 post ks (⟨dst,.slice k x lo hi,none⟩::l) L h=aH E (.slice k (x.sub (slots L)) (lo.map (AX.sub (slots L))) (hi.map (AX.sub (slots L)))) (kgo E m0 post ks dst l) (sta L h):=aW rfl
theorem aAQ {dst:Option Nat}{n:Nat}{x:AX}:goO E m0 post ks (⟨dst,.faddr n x,none⟩::l) L h=aH E (.faddr n (x.sub (slots L))) (kgo E m0 post ks dst l) (sta L h):=aW rfl
theorem aCC {dst:Option Nat}{n:Nat}{a:Option Nat}{x:AX}:goO E m0 post ks (⟨dst,.field n a x,none⟩::l) L h=aH E (.field n a (x.sub (slots L))) (kgo E m0 post ks dst l) (sta L h):=aW rfl
theorem YQ {dst:Option Nat}{n:Nat}{x i:AX}:goO E m0 post ks (⟨dst,.iaddr n x i,none⟩::l) L h=aH E (.iaddr n (x.sub (slots L)) (i.sub (slots L))) (kgo E m0 post ks dst l) (sta L h):=aW rfl
theorem aAv {dst:Option Nat}{n m:Nat}{x i:AX}:goO E m0 post ks (⟨dst,.baddr n m x i,none⟩::l) L h=aH E (.baddr n m (x.sub (slots L)) (i.sub (slots L))) (kgo E m0 post ks dst l) (sta L h):=aW rfl
theorem aDD {dst:Option Nat}{x i:AX}:goO E m0 post ks (⟨dst,.sidx x i,none⟩::l) L h=aH E (.sidx (x.sub (slots L)) (i.sub (slots L))) (kgo E m0 post ks dst l) (sta L h):=aW rfl
theorem aCF {dst:Option Nat}{x:AX}:goO E m0 post ks (⟨dst,.range x,none⟩::l) L h=aH E (.range (x.sub (slots L))) (kgo E m0 post ks dst l) (sta L h):=aW rfl
theorem aGY {dst:Option Nat}{x:AX}:goO E m0 post ks (⟨dst,.next x,none⟩::l) L h=aH E (.next (x.sub (slots L))) (kgo E m0 post ks dst l) (sta L h):=aW rfl
theorem aFw {dst:Option Nat}{x:AX}{i:Nat}:goO E m0 post ks (⟨dst,.extr x i,none⟩::l) L h=aH E (.extr (x.sub (slots L)) i) (kgo E m0 post ks dst l) (sta L h):=aW rfl
theorem aGw {dst:Option Nat}{b:Bool}{f:Nat}{as:List AX}:goO E m0 post ks (⟨dst,.call b f as,none⟩::l) L h=aH E (.call b f (as.map (AX.sub (slots L)))) (kgo E m0 post ks dst l) (sta L h):=aW rfl
theorem aBl {dst:Option Nat}{b:Bool}{x:AX}{as:List AX}:goO E m0 post ks (⟨dst,.callv b x as,none⟩::l) L h=aH E (.callv b (x.sub (slots L)) (as.map (AX.sub (slots L)))) (kgo E m0 post ks dst l) (sta L h):=aW rfl
theorem aJA {dst:Option Nat}{b:Bool}{m:String}{x:AX}{as:List AX}:goO E m0 post ks (⟨dst,.inv b m x as,none⟩::l) L h=aH E (.inv b m (x.sub (slots L)) (as.map (AX.sub (slots L)))) (kgo E m0 post ks dst l) (sta L h):=aW rfl
theorem aJw {dst:Option Nat}{b:Bool}{x:AX}:goO E m0 post ks (⟨dst,.len b x,none⟩::l) L h=aH E (.len b (x.sub (slots L))) (kgo E m0 post ks dst l) (sta L h):=aW rfl
theorem aJV {dst:Option Nat}{x:AX}:goO E m0 post ks (⟨dst,.cap x,none⟩::l) L h=aH E (.cap (x.sub (slots L))) (kgo E m0 post ks dst l) (sta L h):=aW rfl
theorem OW {dst:Option Nat}{a b:Nat}{x y:AX}:goO E m0 post ks (⟨dst,.appendf a b x y,none⟩::l) L h=aH E (.appendf a b (x.sub (slots L)) (y.sub (slots L))) (kgo E m0 post ks dst l) (sta L h):=aW rfl
theorem XM {dst:Option Nat}{a b:Nat}{x y:AX}:goO E m0 post ks (⟨dst,.append a b x y,none⟩::l) L h=aH E (.append a b (x.sub (slots L)) (y.sub (slots L))) (kgo E m0 post ks dst l) (sta L h):=aW rfl
theorem aIB {dst:Option Nat}{a:Nat}{z:List DV}{x:AX}:goO E m0 post ks (⟨dst,.clr a z x,none⟩::l) L h=aH E (.clr a z (x.sub (slots L))) (kgo E m0 post ks dst l) (sta L h):=aW rfl
theorem aHH {dst:Option Nat}{a:Nat}{x y:AX}:goO E m0 post ks (⟨dst,.cpy a x y,none⟩::l) L h=aH E (.cpy a (x.sub (slots L)) (y.sub (slots L))) (kgo E m0 post ks dst l) (sta L h):=aW rfl
theorem OR {dst:Option Nat}{a b:Nat}{z:List DV}{x y:AX}:goO E m0 post ks (⟨dst,.appendz a b z x y,none⟩::l) L h=aH E (.appendz a b z (x.sub (slots L)) (y.sub (slots L))) (kgo E m0 post ks dst l) (sta L h):=aW rfl
theorem aBO {dst:Option Nat}:goO E m0 post ks (⟨dst,.mkmap,none⟩::l) L h=jL h (.mapo []) fun i h' => kgo E m0 post ks dst l (.mp i) (sta L h'):=aW rfl
theorem aGS {dst:Option Nat}{b:Bool}{z:PV}{x k:AX}:goO E m0 post ks (⟨dst,.look b z x k,none⟩::l) L h=aH E (.look b z (x.sub (slots L)) (k.sub (slots L))) (kgo E m0 post ks dst l) (sta L h):=aW rfl
theorem aDI {dst:Option Nat}{z:PV}{x k:AX}:goO E m0 post ks (⟨dst,.ment z x k,none⟩::l) L h=aH E (.ment z (x.sub (slots L)) (k.sub (slots L))) (kgo E m0 post ks dst l) (sta L h):=aW rfl
theorem aGT {dst:Option Nat}{x i v:AX}:goO E m0 post ks (⟨dst,.mset x i v,none⟩::l) L h=aH E (.mset (x.sub (slots L)) (i.sub (slots L)) (v.sub (slots L))) (kgo E m0 post ks dst l) (sta L h):=aW rfl
theorem aHd {dst:Option Nat}{x k v:AX}:goO E m0 post ks (⟨dst,.mput x k v,none⟩::l) L h=aH E (.mput (x.sub (slots L)) (k.sub (slots L)) (v.sub (slots L))) (kgo E m0 post ks dst l) (sta L h):=aW rfl
theorem aKf {dst:Option Nat}:goO E m0 post ks (⟨dst,.bad,none⟩::l) L h=False:=aW rfl
theorem aKP {dst:Option Nat}{as:List AX}:goO E m0 post ks (⟨dst,.mn as,none⟩::l) L h=aH E (.mn (as.map (AX.sub (slots L)))) (knm E m0 post ks dst l) (sta L h):=oQ rfl
theorem aKX {dst:Option Nat}{as:List AX}:goO E m0 post ks (⟨dst,.mx as,none⟩::l) L h=aH E (.mx (as.map (AX.sub (slots L)))) (knm E m0 post ks dst l) (sta L h):=oQ rfl
theorem GC {t s:Nat}{d:DV}:slots ((t,d)::L) s=sel (s == t) d (slots L s):=by
 simp only [slots]
 by_cases e:s=t
 ·simp [e,eP]
 ·have:(s == t)=false:=by simpa using e
  simp [e,this,jQ]
theorem OL {s:Nat}:slots [] s=.undef:=rfl
theorem aJe {fr:Nat→DV}{s:Nat}:AX.sub fr (.t s)=.c (fr s):=rfl
theorem aIP {fr:Nat→DV}{d:DV}:AX.sub fr (.c d)=.c d:=rfl
theorem aKw {fr:Nat→DV}{d:DV}:AX.ev fr (.c d)=d:=rfl
theorem aKz {fr:Nat→DV}{s:Nat}:AX.ev fr (.t s)=fr s:=rfl
end
end Go.Ai
