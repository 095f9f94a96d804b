/- Steps by rewriting from the outside in: every rule is tried ahead of a term's parts; a part that must be reckoned first is named. -/
import Derived.Test.YtgamnnfndidclaaGreatDoorGAiSub
set_option linter.all false
namespace Go.Ai
def evl {α:Type}(x:α)(K:α→Prop):Prop:=K x
@[congr] theorem aDr {α:Type} {x x' : α} {K:α→Prop} (h:x=x'):evl x K=evl x' K:=by rw [h]
def nrm {α:Type}(x:α):α:=x
theorem aCX {α:Type}{x:α}:nrm x=x:=rfl
theorem aDc {α:Type}{x:α}{K:α→Prop}:evl x K=K x:=rfl
def chk (p q:Prop):Prop:=p∧q
@[congr] theorem aDp {p p' q:Prop} (h:p=p'):chk p q=chk p' q:=by rw [h]
theorem KF {q:Prop}:chk True q=q:=by simp [chk]
section
variable {E:Env} {m0:Nat} {post:AExit→St→Prop} {ks:List Fr} {L:List (Nat×DV)} {h:List AObj}
theorem sH {g:Nat}{b:ACode}{id' : Nat}:goK E m0 post (.jump g b::ks) (.exit id') L h=sel (id' == g) (goN E m0 post (.low::ks) b L h) (chk (id' ≤ 999999) (goK E m0 post ks (.exit id') L h)):=by
 unfold goK
 simp only [dG]
 by_cases e:id' = g
 ·simp only [e,if_true,beq_self_eq_true,fK]; rfl
 ·have:(id' == g)=false:=by simpa using e
  simp only [e,if_false,this,gM,chk,Nat.lt_succ_iff]
theorem uI {id' : Nat}:goK E m0 post (.low::ks) (.exit id') L h=chk (id' ≤ 999999) (goK E m0 post ks (.exit id') L h):=by
 unfold goK
 simp only [dG,chk,Nat.lt_succ_iff]
end
def eT {α:Type}(x:Option α)(K:α→Prop):Prop:=∃ a,x=some a∧K a
@[congr] theorem aBc {α:Type} {x x' : Option α} {K:α→Prop} (h:x=x'):eT x K=eT x' K:=by rw [h]
theorem GO {α:Type}{a:α}{K:α→Prop}:eT (some a) K=K a:=by simp [eT]
theorem KU {α β:Type}{f:α→β}{l:List α}{i:Nat}{K:β→Prop}:eT (l.map f)[i]? K=eT l[i]? fun a=>K (f a):=by
 unfold eT; rw [List.getElem?_map]; cases l[i]? <;> simp
theorem uO {α:Type}{x:Option α}{K:α→Prop}(a:α)(h:x=some a)(hk:K a):eT x K:=⟨a,h,hk⟩
def CE (x:Option AObj)(K:List DV→Prop):Prop:=∃ cs,x=some (.box cs)∧K cs
@[congr] theorem aAk {x x' : Option AObj} {K:List DV→Prop} (h:x=x'):CE x K=CE x' K:=by rw [h]
theorem GT {cs:List DV}{K:List DV→Prop}:CE (some (.box cs)) K=K cs:=by simp [CE]
def kL (sz:Nat)(x:Option AObj)(K:List (List DV)→Prop):Prop:=∃ es,x=some (.arr sz es)∧K es
@[congr] theorem aBa {sz:Nat} {x x' : Option AObj} {K:List (List DV)→Prop} (h:x=x'):kL sz x K=kL sz x' K:=by rw [h]
theorem JG {sz:Nat}{es:List (List DV)}{K:List (List DV)→Prop}:kL sz (some (.arr sz es)) K=K es:=by simp [kL]
def yA (x:Option AObj)(K:List UInt8→Nat→Prop):Prop:=∃ s pos,x=some (.iter s pos)∧K s pos
@[congr] theorem YY {x x' : Option AObj} {K:List UInt8→Nat→Prop} (h:x=x'):yA x K=yA x' K:=by rw [h]
theorem zU {s:List UInt8}{pos:Nat}{K:List UInt8→Nat→Prop}:yA (some (.iter s pos)) K=K s pos:=by
 unfold yA; apply propext; constructor
 ·rintro ⟨s',p',h,k⟩; cases h; exact k
 ·exact fun k=>⟨s,pos,rfl,k⟩
def wK (x:Option AObj)(K:List (List UInt8×PV)→Prop):Prop:=∃ es,x=some (.mapo es)∧K es
@[congr] theorem aCl {x x' : Option AObj} {K:List (List UInt8×PV)→Prop} (h:x=x'):wK x K=wK x' K:=by rw [h]
theorem FU {es:List (List UInt8×PV)}{K:List (List UInt8×PV)→Prop}:wK (some (.mapo es)) K=K es:=by simp [wK]
def hZ (h:List AObj)(o:AObj)(K:Nat→List AObj→Prop):Prop:=K h.length (h++[o])
theorem UR {h:List AObj}{o:AObj}{K:Nat→List AObj→Prop}:hZ h o K=evl (nrm h.length) fun i=>evl (nrm (h++[o])) fun h' => K i h' := rfl
def ocP (l:List DV)(h:List AObj)(K:List DV→List AObj→Prop):Prop:=K (aK l h).1 (aK l h).2
section
variable {l:List DV} {h:List AObj} {K:List DV→List AObj→Prop}
theorem WY:ocP [] h K=K [] h:=rfl
theorem UJ {k:IntKind}{n:Int}:ocP (.int k n::l) h K=ocP l h fun l' h' => K (.int k n::l') h' := rfl
theorem OP {b:Bool}:ocP (.bool b::l) h K=ocP l h fun l' h' => K (.bool b::l') h' := rfl
theorem TT {s:List UInt8}:ocP (.str s::l) h K=ocP l h fun l' h' => K (.str s::l') h' := rfl
theorem QL:ocP (.nilp::l) h K=ocP l h fun l' h' => K (.nilp::l') h' := rfl
theorem VZ {i o:Nat}:ocP (.ptr i o::l) h K=ocP l h fun l' h' => K (.ptr i o::l') h' := rfl
theorem KD {sz i j q:Nat}:ocP (.aptr sz i j q::l) h K=ocP l h fun l' h' => K (.aptr sz i j q::l') h' := rfl
theorem KY {cs:List DV}{o:Nat}:ocP (.eptr cs o::l) h K=ocP l h fun l' h' => K (.eptr cs o::l') h' := rfl
theorem aAL {sz:Nat}{es:List (List DV)}:ocP (.sl sz es::l) h K=ocP l h fun l' h' => K (.sl sz es::l') h' := rfl
theorem SB {sz i off n:Nat}{c:Option Nat}:ocP (.osl sz i off n c::l) h K=ocP l h fun l' h' => K (.osl sz i off n c::l') h' := rfl
theorem aAI {f:Nat}{cs:List DV}:ocP (.fn f cs::l) h K=ocP l h fun l' h' => K (.fn f cs::l') h' := rfl
theorem TA {f:Nat}{cs:List DV}:ocP (.ifc f cs::l) h K=ocP l h fun l' h' => K (.ifc f cs::l') h' := rfl
theorem XC {f:Nat}{cs:List DV}:ocP (.bnd f cs::l) h K=ocP l h fun l' h' => K (.bnd f cs::l') h' := rfl
theorem JZ:ocP (.nili::l) h K=ocP l h fun l' h' => K (.nili::l') h' := rfl
theorem WU {b:Bool}{n:Nat}:ocP (.emp b n::l) h K=ocP l h fun l' h' => K (.emp b n::l') h' := rfl
theorem ZS {i:Nat}:ocP (.mp i::l) h K=ocP l h fun l' h' => K (.mp i::l') h' := rfl
theorem IT:ocP (.nilfn::l) h K=ocP l h fun l' h' => K (.nilfn::l') h' := rfl
theorem PA {sz:Nat}:ocP (.nils sz::l) h K=hZ h (.arr sz []) fun i h1=>ocP l h1 fun l' h' => K (.osl sz i 0 0 none::l') h' := rfl
end

def kgo (E:Env)(m0:Nat)(post:AExit→St→Prop)(ks:List Fr)(dst:Option Nat)(l:List AOper)(d:DV)(st:St):Prop:=eB E l (dG E m0 post ks .normal) (st.put dst d)
def knm (E:Env)(m0:Nat)(post:AExit→St→Prop)(ks:List Fr)(dst:Option Nat)(l:List AOper)(d:DV)(st:St):Prop:=
 match d with
 | .int k n=>∀ v,v=n→kgo E m0 post ks dst l (.int k v) st
 | .bool b=>(b=true→kgo E m0 post ks dst l (.bool true) st)∧(b=false→kgo E m0 post ks dst l (.bool false) st)
 | d=>kgo E m0 post ks dst l d st
section
variable {E:Env} {m0:Nat} {post:AExit→St→Prop} {ks:List Fr} {L:List (Nat×DV)} {h:List AObj} {l:List AOper} {K:DV→St→Prop} {st:St}
theorem HM (L:List (Nat×DV))(dst:Option Nat)(d:DV):(sta L h).put dst d=sta (match dst with | some t=>(t,d)::L | none=>L) h:=by
 cases dst with
 | none=>rfl
 | some t=>
  simp only [St.put,sta]
  congr 1
theorem iJ {t:Nat}{d:DV}:kgo E m0 post ks (some t) l d (sta L h)=goO E m0 post ks l ((t,d)::L) h:=by
 unfold kgo; rw [HM]; rfl
theorem KH {d:DV}:kgo E m0 post ks none l d (sta L h)=goO E m0 post ks l L h:=rfl
theorem UP {t:Nat}{k:IntKind}{n:Int}:knm E m0 post ks (some t) l (.int k n) (sta L h)=∀ v,v=n→goO E m0 post ks l ((t,.int k v)::L) h:=by
 unfold knm; simp only [iJ]
def yE (E:Env)(m0:Nat)(post:AExit→St→Prop)(ks:List Fr)(t:Nat)(l:List AOper)(L:List (Nat×DV))(h:List AObj)(b:Bool):Prop:=
 (b=true→goO E m0 post ks l ((t,.bool true)::L) h)∧(b=false→goO E m0 post ks l ((t,.bool false)::L) h)
@[congr] theorem aCP {E:Env} {m0:Nat} {post:AExit→St→Prop} {ks:List Fr} {t:Nat} {l:List AOper} {L:List (Nat×DV)} {h:List AObj} {b b' : Bool} (e:b=b'):yE E m0 post ks t l L h b=yE E m0 post ks t l L h b' := by rw [e]
theorem GC {t:Nat}:yE E m0 post ks t l L h true=goO E m0 post ks l ((t,.bool true)::L) h:=by simp [yE]
theorem zK {t:Nat}:yE E m0 post ks t l L h false=goO E m0 post ks l ((t,.bool false)::L) h:=by simp [yE]
theorem aAR {t:Nat}{b:Bool}:yE E m0 post ks t l L h b=((b=true→goO E m0 post ks l ((t,.bool true)::L) h)∧(b=false→goO E m0 post ks l ((t,.bool false)::L) h)):=rfl
theorem JS {t:Nat}{b:Bool}:knm E m0 post ks (some t) l (.bool b) (sta L h)=yE E m0 post ks t l L h (nrm b):=by
 unfold knm; simp only [iJ]; rfl
theorem SK {t:Nat}{s:List UInt8}:knm E m0 post ks (some t) l (.str s) (sta L h)=goO E m0 post ks l ((t,.str s)::L) h:=by
 unfold knm; simp only [iJ]
theorem RU {t:Nat}{a b c d:Nat}{e:Option Nat}:knm E m0 post ks (some t) l (.osl a b c d e) (sta L h)=goO E m0 post ks l ((t,.osl a b c d e)::L) h:=by
 unfold knm; simp only [iJ]
theorem WX {dst:Option Nat}{op:AOp}{g:Option (Nat×Bool)}(_hn:nm op=false):kop E m0 post ks ⟨dst,op,g⟩ l=kgo E m0 post ks dst l:=by
 funext d st
 unfold kop kgo
 rw [AL]
theorem aCU {dst:Option Nat}{d:DV}:knm E m0 post ks dst l d st=kgo E m0 post ks dst l d st:=by
 cases d <;> first | rfl | (simp [knm]; done) | skip
 rename_i b
 cases b <;> simp [knm]
theorem TW {dst:Option Nat}{op:AOp}{g:Option (Nat×Bool)}(_hn:nm op=true):kop E m0 post ks ⟨dst,op,g⟩ l=knm E m0 post ks dst l:=by
 funext d st
 unfold kop
 rw [AL,aCU]
 rfl
theorem AC {dst:Option Nat}{op:AOp}{g:Nat}{want:Bool}:goO E m0 post ks (⟨dst,op,some (g,want)⟩::l) L h =
  gS (slots L g) want (goO E m0 post ks (⟨dst,op,none⟩::l) L h) (kgo E m0 post ks dst l (.tup []) (sta L h)):=by
 rw [GR,MT]
 rfl
theorem aN {dst:Option Nat}{op:AOp}(hn:nm op=false):goO E m0 post ks (⟨dst,op,none⟩::l) L h=aE E (op.sub (slots L)) (kgo E m0 post ks dst l) (sta L h):=by
 rw [KX,WX hn]
theorem lP {dst:Option Nat}{op:AOp}(hn:nm op=true):goO E m0 post ks (⟨dst,op,none⟩::l) L h=aE E (op.sub (slots L)) (knm E m0 post ks dst l) (sta L h):=by
 rw [KX,TW hn]
theorem aDS {dst:Option Nat}{x:AX}:goO E m0 post ks (⟨dst,.mov x,none⟩::l) L h=aE E (.mov (x.sub (slots L))) (kgo E m0 post ks dst l) (sta L h):=aN rfl
theorem aFc {dst:Option Nat}{x:AX}:goO E m0 post ks (⟨dst,.set x,none⟩::l) L h=aE E (.set (x.sub (slots L))) (kgo E m0 post ks dst l) (sta L h):=aN rfl
theorem QT {dst:Option Nat}{n:Nat}:goO E m0 post ks (⟨dst,.newnil n,none⟩::l) L h=hZ h (.arr n []) fun i h' => kgo E m0 post ks dst l (.osl n i 0 0 none) (sta L h'):=aN rfl
theorem aAr {dst:Option Nat}{c a b:AX}:goO E m0 post ks (⟨dst,.pick c a b,none⟩::l) L h=aE E (.pick (c.sub (slots L)) (a.sub (slots L)) (b.sub (slots L))) (kgo E m0 post ks dst l) (sta L h):=aN rfl
theorem aFq {dst:Option Nat}{x:AX}:goO E m0 post ks (⟨dst,.box x,none⟩::l) L h=aE E (.box (x.sub (slots L))) (kgo E m0 post ks dst l) (sta L h):=aN rfl
theorem TO {dst:Option Nat}{z:List DV}:goO E m0 post ks (⟨dst,.alloc z,none⟩::l) L h=ocP z h fun z' h' => hZ h' (.box z') fun i h'' => kgo E m0 post ks dst l (.ptr i 0) (sta L h''):=aN rfl
theorem JX {dst:Option Nat}{t e:Nat}:goO E m0 post ks (⟨dst,.allocb t e,none⟩::l) L h=hZ h (.buf e []) fun i h' => hZ h' (.box [.self (i+1) t 2,.hdr i e 0]) fun _ h'' => kgo E m0 post ks dst l (.ptr (i+1) 0) (sta L h''):=aN rfl
theorem VA {dst:Option Nat}{z:List DV}{ps:List (Nat×Nat×AX)}:goO E m0 post ks (⟨dst,.build z ps,none⟩::l) L h=aE E (.build z (ps.map fun p=>(p.1,p.2.1,p.2.2.sub (slots L)))) (kgo E m0 post ks dst l) (sta L h):=aN rfl
theorem NY {dst:Option Nat}{b:Bool}{n:Nat}{ps:List AX}:goO E m0 post ks (⟨dst,.bslice b n ps,none⟩::l) L h=aE E (.bslice b n (ps.map (AX.sub (slots L)))) (kgo E m0 post ks dst l) (sta L h):=aN rfl
theorem aCs {dst:Option Nat}{a:Option Nat}{x:AX}:goO E m0 post ks (⟨dst,.load a x,none⟩::l) L h=aE E (.load a (x.sub (slots L))) (kgo E m0 post ks dst l) (sta L h):=aN rfl
theorem VR {dst:Option Nat}{b:Bool}{n:Nat}{x v:AX}:goO E m0 post ks (⟨dst,.store b n x v,none⟩::l) L h=aE E (.store b n (x.sub (slots L)) (v.sub (slots L))) (kgo E m0 post ks dst l) (sta L h):=aN rfl
theorem NA {dst:Option Nat}{x:AX}:goO E m0 post ks (⟨dst,.nilchk x,none⟩::l) L h=aE E (.nilchk (x.sub (slots L))) (kgo E m0 post ks dst l) (sta L h):=aN rfl
theorem WJ {dst:Option Nat}{t:Nat}{x:AX}:goO E m0 post ks (⟨dst,.mkifc t x,none⟩::l) L h=aE E (.mkifc t (x.sub (slots L))) (kgo E m0 post ks dst l) (sta L h):=aN rfl
theorem UW {dst:Option Nat}{t:Nat}{x:AX}:goO E m0 post ks (⟨dst,.mkbnd t x,none⟩::l) L h=aE E (.mkbnd t (x.sub (slots L))) (kgo E m0 post ks dst l) (sta L h):=aN rfl
theorem aEO {dst:Option Nat}{o:BinOp}{t:Ty}{x y:AX}:goO E m0 post ks (⟨dst,.bin o t x y,none⟩::l) L h=aE E (.bin o t (x.sub (slots L)) (y.sub (slots L))) (knm E m0 post ks dst l) (sta L h):=lP rfl
theorem aGi {dst:Option Nat}{o:UnOp}{x:AX}:goO E m0 post ks (⟨dst,.un o x,none⟩::l) L h=aE E (.un o (x.sub (slots L))) (knm E m0 post ks dst l) (sta L h):=lP rfl
theorem aCM {dst:Option Nat}{c:CV}{x:AX}:goO E m0 post ks (⟨dst,.conv c x,none⟩::l) L h=aE E (.conv c (x.sub (slots L))) (knm E m0 post ks dst l) (sta L h):=lP rfl
theorem aAi {dst:Option Nat}{f:Nat}{cs:List AX}:goO E m0 post ks (⟨dst,.mkfn f cs,none⟩::l) L h=aE E (.mkfn f (cs.map (AX.sub (slots L)))) (kgo E m0 post ks dst l) (sta L h):=aN rfl
theorem JF {dst:Option Nat}{a b:Nat}{z:List DV}{x y:AX}:goO E m0 post ks (⟨dst,.mkslice a b z x y,none⟩::l) L h=aE E (.mkslice a b z (x.sub (slots L)) (y.sub (slots L))) (kgo E m0 post ks dst l) (sta L h):=aN rfl
theorem XM {dst:Option Nat}{k:Option Nat}{x:AX}{lo hi:Option AX}:goO E m0 post ks (⟨dst,.slice k x lo hi,none⟩::l) L h=aE E (.slice k (x.sub (slots L)) (lo.map (AX.sub (slots L))) (hi.map (AX.sub (slots L)))) (kgo E m0 post ks dst l) (sta L h):=aN rfl
theorem TB {dst:Option Nat}{n:Nat}{x:AX}:goO E m0 post ks (⟨dst,.faddr n x,none⟩::l) L h=aE E (.faddr n (x.sub (slots L))) (kgo E m0 post ks dst l) (sta L h):=aN rfl
theorem XS {dst:Option Nat}{n:Nat}{a:Option Nat}{x:AX}:goO E m0 post ks (⟨dst,.field n a x,none⟩::l) L h=aE E (.field n a (x.sub (slots L))) (kgo E m0 post ks dst l) (sta L h):=aN rfl
theorem TK {dst:Option Nat}{n:Nat}{x i:AX}:goO E m0 post ks (⟨dst,.iaddr n x i,none⟩::l) L h=aE E (.iaddr n (x.sub (slots L)) (i.sub (slots L))) (kgo E m0 post ks dst l) (sta L h):=aN rfl
theorem US {dst:Option Nat}{n m:Nat}{x i:AX}:goO E m0 post ks (⟨dst,.baddr n m x i,none⟩::l) L h=aE E (.baddr n m (x.sub (slots L)) (i.sub (slots L))) (kgo E m0 post ks dst l) (sta L h):=aN rfl
theorem aAA {dst:Option Nat}{x i:AX}:goO E m0 post ks (⟨dst,.sidx x i,none⟩::l) L h=aE E (.sidx (x.sub (slots L)) (i.sub (slots L))) (kgo E m0 post ks dst l) (sta L h):=aN rfl
theorem RX {dst:Option Nat}{x:AX}:goO E m0 post ks (⟨dst,.range x,none⟩::l) L h=aE E (.range (x.sub (slots L))) (kgo E m0 post ks dst l) (sta L h):=aN rfl
theorem ZT {dst:Option Nat}{x:AX}:goO E m0 post ks (⟨dst,.next x,none⟩::l) L h=aE E (.next (x.sub (slots L))) (kgo E m0 post ks dst l) (sta L h):=aN rfl
theorem aBY {dst:Option Nat}{x:AX}{i:Nat}:goO E m0 post ks (⟨dst,.extr x i,none⟩::l) L h=aE E (.extr (x.sub (slots L)) i) (kgo E m0 post ks dst l) (sta L h):=aN rfl
theorem aBA {dst:Option Nat}{b:Bool}{f:Nat}{as:List AX}:goO E m0 post ks (⟨dst,.call b f as,none⟩::l) L h=aE E (.call b f (as.map (AX.sub (slots L)))) (kgo E m0 post ks dst l) (sta L h):=aN rfl
theorem WE {dst:Option Nat}{b:Bool}{x:AX}{as:List AX}:goO E m0 post ks (⟨dst,.callv b x as,none⟩::l) L h=aE E (.callv b (x.sub (slots L)) (as.map (AX.sub (slots L)))) (kgo E m0 post ks dst l) (sta L h):=aN rfl
theorem aEc {dst:Option Nat}{b:Bool}{m:String}{x:AX}{as:List AX}:goO E m0 post ks (⟨dst,.inv b m x as,none⟩::l) L h=aE E (.inv b m (x.sub (slots L)) (as.map (AX.sub (slots L)))) (kgo E m0 post ks dst l) (sta L h):=aN rfl
theorem aEt {dst:Option Nat}{b:Bool}{x:AX}:goO E m0 post ks (⟨dst,.len b x,none⟩::l) L h=aE E (.len b (x.sub (slots L))) (kgo E m0 post ks dst l) (sta L h):=aN rfl
theorem aFC {dst:Option Nat}{x:AX}:goO E m0 post ks (⟨dst,.cap x,none⟩::l) L h=aE E (.cap (x.sub (slots L))) (kgo E m0 post ks dst l) (sta L h):=aN rfl
theorem FW {dst:Option Nat}{a b:Nat}{x y:AX}:goO E m0 post ks (⟨dst,.appendf a b x y,none⟩::l) L h=aE E (.appendf a b (x.sub (slots L)) (y.sub (slots L))) (kgo E m0 post ks dst l) (sta L h):=aN rfl
theorem LK {dst:Option Nat}{a b:Nat}{x y:AX}:goO E m0 post ks (⟨dst,.append a b x y,none⟩::l) L h=aE E (.append a b (x.sub (slots L)) (y.sub (slots L))) (kgo E m0 post ks dst l) (sta L h):=aN rfl
theorem aEA {dst:Option Nat}{a:Nat}{z:List DV}{x:AX}:goO E m0 post ks (⟨dst,.clr a z x,none⟩::l) L h=aE E (.clr a z (x.sub (slots L))) (kgo E m0 post ks dst l) (sta L h):=aN rfl
theorem aEI {dst:Option Nat}{a:Nat}{x y:AX}:goO E m0 post ks (⟨dst,.cpy a x y,none⟩::l) L h=aE E (.cpy a (x.sub (slots L)) (y.sub (slots L))) (kgo E m0 post ks dst l) (sta L h):=aN rfl
theorem GB {dst:Option Nat}{a b:Nat}{z:List DV}{x y:AX}:goO E m0 post ks (⟨dst,.appendz a b z x y,none⟩::l) L h=aE E (.appendz a b z (x.sub (slots L)) (y.sub (slots L))) (kgo E m0 post ks dst l) (sta L h):=aN rfl
theorem SA {dst:Option Nat}:goO E m0 post ks (⟨dst,.mkmap,none⟩::l) L h=hZ h (.mapo []) fun i h' => kgo E m0 post ks dst l (.mp i) (sta L h'):=aN rfl
theorem aAN {dst:Option Nat}{b:Bool}{z:PV}{x k:AX}:goO E m0 post ks (⟨dst,.look b z x k,none⟩::l) L h=aE E (.look b z (x.sub (slots L)) (k.sub (slots L))) (kgo E m0 post ks dst l) (sta L h):=aN rfl
theorem aDe {dst:Option Nat}{z:PV}{x k:AX}:goO E m0 post ks (⟨dst,.ment z x k,none⟩::l) L h=aE E (.ment z (x.sub (slots L)) (k.sub (slots L))) (kgo E m0 post ks dst l) (sta L h):=aN rfl
theorem aAD {dst:Option Nat}{x i v:AX}:goO E m0 post ks (⟨dst,.mset x i v,none⟩::l) L h=aE E (.mset (x.sub (slots L)) (i.sub (slots L)) (v.sub (slots L))) (kgo E m0 post ks dst l) (sta L h):=aN rfl
theorem aBh {dst:Option Nat}{x k v:AX}:goO E m0 post ks (⟨dst,.mput x k v,none⟩::l) L h=aE E (.mput (x.sub (slots L)) (k.sub (slots L)) (v.sub (slots L))) (kgo E m0 post ks dst l) (sta L h):=aN rfl
theorem aEC {dst:Option Nat}:goO E m0 post ks (⟨dst,.bad,none⟩::l) L h=False:=aN rfl
theorem aGl {dst:Option Nat}{as:List AX}:goO E m0 post ks (⟨dst,.mn as,none⟩::l) L h=aE E (.mn (as.map (AX.sub (slots L)))) (knm E m0 post ks dst l) (sta L h):=lP rfl
theorem aGJ {dst:Option Nat}{as:List AX}:goO E m0 post ks (⟨dst,.mx as,none⟩::l) L h=aE E (.mx (as.map (AX.sub (slots L)))) (knm E m0 post ks dst l) (sta L h):=lP rfl
theorem CY {t s:Nat}{d:DV}:slots ((t,d)::L) s=sel (s == t) d (slots L s):=by
 simp only [slots]
 by_cases e:s=t
 ·simp [e,fK]
 ·have:(s == t)=false:=by simpa using e
  simp [e,this,gM]
theorem FV {s:Nat}:slots [] s=.undef:=rfl
theorem aEl {fr:Nat→DV}{s:Nat}:AX.sub fr (.t s)=.c (fr s):=rfl
theorem aFy {fr:Nat→DV}{d:DV}:AX.sub fr (.c d)=.c d:=rfl
theorem aGg {fr:Nat→DV}{d:DV}:AX.ev fr (.c d)=d:=rfl
theorem aGe {fr:Nat→DV}{s:Nat}:AX.ev fr (.t s)=fr s:=rfl
end
end Go.Ai
