/- Steps by rewriting from the outside in: every rule is tried ahead of a term's parts; a part that must be reckoned first is named. -/
import Derived.Test.YtgamnnfndidclaaGreatDoorBAiSub
set_option linter.all false
namespace Go.Ai
def evl {α:Type}(x:α)(K:α→Prop):Prop:=K x
@[congr] theorem evl_congr {α:Type} {x x' : α} {K:α→Prop} (h:x=x'):evl x K=evl x' K:=by rw [h]
def nrm {α:Type}(x:α):α:=x
theorem nrm_eq {α:Type}{x:α}:nrm x=x:=rfl
theorem evl_go {α:Type}{x:α}{K:α→Prop}:evl x K=K x:=rfl
def chk (p q:Prop):Prop:=p∧q
@[congr] theorem chk_congr {p p' q:Prop} (h:p=p'):chk p q=chk p' q:=by rw [h]
theorem chk_true {q:Prop}:chk True q=q:=by simp [chk]
section
variable {E:Env} {m0:Nat} {post:AExit→St→Prop} {ks:List Fr} {L:List (Nat×DV)} {h:List AObj}
theorem goK_jump_exit {g:Nat}{b:ACode}{id' : Nat}:goK E m0 post (.jump g b::ks) (.exit id') L h=sel (id' == g) (goN E m0 post (.low::ks) b L h) (chk (id' ≤ 999999) (goK E m0 post ks (.exit id') L h)):=by
 unfold goK
 simp only [kont]
 by_cases e:id' = g
 ·simp only [e,if_true,beq_self_eq_true,sel_true]; rfl
 ·have:(id' == g)=false:=by simpa using e
  simp only [e,if_false,this,sel_false,chk,Nat.lt_succ_iff]
theorem goK_low_exit {id' : Nat}:goK E m0 post (.low::ks) (.exit id') L h=chk (id' ≤ 999999) (goK E m0 post ks (.exit id') L h):=by
 unfold goK
 simp only [kont,chk,Nat.lt_succ_iff]
end
def optP {α:Type}(x:Option α)(K:α→Prop):Prop:=∃ a,x=some a∧K a
@[congr] theorem optP_congr {α:Type} {x x' : Option α} {K:α→Prop} (h:x=x'):optP x K=optP x' K:=by rw [h]
theorem optP_some {α:Type}{a:α}{K:α→Prop}:optP (some a) K=K a:=by simp [optP]
theorem optP_map {α β:Type}{f:α→β}{l:List α}{i:Nat}{K:β→Prop}:optP (l.map f)[i]? K=optP l[i]? fun a=>K (f a):=by
 unfold optP; rw [List.getElem?_map]; cases l[i]? <;> simp
theorem optP_in {α:Type}{x:Option α}{K:α→Prop}(a:α)(h:x=some a)(hk:K a):optP x K:=⟨a,h,hk⟩
def boxP (x:Option AObj)(K:List DV→Prop):Prop:=∃ cs,x=some (.box cs)∧K cs
@[congr] theorem boxP_congr {x x' : Option AObj} {K:List DV→Prop} (h:x=x'):boxP x K=boxP x' K:=by rw [h]
theorem boxP_some {cs:List DV}{K:List DV→Prop}:boxP (some (.box cs)) K=K cs:=by simp [boxP]
def arrP (sz:Nat)(x:Option AObj)(K:List (List DV)→Prop):Prop:=∃ es,x=some (.arr sz es)∧K es
@[congr] theorem arrP_congr {sz:Nat} {x x' : Option AObj} {K:List (List DV)→Prop} (h:x=x'):arrP sz x K=arrP sz x' K:=by rw [h]
theorem arrP_some {sz:Nat}{es:List (List DV)}{K:List (List DV)→Prop}:arrP sz (some (.arr sz es)) K=K es:=by simp [arrP]
def iterP (x:Option AObj)(K:List UInt8→Nat→Prop):Prop:=∃ s pos,x=some (.iter s pos)∧K s pos
@[congr] theorem iterP_congr {x x' : Option AObj} {K:List UInt8→Nat→Prop} (h:x=x'):iterP x K=iterP x' K:=by rw [h]
theorem iterP_some {s:List UInt8}{pos:Nat}{K:List UInt8→Nat→Prop}:iterP (some (.iter s pos)) K=K s pos:=by
 unfold iterP; apply propext; constructor
 ·rintro ⟨s',p',h,k⟩; cases h; exact k
 ·exact fun k=>⟨s,pos,rfl,k⟩
def mapP (x:Option AObj)(K:List (List UInt8×PV)→Prop):Prop:=∃ es,x=some (.mapo es)∧K es
@[congr] theorem mapP_congr {x x' : Option AObj} {K:List (List UInt8×PV)→Prop} (h:x=x'):mapP x K=mapP x' K:=by rw [h]
theorem mapP_some {es:List (List UInt8×PV)}{K:List (List UInt8×PV)→Prop}:mapP (some (.mapo es)) K=K es:=by simp [mapP]
def newP (h:List AObj)(o:AObj)(K:Nat→List AObj→Prop):Prop:=K h.length (h++[o])
theorem newP_go {h:List AObj}{o:AObj}{K:Nat→List AObj→Prop}:newP h o K=evl (nrm h.length) fun i=>evl (nrm (h++[o])) fun h' => K i h' := rfl
def ocP (l:List DV)(h:List AObj)(K:List DV→List AObj→Prop):Prop:=K (ownCells l h).1 (ownCells l h).2
section
variable {l:List DV} {h:List AObj} {K:List DV→List AObj→Prop}
theorem ocP_nil:ocP [] h K=K [] h:=rfl
theorem ocP_int {k:IntKind}{n:Int}:ocP (.int k n::l) h K=ocP l h fun l' h' => K (.int k n::l') h' := rfl
theorem ocP_bool {b:Bool}:ocP (.bool b::l) h K=ocP l h fun l' h' => K (.bool b::l') h' := rfl
theorem ocP_str {s:List UInt8}:ocP (.str s::l) h K=ocP l h fun l' h' => K (.str s::l') h' := rfl
theorem ocP_nilp:ocP (.nilp::l) h K=ocP l h fun l' h' => K (.nilp::l') h' := rfl
theorem ocP_ptr {i o:Nat}:ocP (.ptr i o::l) h K=ocP l h fun l' h' => K (.ptr i o::l') h' := rfl
theorem ocP_aptr {sz i j q:Nat}:ocP (.aptr sz i j q::l) h K=ocP l h fun l' h' => K (.aptr sz i j q::l') h' := rfl
theorem ocP_eptr {cs:List DV}{o:Nat}:ocP (.eptr cs o::l) h K=ocP l h fun l' h' => K (.eptr cs o::l') h' := rfl
theorem ocP_sl {sz:Nat}{es:List (List DV)}:ocP (.sl sz es::l) h K=ocP l h fun l' h' => K (.sl sz es::l') h' := rfl
theorem ocP_osl {sz i off n:Nat}{c:Option Nat}:ocP (.osl sz i off n c::l) h K=ocP l h fun l' h' => K (.osl sz i off n c::l') h' := rfl
theorem ocP_fn {f:Nat}{cs:List DV}:ocP (.fn f cs::l) h K=ocP l h fun l' h' => K (.fn f cs::l') h' := rfl
theorem ocP_ifc {f:Nat}{cs:List DV}:ocP (.ifc f cs::l) h K=ocP l h fun l' h' => K (.ifc f cs::l') h' := rfl
theorem ocP_bnd {f:Nat}{cs:List DV}:ocP (.bnd f cs::l) h K=ocP l h fun l' h' => K (.bnd f cs::l') h' := rfl
theorem ocP_nili:ocP (.nili::l) h K=ocP l h fun l' h' => K (.nili::l') h' := rfl
theorem ocP_emp {b:Bool}{n:Nat}:ocP (.emp b n::l) h K=ocP l h fun l' h' => K (.emp b n::l') h' := rfl
theorem ocP_mp {i:Nat}:ocP (.mp i::l) h K=ocP l h fun l' h' => K (.mp i::l') h' := rfl
theorem ocP_nilfn:ocP (.nilfn::l) h K=ocP l h fun l' h' => K (.nilfn::l') h' := rfl
theorem ocP_nils {sz:Nat}:ocP (.nils sz::l) h K=newP h (.arr sz []) fun i h1=>ocP l h1 fun l' h' => K (.osl sz i 0 0 none::l') h' := rfl
end

def kgo (E:Env)(m0:Nat)(post:AExit→St→Prop)(ks:List Fr)(dst:Option Nat)(l:List AOper)(d:DV)(st:St):Prop:=aops E l (kont E m0 post ks .normal) (st.put dst d)
def knm (E:Env)(m0:Nat)(post:AExit→St→Prop)(ks:List Fr)(dst:Option Nat)(l:List AOper)(d:DV)(st:St):Prop:=
 match d with
 | .int k n=>∀ v,v=n→kgo E m0 post ks dst l (.int k v) st
 | .bool b=>(b=true→kgo E m0 post ks dst l (.bool true) st)∧(b=false→kgo E m0 post ks dst l (.bool false) st)
 | d=>kgo E m0 post ks dst l d st
section
variable {E:Env} {m0:Nat} {post:AExit→St→Prop} {ks:List Fr} {L:List (Nat×DV)} {h:List AObj} {l:List AOper} {K:DV→St→Prop} {st:St}
theorem slots_sub (L:List (Nat×DV))(dst:Option Nat)(d:DV):(sta L h).put dst d=sta (match dst with | some t=>(t,d)::L | none=>L) h:=by
 cases dst with
 | none=>rfl
 | some t=>
  simp only [St.put,sta]
  congr 1
theorem kgo_some {t:Nat}{d:DV}:kgo E m0 post ks (some t) l d (sta L h)=goO E m0 post ks l ((t,d)::L) h:=by
 unfold kgo; rw [slots_sub]; rfl
theorem kgo_none {d:DV}:kgo E m0 post ks none l d (sta L h)=goO E m0 post ks l L h:=rfl
theorem knm_int {t:Nat}{k:IntKind}{n:Int}:knm E m0 post ks (some t) l (.int k n) (sta L h)=∀ v,v=n→goO E m0 post ks l ((t,.int k v)::L) h:=by
 unfold knm; simp only [kgo_some]
def knmb (E:Env)(m0:Nat)(post:AExit→St→Prop)(ks:List Fr)(t:Nat)(l:List AOper)(L:List (Nat×DV))(h:List AObj)(b:Bool):Prop:=
 (b=true→goO E m0 post ks l ((t,.bool true)::L) h)∧(b=false→goO E m0 post ks l ((t,.bool false)::L) h)
@[congr] theorem knmb_congr {E:Env} {m0:Nat} {post:AExit→St→Prop} {ks:List Fr} {t:Nat} {l:List AOper} {L:List (Nat×DV)} {h:List AObj} {b b' : Bool} (e:b=b'):knmb E m0 post ks t l L h b=knmb E m0 post ks t l L h b' := by rw [e]
theorem knmb_true {t:Nat}:knmb E m0 post ks t l L h true=goO E m0 post ks l ((t,.bool true)::L) h:=by simp [knmb]
theorem knmb_false {t:Nat}:knmb E m0 post ks t l L h false=goO E m0 post ks l ((t,.bool false)::L) h:=by simp [knmb]
theorem knmb_b {t:Nat}{b:Bool}:knmb E m0 post ks t l L h b=((b=true→goO E m0 post ks l ((t,.bool true)::L) h)∧(b=false→goO E m0 post ks l ((t,.bool false)::L) h)):=rfl
theorem knm_bool {t:Nat}{b:Bool}:knm E m0 post ks (some t) l (.bool b) (sta L h)=knmb E m0 post ks t l L h (nrm b):=by
 unfold knm; simp only [kgo_some]; rfl
theorem knm_str {t:Nat}{s:List UInt8}:knm E m0 post ks (some t) l (.str s) (sta L h)=goO E m0 post ks l ((t,.str s)::L) h:=by
 unfold knm; simp only [kgo_some]
theorem knm_osl {t:Nat}{a b c d:Nat}{e:Option Nat}:knm E m0 post ks (some t) l (.osl a b c d e) (sta L h)=goO E m0 post ks l ((t,.osl a b c d e)::L) h:=by
 unfold knm; simp only [kgo_some]
theorem kop_kgo {dst:Option Nat}{op:AOp}{g:Option (Nat×Bool)}(_hn:nm op=false):kop E m0 post ks ⟨dst,op,g⟩ l=kgo E m0 post ks dst l:=by
 funext d st
 unfold kop kgo
 rw [gen_eq]
theorem knm_eq {dst:Option Nat}{d:DV}:knm E m0 post ks dst l d st=kgo E m0 post ks dst l d st:=by
 cases d <;> first | rfl | (simp [knm]; done) | skip
 rename_i b
 cases b <;> simp [knm]
theorem kop_knm {dst:Option Nat}{op:AOp}{g:Option (Nat×Bool)}(_hn:nm op=true):kop E m0 post ks ⟨dst,op,g⟩ l=knm E m0 post ks dst l:=by
 funext d st
 unfold kop
 rw [gen_eq,knm_eq]
 rfl
theorem goO_guardN {dst:Option Nat}{op:AOp}{g:Nat}{want:Bool}:goO E m0 post ks (⟨dst,op,some (g,want)⟩::l) L h =
  guardP (slots L g) want (goO E m0 post ks (⟨dst,op,none⟩::l) L h) (kgo E m0 post ks dst l (.tup []) (sta L h)):=by
 rw [goO_guard,goO_op]
 rfl
theorem g_plain {dst:Option Nat}{op:AOp}(hn:nm op=false):goO E m0 post ks (⟨dst,op,none⟩::l) L h=aopC E (op.sub (slots L)) (kgo E m0 post ks dst l) (sta L h):=by
 rw [goC_op,kop_kgo hn]
theorem g_named {dst:Option Nat}{op:AOp}(hn:nm op=true):goO E m0 post ks (⟨dst,op,none⟩::l) L h=aopC E (op.sub (slots L)) (knm E m0 post ks dst l) (sta L h):=by
 rw [goC_op,kop_knm hn]
theorem g_mov {dst:Option Nat}{x:AX}:goO E m0 post ks (⟨dst,.mov x,none⟩::l) L h=aopC E (.mov (x.sub (slots L))) (kgo E m0 post ks dst l) (sta L h):=g_plain rfl
theorem g_set {dst:Option Nat}{x:AX}:goO E m0 post ks (⟨dst,.set x,none⟩::l) L h=aopC E (.set (x.sub (slots L))) (kgo E m0 post ks dst l) (sta L h):=g_plain rfl
theorem g_newnil {dst:Option Nat}{n:Nat}:goO E m0 post ks (⟨dst,.newnil n,none⟩::l) L h=newP h (.arr n []) fun i h' => kgo E m0 post ks dst l (.osl n i 0 0 none) (sta L h'):=g_plain rfl
theorem g_pick {dst:Option Nat}{c a b:AX}:goO E m0 post ks (⟨dst,.pick c a b,none⟩::l) L h=aopC E (.pick (c.sub (slots L)) (a.sub (slots L)) (b.sub (slots L))) (kgo E m0 post ks dst l) (sta L h):=g_plain rfl
theorem g_box {dst:Option Nat}{x:AX}:goO E m0 post ks (⟨dst,.box x,none⟩::l) L h=aopC E (.box (x.sub (slots L))) (kgo E m0 post ks dst l) (sta L h):=g_plain rfl
theorem g_alloc {dst:Option Nat}{z:List DV}:goO E m0 post ks (⟨dst,.alloc z,none⟩::l) L h=ocP z h fun z' h' => newP h' (.box z') fun i h'' => kgo E m0 post ks dst l (.ptr i 0) (sta L h''):=g_plain rfl
theorem g_allocb {dst:Option Nat}{t e:Nat}:goO E m0 post ks (⟨dst,.allocb t e,none⟩::l) L h=newP h (.buf e []) fun i h' => newP h' (.box [.self (i+1) t 2,.hdr i e 0]) fun _ h'' => kgo E m0 post ks dst l (.ptr (i+1) 0) (sta L h''):=g_plain rfl
theorem g_build {dst:Option Nat}{z:List DV}{ps:List (Nat×Nat×AX)}:goO E m0 post ks (⟨dst,.build z ps,none⟩::l) L h=aopC E (.build z (ps.map fun p=>(p.1,p.2.1,p.2.2.sub (slots L)))) (kgo E m0 post ks dst l) (sta L h):=g_plain rfl
theorem g_bslice {dst:Option Nat}{b:Bool}{n:Nat}{ps:List AX}:goO E m0 post ks (⟨dst,.bslice b n ps,none⟩::l) L h=aopC E (.bslice b n (ps.map (AX.sub (slots L)))) (kgo E m0 post ks dst l) (sta L h):=g_plain rfl
theorem g_load {dst:Option Nat}{a:Option Nat}{x:AX}:goO E m0 post ks (⟨dst,.load a x,none⟩::l) L h=aopC E (.load a (x.sub (slots L))) (kgo E m0 post ks dst l) (sta L h):=g_plain rfl
theorem g_store {dst:Option Nat}{b:Bool}{n:Nat}{x v:AX}:goO E m0 post ks (⟨dst,.store b n x v,none⟩::l) L h=aopC E (.store b n (x.sub (slots L)) (v.sub (slots L))) (kgo E m0 post ks dst l) (sta L h):=g_plain rfl
theorem g_nilchk {dst:Option Nat}{x:AX}:goO E m0 post ks (⟨dst,.nilchk x,none⟩::l) L h=aopC E (.nilchk (x.sub (slots L))) (kgo E m0 post ks dst l) (sta L h):=g_plain rfl
theorem g_mkifc {dst:Option Nat}{t:Nat}{x:AX}:goO E m0 post ks (⟨dst,.mkifc t x,none⟩::l) L h=aopC E (.mkifc t (x.sub (slots L))) (kgo E m0 post ks dst l) (sta L h):=g_plain rfl
theorem g_mkbnd {dst:Option Nat}{t:Nat}{x:AX}:goO E m0 post ks (⟨dst,.mkbnd t x,none⟩::l) L h=aopC E (.mkbnd t (x.sub (slots L))) (kgo E m0 post ks dst l) (sta L h):=g_plain rfl
theorem g_bin {dst:Option Nat}{o:BinOp}{t:Ty}{x y:AX}:goO E m0 post ks (⟨dst,.bin o t x y,none⟩::l) L h=aopC E (.bin o t (x.sub (slots L)) (y.sub (slots L))) (knm E m0 post ks dst l) (sta L h):=g_named rfl
theorem g_un {dst:Option Nat}{o:UnOp}{x:AX}:goO E m0 post ks (⟨dst,.un o x,none⟩::l) L h=aopC E (.un o (x.sub (slots L))) (knm E m0 post ks dst l) (sta L h):=g_named rfl
theorem g_conv {dst:Option Nat}{c:CV}{x:AX}:goO E m0 post ks (⟨dst,.conv c x,none⟩::l) L h=aopC E (.conv c (x.sub (slots L))) (knm E m0 post ks dst l) (sta L h):=g_named rfl
theorem g_mkfn {dst:Option Nat}{f:Nat}{cs:List AX}:goO E m0 post ks (⟨dst,.mkfn f cs,none⟩::l) L h=aopC E (.mkfn f (cs.map (AX.sub (slots L)))) (kgo E m0 post ks dst l) (sta L h):=g_plain rfl
theorem g_mkslice {dst:Option Nat}{a b:Nat}{z:List DV}{x y:AX}:goO E m0 post ks (⟨dst,.mkslice a b z x y,none⟩::l) L h=aopC E (.mkslice a b z (x.sub (slots L)) (y.sub (slots L))) (kgo E m0 post ks dst l) (sta L h):=g_plain rfl
theorem g_slice {dst:Option Nat}{k:Option Nat}{x:AX}{lo hi:Option AX}:goO E m0 post ks (⟨dst,.slice k x lo hi,none⟩::l) L h=aopC E (.slice k (x.sub (slots L)) (lo.map (AX.sub (slots L))) (hi.map (AX.sub (slots L)))) (kgo E m0 post ks dst l) (sta L h):=g_plain rfl
theorem g_faddr {dst:Option Nat}{n:Nat}{x:AX}:goO E m0 post ks (⟨dst,.faddr n x,none⟩::l) L h=aopC E (.faddr n (x.sub (slots L))) (kgo E m0 post ks dst l) (sta L h):=g_plain rfl
theorem g_field {dst:Option Nat}{n:Nat}{a:Option Nat}{x:AX}:goO E m0 post ks (⟨dst,.field n a x,none⟩::l) L h=aopC E (.field n a (x.sub (slots L))) (kgo E m0 post ks dst l) (sta L h):=g_plain rfl
theorem g_iaddr {dst:Option Nat}{n:Nat}{x i:AX}:goO E m0 post ks (⟨dst,.iaddr n x i,none⟩::l) L h=aopC E (.iaddr n (x.sub (slots L)) (i.sub (slots L))) (kgo E m0 post ks dst l) (sta L h):=g_plain rfl
theorem g_baddr {dst:Option Nat}{n m:Nat}{x i:AX}:goO E m0 post ks (⟨dst,.baddr n m x i,none⟩::l) L h=aopC E (.baddr n m (x.sub (slots L)) (i.sub (slots L))) (kgo E m0 post ks dst l) (sta L h):=g_plain rfl
theorem g_sidx {dst:Option Nat}{x i:AX}:goO E m0 post ks (⟨dst,.sidx x i,none⟩::l) L h=aopC E (.sidx (x.sub (slots L)) (i.sub (slots L))) (kgo E m0 post ks dst l) (sta L h):=g_plain rfl
theorem g_range {dst:Option Nat}{x:AX}:goO E m0 post ks (⟨dst,.range x,none⟩::l) L h=aopC E (.range (x.sub (slots L))) (kgo E m0 post ks dst l) (sta L h):=g_plain rfl
theorem g_next {dst:Option Nat}{x:AX}:goO E m0 post ks (⟨dst,.next x,none⟩::l) L h=aopC E (.next (x.sub (slots L))) (kgo E m0 post ks dst l) (sta L h):=g_plain rfl
theorem g_extr {dst:Option Nat}{x:AX}{i:Nat}:goO E m0 post ks (⟨dst,.extr x i,none⟩::l) L h=aopC E (.extr (x.sub (slots L)) i) (kgo E m0 post ks dst l) (sta L h):=g_plain rfl
theorem g_call {dst:Option Nat}{b:Bool}{f:Nat}{as:List AX}:goO E m0 post ks (⟨dst,.call b f as,none⟩::l) L h=aopC E (.call b f (as.map (AX.sub (slots L)))) (kgo E m0 post ks dst l) (sta L h):=g_plain rfl
theorem g_callv {dst:Option Nat}{b:Bool}{x:AX}{as:List AX}:goO E m0 post ks (⟨dst,.callv b x as,none⟩::l) L h=aopC E (.callv b (x.sub (slots L)) (as.map (AX.sub (slots L)))) (kgo E m0 post ks dst l) (sta L h):=g_plain rfl
theorem g_inv {dst:Option Nat}{b:Bool}{m:String}{x:AX}{as:List AX}:goO E m0 post ks (⟨dst,.inv b m x as,none⟩::l) L h=aopC E (.inv b m (x.sub (slots L)) (as.map (AX.sub (slots L)))) (kgo E m0 post ks dst l) (sta L h):=g_plain rfl
theorem g_len {dst:Option Nat}{b:Bool}{x:AX}:goO E m0 post ks (⟨dst,.len b x,none⟩::l) L h=aopC E (.len b (x.sub (slots L))) (kgo E m0 post ks dst l) (sta L h):=g_plain rfl
theorem g_cap {dst:Option Nat}{x:AX}:goO E m0 post ks (⟨dst,.cap x,none⟩::l) L h=aopC E (.cap (x.sub (slots L))) (kgo E m0 post ks dst l) (sta L h):=g_plain rfl
theorem g_appendf {dst:Option Nat}{a b:Nat}{x y:AX}:goO E m0 post ks (⟨dst,.appendf a b x y,none⟩::l) L h=aopC E (.appendf a b (x.sub (slots L)) (y.sub (slots L))) (kgo E m0 post ks dst l) (sta L h):=g_plain rfl
theorem g_append {dst:Option Nat}{a b:Nat}{x y:AX}:goO E m0 post ks (⟨dst,.append a b x y,none⟩::l) L h=aopC E (.append a b (x.sub (slots L)) (y.sub (slots L))) (kgo E m0 post ks dst l) (sta L h):=g_plain rfl
theorem g_clr {dst:Option Nat}{a:Nat}{z:List DV}{x:AX}:goO E m0 post ks (⟨dst,.clr a z x,none⟩::l) L h=aopC E (.clr a z (x.sub (slots L))) (kgo E m0 post ks dst l) (sta L h):=g_plain rfl
theorem g_cpy {dst:Option Nat}{a:Nat}{x y:AX}:goO E m0 post ks (⟨dst,.cpy a x y,none⟩::l) L h=aopC E (.cpy a (x.sub (slots L)) (y.sub (slots L))) (kgo E m0 post ks dst l) (sta L h):=g_plain rfl
theorem g_appendz {dst:Option Nat}{a b:Nat}{z:List DV}{x y:AX}:goO E m0 post ks (⟨dst,.appendz a b z x y,none⟩::l) L h=aopC E (.appendz a b z (x.sub (slots L)) (y.sub (slots L))) (kgo E m0 post ks dst l) (sta L h):=g_plain rfl
theorem g_mkmap {dst:Option Nat}:goO E m0 post ks (⟨dst,.mkmap,none⟩::l) L h=newP h (.mapo []) fun i h' => kgo E m0 post ks dst l (.mp i) (sta L h'):=g_plain rfl
theorem g_look {dst:Option Nat}{b:Bool}{z:PV}{x k:AX}:goO E m0 post ks (⟨dst,.look b z x k,none⟩::l) L h=aopC E (.look b z (x.sub (slots L)) (k.sub (slots L))) (kgo E m0 post ks dst l) (sta L h):=g_plain rfl
theorem g_ment {dst:Option Nat}{z:PV}{x k:AX}:goO E m0 post ks (⟨dst,.ment z x k,none⟩::l) L h=aopC E (.ment z (x.sub (slots L)) (k.sub (slots L))) (kgo E m0 post ks dst l) (sta L h):=g_plain rfl
theorem g_mset {dst:Option Nat}{x i v:AX}:goO E m0 post ks (⟨dst,.mset x i v,none⟩::l) L h=aopC E (.mset (x.sub (slots L)) (i.sub (slots L)) (v.sub (slots L))) (kgo E m0 post ks dst l) (sta L h):=g_plain rfl
theorem g_mput {dst:Option Nat}{x k v:AX}:goO E m0 post ks (⟨dst,.mput x k v,none⟩::l) L h=aopC E (.mput (x.sub (slots L)) (k.sub (slots L)) (v.sub (slots L))) (kgo E m0 post ks dst l) (sta L h):=g_plain rfl
theorem g_bad {dst:Option Nat}:goO E m0 post ks (⟨dst,.bad,none⟩::l) L h=False:=g_plain rfl
theorem g_mn {dst:Option Nat}{as:List AX}:goO E m0 post ks (⟨dst,.mn as,none⟩::l) L h=aopC E (.mn (as.map (AX.sub (slots L)))) (knm E m0 post ks dst l) (sta L h):=g_named rfl
theorem g_mx {dst:Option Nat}{as:List AX}:goO E m0 post ks (⟨dst,.mx as,none⟩::l) L h=aopC E (.mx (as.map (AX.sub (slots L)))) (knm E m0 post ks dst l) (sta L h):=g_named rfl
theorem slots_cons {t s:Nat}{d:DV}:slots ((t,d)::L) s=sel (s == t) d (slots L s):=by
 simp only [slots]
 by_cases e:s=t
 ·simp [e,sel_true]
 ·have:(s == t)=false:=by simpa using e
  simp [e,this,sel_false]
theorem slots_nil {s:Nat}:slots [] s=.undef:=rfl
theorem sub_t {fr:Nat→DV}{s:Nat}:AX.sub fr (.t s)=.c (fr s):=rfl
theorem sub_c {fr:Nat→DV}{d:DV}:AX.sub fr (.c d)=.c d:=rfl
theorem ev_c {fr:Nat→DV}{d:DV}:AX.ev fr (.c d)=d:=rfl
theorem ev_t {fr:Nat→DV}{s:Nat}:AX.ev fr (.t s)=fr s:=rfl
end
end Go.Ai
