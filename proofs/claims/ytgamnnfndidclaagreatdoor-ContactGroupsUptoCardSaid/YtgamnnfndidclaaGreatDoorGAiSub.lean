/- Steps of an abstract proof: loops by data, values by slot. -/
import Derived.Test.YtgamnnfndidclaaGreatDoorGAiCode
set_option linter.all false
namespace Go.Ai

def slots:List (Nat×DV)→Nat→DV
 | [],_=>.undef
 | (t,d)::l,s=>if s=t then d else slots l s

theorem xZ {m0 m:Nat}{st:St}{L:List (Nat×DV)}(hm:m0≤m)(hL:∀ p∈L,st.fr p.1=p.2∧(m<st.h.length→p.2.under m=true))
  (hb:m<st.h.length→∀ (l:Nat) cs,l<m→st.h[l]?=some (.box cs)→∀ d∈cs,d.under m=true):Wk m0 st ⟨slots L,st.h.take m⟩:=by
 refine ⟨.inl ⟨m,hm,rfl,fun s=>?_,hb⟩⟩
 have key:∀ (L' : List (Nat×DV)),(∀ p∈L',p∈L)→slots L' s=.undef∨slots L' s=st.fr s∧(m<st.h.length→(st.fr s).under m=true):=by
  intro L'
  induction L' with
  | nil=>exact fun _=>.inl rfl
  | cons p L' ih=>
   intro hsub
   obtain ⟨t,d⟩:=p
   simp only [slots]
   split
   ·rename_i e
    have hq:=hL (s,d) (hsub _ (by rw [e]; simp))
    have h1:st.fr s=d:=hq.1
    have h2:m<st.h.length→d.under m=true:=hq.2
    exact .inr ⟨h1.symm,fun h=>by rw [h1]; exact h2 h⟩
   ·exact ih fun p hp=>hsub p (by simp [hp])
 exact key L fun _ h=>h


theorem bC {p:Nat→Bool}:∀ {d:DV},d.closed=true→d.inL p=true:=by
 intro d
 refine DV.rec (motive_1:=fun d=>d.closed=true→d.inL p=true) (motive_2:=fun l=>DV.closed.closedAll l=true→DV.inL.inAll p l=true) (motive_3:=fun _=>True)
  ?_ ?_ ?_ ?_ ?_ ?_ ?_ ?_ ?_ ?_ ?_ ?_ ?_ ?_ ?_ ?_ ?_ ?_ ?_ ?_ ?_ ?_ ?_ ?_ ?_ ?_ d
 all_goals first
  | (intros; rfl)
  | (intros; simp_all [DV.closed,DV.inL,DV.closed.closedAll,DV.inL.inAll]; done)
  | skip
theorem bD {ρ:Nat→Nat}:∀ {d:DV},d.closed=true→d.ren ρ=d:=by
 intro d
 refine DV.rec (motive_1:=fun d=>d.closed=true→d.ren ρ=d) (motive_2:=fun l=>DV.closed.closedAll l=true→DV.ren.renAll ρ l=l) (motive_3:=fun _=>True)
  ?_ ?_ ?_ ?_ ?_ ?_ ?_ ?_ ?_ ?_ ?_ ?_ ?_ ?_ ?_ ?_ ?_ ?_ ?_ ?_ ?_ ?_ ?_ ?_ ?_ ?_ d
 all_goals first
  | (intros; rfl)
  | (intros; simp_all [DV.closed,DV.ren,DV.closed.closedAll,DV.ren.renAll]; done)
  | skip
def agr (st:St)(p:DV→Prop):List (Nat×DV)→Prop
 | []=>True
 | (t,d)::L=>(st.fr t=d∧p d)∧agr st p L
theorem pA {st:St}{p:DV→Prop}:∀ {L:List (Nat×DV)},agr st p L→∀ q∈L,st.fr q.1=q.2∧p q.2
 | [],_,q,hq=>by simp at hq
 | (t,d)::L,h,q,hq=>by
  rcases List.mem_cons.1 hq with rfl|hq
  ·exact h.1
  ·exact pA h.2 q hq
theorem TE {m0:Nat}{st:St}{L:List (Nat×DV)}{h:List AObj}(hh:st.h=h)(hm:m0≤st.h.length)(hL:agr st (fun _=>True) L):Wk m0 st ⟨slots L,h⟩:=by
 have:=xZ (L:=L) (m:=st.h.length) hm (fun p hp=>⟨(pA hL p hp).1,fun h=>absurd h (Nat.lt_irrefl _)⟩) (fun h=>absurd h (Nat.lt_irrefl _))
 rwa [List.take_length,hh] at this
theorem WS (m:Nat){m0:Nat}{st:St}{L:List (Nat×DV)}{h:List AObj}(hh:st.h.take m=h)(hm:m0≤m)(hL:agr st (fun d=>d.under m=true) L)(hb:(h.all fun o=>inO (fun l=>decide (l<m)) o)=true):Wk m0 st ⟨slots L,h⟩:=by
 have:=xZ (L:=L) (m:=m) hm (fun p hp=>⟨(pA hL p hp).1,fun _=>(pA hL p hp).2⟩) (fun _ l cs hl hc d hd=>by
  have:h[l]?=some (.box cs):=by rw [← hh,List.getElem?_take,if_pos hl]; exact hc
  have hq:=List.all_eq_true.1 hb _ (List.mem_of_getElem? this)
  exact List.all_eq_true.1 hq d hd)
 rwa [hh] at this
theorem wrap_i64 {x:Int}(h0 : -9223372036854775808≤x)(h1:x<9223372036854775808):IntKind.i64.wrap x=x:=by
 simp [IntKind.wrap,IntKind.bits,IntKind.signed]; omega


def sel {α:Type}(b:Bool)(x y:α):α:=bif b then x else y
@[congr] theorem aDq {α:Type} {b b' : Bool} {x y:α} (h:b=b'):sel b x y=sel b' x y:=by rw [h]
theorem fK {α:Type}{x y:α}:sel true x y=x:=rfl
theorem gM {α:Type}{x y:α}:sel false x y=y:=rfl
inductive Fr where
 | seq (b:ACode)
 | block (id:Nat)
 | inv (Q:St→Prop)
 | jump (g:Nat) (b:ACode)
 | low
 | wkf
def dG (E:Env)(m0:Nat)(post:AExit→St→Prop):List Fr→AExit→St→Prop
  | []=>post
  | .seq b::ks=>fun e st=>match e with | .normal=>awp E m0 b (dG E m0 post ks) st | e=>dG E m0 post ks e st
  | .block id::ks=>fun e st=>match e with | .exit id' => if id' = id then dG E m0 post ks .normal st else dG E m0 post ks (.exit id') st | e=>dG E m0 post ks e st
  | .inv Q::ks=>fun e st=>match e with | .normal=>Q st | e=>dG E m0 post ks e st
  | .jump g b::ks=>fun e st=>match e with
      | .exit id' => if id' = g then awp E m0 b (fun e st' => match e with | .exit id' => id' < 1000000∧dG E m0 post ks (.exit id') st' | e=>dG E m0 post ks e st') st else id' < 1000000∧dG E m0 post ks (.exit id') st
      | e=>dG E m0 post ks e st
  | .low::ks=>fun e st=>match e with | .exit id' => id' < 1000000∧dG E m0 post ks (.exit id') st | e=>dG E m0 post ks e st
  | .wkf::ks=>fun e st=>∃ st',Wk m0 st st' ∧ dG E m0 post ks e st'

def sta (L:List (Nat×DV))(h:List AObj):St:=⟨slots L,h⟩
def goN (E:Env)(m0:Nat)(post:AExit→St→Prop)(ks:List Fr)(c:ACode)(L:List (Nat×DV))(h:List AObj):Prop:=awp E m0 c (dG E m0 post ks) (sta L h)
def goK (E:Env)(m0:Nat)(post:AExit→St→Prop)(ks:List Fr)(e:AExit)(L:List (Nat×DV))(h:List AObj):Prop:=dG E m0 post ks e (sta L h)
def goO (E:Env)(m0:Nat)(post:AExit→St→Prop)(ks:List Fr)(l:List AOper)(L:List (Nat×DV))(h:List AObj):Prop:=eB E l (dG E m0 post ks .normal) (sta L h)
def kop (E:Env)(m0:Nat)(post:AExit→St→Prop)(ks:List Fr)(o:AOper)(l:List AOper)(d:DV)(st:St):Prop:=gen o.op d fun d=>eB E l (dG E m0 post ks .normal) (st.put o.dst d)

section
variable {E:Env} {m0:Nat} {post:AExit→St→Prop} {ks:List Fr} {L:List (Nat×DV)} {h:List AObj} {l:List AOper} {o:AOper}
theorem ND:goN E m0 post ks .skip L h=goK E m0 post ks .normal L h:=rfl
theorem PS {id:Nat}:goN E m0 post ks (.exit id) L h=goK E m0 post ks (.exit id) L h:=rfl
theorem TV:goN E m0 post ks .ret L h=goK E m0 post ks .ret L h:=rfl
theorem BP {d:Bool}:goN E m0 post ks (.region d l) L h=goO E m0 post ks l L h:=rfl
theorem WH {a b:ACode}:goN E m0 post ks (.seq a b) L h=goN E m0 post (.seq b::ks) a L h:=rfl
theorem kO {a:ACode}:goN E m0 post ks (.wk a) L h=goN E m0 post (.wkf::ks) a L h:=rfl
theorem jH {L' : List (Nat×DV)}{h' : List AObj}(hw:Wk m0 (sta L h) (sta L' h'))(hk:goK E m0 post ks .normal L' h'):goK E m0 post (.wkf::ks) .normal L h:=⟨_,hw,hk⟩
theorem vI {a b:ACode}(L' : List (Nat×DV))(h' : List AObj)(hk:goK E m0 post ks .normal L' h')(h1:goK E m0 post ks .normal L' h' → goN E m0 post ks a L h)(h2:goK E m0 post ks .normal L' h' → goN E m0 post ks b L h) :
  goN E m0 post ks (.both a b) L h:=⟨h1 hk,h2 hk⟩
theorem sC {a b:ACode}(h1:goN E m0 post ks a L h)(h2:goN E m0 post ks b L h):goN E m0 post ks (.both a b) L h:=⟨h1,h2⟩
theorem JY {g:Nat}{a b:ACode}:goN E m0 post ks (.jump g a b) L h=goN E m0 post (.jump g b::ks) a L h:=rfl
theorem OX {g:Nat}{b:ACode}:goK E m0 post (.jump g b::ks) .normal L h=goK E m0 post ks .normal L h:=rfl
theorem uS {g:Nat}{b:ACode}:goK E m0 post (.jump g b::ks) .ret L h=goK E m0 post ks .ret L h:=rfl
theorem SU:goK E m0 post (.low::ks) .normal L h=goK E m0 post ks .normal L h:=rfl
theorem wG:goK E m0 post (.low::ks) .ret L h=goK E m0 post ks .ret L h:=rfl
theorem IY {id:Nat}{b:ACode}:goN E m0 post ks (.block id b) L h=goN E m0 post (.block id::ks) b L h:=rfl
def xE (d:DV)(p q:Prop):Prop:=match d with | .bool true=>p | .bool false=>q | _=>False
theorem OW {c:AX}{a b:ACode}:goN E m0 post ks (.cond c a b) L h=xE (c.ev (slots L)) (goN E m0 post ks a L h) (goN E m0 post ks b L h):=by
 unfold goN
 simp only [awp,sta]
 generalize c.ev (slots L)=d
 cases d <;> first | rfl | skip
 rename_i t
 cases t <;> rfl
theorem zT {p q:Prop}:xE (.bool true) p q=p:=rfl
theorem xW {p q:Prop}:xE (.bool false) p q=q:=rfl
theorem SO {b:ACode}:goK E m0 post (.seq b::ks) .normal L h=goN E m0 post ks b L h:=rfl
theorem vX {b:ACode}{id:Nat}:goK E m0 post (.seq b::ks) (.exit id) L h=goK E m0 post ks (.exit id) L h:=rfl
theorem yD {b:ACode}:goK E m0 post (.seq b::ks) .ret L h=goK E m0 post ks .ret L h:=rfl
theorem IM {id:Nat}:goK E m0 post (.block id::ks) .normal L h=goK E m0 post ks .normal L h:=rfl
theorem sF {id:Nat}:goK E m0 post (.block id::ks) .ret L h=goK E m0 post ks .ret L h:=rfl
theorem pJ {id id' : Nat}:goK E m0 post (.block id::ks) (.exit id') L h=sel (id' == id) (goK E m0 post ks .normal L h) (goK E m0 post ks (.exit id') L h):=by
 unfold goK
 simp only [dG]
 by_cases e:id' = id
 ·simp [e,fK]
 ·have:(id' == id)=false:=by simpa using e
  simp [e,this,gM]
theorem SC {Q:St→Prop}:goK E m0 post (.inv Q::ks) .normal L h=Q (sta L h):=rfl
theorem vF {Q:St→Prop}{id:Nat}:goK E m0 post (.inv Q::ks) (.exit id) L h=goK E m0 post ks (.exit id) L h:=rfl
theorem yX {Q:St→Prop}:goK E m0 post (.inv Q::ks) .ret L h=goK E m0 post ks .ret L h:=rfl
theorem UO:goO E m0 post ks [] L h=goK E m0 post ks .normal L h:=rfl
theorem MT {dst:Option Nat}{op:AOp}:goO E m0 post ks (⟨dst,op,none⟩::l) L h=aop E op (kop E m0 post ks ⟨dst,op,none⟩ l) (sta L h):=rfl
def gS (d:DV)(want:Bool)(p q:Prop):Prop:=match d with | .bool b=>(bif b == want then p else q) | .tup []=>q | _=>False
theorem GR {dst:Option Nat}{op:AOp}{g:Nat}{want:Bool}:goO E m0 post ks (⟨dst,op,some (g,want)⟩::l) L h =
  gS (slots L g) want (aop E op (kop E m0 post ks ⟨dst,op,some (g,want)⟩ l) (sta L h)) (eB E l (dG E m0 post ks .normal) ((sta L h).put dst (.tup []))):=by
 unfold goO
 simp only [eB,AOper.run,sta]
 generalize slots L g=d
 cases d <;> first | rfl | skip
theorem GW {p q:Prop}:gS (.bool true) true p q=p:=rfl
theorem IG {p q:Prop}:gS (.bool true) false p q=q:=rfl
theorem GG {p q:Prop}:gS (.bool false) true p q=q:=rfl
theorem GJ {p q:Prop}:gS (.bool false) false p q=p:=rfl
theorem wQ {want:Bool}{p q:Prop}:gS (.tup []) want p q=q:=rfl
@[congr] theorem UF {d d' : DV} {w:Bool} {p q:Prop} (h:d=d'):gS d w p q=gS d' w p q:=by rw [h]
@[congr] theorem ZD {d d' : DV} {p q:Prop} (h:d=d'):xE d p q=xE d' p q:=by rw [h]
theorem aCS:(sta L h).fr=slots L:=rfl
theorem YQ:(sta L h).h=h:=rfl
def nm:AOp→Bool
 | .bin .. | .un .. | .conv .. | .mx _ | .mn _=>true
 | _=>false
theorem pM {i:Nat}{ob:AObj}:(sta L h).at i ob=sta L (h.set i ob):=rfl
end
@[congr] theorem YG {h h' : List AObj} {d d' : DV} {sz:Nat} {K:List (List DV)→Prop} (e1:h=h') (e2:d=d'):elems h d sz K=elems h' d' sz K:=by rw [e1,e2]
@[congr] theorem aDo {fr:Nat→DV} {lo hi:Option AX} {n n' c c' : Nat} {K:Nat→Nat→Prop} (e1:n=n') (e2:c=c'):bnd fr lo hi n c K=bnd fr lo hi n' c' K:=by rw [e1,e2]
@[congr] theorem aBC {cs cs' : List DV} {l l' : List (Nat×Nat×DV)} {K:List DV→Prop} (e1:cs=cs') (e2:l=l'):nU cs l K=nU cs' l' K:=by rw [e1,e2]
@[congr] theorem YL {ds ds' : List DV} {st st' : St} {K:List DV→St→Prop} (e1:ds=ds') (e2:st=st'):fP ds st K=fP ds' st' K:=by rw [e1,e2]
theorem LO {E:Env}{m0:Nat}{post:AExit→St→Prop}{ks:List Fr}{b:ACode}{L:List (Nat×DV)}{h:List AObj}{γ:Type}(SL:γ→List (Nat×DV))(SH:γ→List AObj)(P:γ→Prop)(μ:γ→Nat)(g0:γ)
  (h0:Wk m0 (sta L h) (sta (SL g0) (SH g0))) (hp:P g0)
  (round:∀ g,P g→goN E m0 post (.inv (fun st' => ∃ g',Wk m0 st' (sta (SL g') (SH g'))∧P g' ∧ μ g' < μ g)::ks) b (SL g) (SH g)):goN E m0 post ks (.loop b) L h:=by
 refine ⟨γ,fun g=>sta (SL g) (SH g),P,μ,⟨g0,h0,hp⟩,fun g hg=>?_⟩
 have:=round g hg
 unfold goN at this
 have e:dG E m0 post (.inv (fun st' => ∃ g',Wk m0 st' (sta (SL g') (SH g'))∧P g' ∧ μ g' < μ g)::ks)=fun e st' => match e with | .normal=>∃ g',Wk m0 st' (sta (SL g') (SH g'))∧P g' ∧ μ g' < μ g | e=>dG E m0 post ks e st' := by
  funext e st'; cases e <;> rfl
 rw [e] at this
 exact this
theorem aA {E:Env}{f:Nat}{af:AFun}(hc:aF E.P f=some af){h:List AObj}{args:List DV}{post:List AObj→DV→Prop}(hle:args.length≤af.nt)
  (hk:goN E h.length (fin h.length af.res post) [] af.body (args.zipIdx.map fun (d,i)=>(i,d)) h):ACalls E f h args post:=by
 refine sK hc hle ?_
 have e:(fun s=>args.getD s .undef)=slots (args.zipIdx.map fun (d,i)=>(i,d)):=by
  funext s
  have key:∀ (l:List DV) (k:Nat),slots ((l.zipIdx k).map fun (d,i)=>(i,d)) (k+s)=l.getD s .undef:=by
   intro l
   induction l generalizing s with
   | nil=>intro k; simp [slots]
   | cons d l ih=>
    intro k
    rw [List.zipIdx_cons,List.map_cons]
    simp only [slots]
    cases s with
    | zero=>simp
    | succ s=>
     have:¬ k+(s+1)=k:=by omega
     rw [if_neg this]
     have:=ih s (k+1)
     rw [show k+1+s=k+(s+1) by omega] at this
     rw [this]; simp
  have:=key args 0
  rw [Nat.zero_add] at this
  exact this.symm
 rw [e]
 exact hk
def AX.sub (fr:Nat→DV)(x:AX):AX:=.c (x.ev fr)
def AOp.sub (fr:Nat→DV):AOp→AOp
 | .mov x=>.mov (x.sub fr)
 | .set x=>.set (x.sub fr)
 | .newnil n=>.newnil n
 | .pick c a b=>.pick (c.sub fr) (a.sub fr) (b.sub fr)
 | .box x=>.box (x.sub fr)
 | .alloc z=>.alloc z
 | .allocb t e=>.allocb t e
 | .build z ps=>.build z (ps.map fun p=>(p.1,p.2.1,p.2.2.sub fr))
 | .bslice b n ps=>.bslice b n (ps.map (AX.sub fr))
 | .load a x=>.load a (x.sub fr)
 | .store b n x v=>.store b n (x.sub fr) (v.sub fr)
 | .nilchk x=>.nilchk (x.sub fr)
 | .bin o t x y=>.bin o t (x.sub fr) (y.sub fr)
 | .un o x=>.un o (x.sub fr)
 | .conv k x=>.conv k (x.sub fr)
 | .mkfn f cs=>.mkfn f (cs.map (AX.sub fr))
 | .mkifc t x=>.mkifc t (x.sub fr)
 | .mkbnd t x=>.mkbnd t (x.sub fr)
 | .inv b m x l=>.inv b m (x.sub fr) (l.map (AX.sub fr))
 | .mkslice a b z x y=>.mkslice a b z (x.sub fr) (y.sub fr)
 | .slice k x lo hi=>.slice k (x.sub fr) (lo.map (AX.sub fr)) (hi.map (AX.sub fr))
 | .faddr n x=>.faddr n (x.sub fr)
 | .field n a x=>.field n a (x.sub fr)
 | .iaddr n x i=>.iaddr n (x.sub fr) (i.sub fr)
 | .baddr n m x i=>.baddr n m (x.sub fr) (i.sub fr)
 | .sidx x i=>.sidx (x.sub fr) (i.sub fr)
 | .range x=>.range (x.sub fr)
 | .next x=>.next (x.sub fr)
 | .extr x i=>.extr (x.sub fr) i
 | .call b f l=>.call b f (l.map (AX.sub fr))
 | .callv b x l=>.callv b (x.sub fr) (l.map (AX.sub fr))
 | .len b x=>.len b (x.sub fr)
 | .cap x=>.cap (x.sub fr)
 | .append a b x y=>.append a b (x.sub fr) (y.sub fr)
 | .appendf a b x y=>.appendf a b (x.sub fr) (y.sub fr)
 | .appendz a b z x y=>.appendz a b z (x.sub fr) (y.sub fr)
 | .cpy n x y=>.cpy n (x.sub fr) (y.sub fr)
 | .clr n z x=>.clr n z (x.sub fr)
 | .mkmap=>.mkmap
 | .look b z x k=>.look b z (x.sub fr) (k.sub fr)
 | .ment z x k=>.ment z (x.sub fr) (k.sub fr)
 | .mset x i v=>.mset (x.sub fr) (i.sub fr) (v.sub fr)
 | .mput x k v=>.mput (x.sub fr) (k.sub fr) (v.sub fr)
 | .bad=>.bad
 | .mn l=>.mn (l.map (AX.sub fr))
 | .mx l=>.mx (l.map (AX.sub fr))
theorem nY (fr fr' : Nat→DV)(l:List AX):(l.map (AX.sub fr)).map (·.ev fr')=l.map (·.ev fr):=by simp [AX.sub,AX.ev,Function.comp_def]
theorem DJ (E:Env)(op:AOp)(K:DV→St→Prop)(st:St):aop E op K st=aop E (op.sub st.fr) K st:=by
 cases op <;> first
  | rfl
  | (simp only [AOp.sub,aop,nY]; done)
  | skip
 case build z ps=>simp only [AOp.sub,aop,List.map_map,Function.comp_def,AX.sub,AX.ev]
 case bslice b n ps=>
  cases b
  ·simp only [AOp.sub,aop,List.map_map,Function.comp_def,AX.sub,AX.ev,List.length_map,List.forall_mem_map]
  ·simp only [AOp.sub,aop,nY,List.length_map]
 case load a x=>cases a <;> rfl
 case slice k x lo hi=>cases lo <;> cases hi <;> rfl
 case field o a x=>cases a <;> rfl
 case callv b x l=>simp only [AOp.sub,aop,nY]; rfl
 case inv b m x l=>simp only [AOp.sub,aop,nY]; rfl

def aE (E:Env)(op:AOp)(K:DV→St→Prop)(st:St):Prop:=aop E op K st
@[congr] theorem aCJ {E:Env} {op op' : AOp} {K:DV→St→Prop} {st:St} (h:op=op'):aE E op K st=aE E op' K st:=by rw [h]
section
variable {E:Env} {m0:Nat} {post:AExit→St→Prop} {ks:List Fr} {L:List (Nat×DV)} {h:List AObj} {l:List AOper} {K:DV→St→Prop} {st:St}
theorem KX {dst:Option Nat}{op:AOp}:goO E m0 post ks (⟨dst,op,none⟩::l) L h=aE E (op.sub (slots L)) (kop E m0 post ks ⟨dst,op,none⟩ l) (sta L h):=by
 rw [MT,DJ]; rfl
theorem tZ {b:Bool}{n sz i j q:Nat}{v:DV}:aE E (.store b n (.c (.aptr sz i j q)) (.c v)) K st=((b=true∨v.closed=true)∧fP [v] st fun ds st' => ∃ d,ds=[d]∧∃ es,st'.h[i]?=some (.arr sz es)∧∃ e,es[j]?=some e∧d.closed=true∧d.cells.all DV.one=true∧d.cells.length=n∧q+n≤e.length ∧
  K .undef (st'.at i (.arr sz (es.set j (e.take q++d.cells++e.drop (q+n)))))):=rfl
theorem wE {k:Option Nat}{lo hi:Option AX}{s:List UInt8}:aE E (.slice k (.c (.str s)) lo hi) K st=(k=none∧bnd st.fr lo hi s.length s.length fun i j=>K (.str ((s.drop i).take (j - i))) st):=rfl
theorem CJ {k:Option Nat}{lo hi:Option AX}{sz:Nat}{es:List (List DV)}:aE E (.slice k (.c (.sl sz es)) lo hi) K st=(k=some sz∧bnd st.fr lo hi es.length es.length fun i j=>K (.sl sz ((es.drop i).take (j - i))) st):=rfl
theorem yS {k:Option Nat}{lo hi:Option AX}{sz i off n:Nat}:aE E (.slice k (.c (.osl sz i off n none)) lo hi) K st=(k=some sz∧bnd st.fr lo hi n n fun a b=>K (.osl sz i (off+a) (b - a) none) st):=rfl
theorem vQ {k:Option Nat}{lo hi:Option AX}{sz i off n c:Nat}:aE E (.slice k (.c (.osl sz i off n (some c))) lo hi) K st=(k=some sz∧bnd st.fr lo hi n c fun a b=>K (.osl sz i (off+a) (b - a) (some (c - a))) st):=rfl
theorem xO {k:Option Nat}{lo hi:Option AX}{sz:Nat}:aE E (.slice k (.c (.nils sz)) lo hi) K st=(k.isSome=true∧bnd st.fr lo hi 0 0 fun _ _=>K (.nils sz) st):=rfl
theorem CA {sz sz' : Nat}{es:List (List DV)}{k:IntKind}{j:Int}:aE E (.iaddr sz (.c (.sl sz' es)) (.c (.int k j))) K st=(sz' = sz∧0≤j∧∃ e,es[j.toNat]?=some e∧K (.eptr e 0) st):=rfl
theorem zD {sz sz' i off n:Nat}{c:Option Nat}{k:IntKind}{j:Int}:aE E (.iaddr sz (.c (.osl sz' i off n c)) (.c (.int k j))) K st=(sz' = sz∧0≤j∧j<n∧K (.aptr sz i (off+j.toNat) 0) st):=rfl
theorem HS {b:Bool}{s:List UInt8}:aE E (.len b (.c (.str s))) K st=(b=true∧K (.int .i64 s.length) st):=rfl
theorem NK {b:Bool}{sz:Nat}{es:List (List DV)}:aE E (.len b (.c (.sl sz es))) K st=(b=false∧K (.int .i64 es.length) st):=rfl
theorem HR {b:Bool}{sz i off n:Nat}{c:Option Nat}:aE E (.len b (.c (.osl sz i off n c))) K st=(b=false∧K (.int .i64 n) st):=rfl
theorem IJ {b e:Bool}{sz:Nat}:aE E (.len b (.c (.emp e sz))) K st=(b=false∧K (.int .i64 0) st):=rfl
theorem GF {b:Bool}{sz:Nat}:aE E (.len b (.c (.nils sz))) K st=(b=false∧K (.int .i64 0) st):=rfl
theorem BH {sz:Nat}{ps:List AX}:aE E (.bslice false sz ps) K st=((∀ p∈ps,(p.ev st.fr).closed=true∧(p.ev st.fr).cells.all DV.one=true∧(p.ev st.fr).cells.length=sz) ∧
  K (.osl sz st.h.length 0 ps.length none) (st.new (.arr sz (ps.map fun p=>(p.ev st.fr).cells)))):=rfl
theorem rV {sz:Nat}{ps:List AX}:aE E (.bslice true sz ps) K st=fP (ps.map (·.ev st.fr)) st fun ds st' => (∀ d∈ds,d.closed=true∧d.cells.all DV.one=true∧d.cells.length=sz) ∧
  K (.osl sz st'.h.length 0 ps.length none) (st'.new (.arr sz (ds.map DV.cells))):=rfl
end
section
variable {K:DV→Prop}
theorem aFd {k k' : IntKind}{a b:Int}:aT .add .prim (.int k a) (.int k' b) K=(k=k' ∧ K (.int k (k.wrap (a+b)))):=rfl
theorem aDy {k k' : IntKind}{a b:Int}:aT .sub .prim (.int k a) (.int k' b) K=(k=k' ∧ K (.int k (k.wrap (a - b)))):=rfl
theorem aFM {k k' : IntKind}{a b:Int}:aT .mul .prim (.int k a) (.int k' b) K=(k=k' ∧ K (.int k (k.wrap (a*b)))):=rfl
theorem aEg {k k' : IntKind}{a b:Int}:aT .quo .prim (.int k a) (.int k' b) K=(k=k' ∧ b≠0∧K (.int k (k.wrap (a.tdiv b)))):=rfl
theorem aEF {k k' : IntKind}{a b:Int}:aT .rem .prim (.int k a) (.int k' b) K=(k=k' ∧ b≠0∧K (.int k (a.tmod b))):=rfl
theorem aFQ {k k' : IntKind}{a b:Int}:aT .and .prim (.int k a) (.int k' b) K=(k=k' ∧ K (.int k (k.wrap (BitVec.ofInt k.bits a &&& BitVec.ofInt k.bits b).toNat))):=rfl
theorem aGw {k k' : IntKind}{a b:Int}:aT .or .prim (.int k a) (.int k' b) K=(k=k' ∧ K (.int k (k.wrap (BitVec.ofInt k.bits a ||| BitVec.ofInt k.bits b).toNat))):=rfl
theorem aEm {k k' : IntKind}{a b:Int}:aT .xor .prim (.int k a) (.int k' b) K=(k=k' ∧ K (.int k (k.wrap (BitVec.ofInt k.bits a ^^^ BitVec.ofInt k.bits b).toNat))):=rfl
theorem aDG {k k' : IntKind}{a b:Int}:aT .eql .prim (.int k a) (.int k' b) K=(k=k' ∧ K (.bool (decide (a=b)))):=rfl
theorem aEX {k k' : IntKind}{a b:Int}:aT .neq .prim (.int k a) (.int k' b) K=(k=k' ∧ K (.bool (!decide (a=b)))):=rfl
theorem aDH {k k' : IntKind}{a b:Int}:aT .lss .prim (.int k a) (.int k' b) K=(k=k' ∧ K (.bool (decide (a<b)))):=rfl
theorem aEZ {k k' : IntKind}{a b:Int}:aT .leq .prim (.int k a) (.int k' b) K=(k=k' ∧ K (.bool (decide (a≤b)))):=rfl
theorem aER {k k' : IntKind}{a b:Int}:aT .gtr .prim (.int k a) (.int k' b) K=(k=k' ∧ K (.bool (decide (b<a)))):=rfl
theorem aDW {k k' : IntKind}{a b:Int}:aT .geq .prim (.int k a) (.int k' b) K=(k=k' ∧ K (.bool (decide (b≤a)))):=rfl
theorem aEi {a b:List UInt8}:aT .eql .prim (.str a) (.str b) K=K (.bool (decide (a=b))):=rfl
theorem aFm {a b:List UInt8}:aT .neq .prim (.str a) (.str b) K=K (.bool (!decide (a=b))):=rfl
theorem aFi {a b:List UInt8}:aT .lss .prim (.str a) (.str b) K=K (.bool (Op.bytesLess a b)):=rfl
theorem aFA {a b:List UInt8}:aT .leq .prim (.str a) (.str b) K=K (.bool (Op.bytesLess a b||decide (a=b))):=rfl
theorem aEP {a b:List UInt8}:aT .gtr .prim (.str a) (.str b) K=K (.bool (!(Op.bytesLess a b||decide (a=b)))):=rfl
theorem aEH {a b:List UInt8}:aT .geq .prim (.str a) (.str b) K=K (.bool (!Op.bytesLess a b)):=rfl
theorem aFz {a b:Bool}:aT .eql .bool (.bool a) (.bool b) K=K (.bool (a == b)):=rfl
theorem aEj {a b:Bool}:aT .neq .bool (.bool a) (.bool b) K=K (.bool (!(a == b))):=rfl
@[congr] theorem aCL {o:BinOp} {t:Ty} {x x' y y' : DV} (e1:x=x') (e2:y=y'):aT o t x y K=aT o t x' y' K:=by rw [e1,e2]
theorem aBX {f:Int→Int→Int}{k:IntKind}{x:Int}:mm f [.int k x] K=K (.int k x):=by simp [mm,mmF]
theorem aBK {f:Int→Int→Int}{k k' : IntKind}{x y:Int}:mm f [.int k x,.int k' y] K=K (.int k (f x y)):=by simp [mm,mmF]
end
end Go.Ai
