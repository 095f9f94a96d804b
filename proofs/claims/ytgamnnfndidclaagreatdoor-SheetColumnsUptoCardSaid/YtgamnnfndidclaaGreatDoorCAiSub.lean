/- Steps of an abstract proof: loops by data, values by slot. -/
import Derived.Test.YtgamnnfndidclaaGreatDoorCAiCode
set_option linter.all false
namespace Go.Ai

def slots:List (Nat×DV)→Nat→DV
 | [],_=>.undef
 | (t,d)::l,s=>if s=t then d else slots l s

theorem BJ {m0 m:Nat}{st:St}{L:List (Nat×DV)}(hm:m0≤m)(hL:∀ p∈L,st.fr p.1=p.2∧(m<st.h.length→p.2.under m=true))
  (hb:m<st.h.length→∀ (l:Nat) cs,l<m→st.h[l]?=some (.box cs)→∀ d∈cs,d.under m=true):Wk m0 st ⟨slots L,st.h.take m⟩:=by
 refine ⟨.inl ⟨m,hm,rfl,fun s=>?_,hb⟩⟩
 have key:∀ (L' : List (Nat×DV)),(∀ p∈L',p∈L)→slots L' s=.undef∨slots L' s=st.fr s∧(m<st.h.length→(st.fr s).under m=true):=by
  intro L'
  induction L' with
  | nil=>exact fun _=>.inl rfl
  | cons p L' ih=>
   intro hsub
   obtain ⟨t,d⟩:=p
   simp only [slots]
   split
   ·rename_i e
    have hq:=hL (s,d) (hsub _ (by rw [e]; simp))
    have h1:st.fr s=d:=hq.1
    have h2:m<st.h.length→d.under m=true:=hq.2
    exact .inr ⟨h1.symm,fun h=>by rw [h1]; exact h2 h⟩
   ·exact ih fun p hp=>hsub p (by simp [hp])
 exact key L fun _ h=>h


theorem bA {p:Nat→Bool}:∀ {d:DV},d.closed=true→d.inL p=true:=by
 intro d
 refine DV.rec (motive_1:=fun d=>d.closed=true→d.inL p=true) (motive_2:=fun l=>DV.closed.closedAll l=true→DV.inL.inAll p l=true) (motive_3:=fun _=>True)
  ?_ ?_ ?_ ?_ ?_ ?_ ?_ ?_ ?_ ?_ ?_ ?_ ?_ ?_ ?_ ?_ ?_ ?_ ?_ ?_ ?_ ?_ ?_ ?_ ?_ ?_ d
 all_goals first
  | (intros; rfl)
  | (intros; simp_all [DV.closed,DV.inL,DV.closed.closedAll,DV.inL.inAll]; done)
  | skip
theorem aZ {ρ:Nat→Nat}:∀ {d:DV},d.closed=true→d.ren ρ=d:=by
 intro d
 refine DV.rec (motive_1:=fun d=>d.closed=true→d.ren ρ=d) (motive_2:=fun l=>DV.closed.closedAll l=true→DV.ren.renAll ρ l=l) (motive_3:=fun _=>True)
  ?_ ?_ ?_ ?_ ?_ ?_ ?_ ?_ ?_ ?_ ?_ ?_ ?_ ?_ ?_ ?_ ?_ ?_ ?_ ?_ ?_ ?_ ?_ ?_ ?_ ?_ d
 all_goals first
  | (intros; rfl)
  | (intros; simp_all [DV.closed,DV.ren,DV.closed.closedAll,DV.ren.renAll]; done)
  | skip
def agr (st:St)(p:DV→Prop):List (Nat×DV)→Prop
 | []=>True
 | (t,d)::L=>(st.fr t=d∧p d)∧agr st p L
theorem sP {st:St}{p:DV→Prop}:∀ {L:List (Nat×DV)},agr st p L→∀ q∈L,st.fr q.1=q.2∧p q.2
 | [],_,q,hq=>by simp at hq
 | (t,d)::L,h,q,hq=>by
  rcases List.mem_cons.1 hq with rfl|hq
  ·exact h.1
  ·exact sP h.2 q hq
theorem aCm {m0:Nat}{st:St}{L:List (Nat×DV)}{h:List AObj}(hh:st.h=h)(hm:m0≤st.h.length)(hL:agr st (fun _=>True) L):Wk m0 st ⟨slots L,h⟩:=by
 have:=BJ (L:=L) (m:=st.h.length) hm (fun p hp=>⟨(sP hL p hp).1,fun h=>absurd h (Nat.lt_irrefl _)⟩) (fun h=>absurd h (Nat.lt_irrefl _))
 rwa [List.take_length,hh] at this
theorem XW (m:Nat){m0:Nat}{st:St}{L:List (Nat×DV)}{h:List AObj}(hh:st.h.take m=h)(hm:m0≤m)(hL:agr st (fun d=>d.under m=true) L)(hb:(h.all fun o=>inO (fun l=>decide (l<m)) o)=true):Wk m0 st ⟨slots L,h⟩:=by
 have:=BJ (L:=L) (m:=m) hm (fun p hp=>⟨(sP hL p hp).1,fun _=>(sP hL p hp).2⟩) (fun _ l cs hl hc d hd=>by
  have:h[l]?=some (.box cs):=by rw [← hh,List.getElem?_take,if_pos hl]; exact hc
  have hq:=List.all_eq_true.1 hb _ (List.mem_of_getElem? this)
  exact List.all_eq_true.1 hq d hd)
 rwa [hh] at this
theorem wrap_i64 {x:Int}(h0 : -9223372036854775808≤x)(h1:x<9223372036854775808):IntKind.i64.wrap x=x:=by
 simp [IntKind.wrap,IntKind.bits,IntKind.signed]; omega


def sel {α:Type}(b:Bool)(x y:α):α:=bif b then x else y
@[congr] theorem aHx {α:Type} {b b' : Bool} {x y:α} (h:b=b'):sel b x y=sel b' x y:=by rw [h]
theorem eP {α:Type}{x y:α}:sel true x y=x:=rfl
theorem jQ {α:Type}{x y:α}:sel false x y=y:=rfl
inductive Fr where
 | seq (b:ACode)
 | block (id:Nat)
 | inv (Q:St→Prop)
 | jump (g:Nat) (b:ACode)
 | low
 | wkf
def eH (E:Env)(m0:Nat)(post:AExit→St→Prop):List Fr→AExit→St→Prop
  | []=>post
  | .seq b::ks=>fun e st=>match e with | .normal=>awp E m0 b (eH E m0 post ks) st | e=>eH E m0 post ks e st
  | .block id::ks=>fun e st=>match e with | .exit id' => if id' = id then eH E m0 post ks .normal st else eH E m0 post ks (.exit id') st | e=>eH E m0 post ks e st
  | .inv Q::ks=>fun e st=>match e with | .normal=>Q st | e=>eH E m0 post ks e st
  | .jump g b::ks=>fun e st=>match e with
      | .exit id' => if id' = g then awp E m0 b (fun e st' => match e with | .exit id' => id' < 1000000∧eH E m0 post ks (.exit id') st' | e=>eH E m0 post ks e st') st else id' < 1000000∧eH E m0 post ks (.exit id') st
      | e=>eH E m0 post ks e st
  | .low::ks=>fun e st=>match e with | .exit id' => id' < 1000000∧eH E m0 post ks (.exit id') st | e=>eH E m0 post ks e st
  | .wkf::ks=>fun e st=>∃ st',Wk m0 st st' ∧ eH E m0 post ks e st'

def sta (L:List (Nat×DV))(h:List AObj):St:=⟨slots L,h⟩
def goN (E:Env)(m0:Nat)(post:AExit→St→Prop)(ks:List Fr)(c:ACode)(L:List (Nat×DV))(h:List AObj):Prop:=awp E m0 c (eH E m0 post ks) (sta L h)
def goK (E:Env)(m0:Nat)(post:AExit→St→Prop)(ks:List Fr)(e:AExit)(L:List (Nat×DV))(h:List AObj):Prop:=eH E m0 post ks e (sta L h)
def goO (E:Env)(m0:Nat)(post:AExit→St→Prop)(ks:List Fr)(l:List AOper)(L:List (Nat×DV))(h:List AObj):Prop:=fP E l (eH E m0 post ks .normal) (sta L h)
def kop (E:Env)(m0:Nat)(post:AExit→St→Prop)(ks:List Fr)(o:AOper)(l:List AOper)(d:DV)(st:St):Prop:=gen o.op d fun d=>fP E l (eH E m0 post ks .normal) (st.put o.dst d)

section
variable {E:Env} {m0:Nat} {post:AExit→St→Prop} {ks:List Fr} {L:List (Nat×DV)} {h:List AObj} {l:List AOper} {o:AOper}
theorem WM:goN E m0 post ks .skip L h=goK E m0 post ks .normal L h:=rfl
theorem SN {id:Nat}:goN E m0 post ks (.exit id) L h=goK E m0 post ks (.exit id) L h:=rfl
theorem aAl:goN E m0 post ks .ret L h=goK E m0 post ks .ret L h:=rfl
theorem EX {d:Bool}:goN E m0 post ks (.region d l) L h=goO E m0 post ks l L h:=rfl
theorem aBr {a b:ACode}:goN E m0 post ks (.seq a b) L h=goN E m0 post (.seq b::ks) a L h:=rfl
theorem jY {a:ACode}:goN E m0 post ks (.wk a) L h=goN E m0 post (.wkf::ks) a L h:=rfl
theorem jF {L' : List (Nat×DV)}{h' : List AObj}(hw:Wk m0 (sta L h) (sta L' h'))(hk:goK E m0 post ks .normal L' h'):goK E m0 post (.wkf::ks) .normal L h:=⟨_,hw,hk⟩
theorem sJ {a b:ACode}(L' : List (Nat×DV))(h' : List AObj)(hk:goK E m0 post ks .normal L' h')(h1:goK E m0 post ks .normal L' h' → goN E m0 post ks a L h)(h2:goK E m0 post ks .normal L' h' → goN E m0 post ks b L h) :
  goN E m0 post ks (.both a b) L h:=⟨h1 hk,h2 hk⟩
theorem nS {a b:ACode}(h1:goN E m0 post ks a L h)(h2:goN E m0 post ks b L h):goN E m0 post ks (.both a b) L h:=⟨h1,h2⟩
theorem VR {g:Nat}{a b:ACode}:goN E m0 post ks (.jump g a b) L h=goN E m0 post (.jump g b::ks) a L h:=rfl
theorem SP {g:Nat}{b:ACode}:goK E m0 post (.jump g b::ks) .normal L h=goK E m0 post ks .normal L h:=rfl
theorem zW {g:Nat}{b:ACode}:goK E m0 post (.jump g b::ks) .ret L h=goK E m0 post ks .ret L h:=rfl
theorem aCl:goK E m0 post (.low::ks) .normal L h=goK E m0 post ks .normal L h:=rfl
theorem CM:goK E m0 post (.low::ks) .ret L h=goK E m0 post ks .ret L h:=rfl
theorem LQ {id:Nat}{b:ACode}:goN E m0 post ks (.block id b) L h=goN E m0 post (.block id::ks) b L h:=rfl
def AS (d:DV)(p q:Prop):Prop:=match d with | .bool true=>p | .bool false=>q | _=>False
theorem WA {c:AX}{a b:ACode}:goN E m0 post ks (.cond c a b) L h=AS (c.ev (slots L)) (goN E m0 post ks a L h) (goN E m0 post ks b L h):=by
 unfold goN
 simp only [awp,sta]
 generalize c.ev (slots L)=d
 cases d <;> first | rfl | skip
 rename_i t
 cases t <;> rfl
theorem EF {p q:Prop}:AS (.bool true) p q=p:=rfl
theorem BK {p q:Prop}:AS (.bool false) p q=q:=rfl
theorem YL {b:ACode}:goK E m0 post (.seq b::ks) .normal L h=goN E m0 post ks b L h:=rfl
theorem zC {b:ACode}{id:Nat}:goK E m0 post (.seq b::ks) (.exit id) L h=goK E m0 post ks (.exit id) L h:=rfl
theorem DD {b:ACode}:goK E m0 post (.seq b::ks) .ret L h=goK E m0 post ks .ret L h:=rfl
theorem LH {id:Nat}:goK E m0 post (.block id::ks) .normal L h=goK E m0 post ks .normal L h:=rfl
theorem wF {id:Nat}:goK E m0 post (.block id::ks) .ret L h=goK E m0 post ks .ret L h:=rfl
theorem vI {id id' : Nat}:goK E m0 post (.block id::ks) (.exit id') L h=sel (id' == id) (goK E m0 post ks .normal L h) (goK E m0 post ks (.exit id') L h):=by
 unfold goK
 simp only [eH]
 by_cases e:id' = id
 ·simp [e,eP]
 ·have:(id' == id)=false:=by simpa using e
  simp [e,this,jQ]
theorem ZP {Q:St→Prop}:goK E m0 post (.inv Q::ks) .normal L h=Q (sta L h):=rfl
theorem AC {Q:St→Prop}{id:Nat}:goK E m0 post (.inv Q::ks) (.exit id) L h=goK E m0 post ks (.exit id) L h:=rfl
theorem AU {Q:St→Prop}:goK E m0 post (.inv Q::ks) .ret L h=goK E m0 post ks .ret L h:=rfl
theorem aAO:goO E m0 post ks [] L h=goK E m0 post ks .normal L h:=rfl
theorem UQ {dst:Option Nat}{op:AOp}:goO E m0 post ks (⟨dst,op,none⟩::l) L h=aop E op (kop E m0 post ks ⟨dst,op,none⟩ l) (sta L h):=rfl
def kA (d:DV)(want:Bool)(p q:Prop):Prop:=match d with | .bool b=>(bif b == want then p else q) | .tup []=>q | _=>False
theorem MK {dst:Option Nat}{op:AOp}{g:Nat}{want:Bool}:goO E m0 post ks (⟨dst,op,some (g,want)⟩::l) L h =
  kA (slots L g) want (aop E op (kop E m0 post ks ⟨dst,op,some (g,want)⟩ l) (sta L h)) (fP E l (eH E m0 post ks .normal) ((sta L h).put dst (.tup []))):=by
 unfold goO
 simp only [fP,AOper.run,sta]
 generalize slots L g=d
 cases d <;> first | rfl | skip
theorem LE {p q:Prop}:kA (.bool true) true p q=p:=rfl
theorem PP {p q:Prop}:kA (.bool true) false p q=q:=rfl
theorem MB {p q:Prop}:kA (.bool false) true p q=q:=rfl
theorem PM {p q:Prop}:kA (.bool false) false p q=p:=rfl
theorem AH {want:Bool}{p q:Prop}:kA (.tup []) want p q=q:=rfl
@[congr] theorem aBb {d d' : DV} {w:Bool} {p q:Prop} (h:d=d'):kA d w p q=kA d' w p q:=by rw [h]
@[congr] theorem aDb {d d' : DV} {p q:Prop} (h:d=d'):AS d p q=AS d' p q:=by rw [h]
theorem aEE:(sta L h).fr=slots L:=rfl
theorem aDo:(sta L h).h=h:=rfl
def nm:AOp→Bool
 | .bin .. | .un .. | .conv .. | .mx _ | .mn _=>true
 | _=>false
theorem tZ {i:Nat}{ob:AObj}:(sta L h).at i ob=sta L (h.set i ob):=rfl
end
@[congr] theorem aDx {h h' : List AObj} {d d' : DV} {sz:Nat} {K:List (List DV)→Prop} (e1:h=h') (e2:d=d'):elems h d sz K=elems h' d' sz K:=by rw [e1,e2]
@[congr] theorem aHv {fr:Nat→DV} {lo hi:Option AX} {n n' c c' : Nat} {K:Nat→Nat→Prop} (e1:n=n') (e2:c=c'):bnd fr lo hi n c K=bnd fr lo hi n' c' K:=by rw [e1,e2]
@[congr] theorem aGu {cs cs' : List DV} {l l' : List (Nat×Nat×DV)} {K:List DV→Prop} (e1:cs=cs') (e2:l=l'):sF cs l K=sF cs' l' K:=by rw [e1,e2]
@[congr] theorem aDt {ds ds' : List DV} {st st' : St} {K:List DV→St→Prop} (e1:ds=ds') (e2:st=st'):iK ds st K=iK ds' st' K:=by rw [e1,e2]
theorem UT {E:Env}{m0:Nat}{post:AExit→St→Prop}{ks:List Fr}{b:ACode}{L:List (Nat×DV)}{h:List AObj}{γ:Type}(SL:γ→List (Nat×DV))(SH:γ→List AObj)(P:γ→Prop)(μ:γ→Nat)(g0:γ)
  (h0:Wk m0 (sta L h) (sta (SL g0) (SH g0))) (hp:P g0)
  (round:∀ g,P g→goN E m0 post (.inv (fun st' => ∃ g',Wk m0 st' (sta (SL g') (SH g'))∧P g' ∧ μ g' < μ g)::ks) b (SL g) (SH g)):goN E m0 post ks (.loop b) L h:=by
 refine ⟨γ,fun g=>sta (SL g) (SH g),P,μ,⟨g0,h0,hp⟩,fun g hg=>?_⟩
 have:=round g hg
 unfold goN at this
 have e:eH E m0 post (.inv (fun st' => ∃ g',Wk m0 st' (sta (SL g') (SH g'))∧P g' ∧ μ g' < μ g)::ks)=fun e st' => match e with | .normal=>∃ g',Wk m0 st' (sta (SL g') (SH g'))∧P g' ∧ μ g' < μ g | e=>eH E m0 post ks e st' := by
  funext e st'; cases e <;> rfl
 rw [e] at this
 exact this
theorem aA {E:Env}{f:Nat}{af:AFun}(hc:aF E.P f=some af){h:List AObj}{args:List DV}{post:List AObj→DV→Prop}(hle:args.length≤af.nt)
  (hk:goN E h.length (fin h.length af.res post) [] af.body (args.zipIdx.map fun (d,i)=>(i,d)) h):ACalls E f h args post:=by
 refine wI hc hle ?_
 have e:(fun s=>args.getD s .undef)=slots (args.zipIdx.map fun (d,i)=>(i,d)):=by
  funext s
  have key:∀ (l:List DV) (k:Nat),slots ((l.zipIdx k).map fun (d,i)=>(i,d)) (k+s)=l.getD s .undef:=by
   intro l
   induction l generalizing s with
   | nil=>intro k; simp [slots]
   | cons d l ih=>
    intro k
    rw [List.zipIdx_cons,List.map_cons]
    simp only [slots]
    cases s with
    | zero=>simp
    | succ s=>
     have:¬ k+(s+1)=k:=by omega
     rw [if_neg this]
     have:=ih s (k+1)
     rw [show k+1+s=k+(s+1) by omega] at this
     rw [this]; simp
  have:=key args 0
  rw [Nat.zero_add] at this
  exact this.symm
 rw [e]
 exact hk
def AX.sub (fr:Nat→DV)(x:AX):AX:=.c (x.ev fr)
def AOp.sub (fr:Nat→DV):AOp→AOp
 | .mov x=>.mov (x.sub fr)
 | .set x=>.set (x.sub fr)
 | .newnil n=>.newnil n
 | .pick c a b=>.pick (c.sub fr) (a.sub fr) (b.sub fr)
 | .box x=>.box (x.sub fr)
 | .alloc z=>.alloc z
 | .allocb t e=>.allocb t e
 | .build z ps=>.build z (ps.map fun p=>(p.1,p.2.1,p.2.2.sub fr))
 | .bslice b n ps=>.bslice b n (ps.map (AX.sub fr))
 | .load a x=>.load a (x.sub fr)
 | .store b n x v=>.store b n (x.sub fr) (v.sub fr)
 | .nilchk x=>.nilchk (x.sub fr)
 | .bin o t x y=>.bin o t (x.sub fr) (y.sub fr)
 | .un o x=>.un o (x.sub fr)
 | .conv k x=>.conv k (x.sub fr)
 | .mkfn f cs=>.mkfn f (cs.map (AX.sub fr))
 | .mkifc t x=>.mkifc t (x.sub fr)
 | .mkbnd t x=>.mkbnd t (x.sub fr)
 | .inv b m x l=>.inv b m (x.sub fr) (l.map (AX.sub fr))
 | .mkslice a b z x y=>.mkslice a b z (x.sub fr) (y.sub fr)
 | .slice k x lo hi=>.slice k (x.sub fr) (lo.map (AX.sub fr)) (hi.map (AX.sub fr))
 | .faddr n x=>.faddr n (x.sub fr)
 | .field n a x=>.field n a (x.sub fr)
 | .iaddr n x i=>.iaddr n (x.sub fr) (i.sub fr)
 | .baddr n m x i=>.baddr n m (x.sub fr) (i.sub fr)
 | .sidx x i=>.sidx (x.sub fr) (i.sub fr)
 | .range x=>.range (x.sub fr)
 | .next x=>.next (x.sub fr)
 | .extr x i=>.extr (x.sub fr) i
 | .call b f l=>.call b f (l.map (AX.sub fr))
 | .callv b x l=>.callv b (x.sub fr) (l.map (AX.sub fr))
 | .len b x=>.len b (x.sub fr)
 | .cap x=>.cap (x.sub fr)
 | .append a b x y=>.append a b (x.sub fr) (y.sub fr)
 | .appendf a b x y=>.appendf a b (x.sub fr) (y.sub fr)
 | .appendz a b z x y=>.appendz a b z (x.sub fr) (y.sub fr)
 | .cpy n x y=>.cpy n (x.sub fr) (y.sub fr)
 | .clr n z x=>.clr n z (x.sub fr)
 | .mkmap=>.mkmap
 | .look b z x k=>.look b z (x.sub fr) (k.sub fr)
 | .ment z x k=>.ment z (x.sub fr) (k.sub fr)
 | .mset x i v=>.mset (x.sub fr) (i.sub fr) (v.sub fr)
 | .mput x k v=>.mput (x.sub fr) (k.sub fr) (v.sub fr)
 | .bad=>.bad
 | .mn l=>.mn (l.map (AX.sub fr))
 | .mx l=>.mx (l.map (AX.sub fr))
theorem sQ (fr fr' : Nat→DV)(l:List AX):(l.map (AX.sub fr)).map (·.ev fr')=l.map (·.ev fr):=by simp [AX.sub,AX.ev,Function.comp_def]
theorem JW (E:Env)(op:AOp)(K:DV→St→Prop)(st:St):aop E op K st=aop E (op.sub st.fr) K st:=by
 cases op <;> first
  | rfl
  | (simp only [AOp.sub,aop,sQ]; done)
  | skip
 case build z ps=>simp only [AOp.sub,aop,List.map_map,Function.comp_def,AX.sub,AX.ev]
 case bslice b n ps=>
  cases b
  ·simp only [AOp.sub,aop,List.map_map,Function.comp_def,AX.sub,AX.ev,List.length_map,List.forall_mem_map]
  ·simp only [AOp.sub,aop,sQ,List.length_map]
 case load a x=>cases a <;> rfl
 case slice k x lo hi=>cases lo <;> cases hi <;> rfl
 case field o a x=>cases a <;> rfl
 case callv b x l=>simp only [AOp.sub,aop,sQ]; rfl
 case inv b m x l=>simp only [AOp.sub,aop,sQ]; rfl

def aH (E:Env)(op:AOp)(K:DV→St→Prop)(st:St):Prop:=aop E op K st
@[congr] theorem aFH {E:Env} {op op' : AOp} {K:DV→St→Prop} {st:St} (h:op=op'):aH E op K st=aH E op' K st:=by rw [h]
section
variable {E:Env} {m0:Nat} {post:AExit→St→Prop} {ks:List Fr} {L:List (Nat×DV)} {h:List AObj} {l:List AOper} {K:DV→St→Prop} {st:St}
theorem XI {dst:Option Nat}{op:AOp}:goO E m0 post ks (⟨dst,op,none⟩::l) L h=aH E (op.sub (slots L)) (kop E m0 post ks ⟨dst,op,none⟩ l) (sta L h):=by
 rw [UQ,JW]; rfl
theorem xS {b:Bool}{n sz i j q:Nat}{v:DV}:aH E (.store b n (.c (.aptr sz i j q)) (.c v)) K st=((b=true∨v.closed=true)∧iK [v] st fun ds st' => ∃ d,ds=[d]∧∃ es,st'.h[i]?=some (.arr sz es)∧∃ e,es[j]?=some e∧d.closed=true∧d.cells.all DV.one=true∧d.cells.length=n∧q+n≤e.length ∧
  K .undef (st'.at i (.arr sz (es.set j (e.take q++d.cells++e.drop (q+n)))))):=rfl
theorem AZ {k:Option Nat}{lo hi:Option AX}{s:List UInt8}:aH E (.slice k (.c (.str s)) lo hi) K st=(k=none∧bnd st.fr lo hi s.length s.length fun i j=>K (.str ((s.drop i).take (j - i))) st):=rfl
theorem EK {k:Option Nat}{lo hi:Option AX}{sz:Nat}{es:List (List DV)}:aH E (.slice k (.c (.sl sz es)) lo hi) K st=(k=some sz∧bnd st.fr lo hi es.length es.length fun i j=>K (.sl sz ((es.drop i).take (j - i))) st):=rfl
theorem BL {k:Option Nat}{lo hi:Option AX}{sz i off n:Nat}:aH E (.slice k (.c (.osl sz i off n none)) lo hi) K st=(k=some sz∧bnd st.fr lo hi n n fun a b=>K (.osl sz i (off+a) (b - a) none) st):=rfl
theorem zP {k:Option Nat}{lo hi:Option AX}{sz i off n c:Nat}:aH E (.slice k (.c (.osl sz i off n (some c))) lo hi) K st=(k=some sz∧bnd st.fr lo hi n c fun a b=>K (.osl sz i (off+a) (b - a) (some (c - a))) st):=rfl
theorem BX {k:Option Nat}{lo hi:Option AX}{sz:Nat}:aH E (.slice k (.c (.nils sz)) lo hi) K st=(k.isSome=true∧bnd st.fr lo hi 0 0 fun _ _=>K (.nils sz) st):=rfl
theorem FB {sz sz' : Nat}{es:List (List DV)}{k:IntKind}{j:Int}:aH E (.iaddr sz (.c (.sl sz' es)) (.c (.int k j))) K st=(sz' = sz∧0≤j∧∃ e,es[j.toNat]?=some e∧K (.eptr e 0) st):=rfl
theorem CX {sz sz' i off n:Nat}{c:Option Nat}{k:IntKind}{j:Int}:aH E (.iaddr sz (.c (.osl sz' i off n c)) (.c (.int k j))) K st=(sz' = sz∧0≤j∧j<n∧K (.aptr sz i (off+j.toNat) 0) st):=rfl
theorem NC {b:Bool}{s:List UInt8}:aH E (.len b (.c (.str s))) K st=(b=true∧K (.int .i64 s.length) st):=rfl
theorem UU {b:Bool}{sz:Nat}{es:List (List DV)}:aH E (.len b (.c (.sl sz es))) K st=(b=false∧K (.int .i64 es.length) st):=rfl
theorem OS {b:Bool}{sz i off n:Nat}{c:Option Nat}:aH E (.len b (.c (.osl sz i off n c))) K st=(b=false∧K (.int .i64 n) st):=rfl
theorem OM {b e:Bool}{sz:Nat}:aH E (.len b (.c (.emp e sz))) K st=(b=false∧K (.int .i64 0) st):=rfl
theorem ML {b:Bool}{sz:Nat}:aH E (.len b (.c (.nils sz))) K st=(b=false∧K (.int .i64 0) st):=rfl
theorem GL {sz:Nat}{ps:List AX}:aH E (.bslice false sz ps) K st=((∀ p∈ps,(p.ev st.fr).closed=true∧(p.ev st.fr).cells.all DV.one=true∧(p.ev st.fr).cells.length=sz) ∧
  K (.osl sz st.h.length 0 ps.length none) (st.new (.arr sz (ps.map fun p=>(p.ev st.fr).cells)))):=rfl
theorem vA {sz:Nat}{ps:List AX}:aH E (.bslice true sz ps) K st=iK (ps.map (·.ev st.fr)) st fun ds st' => (∀ d∈ds,d.closed=true∧d.cells.all DV.one=true∧d.cells.length=sz) ∧
  K (.osl sz st'.h.length 0 ps.length none) (st'.new (.arr sz (ds.map DV.cells))):=rfl
end
section
variable {K:DV→Prop}
theorem aKl {k k' : IntKind}{a b:Int}:bD .add .prim (.int k a) (.int k' b) K=(k=k' ∧ K (.int k (k.wrap (a+b)))):=rfl
theorem aIU {k k' : IntKind}{a b:Int}:bD .sub .prim (.int k a) (.int k' b) K=(k=k' ∧ K (.int k (k.wrap (a - b)))):=rfl
theorem aJg {k k' : IntKind}{a b:Int}:bD .mul .prim (.int k a) (.int k' b) K=(k=k' ∧ K (.int k (k.wrap (a*b)))):=rfl
theorem aHU {k k' : IntKind}{a b:Int}:bD .quo .prim (.int k a) (.int k' b) K=(k=k' ∧ b≠0∧K (.int k (k.wrap (a.tdiv b)))):=rfl
theorem aIZ {k k' : IntKind}{a b:Int}:bD .rem .prim (.int k a) (.int k' b) K=(k=k' ∧ b≠0∧K (.int k (a.tmod b))):=rfl
theorem aIF {k k' : IntKind}{a b:Int}:bD .and .prim (.int k a) (.int k' b) K=(k=k' ∧ K (.int k (k.wrap (BitVec.ofInt k.bits a &&& BitVec.ofInt k.bits b).toNat))):=rfl
theorem aLp {k k' : IntKind}{a b:Int}:bD .or .prim (.int k a) (.int k' b) K=(k=k' ∧ K (.int k (k.wrap (BitVec.ofInt k.bits a ||| BitVec.ofInt k.bits b).toNat))):=rfl
theorem aJc {k k' : IntKind}{a b:Int}:bD .xor .prim (.int k a) (.int k' b) K=(k=k' ∧ K (.int k (k.wrap (BitVec.ofInt k.bits a ^^^ BitVec.ofInt k.bits b).toNat))):=rfl
theorem aIy {k k' : IntKind}{a b:Int}:bD .eql .prim (.int k a) (.int k' b) K=(k=k' ∧ K (.bool (decide (a=b)))):=rfl
theorem aJj {k k' : IntKind}{a b:Int}:bD .neq .prim (.int k a) (.int k' b) K=(k=k' ∧ K (.bool (!decide (a=b)))):=rfl
theorem aHR {k k' : IntKind}{a b:Int}:bD .lss .prim (.int k a) (.int k' b) K=(k=k' ∧ K (.bool (decide (a<b)))):=rfl
theorem aHW {k k' : IntKind}{a b:Int}:bD .leq .prim (.int k a) (.int k' b) K=(k=k' ∧ K (.bool (decide (a≤b)))):=rfl
theorem aJa {k k' : IntKind}{a b:Int}:bD .gtr .prim (.int k a) (.int k' b) K=(k=k' ∧ K (.bool (decide (b<a)))):=rfl
theorem aIK {k k' : IntKind}{a b:Int}:bD .geq .prim (.int k a) (.int k' b) K=(k=k' ∧ K (.bool (decide (b≤a)))):=rfl
theorem aJl {a b:List UInt8}:bD .eql .prim (.str a) (.str b) K=K (.bool (decide (a=b))):=rfl
theorem aHC {a b:List UInt8}:bD .neq .prim (.str a) (.str b) K=K (.bool (!decide (a=b))):=rfl
theorem aIO {a b:List UInt8}:bD .lss .prim (.str a) (.str b) K=K (.bool (Op.bytesLess a b)):=rfl
theorem aKg {a b:List UInt8}:bD .leq .prim (.str a) (.str b) K=K (.bool (Op.bytesLess a b||decide (a=b))):=rfl
theorem aIT {a b:List UInt8}:bD .gtr .prim (.str a) (.str b) K=K (.bool (!(Op.bytesLess a b||decide (a=b)))):=rfl
theorem aJk {a b:List UInt8}:bD .geq .prim (.str a) (.str b) K=K (.bool (!Op.bytesLess a b)):=rfl
theorem aKe {a b:Bool}:bD .eql .bool (.bool a) (.bool b) K=K (.bool (a == b)):=rfl
theorem aKh {a b:Bool}:bD .neq .bool (.bool a) (.bool b) K=K (.bool (!(a == b))):=rfl
@[congr] theorem aFa {o:BinOp} {t:Ty} {x x' y y' : DV} (e1:x=x') (e2:y=y'):bD o t x y K=bD o t x' y' K:=by rw [e1,e2]
theorem aGn {f:Int→Int→Int}{k:IntKind}{x:Int}:mm f [.int k x] K=K (.int k x):=by simp [mm,mmF]
theorem aEt {f:Int→Int→Int}{k k' : IntKind}{x y:Int}:mm f [.int k x,.int k' y] K=K (.int k (f x y)):=by simp [mm,mmF]
end
end Go.Ai
