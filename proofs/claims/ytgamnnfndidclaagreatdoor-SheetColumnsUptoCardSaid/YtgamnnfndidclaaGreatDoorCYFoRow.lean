/- Columns in whatever order, in capitals, with empty ones left out: plain law. -/
import Derived.Test.YtgamnnfndidclaaGreatDoorCYY11
import Derived.Test.YtgamnnfndidclaaGreatDoorCLawJid
import Derived.Carry
import Derived.Test.YtgamnnfndidclaaGreatDoorCYFoUtF
import Derived.Test.YtgamnnfndidclaaGreatDoorRows
import Derived.Lib.LaidIn
import Derived.Lib.LaidTab
import Derived.Lib.LaidU8T
import Derived.PinnedBridge
import Derived.ProofKit
import Derived.LaidMore
import Derived.Lay
import Derived.Stop.Joined
import Derived.Handed
import Derived.Shelf.Vars
open Nat renaming reduceBEq → qA,reduceAdd → qB,reduceSub → qC,reduceLeDiff → qD,reduceMul → qE
open Int renaming reduceLE → qF,reduceLT → qG,reduceNe → qH,reduceToNat → qI
set_option linter.all false
namespace Go.Proofs.Ut
open Go.Ai
set_option maxRecDepth 100000
def swp {α:Type}(d:α)(a b:Nat)(l:List α):List α:=(l.set a (l.getD b d)).set b (l.getD a d)
theorem RJ {α:Type}(d:α){a b:Nat}{l:List α}(ha:a<l.length)(hb:b<l.length):(swp d a b l).Perm l:=by
 unfold swp
 have:=List.set_set_perm ha hb
 rw [List.getD_eq_getElem?_getD,List.getD_eq_getElem?_getD,List.getElem?_eq_getElem ha,List.getElem?_eq_getElem hb]
 exact this
abbrev NV:=List UInt8×List UInt8
def Z0 (c:CT):List NV:=COLS.zip (fS c)
def aDy (s:List UInt8):List UInt8:=match s with | []=>[] | x::s=>(x - 32)::s
def EN (out:List Bool)(i:Nat)(x:NV):Bool:=decide (i<out.length)&&out.getD i false && !decide (x.1=vD)&&decide (x.2=[])
def nam (i:Nat)(s:List UInt8):List UInt8:=if i % 2=0 then aDy s else s
def kept (out:List Bool)(Z:List NV):Nat→List (Nat×NV)
 | 0=>[]
 | i+1=>if EN out i (Z.getD i ([],[]))=true then kept out Z i else kept out Z i++[(i,Z.getD i ([],[]))]
def hdr (l:List (Nat×NV)):List (List UInt8):=l.map fun p=>nam p.1 p.2.1
def bod (l:List (Nat×NV)):List (List UInt8):=l.map fun p=>p.2.2
theorem lC (c:CT):(Z0 c).map Prod.fst=COLS:=by
 unfold Z0
 rw [List.map_fst_zip]
 rw [qO]; decide
theorem FP (c:CT):(Z0 c).map Prod.snd=fS c:=by
 unfold Z0
 rw [List.map_snd_zip]
 rw [qO]; decide
theorem zM (c:CT):(Z0 c).length=10:=by
 rw [← List.length_map (f:=Prod.fst),lC]; rfl
theorem aEk (c:CT){k:Nat}(hk:k<10):(COLS.getD k [],hB c k)∈Z0 c:=by
 have h1:k<(Z0 c).length:=by rw [zM]; exact hk
 have e1:=congrArg (fun l=>l[k]?) (lC c)
 have e2:=congrArg (fun l=>l[k]?) (FP c)
 simp only [List.getElem?_map,List.getElem?_eq_getElem h1,Option.map_some] at e1 e2
 have hm:=List.getElem_mem h1
 have hc:COLS.getD k []=(Z0 c)[k].1:=by rw [List.getD_eq_getElem?_getD,← e1]; rfl
 have ht:hB c k=(Z0 c)[k].2:=by
  have:=OJ c hk
  rw [List.getD_eq_getElem?_getD,← e2] at this
  exact this.symm
 rw [hc,ht]
 exact hm
theorem nT {out:List Bool}{Z:List NV}:∀ {n:Nat},n≤Z.length→∀ p∈kept out Z n,p.1<n∧Z[p.1]?=some p.2
 | 0,_,p,h=>by cases h
 | n+1,hn,p,h=>by
  have hg:Z[n]?=some (Z.getD n ([],[])):=by rw [List.getD_eq_getElem?_getD,List.getElem?_eq_getElem (by omega)]; rfl
  unfold kept at h
  split at h
  ·have:=nT (by omega) p h
   exact ⟨by omega,this.2⟩
  ·rcases List.mem_append.1 h with h|h
   ·have:=nT (by omega) p h
    exact ⟨by omega,this.2⟩
   ·obtain rfl:=List.mem_singleton.1 h
    exact ⟨by simp only; omega,hg⟩
theorem AL {out:List Bool}{Z:List NV}:∀ {n:Nat},n≤Z.length→∀ i,i<n→(i,Z.getD i ([],[]))∈kept out Z n∨((Z.getD i ([],[])).1≠vD∧(Z.getD i ([],[])).2=[])
 | 0,_,i,h=>by omega
 | n+1,hn,i,h=>by
  unfold kept
  rcases Nat.lt_or_ge i n with h1|h1
  ·rcases AL (out:=out) (by omega:n≤Z.length) i h1 with q|q
   ·left
    split
    ·exact q
    ·exact List.mem_append_left _ q
   ·exact .inr q
  ·obtain rfl:i=n:=by omega
   split
   ·rename_i hl
    right
    simp only [EN,Bool.and_eq_true,Bool.not_eq_true',decide_eq_true_eq,decide_eq_false_iff_not] at hl
    exact ⟨hl.1.2,hl.2⟩
   ·left; simp
theorem wA {out:List Bool}{Z:List NV}(hZ:(Z.map Prod.fst).Nodup):∀ {n:Nat},n≤Z.length→((kept out Z n).map fun p=>p.2.1).Nodup
 | 0,_=>List.nodup_nil
 | n+1,hn=>by
  have ih:=wA (out:=out) hZ (by omega:n≤Z.length)
  unfold kept
  split
  ·exact ih
  ·rw [List.map_append,List.nodup_append]
   refine ⟨ih,by simp,fun a ha b hb=>?_⟩
   obtain ⟨p,hp,rfl⟩:=List.mem_map.1 ha
   obtain rfl:b=(Z.getD n ([],[])).1:=by simpa using hb
   obtain ⟨h1,h2⟩:=nT (by omega) p hp
   intro e
   have h3:Z[n]?=some (Z.getD n ([],[])):=by rw [List.getD_eq_getElem?_getD,List.getElem?_eq_getElem (by omega)]; rfl
   have h4:(Z.map Prod.fst)[p.1]?=(Z.map Prod.fst)[n]?:=by rw [List.getElem?_map,List.getElem?_map,h2,h3]; exact congrArg some e
   have:=(List.getElem?_inj (by rw [List.length_map]; omega) hZ).1 h4
   omega
theorem XU:∀ s∈COLS,∀ i:Nat,fO (nam i s)=s:=by
 have h:∀ s∈COLS,fO (aDy s)=s∧fO s=s:=by decide +kernel
 intro s hs i
 unfold nam
 split
 ·exact (h s hs).1
 ·exact (h s hs).2
theorem GU {l:List (Nat×NV)}(hn:(l.map fun p=>p.2.1).Nodup){p:Nat×NV}(h:p∈l):(l.map fun p=>p.2.1).contains p.2.1=true∧(bod l).getD ((l.map fun p=>p.2.1).idxOf p.2.1) []=p.2.2:=by
 induction l with
 | nil=>cases h
 | cons q l ih=>
  simp only [List.map_cons,List.nodup_cons] at hn
  by_cases e:q=p
  ·subst e
   refine ⟨by simp,?_⟩
   simp only [List.map_cons,List.idxOf_cons_self,bod,List.getD_cons_zero]
  ·have hl:p∈l:=(List.mem_cons.1 h).resolve_left (fun q=>e q.symm)
   obtain ⟨h1,h2⟩:=ih hn.2 hl
   have hne:q.2.1≠p.2.1:=fun q=>hn.1 (q▸List.mem_map_of_mem (f:=fun p:Nat×NV=>p.2.1) hl)
   refine ⟨by rw [List.map_cons,List.contains_cons,h1]; simp,?_⟩
   rw [List.map_cons,List.idxOf_cons,beq_false_of_ne hne,cond_false]
   simp only [bod,List.map_cons,List.getD_cons_succ]
   exact h2
structure rdC (c:CT) (l:List (Nat×NV)):Prop where
 nd:(l.map fun p=>p.2.1).Nodup
 mem:∀ p∈l,p.2∈Z0 c
 has:∀ k,k<10→(∃ i,(i,(COLS.getD k [],hB c k))∈l)∨(k≠0∧hB c k=[]∧(l.map fun p=>p.2.1).contains (COLS.getD k [])=false)
theorem aEQ (s:List UInt8)(h:mN s=s)(hv:aO s=[]):s=[]:=by
 cases s with
 | nil=>rfl
 | cons b s=>
  exfalso
  have e:aO (b::s)=gO b++aO s:=by simp [aO]
  rw [e] at hv
  have hb:=(List.append_eq_nil_iff.1 hv).1
  have h13:b≠13:=fun q=>by
   have:b∈mN (b::s):=by rw [h]; simp
   rw [q] at this
   simp [mN] at this
  rcases gA b with q|⟨_,e2,_⟩
  ·rcases q with rfl|rfl|rfl|rfl|rfl
   all_goals first | exact h13 rfl | (simp [gO] at hb)
  ·rw [e2] at hb; cases hb
theorem FL (c:CT)(h:wrC c)(hj:dS 59 (c.groups.map aO)=[]):c.groups=[]:=by
 have hg:=h.g
 generalize c.groups=l at *
 cases l with
 | nil=>rfl
 | cons x l=>
  exfalso
  have e:dS 59 ((x::l).map aO)=aO x++dI 59 (l.map aO):=rfl
  rw [e] at hj
  have:=hg x (by simp)
  exact this.1 (aEQ x this.2.2 (List.append_eq_nil_iff.1 hj).1)
def stg (c:CT):Nat→CT
 | 0=>C0
 | 1=>{ C0 with name:=c.name }
 | 2=>{ C0 with name:=c.name,family:=c.family }
 | 3=>{ C0 with name:=c.name,family:=c.family,given:=c.given }
 | 4=>{ C0 with name:=c.name,family:=c.family,given:=c.given,nick:=c.nick }
 | 5=>{ C0 with name:=c.name,family:=c.family,given:=c.given,nick:=c.nick,jid:=c.jid }
 | 6=>{ C0 with name:=c.name,family:=c.family,given:=c.given,nick:=c.nick,jid:=c.jid,email:=c.email }
 | 7=>{ C0 with name:=c.name,family:=c.family,given:=c.given,nick:=c.nick,jid:=c.jid,email:=c.email,tel:=c.tel }
 | 8=>{ C0 with name:=c.name,family:=c.family,given:=c.given,nick:=c.nick,jid:=c.jid,email:=c.email,tel:=c.tel,note:=c.note }
 | 9=>{ C0 with name:=c.name,family:=c.family,given:=c.given,nick:=c.nick,jid:=c.jid,email:=c.email,tel:=c.tel,note:=c.note,uid:=c.uid }
 | _=>{ C0 with name:=c.name,family:=c.family,given:=c.given,nick:=c.nick,jid:=c.jid,email:=c.email,tel:=c.tel,note:=c.note,uid:=c.uid,groups:=c.groups }
theorem aBg (c:CT)(h:wrC c):∀ k,k<10→TA k (stg c k) (hB c k)=(stg c (k+1),0):=
 ten rfl rfl rfl rfl (by
  show NZ _ c.jid=_
  unfold NZ
  split
  ·rename_i e; show (stg c 4,(0:Int))=(stg c 5,0); unfold stg; rw [e]; rfl
  ·rename_i e
   rcases h.jid with q|q
   ·exact absurd q e
   ·rw [q]; rfl) rfl rfl rfl rfl (by
  show kG _ (dS 59 (c.groups.map aO))=_
  rw [AK c _ h]; rfl)
theorem RE (c:CT)(h:wrC c):∀ k,k<10→hB c k=[]→stg c k=stg c (k+1):=
 ten (fun e=>by have e:c.name=[]:=e; unfold stg; rw [e]; rfl) (fun e=>by have e:c.family=[]:=e; unfold stg; rw [e]; rfl) (fun e=>by have e:c.given=[]:=e; unfold stg; rw [e]; rfl) (fun e=>by have e:c.nick=[]:=e; unfold stg; rw [e]; rfl)
  (fun e=>by have e:c.jid=[]:=e; unfold stg; rw [e]; rfl) (fun e=>by have e:c.email=[]:=e; unfold stg; rw [e]; rfl) (fun e=>by have e:c.tel=[]:=e; unfold stg; rw [e]; rfl) (fun e=>by have e:c.note=[]:=e; unfold stg; rw [e]; rfl)
  (fun e=>by have e:c.uid=[]:=e; unfold stg; rw [e]; rfl) (fun e=>by have e:c.groups=[]:=FL c h e; unfold stg; rw [e]; rfl)
theorem JV (c:CT)(h:wrC c):stg c 10=c:=by
 have ho:=h.other
 obtain ⟨n,f,g,k,j,e,t,o,u,l,m⟩:=c
 simp only at ho
 subst ho
 rfl
theorem pK (c:CT)(h:wrC c){l:List (Nat×NV)}(hl:rdC c l):∀ k,k≤10→eY (l.map fun p=>p.2.1) (bod l) k=(stg c k,0)
 | 0,_=>rfl
 | k+1,hk=>by
  have ih:=pK c h hl k (by omega)
  rw [eY,ih,if_pos rfl]
  rcases hl.has k (by omega) with ⟨i,hi⟩|⟨_,h2,h3⟩
  ·obtain ⟨h1,h2⟩:=GU hl.nd hi
   simp only at h1 h2
   rw [if_pos h1,h2,aBg c h k (by omega)]
  ·rw [if_neg (by rw [h3]; decide),RE c h k (by omega) h2]
theorem aBC {c:CT}{l:List (Nat×NV)}(hl:rdC c l):(hdr l).map fO=l.map fun p=>p.2.1:=by
 unfold hdr
 rw [List.map_map]
 refine List.map_congr_left fun p hp=>?_
 have:p.2.1∈COLS:=by rw [← lC c]; exact List.mem_map_of_mem (hl.mem p hp)
 exact XU _ this p.1
theorem tD {c:CT}{l:List (Nat×NV)}(hl:rdC c l):fC (hdr l)=(l.map fun p=>p.2.1,true):=by
 have hlow:=aBC hl
 have hlen:(hdr l).length=l.length:=by simp [hdr]
 have hin:∀ i,i<l.length→(l.map fun p=>p.2.1).getD i []∈COLS:=fun i hi=>by
  rw [List.getD_eq_getElem?_getD,List.getElem?_map,List.getElem?_eq_getElem hi]
  show (l[i]).2.1∈COLS
  rw [← lC c]; exact List.mem_map_of_mem (hl.mem _ (List.getElem_mem hi))
 unfold fC
 rw [hlow,hlen,if_pos]
 ·rcases hl.has 0 (by omega) with ⟨i,hi⟩|⟨h0,_⟩
  ·have:=(GU hl.nd hi).1
   exact Prod.ext rfl this
  ·exact absurd rfl h0
 ·refine List.all_eq_true.2 fun i hi=>?_
  have hi:i<l.length:=by simpa using hi
  unfold nU
  rw [Bool.and_eq_true]
  refine ⟨by simpa using hin i hi,?_⟩
  rw [Bool.not_eq_true']
  cases q:((l.map fun p=>p.2.1).take i).contains ((l.map fun p=>p.2.1).getD i [])
  ·rfl
  ·exfalso
   have hm:(l.map fun p=>p.2.1).getD i []∈(l.map fun p=>p.2.1).take i:=by simpa using q
   obtain ⟨j,hj,e⟩:=List.mem_take_iff_getElem.1 hm
   have hj2:j<(l.map fun p=>p.2.1).length:=by omega
   have hi2:i<(l.map fun p=>p.2.1).length:=by rw [List.length_map]; exact hi
   rw [List.getD_eq_getElem?_getD,List.getElem?_eq_getElem hi2] at e
   have e2:(l.map fun p=>p.2.1)[j]?=(l.map fun p=>p.2.1)[i]?:=by rw [List.getElem?_eq_getElem hj2,List.getElem?_eq_getElem hi2]; exact congrArg some e
   have:=(List.getElem?_inj hj2 hl.nd).1 e2
   omega
theorem OD (c:CT)(h:wrC c){l:List (Nat×NV)}(hl:rdC c l):tR [hdr l,bod l]=([c],0,0):=by
 have e:tR [hdr l,bod l]=if (fC (hdr l)).2=true then (if [bod l].length≤60 then cP (fC (hdr l)).1 [bod l] [bod l].length else ([],0,4)) else ([],0,21):=rfl
 have ho:sC (l.map fun p=>p.2.1) (bod l)=(c,0):=by
  unfold sC
  rw [if_pos (by simp [bod]),pK c h hl 10 (Nat.le_refl _),JV c h,if_pos rfl,if_pos h.right]
 rw [e,tD hl]
 simp only [if_true]
 rw [if_pos (by simp)]
 show cP _ [bod l] 1=_
 have hb:[bod l].getD 0 []=bod l:=rfl
 rw [cP,cP,if_pos rfl,hb,ho]; rfl
theorem IX:∀ {Z:List NV},(Z.map Prod.fst).Nodup→∀ x∈Z,∀ y∈Z,x.1=y.1→x=y
 | [],_,x,hx,_,_,_=>by cases hx
 | z::Z,h,x,hx,y,hy,e=>by
  simp only [List.map_cons,List.nodup_cons] at h
  rcases List.mem_cons.1 hx with hx1|hx1 <;> rcases List.mem_cons.1 hy with hy1|hy1
  ·rw [hx1,hy1]
  ·exact absurd (List.mem_map_of_mem (f:=Prod.fst) hy1) (by rw [← e,hx1]; exact h.1)
  ·exact absurd (List.mem_map_of_mem (f:=Prod.fst) hx1) (by rw [e,hy1]; exact h.1)
  ·exact IX h.2 x hx1 y hy1 e
theorem aCi (c:CT){Z:List NV}(hp:Z.Perm (Z0 c))(out:List Bool):rdC c (kept out Z 10):=by
 have hlen:Z.length=10:=by rw [hp.length_eq,zM]
 have hn0:((Z0 c).map Prod.fst).Nodup:=by rw [lC]; decide +kernel
 have hn:(Z.map Prod.fst).Nodup:=((hp.map Prod.fst).nodup_iff).2 hn0
 have hmem:∀ p∈kept out Z 10,p.2∈Z0 c:=fun p h=>hp.mem_iff.1 (List.mem_of_getElem? (nT (by omega) p h).2)
 refine ⟨wA hn (by omega),hmem,fun k hk=>?_⟩
 have h0:=aEk c hk
 obtain ⟨i,hi,e⟩:=List.mem_iff_getElem.1 (hp.mem_iff.2 h0)
 have hg:Z.getD i ([],[])=(COLS.getD k [],hB c k):=by rw [List.getD_eq_getElem?_getD,List.getElem?_eq_getElem hi,e]; rfl
 rcases AL (out:=out) (by omega:10≤Z.length) i (by omega) with q|q
 ·rw [hg] at q
  exact .inl ⟨i,q⟩
 ·rw [hg] at q
  by_cases hx:∃ i,(i,(COLS.getD k [],hB c k))∈kept out Z 10
  ·exact .inl hx
  ·refine .inr ⟨fun e=>q.1 (by rw [e]; rfl),q.2,?_⟩
   cases hc:((kept out Z 10).map fun p=>p.2.1).contains (COLS.getD k [])
   ·rfl
   ·exfalso
    have hm:COLS.getD k []∈(kept out Z 10).map fun p=>p.2.1:=by simpa using hc
    obtain ⟨p,hp1,hp2⟩:=List.mem_map.1 hm
    have:=IX hn0 p.2 (hmem p hp1) _ h0 hp2
    exact hx ⟨p.1,by rw [← this]; exact hp1⟩
def blv (b:Bool):List DV:=[.bool b]
theorem XY (y:Int):∃ a:Nat,a<10∧IntKind.i64.wrap ((IntKind.u64.wrap y).tmod 10)=a:=by
 have h0:0≤IntKind.u64.wrap y:=by simp only [IntKind.wrap,IntKind.bits,IntKind.signed]; exact Int.emod_nonneg _ (by decide)
 have h1:=Int.tmod_nonneg 10 h0
 have h2:=Int.tmod_lt_of_pos (IntKind.u64.wrap y) (show (0:Int)<10 by decide)
 refine ⟨((IntKind.u64.wrap y).tmod 10).toNat,by omega,?_⟩
 rw [wrap_i64 (by omega) (by omega)]; omega
def f6t:ACode:=tl (tl (tl (tl (tl (tl (tl (tl (tl f6.body))))))))
def f6c:ACode:=tl (tl (bl (hd (tl f6l1))))
def f6i:ACode:=tl (tl f6l1)
theorem AR:∀ s∈COLS,s≠[]∧97≤(s.getD 0 0).toNat∧s.length<100:=by decide +kernel
theorem dQ (i s:Nat):∀ L:List (Nat×DV),slots (fB i L) s=kil i (slots L s)
 | []=>rfl
 | (t,d)::L=>by
  show slots ((t,kil i d)::fB i L) s=kil i (slots ((t,d)::L) s)
  simp only [slots]
  split
  ·rfl
  ·exact dQ i s L
def f6b:ACode:=tl f6c
set_option maxHeartbeats 4000000 in
theorem aCY (p:CT)(out:List Bool)(Z:List NV)(i:Nat)(nm vl:List UInt8)(hi:i<10)(hZi:Z[i]?=some (nm,vl))(hk:kept out Z (i+1)=kept out Z i++[(i,nm,vl)])(hkl:(kept out Z i).length≤i)(hn1:nm.length<100)
  (w:List UInt8) (hw:w=nam i nm) (hl:w.length=nm.length)
  (L:List (Nat×DV)) (h15:slots L 15=.int .i64 i) (h14:slots L 14=.osl 1 5 0 (kept out Z i).length none) (h13:slots L 13=.osl 1 4 0 (kept out Z i).length none)
  (h10:slots L 10=.osl 1 3 0 10 none) (h9:slots L 9=.osl 1 2 0 10 none) (h3:slots L 3=.ptr 0 0) (h2:slots L 2=.sl 1 (out.map blv)) (h16:slots L 16=.osl 1 6 0 nm.length none) :
  goN ED 0 (vX 0 [RV.t 6] fun h d=>h=[]∧d=DV.bool true) [Fr.block 3,Fr.seq f6i,
    Fr.inv (rnd 0 (fun i:Nat=>[(15,DV.int IntKind.i64 ↑i),(14,DV.osl 1 5 0 (kept out Z i).length none),(13,DV.osl 1 4 0 (kept out Z i).length none),(10,DV.osl 1 3 0 10 none),(9,DV.osl 1 2 0 10 none),(3,DV.ptr 0 0),(2,DV.sl 1 (List.map blv out))])
     (fun i:Nat=>[AObj.box (ctv p),AObj.dead,AObj.arr 1 (List.map (sv∘Prod.fst) Z),AObj.arr 1 (List.map (sv∘Prod.snd) Z),AObj.arr 1 (List.map sv (hdr (kept out Z i))),AObj.arr 1 (List.map sv (bod (kept out Z i)))])
     (fun i:Nat=>i≤10) (fun i:Nat=>10 - i) (10 - i)),Fr.block 2,Fr.seq f6t] f6b L
   [AObj.box (ctv p),AObj.dead,AObj.arr 1 (List.map (sv∘Prod.fst) Z),AObj.arr 1 (List.map (sv∘Prod.snd) Z),AObj.arr 1 (List.map sv (hdr (kept out Z i))),AObj.arr 1 (List.map sv (bod (kept out Z i))),AObj.arr 1 (w.map fun b=>[DV.int IntKind.u8 ↑b.toNat])]:=by
 have hone:IntKind.i64.wrap ((i:Int)+1)=((i+1:Nat):Int):=by rw [wrap_i64 (by omega) (by omega)]; rfl
 have hkn:(kept out Z (i+1)).length=(kept out Z i).length+1:=by rw [hk]; simp
 have hh:hdr (kept out Z (i+1))=hdr (kept out Z i)++[w]:=by rw [hk,hw]; simp [hdr]
 have hb:bod (kept out Z (i+1))=bod (kept out Z i)++[vl]:=by rw [hk]; simp [bod]
 have hhl:(hdr (kept out Z i)).length=(kept out Z i).length:=by simp [hdr]
 have hbl:(bod (kept out Z i)).length=(kept out Z i).length:=by simp [bod]
 have s15:slots (fB 5 (fB 4 L)) 15=.int .i64 i:=by rw [dQ,dQ,h15]; rfl
 have s10:slots (fB 5 (fB 4 L)) 10=.osl 1 3 0 10 none:=by rw [dQ,dQ,h10]; rfl
 have s9:slots (fB 5 (fB 4 L)) 9=.osl 1 2 0 10 none:=by rw [dQ,dQ,h9]; rfl
 have s3:slots (fB 5 (fB 4 L)) 3=.ptr 0 0:=by rw [dQ,dQ,h3]; rfl
 have s2:slots (fB 5 (fB 4 L)) 2=.sl 1 (out.map blv):=by rw [dQ,dQ,h2]; rfl
 have e5:DV.osl 1 5 0 ((kept out Z i).length+1) none=DV.osl 1 5 0 (kept out Z (i+1)).length none:=by rw [hkn]
 have e4:DV.osl 1 4 0 ((kept out Z i).length+1) none=DV.osl 1 4 0 (kept out Z (i+1)).length none:=by rw [hkn]
 refine sJ [(15,DV.int IntKind.i64 ↑i),(14,DV.osl 1 5 0 (kept out Z (i+1)).length none),(13,DV.osl 1 4 0 (kept out Z (i+1)).length none),(10,DV.osl 1 3 0 10 none),(9,DV.osl 1 2 0 10 none),(3,DV.ptr 0 0),(2,DV.sl 1 (List.map blv out))]
  [AObj.box (ctv p),AObj.dead,AObj.arr 1 (List.map (sv∘Prod.fst) Z),AObj.arr 1 (List.map (sv∘Prod.snd) Z),AObj.arr 1 (List.map sv (hdr (kept out Z (i+1)))),AObj.arr 1 (List.map sv (bod (kept out Z (i+1))))] ?_ (fun hkk=>?_) (fun hkk=>?_)
 ·simp only [f6i,tl,f6l1,hone,forall_eq,aE,aC,↓gos,gop,qA,qB,qC,qD,qE,qF,qG,qH,qI]
  exact aN (i+1) rfl (by simp) ⟨rfl,rfl,rfl,rfl,rfl,rfl,rfl,trivial⟩ hi (by omega)
 ·rw [jY]
  simp only [h16,h14,h13,h10,h15,hZi,List.map_map,Function.comp_apply,sv,aE,aC,↓gos,gop,qA,qB,qC,qD,qE,qF,qG,qH,qI]
  refine .inr ⟨_,rfl,by simp [hl],w,by first | exact List.take_of_length_le (by simp [hl]) | (rw [List.drop_zero]; exact List.take_of_length_le (by simp [hl])),?_⟩
  try simp only [h16,h14,h13,h10,h15,hZi,List.map_map,Function.comp_apply,sv,aE,aC,↓gos,gop,qA,qB,qC,qD,qE,qF,qG,qH,qI]
  repeat (refine aK (by omega) ?_)
  refine jF ?_ hkk
  refine wkd 6 ?_ (by simp) ⟨s15,rfl,e5,rfl,e4,rfl,s10,rfl,s9,rfl,s3,rfl,s2,rfl,trivial⟩ rfl
  ·show [AObj.box (ctv p),AObj.dead,AObj.arr 1 (List.map (sv∘Prod.fst) Z),AObj.arr 1 (List.map (sv∘Prod.snd) Z),AObj.arr 1 (List.take (kept out Z i).length (List.map sv (hdr (kept out Z i)))++[sv w]),AObj.arr 1 (List.take (kept out Z i).length (List.map sv (bod (kept out Z i)))++[sv vl])]=_
   rw [hh,hb,List.take_of_length_le (by rw [List.length_map]; omega),List.take_of_length_le (by rw [List.length_map]; omega),List.map_append,List.map_append]
   rfl
 ·repeat' refine nS ?_ ?_
  all_goals
   rw [jY]
   simp only [h16,h14,h13,h10,h15,hZi,List.map_map,Function.comp_apply,sv,aE,aC,↓gos,gop,qA,qB,qC,qD,qE,qF,qG,qH,qI]
   refine .inr ⟨_,rfl,by simp [hl],w,by first | exact List.take_of_length_le (by simp [hl]) | (rw [List.drop_zero]; exact List.take_of_length_le (by simp [hl])),?_⟩
   try simp only [h16,h14,h13,h10,h15,hZi,List.map_map,Function.comp_apply,sv,aE,aC,↓gos,gop,qA,qB,qC,qD,qE,qF,qG,qH,qI]
   repeat (refine aK (by omega) ?_)
   refine jF ?_ hkk
   refine wkd 6 ?_ (by simp) ⟨s15,rfl,e5,rfl,e4,rfl,s10,rfl,s9,rfl,s3,rfl,s2,rfl,trivial⟩ rfl
   ·show [AObj.box (ctv p),AObj.dead,AObj.arr 1 (List.map (sv∘Prod.fst) Z),AObj.arr 1 (List.map (sv∘Prod.snd) Z),AObj.arr 1 (List.take (kept out Z i).length (List.map sv (hdr (kept out Z i)))++[sv w]),AObj.arr 1 (List.take (kept out Z i).length (List.map sv (bod (kept out Z i)))++[sv vl])]=_
    rw [hh,hb,List.take_of_length_le (by rw [List.length_map]; omega),List.take_of_length_le (by rw [List.length_map]; omega),List.map_append,List.map_append]
    rfl
set_option maxHeartbeats 4000000 in
theorem JG (p:CT)(out:List Bool)(Z:List NV)(i:Nat)(nm vl:List UInt8)(hi:i<10)(hZi:Z[i]?=some (nm,vl))(hnm:nm∈COLS)(hk:kept out Z (i+1)=kept out Z i++[(i,nm,vl)])(hkl:(kept out Z i).length≤i)
  (L:List (Nat×DV)) (h15:slots L 15=.int .i64 i) (h14:slots L 14=.osl 1 5 0 (kept out Z i).length none) (h13:slots L 13=.osl 1 4 0 (kept out Z i).length none)
  (h10:slots L 10=.osl 1 3 0 10 none) (h9:slots L 9=.osl 1 2 0 10 none) (h3:slots L 3=.ptr 0 0) (h2:slots L 2=.sl 1 (out.map blv)) :
  aH ED (.conv .s2b (.c (.str nm))) (knm ED 0 (vX 0 [RV.t 6] fun h d=>h=[]∧d=DV.bool true) [Fr.seq f6c,Fr.block 3,Fr.seq f6i,
    Fr.inv (rnd 0 (fun i:Nat=>[(15,DV.int IntKind.i64 ↑i),(14,DV.osl 1 5 0 (kept out Z i).length none),(13,DV.osl 1 4 0 (kept out Z i).length none),(10,DV.osl 1 3 0 10 none),(9,DV.osl 1 2 0 10 none),(3,DV.ptr 0 0),(2,DV.sl 1 (List.map blv out))])
     (fun i:Nat=>[AObj.box (ctv p),AObj.dead,AObj.arr 1 (List.map (sv∘Prod.fst) Z),AObj.arr 1 (List.map (sv∘Prod.snd) Z),AObj.arr 1 (List.map sv (hdr (kept out Z i))),AObj.arr 1 (List.map sv (bod (kept out Z i)))])
     (fun i:Nat=>i≤10) (fun i:Nat=>10 - i) (10 - i)),Fr.block 2,Fr.seq f6t] (some 146) [⟨some 16,.set (.t 146),none⟩])
   (sta L [AObj.box (ctv p),AObj.dead,AObj.arr 1 (List.map (sv∘Prod.fst) Z),AObj.arr 1 (List.map (sv∘Prod.snd) Z),AObj.arr 1 (List.map sv (hdr (kept out Z i))),AObj.arr 1 (List.map sv (bod (kept out Z i)))]):=by
 have hone:IntKind.i64.wrap ((i:Int)+1)=((i+1:Nat):Int):=by rw [wrap_i64 (by omega) (by omega)]; rfl
 have hlo:=AR nm hnm
 have hm2:(i:Int).tmod 2=((i % 2:Nat):Int):=rfl
 refine mC ?_
 simp only [f6c,f6i,tl,bl,hd,f6l1,h15,h14,h13,h10,h9,h3,h2,hm2,forall_eq,↓gos,gop,qA,qB,qC,qD,qE,qF,qG,qH,qI,aE,aC]
 refine ⟨fun q=>?_,fun q=>?_⟩
 ·have hp:0<nm.length:=List.length_pos_iff.2 hlo.1
  have h0:nm[0]?=some (nm.getD 0 0):=by rw [List.getD_eq_getElem?_getD,List.getElem?_eq_getElem hp]; rfl
  have hx:=hlo.2.1
  have hx2:(nm.getD 0 0).toNat<256:=UInt8.toNat_lt _
  have hw:IntKind.u8.wrap (((nm.getD 0 0).toNat:Int) - 32)=((nm.getD 0 0 - 32).toNat:Int):=by
   rw [Go.Ai.wrap_u8 (by omega) (by omega),UInt8.toNat_sub]
   have:(32:UInt8).toNat=32:=rfl
   omega
  have hset:(nm.map fun b=>[DV.int IntKind.u8 ↑b.toNat]).set 0 [.int .u8 ((nm.getD 0 0 - 32).toNat:Int)]=(nam i nm).map fun b=>[DV.int IntKind.u8 ↑b.toNat]:=by
   unfold nam
   rw [if_pos (by omega)]
   cases nm with
   | nil=>simp at hp
   | cons x s=>rfl
  have hl:(nam i nm).length=nm.length:=by
   unfold nam
   rw [if_pos (by omega)]
   cases nm with
   | nil=>rfl
   | cons x s=>rfl
  refine aK (by omega) (fI _ h0 (aK (by omega) (fI _ h0 ?_)))
  rw [hw,hset]
  exact aCY p out Z i nm vl hi hZi hk hkl hlo.2.2 (nam i nm) rfl hl _ h15 h14 h13 h10 h9 h3 h2 rfl
 ·have hl:nam i nm=nm:=by unfold nam; rw [if_neg (by omega)]
  exact aCY p out Z i nm vl hi hZi hk hkl hlo.2.2 nm hl.symm rfl _ h15 h14 h13 h10 h9 h3 h2 rfl
theorem aBQ (i:Nat)(s:List UInt8):(nam i s).length=s.length:=by
 unfold nam
 split
 ·cases s <;> rfl
 ·rfl
theorem aAH (p:CT)(hwr:wrC p){l:List (Nat×NV)}(hl:rdC p l)(hlen:l.length≤10):zQ [hdr l,bod l]:=by
 have hlv:∀ q∈l,q.2.1∈COLS∧q.2.2.length<100000000:=fun q hq=>by
  have hm:=hl.mem q hq
  refine ⟨by rw [← lC p]; exact List.mem_map_of_mem (f:=Prod.fst) hm,?_⟩
  have hm2:q.2.2∈fS p:=by rw [← FP p]; exact List.mem_map_of_mem (f:=Prod.snd) hm
  unfold fS at hm2
  obtain ⟨k,hk,e⟩:=List.mem_map.1 hm2
  rw [← e]
  exact VL p hwr k (by simpa using hk)
 refine ⟨by simp [hdr]; omega,fun s hs=>?_,fun _ row hr=>?_⟩
 ·obtain ⟨q,hq,rfl⟩:=List.mem_map.1 hs
  have h1:=(AR _ (hlv q hq).1).2.2
  rw [aBQ]; omega
 ·obtain rfl:=List.mem_singleton.1 hr
  rw [tD hl]
  refine ⟨by simp [bod]; omega,fun s hs=>?_,?_,?_⟩
  ·obtain ⟨q,hq,rfl⟩:=List.mem_map.1 hs
   exact (hlv q hq).2
  ·simp only
   rcases hl.has 9 (by omega) with ⟨i,hi⟩|⟨_,h2,h3⟩
   ·have:=(GU hl.nd hi).2
    simp only at this
    have e:COLS.getD 9 []=jX:=rfl
    rw [e] at this
    rw [this]
    exact BN p hwr
   ·have e:COLS.getD 9 []=jX:=rfl
    rw [e] at h3
    have hno:jX∉l.map fun p=>p.2.1:=by simpa using h3
    rw [List.idxOf_eq_length hno,List.getD_eq_getElem?_getD,List.getElem?_eq_none (by simp [bod])]
    decide
  ·have e:=pK p hwr hl 10 (Nat.le_refl _)
   rw [JV p hwr] at e
   have e' : okS (eY (l.map fun p=>p.2.1) (bod l) 10).1:=by rw [e]; exact hwr.ok
   simpa only using e'
set_option maxHeartbeats 4000000 in
theorem aDp (p:CT)(hwr:wrC p)(out:List Bool)(hout:out.length<1000000000)(Z:List NV)(hZ:Z.Perm (Z0 p))(L:List (Nat×DV))(h15:slots L 15=.int .i64 0)(h14:slots L 14=.osl 1 5 0 0 none)(h13:slots L 13=.osl 1 4 0 0 none)
    (h10:slots L 10=.osl 1 3 0 10 none) (h9:slots L 9=.osl 1 2 0 10 none) (h3:slots L 3=.ptr 0 0) (h2:slots L 2=.sl 1 (out.map blv)) :
    goN ED 0 (vX 0 [RV.t 6] fun h d=>h=[]∧d=DV.bool true) [Fr.block 2,Fr.seq f6t] f6l1.loop L
      [.box (ctv p),.dead,.arr 1 ((Z.map Prod.fst).map sv),.arr 1 ((Z.map Prod.snd).map sv),.arr 1 [],.arr 1 []]:=by
  have hZl:Z.length=10:=by rw [hZ.length_eq,zM]
  refine aJ (γ:=Nat) (fun i=>[(15,.int .i64 i),(14,.osl 1 5 0 (kept out Z i).length none),(13,.osl 1 4 0 (kept out Z i).length none),(10,.osl 1 3 0 10 none),(9,.osl 1 2 0 10 none),(3,.ptr 0 0),(2,.sl 1 (out.map blv))])
    (fun i=>[.box (ctv p),.dead,.arr 1 ((Z.map Prod.fst).map sv),.arr 1 ((Z.map Prod.snd).map sv),.arr 1 ((hdr (kept out Z i)).map sv),.arr 1 ((bod (kept out Z i)).map sv)])
    (fun i=>i≤10) (fun i=>10 - i) 0 (wks rfl (Nat.zero_le _) ⟨h15,h14,h13,h10,h9,h3,h2,trivial⟩) (by omega) fun i hi=>?_
  have hone:IntKind.i64.wrap ((i:Int)+1)=((i+1:Nat):Int):=by rw [wrap_i64 (by omega) (by omega)]; rfl
  have hkl:(kept out Z i).length≤i:=by
    have:∀ n,(kept out Z n).length≤n:=fun n=>by
      induction n with
      | zero=>exact Nat.le_refl _
      | succ n ih=>
        unfold kept
        split
        · omega
        · simp only [List.length_append,List.length_cons,List.length_nil]; omega
    exact this i
  by_cases hi10:i<10
  · have hZi:Z[i]?=some (Z.getD i ([],[])):=by rw [List.getD_eq_getElem?_getD,List.getElem?_eq_getElem (by omega)]; rfl
    have hmem:Z.getD i ([],[])∈Z0 p:=hZ.mem_iff.1 (List.mem_of_getElem? hZi)
    have hnx:kept out Z (i+1)=if EN out i (Z.getD i ([],[]))=true then kept out Z i else kept out Z i++[(i,Z.getD i ([],[]))]:=rfl
    generalize Z.getD i ([],[])=z at *
    obtain ⟨nm,vl⟩:=z
    have hnm:nm∈COLS:=by rw [← lC p]; exact List.mem_map_of_mem (f:=Prod.fst) hmem
    by_cases hio:i<out.length
    · have hoi:out[i]?=some out[i]:=List.getElem?_eq_getElem hio
      have hod:out.getD i false=out[i]:=by rw [List.getD_eq_getElem?_getD,hoi]; rfl
      generalize out[i]=b at *
      cases b
      · have hk:kept out Z (i+1)=kept out Z i++[(i,nm,vl)]:=by
          rw [hnx,if_neg]
          unfold EN
          rw [hod]; simp
        simp only [f6l1,hone,hZi,hoi,blv,List.map_map,Function.comp_apply,sv,forall_eq,aE,aC,↓gos,gop,qA,qB,qC,qD,qE,qF,qG,qH,qI]
        refine ⟨fun _=>⟨fun _=>aK (by omega) ?_,fun q=>absurd q (by omega)⟩,fun q=>absurd q (by omega)⟩
        exact JG p out Z i nm vl hi10 hZi hnm hk hkl _ rfl rfl rfl rfl rfl rfl rfl
      · simp only [f6l1,hone,hZi,hoi,blv,List.map_map,Function.comp_apply,sv,forall_eq,aE,aC,↓gos,gop,qA,qB,qC,qD,qE,qF,qG,qH,qI]
        have keepIf:¬ (nm≠vD∧vl=[])→kept out Z (i+1)=kept out Z i++[(i,nm,vl)]:=fun q=>by
          rw [hnx,if_neg]
          unfold EN
          simp only [Bool.and_eq_true,Bool.not_eq_true',decide_eq_true_eq,decide_eq_false_iff_not]
          exact fun h=>q ⟨h.1.2,h.2⟩
        refine ⟨fun _=>⟨fun _=>aK (by omega) ⟨fun q1=>aK (by omega) ⟨fun q2=>?_,fun q2=>aK (by omega) ?_⟩,fun q1=>aK (by omega) ?_⟩,fun q=>absurd q (by omega)⟩,fun q=>absurd q (by omega)⟩
        · have hk:kept out Z (i+1)=kept out Z i:=by
            rw [hnx,if_pos]
            unfold EN
            rw [hod,decide_eq_true hio,decide_eq_false (show ¬ nm=vD from q1),decide_eq_true q2]; rfl
          rw [← hk]
          exact aN (i+1) rfl (by simp) ⟨rfl,rfl,rfl,rfl,rfl,rfl,rfl,trivial⟩ hi10 (by omega)
        · exact JG p out Z i nm vl hi10 hZi hnm (keepIf fun h=>q2 h.2) hkl _ rfl rfl rfl rfl rfl rfl rfl
        · exact JG p out Z i nm vl hi10 hZi hnm (keepIf fun h=>h.1 q1) hkl _ rfl rfl rfl rfl rfl rfl rfl
    · have hk:kept out Z (i+1)=kept out Z i++[(i,nm,vl)]:=by
        rw [hnx,if_neg]
        unfold EN
        rw [decide_eq_false hio]; simp
      have hoi:out[i]?=none:=List.getElem?_eq_none (by omega)
      simp only [f6l1,hone,hZi,hoi,List.map_map,Function.comp_apply,sv,forall_eq,aE,aC,↓gos,gop,qA,qB,qC,qD,qE,qF,qG,qH,qI]
      refine ⟨fun _=>⟨fun q=>absurd q (by omega),fun _=>aK (by omega) ?_⟩,fun q=>absurd q (by omega)⟩
      exact JG p out Z i nm vl hi10 hZi hnm hk hkl _ rfl rfl rfl rfl rfl rfl rfl
  · obtain rfl:i=10:=by omega
    have hrd:=aCi p hZ out
    have hrc:=OD p hwr hrd
    generalize kept out Z 10=l at *
    have hhl:(hdr l).length=l.length:=by simp [hdr]
    have hbl:(bod l).length=l.length:=by simp [bod]
    have h14:=QI [hdr l,bod l] (by simp) (aAH p hwr hrd hkl)
    rw [hrc] at h14
    have t1:List.take l.length (List.map sv (hdr l))=List.map sv (hdr l):=List.take_of_length_le (by rw [List.length_map]; omega)
    have t2:List.take l.length (List.map sv (bod l))=List.map sv (bod l):=List.take_of_length_le (by rw [List.length_map]; omega)
    have g1:decide (l.length≤(hdr l).length)=true:=decide_eq_true (by omega)
    have g2:decide (l.length≤(bod l).length)=true:=decide_eq_true (by omega)
    have h22:=NL p hwr
    simp only [f6l1,List.map_map,aE,aC,↓gos,gop,qA,qB,qC,qD,qE,qF,qG,qH,qI]
    simp only [f6t,tl,f6,ctv,g1,g2,t1,t2,eP,aE,aC,↓gos,gop,qA,qB,qC,qD,qE,qF,qG,qH,qI]
    repeat (refine aK ?_ ?_; · first | rfl | exact ⟨rfl,rfl⟩)
    refine gM [6] rfl ?_
    simp only [aE,aC,↓gos,gop,qA,qB,qC,qD,qE,qF,qG,qH,qI]
    refine aV h14 rfl rfl ?_
    simp only [List.map_cons,List.map_nil,ctv,aE,aC,↓gos,gop,qA,qB,qC,qD,qE,qF,qG,qH,qI]
    refine aV h22 rfl rfl ?_
    simp only [aE,aC,↓gos,gop,qA,qB,qC,qD,qE,qF,qG,qH,qI]
    exact bH [] rfl rfl ⟨rfl,rfl⟩
set_option maxHeartbeats 4000000 in
theorem aJt (c:CT)(hs:smS c)(turns:List Int)(ht:turns.length<1000000000)(out:List Bool)(hout:out.length<1000000000) :
  aU 6 [.agg (ctv c),.sl 1 (turns.map num),.sl 1 (out.map blv)] (.bool true):=by
 have h17:=aCh c hs
 have h24:=MM c hs
 have hwr:=HA c
 refine bB c6 (by simp [f6]) ?_
 simp only [f6,ctv,aE,aC,↓gos,gop,qA,qB,qC,qD,qE,qF,qG,qH,qI]
 refine aV h17 rfl rfl ?_
 cases EW c
 ·simp only [aE,aC,↓gos,gop,qA,qB,qC,qD,qE,qF,qG,qH,qI]
  refine aV IM rfl rfl ?_
  simp only [aE,aC,↓gos,gop,qA,qB,qC,qD,qE,qF,qG,qH,qI]
  exact bH [] rfl rfl ⟨rfl,rfl⟩
 generalize bL c=p at *
 simp only [aE,aC,↓gos,gop,qA,qB,qC,qD,qE,qF,qG,qH,qI]
 refine aV h24 rfl rfl ?_
 have h19:=aCN [p] (by simp) fun c hc=>by obtain rfl:=List.mem_singleton.1 hc; exact ⟨hwr.ok,by have:=tY c hwr; omega⟩
 rw [HF [p] (by simp) (by simpa using hwr)] at h19
 simp only [ctv,oT,sY,aE,aC,↓gos,gop,qA,qB,qC,qD,qE,qF,qG,qH,qI]
 refine gM [1] rfl ?_
 simp only [aE,aC,↓gos,gop,qA,qB,qC,qD,qE,qF,qG,qH,qI]
 refine aV h19 rfl rfl ?_
 simp only [aE,aC,↓gos,gop,qA,qB,qC,qD,qE,qF,qG,qH,qI]
 refine aV IM rfl rfl ?_
 have htl:=qO p
 simp only [List.map_cons,List.map_nil,rwv,tV,htl,aE,aC,↓gos,gop,qA,qB,qC,qD,qE,qF,qG,qH,qI]
 repeat (refine aK (by decide) ?_)
 refine aJ (γ:=Nat×List NV) (fun g=>[(11,.int .i64 g.1),(10,.osl 1 3 0 10 none),(9,.osl 1 2 0 10 none),(6,.bool false),(3,.ptr 0 0),(1,.sl 1 (turns.map num)),(2,.sl 1 (out.map blv))])
  (fun g=>[.box (ctv p),.dead,.arr 1 ((g.2.map Prod.fst).map sv),.arr 1 ((g.2.map Prod.snd).map sv)])
  (fun g=>g.1≤turns.length∧g.1≤20∧g.2.Perm (Z0 p)) (fun g=>20 - g.1) (0,Z0 p)
  (wks (by rw [lC,FP]; rfl) (by simp) ⟨rfl,rfl,rfl,rfl,rfl,rfl,rfl,trivial⟩) ⟨by simp,by simp,.refl _⟩ fun g hg=>?_
 obtain ⟨i,Z⟩:=g
 obtain ⟨hi,hi2,hZ⟩:=hg
 simp only at hi hi2 hZ
 have hone:IntKind.i64.wrap ((i:Int)+1)=((i+1:Nat):Int):=by rw [wrap_i64 (by omega) (by omega)]; rfl
 simp only [f6l0,hone,forall_eq,aE,aC,↓gos,gop,qA,qB,qC,qD,qE,qF,qG,qH,qI]
 refine ⟨fun q1=>⟨fun q2=>?_,fun q2=>?_⟩,fun q1=>?_⟩
 ·have h2:i<turns.length:=by omega
  have hti:turns[i]?=some turns[i]:=List.getElem?_eq_getElem h2
  obtain ⟨k,hk,hke⟩:=XY turns[i]
  generalize turns[i]=y at *
  have hmi:(i:Int).tmod 10=((i % 10:Nat):Int):=rfl
  have hi10:i % 10<10:=Nat.mod_lt _ (by decide)
  have hZl:Z.length=10:=by rw [hZ.length_eq,zM]
  have hZk:Z[k]?=some (Z.getD k ([],[])):=by rw [List.getD_eq_getElem?_getD,List.getElem?_eq_getElem (by omega)]; rfl
  have hZi:Z[i % 10]?=some (Z.getD (i % 10) ([],[])):=by rw [List.getD_eq_getElem?_getD,List.getElem?_eq_getElem (by omega)]; rfl
  simp only [hti,num,hke,hmi,hZk,hZi,List.map_map,Function.comp_apply,sv,hone,forall_eq,aE,aC,↓gos,gop,qA,qB,qC,qD,qE,qF,qG,qH,qI]
  have hE:∀ (f:NV→List UInt8) (x:List UInt8),∃ e,((List.map (sv∘f) Z).set (i % 10) [.str x])[k]?=some e∧e.length=1:=fun f x=>by
   rw [List.getElem?_set]
   split
   ·rw [if_pos (by rw [List.length_map]; omega)]; exact ⟨_,rfl,rfl⟩
   ·rw [List.getElem?_map,hZk]; exact ⟨_,rfl,rfl⟩
  obtain ⟨e1,he1,hl1⟩:=hE Prod.fst (Z.getD k ([],[])).1
  obtain ⟨e2,he2,hl2⟩:=hE Prod.snd (Z.getD k ([],[])).2
  have hd1:List.drop 1 e1=[]:=List.drop_eq_nil_of_le (by omega)
  have hd2:List.drop 1 e2=[]:=List.drop_eq_nil_of_le (by omega)
  repeat (refine aK (by omega) ?_)
  refine fI e1 he1 ?_
  repeat (refine aK (by omega) ?_)
  refine fI e2 he2 (aK (by omega) ?_)
  rw [hd1,hd2]
  refine aN (i+1,swp ([],[]) (i % 10) k Z) ?_ (by simp) ⟨rfl,rfl,rfl,rfl,rfl,rfl,rfl,trivial⟩ ⟨h2,by simp only; omega,(RJ _ (by omega) (by omega)).trans hZ⟩ (by simp only; omega)
  simp only [swp,List.map_set]
  rfl
 ·exact aDp p hwr out hout Z hZ _ rfl rfl rfl rfl rfl rfl rfl
 ·exact aDp p hwr out hout Z hZ _ rfl rfl rfl rfl rfl rfl rfl
end Go.Proofs.Ut

namespace Go.Ai
open Go.RowKit
theorem row_walk {E:Env}{f:Nat}{args:List DV}(hc:ACalls E f [] args fun h d=>h=[]∧d=.bool true)(W:World)(hg:E.G W)(hn:E.N≤W.heap.size)(vs:List Value)(hl:vs.length=args.length)
  (hv:∀ (i:Nat) v d,vs[i]?=some v→args[i]?=some d→Rep W (fun b=>b<W.heap.size) noLoc v d):Calls E.P f vs.toArray W fun e W' => e=.returned (.bool true)∧Below W.heap.size W W' := by
 refine (hc.2 W (fun b=>b<W.heap.size) noLoc vs hg hn ⟨fun _ _=>rfl,fun l l' b o o' h=>by simp [noLoc] at h,fun l b o h=>by simp [noLoc] at h,fun l b o h=>by simp [noLoc] at h,fun _ h=>h,fun l o h=>by simp at h⟩ hl hv).mono ?_
 rintro e W' ⟨v,ok',β',h',d,rfl,⟨_,rfl⟩,_,hev,_,hr,_⟩
 refine ⟨by rw [hr.bool_in],⟨hev.os,hev.tape,hev.output,hev.size,fun k hk=>hev.same k hk fun l x h=>by simp [noLoc] at h⟩⟩
end Go.Ai

namespace Go.Proofs.Ut
open Go.Shelf Go.Lib Go.RowKit
open Go.Proofs.YtgamnnfndidclaaGreatDoor Go.Ai
noncomputable abbrev laidL : List (String × DataW Unit) := [("unicode/utf8.acceptRanges", Rows.laid_unicode_utf8_acceptRanges), ("unicode.asciiFold", Rows.laid_unicode_asciiFold), ("unicode.caseOrbit", Rows.laid_unicode_caseOrbit), ("unicode.CaseRanges", Rows.laid_unicode_CaseRanges), ("unicode/utf8.first", Rows.laid_unicode_utf8_first)]
theorem PC:(Rows.laid_unicode_utf8_acceptRanges:DataW Unit)=acceptData:=by kernel_rfl
theorem VW:Rows.laid_unicode_utf8_first=firstData:=by kernel_rfl
def PW:List Int:=(List.range 128).map mP
theorem aBh:(Rows.laid_unicode_asciiFold:DataW Unit)=tabData .u16 PW:=by kernel_rfl
theorem AN {P:Program}{W:World}{name:String}{k:IntKind}{zs:List Int}{g:Nat}{t e:TypeId}{n:Nat}
  (hg:P.globalNamed name=some g) (hty:(P.globals[g]?).map (·.type)=some t) (ht:P.underlying t=some (.array n e)) (he:P.underlying e=some (.int k)) (hce:P.cellsOf e=1) (hct:P.cellsOf t=n)
  (h:VarReads P W name (tabData k zs)):TabIs P W name k zs:=by
 obtain ⟨g',t',cs,fuel,p,hg',ht',hvar,hd⟩:=h
 obtain rfl:=Option.some.inj (hg.symm.trans hg')
 obtain rfl:=Option.some.inj (hty.symm.trans ht')
 unfold TabIs
 rw [hvar,← cells_of_tab ht he hce hct hd]
theorem laid_of {W:World}(h:laidMetH Tryz.prog laidL W)(hsh:W.ShapedOpen Tryz.prog):Laid W:=by
 rw [MakeChecks.laidMetH_plain _ _ _ (by kernel_rfl)] at h
 have h3:=Lib.laidMet.reads h (.tail _ (.tail _ (.tail _ (.tail _ (.head _)))))
 have h4:=Lib.laidMet.reads h (.head _)
 have h0:=Lib.laidMet.reads h (.tail _ (.head _))
 rw [VW] at h3
 rw [PC] at h4
 rw [aBh] at h0
 refine ⟨utf8Tabs_of_readsT (U8Types.of196 Tryz.laysValid) ⟨by kernel_rfl,by kernel_rfl,by kernel_rfl,by kernel_rfl,by kernel_rfl,by kernel_rfl,by kernel_rfl⟩ h3 h4,?_,fun i hi=>?_⟩
 ·exact cell_of_shapedOpen_int (t:=3) (zero:=#[.int .i64 0]) hsh (of_decide_eq_true (by kernel_rfl)) (by kernel_rfl) (by kernel_rfl) (by kernel_rfl) (by kernel_rfl) (by kernel_rfl)
 ·have ht:=AN (P:=Tryz.prog) (g:=3) (t:=259) (e:=258) (n:=128) (by kernel_rfl) (by kernel_rfl) (by kernel_rfl) (by kernel_rfl) (by kernel_rfl) (by kernel_rfl) h0
  have:=ht.cell (g:=3) (by kernel_rfl) i (by simpa [PW] using hi)
  rw [this]
  simp [PW,hi]
theorem MX {W:World}(h:Laid W):4≤W.heap.size:=by
 have hm:=h.fold 0 (by omega)
 rcases Nat.lt_or_ge 3 W.heap.size with h1|h1
 ·exact h1
 ·simp [World.cell?,Array.getElem?_eq_none h1] at hm
theorem MT {f:Nat}{args:List DV}(hc:Ai.ACalls ED f [] args fun h d=>h=[]∧d=.bool true)(W:World)(hT:Laid W)(vs:List Value)(hl:vs.length=args.length)
  (hv:∀ (i:Nat) v d,vs[i]?=some v→args[i]?=some d→Ai.Rep W (fun b=>b<W.heap.size) Ai.noLoc v d):Calls Tryz.prog f vs.toArray W fun e W' => e=.returned (.bool true)∧Below W.heap.size W W' :=
 Ai.row_walk hc W hT (MX hT) vs hl hv
end Go.Proofs.Ut
