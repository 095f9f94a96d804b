/- The library's sort of texts, of twelve at most. -/
import Derived.Test.YtgamnnfndidclaaGreatDoorGYFoAny
import Derived.Test.YtgamnnfndidclaaGreatDoorGYO2
import Derived.Test.YtgamnnfndidclaaGreatDoorGYFuns5
import Derived.Test.YtgamnnfndidclaaGreatDoorGYX5
open Nat renaming reduceBEq → qA,reduceAdd → qB,reduceSub → qC,reduceLeDiff → qD,reduceMul → qE
open Int renaming reduceLE → qF,reduceLT → qG,reduceNe → qH,reduceToNat → qI
set_option linter.all false
namespace Go.Proofs.Ut
open Go.Ai
set_option maxRecDepth 100000
theorem aBH (x:List UInt8):aY 289 [.str x] (.bool false):=by
 refine aA c289 (by simp [f289]) ?_
 simp only [f289,↓gos,gop,qA,qB,qC,qD,qE,qF,qG,qH,qI]
 exact aJ rfl
theorem SD (x y:List UInt8):aY 239 [.str x,.str y] (.bool (Op.bytesLess x y)):=by
 refine aA c239 (by simp [f239]) ?_
 simp only [f239,↓gos,gop,qA,qB,qC,qD,qE,qF,qG,qH,qI]
 refine aB (aBH x) rfl rfl ?_
 simp only [↓gos,gop,qA,qB,qC,qD,qE,qF,qG,qH,qI]
 refine ⟨fun h=>aJ h.symm,fun h=>aJ h.symm⟩
theorem MQ (n:Nat)(hn:n≤12):ACalls ED 197 [] [.int .u64 n] fun h d=>h=[]∧∃ k:Int,d=.int .i64 k:=by
 have h243:ACalls ED 243 [] [.int .u64 n] fun h d=>h=[]∧∃ k:Int,d=.int .i64 k:=by
  refine aA c243 (by simp [f243]) ?_
  simp only [f243,↓gos,gop,qA,qB,qC,qD,qE,qF,qG,qH,qI]
  refine ⟨fun q=>absurd q (by omega),fun _=>⟨fun q=>absurd q (by omega),fun _=>⟨fun q=>absurd q (by omega),fun _=>?_⟩⟩⟩
  intro v hv
  rw [Go.Ai.wrap_u8 (by omega) (by omega)] at hv
  subst hv
  refine aO (by omega) (aO (by omega) ?_)
  intro v hv u hu
  exact aC rfl ⟨rfl,_,rfl⟩
 refine aA c197 (by simp [f197]) ?_
 simp only [f197,↓gos,gop,qA,qB,qC,qD,qE,qF,qG,qH,qI]
 refine fO h243 rfl ⟨_,0,rfl⟩ ?_
 rintro d ⟨k,rfl⟩
 refine ⟨rfl,?_⟩
 simp only [↓gos,gop,qA,qB,qC,qD,qE,qF,qG,qH,qI]
 exact aC rfl ⟨rfl,_,rfl⟩
theorem aAl (l:List (List UInt8))(a b:Nat)(c:Option Nat)(hl:l.length<1000000000)(h0:0<l.length)(ha:a<1000000000)(hb:b≤l.length) :
  eK ED true 233 [.arr 1 (l.map st1)] [.osl 1 0 0 l.length c,.int .i64 a,.int .i64 b] fun h d=>h=[.arr 1 ((lO Op.bytesLess [] a (b - a - 1) l).map st1)]∧d=.tup []:=by
 refine kD c233 (by simp [f233]) (by simp) ?_
 simp only [f233,fQ,dT,↓gos,gop,qA,qB,qC,qD,qE,qF,qG,qH,qI]
 intro v hv
 rw [wrap_i64 (by omega) (by omega)] at hv
 subst hv
 refine aM (γ:=Nat) (fun k=>[(1000000,.osl 1 0 0 l.length c),(6,.int .i64 (a+1+k:Nat)),(2,.int .i64 b),(1,.int .i64 a),(0,.osl 1 0 0 l.length c)]) (fun k=>[.arr 1 ((lO Op.bytesLess [] a k l).map st1)]) (fun k=>k≤b - a - 1) (fun k=>b - k) 0
  (wks rfl (by simp) ⟨rfl,rfl,rfl,rfl,rfl,trivial⟩) (by omega) fun k hk=>?_
 have hkl:=xI (lt:=Op.bytesLess) (d0:=[]) a k l
 have hst:lO Op.bytesLess [] a (k+1) l=nW Op.bytesLess [] a (a+(k+1)) (lO Op.bytesLess [] a k l):=rfl
 generalize hm:lO Op.bytesLess [] a k l=m at hkl hst
 simp only [f233l1,fQ,dT,↓gos,gop,qA,qB,qC,qD,qE,qF,qG,qH,qI]
 refine ⟨fun h1=>?_,fun h1=>?_⟩
 ·refine aM (γ:=List (List UInt8)×Nat) (fun g=>[(1000000,.osl 1 0 0 l.length c),(7,.int .i64 g.2),(6,.int .i64 (a+1+k:Nat)),(2,.int .i64 b),(1,.int .i64 a),(0,.osl 1 0 0 l.length c)]) (fun g=>[.arr 1 (g.1.map st1)])
   (fun g=>g.1.length=l.length∧g.2≤a+1+k∧nW Op.bytesLess [] a g.2 g.1=lO Op.bytesLess [] a (k+1) l) (fun g=>g.2) (m,a+1+k)
   (wks rfl (by simp) ⟨rfl,rfl,rfl,rfl,rfl,rfl,trivial⟩) ⟨hkl,Nat.le_refl _,by rw [hst]; congr 1; omega⟩ fun g hg=>?_
  obtain ⟨q,j⟩:=g
  obtain ⟨hq,hj,hI⟩:=hg
  simp only at hq hj hI
  simp only [f233l0,fQ,dT,↓gos,gop,qA,qB,qC,qD,qE,qF,qG,qH,qI]
  refine ⟨fun h2=>?_,fun h2=>?_⟩
  ·obtain ⟨j,rfl⟩:∃ j',j=j' + 1:=⟨j - 1,by omega⟩
   have w1:IntKind.i64.wrap (((j+1:Nat):Int) - 1)=(j:Int):=by rw [wrap_i64 (by omega) (by omega)]; omega
   have e1:((j+1:Nat):Int)<(l.length:Int):=by omega
   have e2:(j:Int)<(l.length:Int):=by omega
   obtain ⟨x,hx⟩:∃ x,q[j+1]?=some x:=⟨_,List.getElem?_eq_getElem (by omega)⟩
   obtain ⟨y,hy⟩:∃ y,q[j]?=some y:=⟨_,List.getElem?_eq_getElem (by omega)⟩
   have hu:nW Op.bytesLess [] a (j+1) q=if a<j+1∧Op.bytesLess (q.getD (j+1) []) (q.getD j [])=true then nW Op.bytesLess [] a j (sw2 [] q (j+1)) else q:=rfl
   have hsw:sw2 [] q (j+1)=(q.set (j+1) (q.getD j [])).set j (q.getD (j+1) []):=rfl
   have hwl:=EF (d0:=[]) q (j+1)
   rw [List.getD_eq_getElem?_getD,List.getD_eq_getElem?_getD,hx,hy,Option.getD_some,Option.getD_some] at hu hsw
   simp only [w1,forall_eq,e1,e2,hx,hy,st1,↓gos,gop,qA,qB,qC,qD,qE,qF,qG,qH,qI]
   refine aB (SD x y) rfl rfl ?_
   cases hlt:Op.bytesLess x y
   ·have hend:q=lO Op.bytesLess [] a (k+1) l:=by rw [← hI,hu,if_neg (by rw [hlt]; simp)]
    have w2:IntKind.i64.wrap (((a+1+k:Nat):Int)+1)=((a+1+(k+1):Nat):Int):=by rw [wrap_i64 (by omega) (by omega)]; omega
    simp only [w2,forall_eq,fQ,dT,↓gos,gop,qA,qB,qC,qD,qE,qF,qG,qH,qI]
    exact aQ (k+1) (by rw [hend]) (by simp) ⟨rfl,rfl,rfl,rfl,rfl,trivial⟩ (by omega) (by omega)
   ·rw [if_pos ⟨by omega,hlt⟩] at hu
    have e3:j+1<q.length:=by omega
    have e4:j<q.length:=by omega
    simp only [w1,forall_eq,e1,e2,hx,hy,st1,fQ,dT,↓rY,List.getElem?_map,List.getElem?_set,List.length_map,e3,e4,Option.map_some,reduceIte,ite_self,↓gos,gop,qA,qB,qC,qD,qE,qF,qG,qH,qI]
    refine aQ (sw2 [] q (j+1),j) ?_ (by simp) ⟨rfl,rfl,rfl,rfl,rfl,rfl,trivial⟩ ⟨hwl.trans hq,by simp only; omega,by rw [← hI,hu]⟩ (Nat.lt_succ_self j)
    simp only [hsw,List.map_set]
    rfl
  ·have hend:q=lO Op.bytesLess [] a (k+1) l:=by
    rw [← hI]
    cases j with
    | zero=>rfl
    | succ j=>unfold nW; rw [if_neg (by omega)]
   have w2:IntKind.i64.wrap (((a+1+k:Nat):Int)+1)=((a+1+(k+1):Nat):Int):=by rw [wrap_i64 (by omega) (by omega)]; omega
   rw [w2]
   intro v hv
   subst hv
   exact aQ (k+1) (by rw [hend]) (by simp) ⟨rfl,rfl,rfl,rfl,rfl,trivial⟩ (by omega) (by omega)
 ·have hk2:k=b - a - 1:=by omega
  subst hk2
  exact CG rfl rfl ⟨by rw [hm],rfl⟩ rfl h0 rfl
theorem aAh (l:List (List UInt8))(c:Option Nat)(k:Int)(hl:l.length≤12)(h0:0<l.length) :
  eK ED true 196 [.arr 1 (l.map st1)] [.osl 1 0 0 l.length c,.int .i64 0,.int .i64 l.length,.int .i64 k] fun h d=>h=[.arr 1 ((mV Op.bytesLess l).map st1)]∧d=.tup []:=by
 refine kD c196 (by simp [f196]) (by simp) ?_
 have w1:IntKind.i64.wrap ((l.length:Int) - 0)=(l.length:Int):=by rw [wrap_i64 (by omega) (by omega)]; omega
 have e1:(l.length:Int)≤12:=by omega
 simp only [f196,fQ,dT,↓gos,gop,qA,qB,qC,qD,qE,qF,qG,qH,qI]
 refine CD 1 ?_
 simp only [f196l0,w1,e1,forall_eq,fQ,dT,↓gos,gop,qA,qB,qC,qD,qE,qF,qG,qH,qI]
 refine qT (i:=0) rfl (aAl l 0 l.length c (by omega) h0 (by omega) (Nat.le_refl _)) rfl rfl ?_
 rintro h' d ⟨rfl,rfl⟩
 refine ⟨_,rfl,rfl,?_⟩
 rw [Nat.sub_zero,ON bl_tot]
 simp only [fQ,dT,↓gos,gop,qA,qB,qC,qD,qE,qF,qG,qH,qI]
 exact CG rfl rfl ⟨rfl,rfl⟩ rfl h0 rfl
theorem XX (l:List (List UInt8))(c:Option Nat)(hl:l.length≤12)(h0:0<l.length) :
  eK ED true 155 [.arr 1 (l.map st1)] [.osl 1 0 0 l.length c] fun h d=>h=[.arr 1 ((mV Op.bytesLess l).map st1)]∧d=.tup []:=by
 refine kD c155 (by simp [f155]) (by simp) ?_
 have w1:IntKind.u64.wrap (l.length:Int)=(l.length:Int):=NQ (by omega) (by omega)
 simp only [f155,w1,forall_eq,fQ,dT,↓gos,gop,qA,qB,qC,qD,qE,qF,qG,qH,qI]
 refine fO (MQ l.length hl) rfl ⟨_,0,rfl⟩ ?_
 rintro d ⟨k,rfl⟩
 refine ⟨rfl,?_⟩
 simp only [fQ,dT,↓gos,gop,qA,qB,qC,qD,qE,qF,qG,qH,qI]
 refine qT (i:=0) rfl (aAh l c k hl h0) rfl rfl ?_
 rintro h' d ⟨rfl,rfl⟩
 refine ⟨_,rfl,rfl,?_⟩
 simp only [fQ,dT,↓gos,gop,qA,qB,qC,qD,qE,qF,qG,qH,qI]
 exact CG rfl rfl ⟨rfl,rfl⟩ rfl h0 rfl
theorem UL:ACalls ED 233 [] [.sl 1 [],.int .i64 0,.int .i64 0] fun h d=>h=[]∧d=.tup []:=by
 refine aA c233 (by simp [f233]) ?_
 simp only [f233,↓gos,gop,qA,qB,qC,qD,qE,qF,qG,qH,qI]
 intro v hv
 have hv1:v=1:=hv
 subst hv1
 refine CD 1 ?_
 simp only [f233l1,↓gos,gop,qA,qB,qC,qD,qE,qF,qG,qH,qI]
 exact aC rfl ⟨rfl,rfl⟩
theorem WC (k:Int):ACalls ED 196 [] [.sl 1 [],.int .i64 0,.int .i64 0,.int .i64 k] fun h d=>h=[]∧d=.tup []:=by
 have w1:IntKind.i64.wrap (0 - 0)=0:=by decide
 refine aA c196 (by simp [f196]) ?_
 simp only [f196,↓gos,gop,qA,qB,qC,qD,qE,qF,qG,qH,qI]
 refine CD 1 ?_
 simp only [f196l0,w1,forall_eq,↓gos,gop,qA,qB,qC,qD,qE,qF,qG,qH,qI]
 refine aB UL rfl rfl ?_
 simp only [↓gos,gop,qA,qB,qC,qD,qE,qF,qG,qH,qI]
 exact aC rfl ⟨rfl,rfl⟩
theorem KE:ACalls ED 155 [] [.sl 1 []] fun h d=>h=[]∧d=.tup []:=by
 have w1:IntKind.u64.wrap 0=0:=by decide
 refine aA c155 (by simp [f155]) ?_
 simp only [f155,List.length_nil,w1,forall_eq,↓gos,gop,qA,qB,qC,qD,qE,qF,qG,qH,qI]
 refine fO (MQ 0 (by omega)) rfl ⟨_,0,rfl⟩ ?_
 rintro d ⟨k,rfl⟩
 refine ⟨rfl,?_⟩
 simp only [↓gos,gop,qA,qB,qC,qD,qE,qF,qG,qH,qI]
 refine aB (WC k) rfl rfl ?_
 simp only [↓gos,gop,qA,qB,qC,qD,qE,qF,qG,qH,qI]
 exact aC rfl ⟨rfl,rfl⟩
def eM (l:List (List UInt8)):List (List UInt8):=l.filter fun s => !decide (s=[])
def pfx:List (List UInt8)→List (List UInt8)
 | []=>[]
 | x::l=>match plainF x with | none=>[] | some y=>y::pfx l
theorem OS {x:List UInt8}(hx:plainF x=none)(b:List (List UInt8)):∀ {a acc:List (List UInt8)},bJ a=some acc→pfx (a++x::b)=acc
 | [],acc,h=>by simp [bJ] at h; subst h; simp [pfx,hx]
 | z::a,acc,h=>by
  simp only [bJ,Option.bind_eq_some_iff,Option.map_eq_some_iff] at h
  obtain ⟨y,hy,r,hr,rfl⟩:=h
  simp only [List.cons_append,pfx,hy,OS hx b hr]
theorem aDO (c:CT){D:DV}{ds:List DV}{tl:List AObj}(h1:(rvd ds).inL [0,1,2].contains=true)(h2:(rvd ds).ren ([0,1,2].idxOf ·)=D):dY 3 (fun h d=>h=[.box (ctx c),.arr 4 (c.other.map pv),.arr 1 (c.groups.map sv)]∧d=D) (some ds) ([.box (ctx c),.arr 4 (c.other.map pv),.arr 1 (c.groups.map sv)]++tl):=by
 have:=fS (c:=c) (u:=[]) (tl:=tl) h1 h2
 simpa only [HX,List.append_nil] using this
def xA (g:List (List UInt8)):List (List UInt8):=cpK [] (mV Op.bytesLess g) g.length
def sL (c:CT)(s:List UInt8):CT×List (List DV)×Int:=match bJ (aS 44 false [] s) with
 | none=>({ c with groups:=eM (pfx (aS 44 false [] s)) },[],18)
 | some a=>({ c with groups:=xA (eM a) },List.replicate ((eM a).length - (xA (eM a)).length) [.str []],0)
set_option maxHeartbeats 1000000 in
theorem tx6 (c:CT)(s:List UInt8)(hs:s.length<100000000)(hg:c.groups=[])(h12:(aS 44 false [] s).length≤12):TkX 115 c [] [.str s] (sL c s).1 (sL c s).2.1 true (sL c s).2.2:=by
 have hne:=mQ 44 s false []
 have hmem:=gR 44 s false []
 refine aA c115 (by simp [f115]) ?_
 simp only [f115,HX,↓gos,gop,qA,qB,qC,qD,qE,qF,qG,qH,qI]
 refine gC (DL s 44 hs) (by simp [DV.closed]) ?_
 unfold sL
 generalize aS 44 false [] s=l at *
 simp only [DV.ren,aR,↓gos,gop,qA,qB,qC,qD,qE,qF,qG,qH,qI]
 refine aM (γ:=Nat×List (List UInt8)) (fun g=>[(13,.int .i64 g.1),(12,.int .i64 l.length),(11,.osl 1 3 0 l.length none),(0,.ptr 0 0)])
  (fun g=>[.box (ctx { c with groups:=eM g.2 }),.arr 4 (c.other.map pv),.arr 1 ((eM g.2).map sv),.arr 1 (l.map st1)])
  (fun g=>g.1≤l.length∧bJ (l.take g.1)=some g.2∧(eM g.2).length≤g.1) (fun g=>l.length - g.1) (0,[])
  (wks (by simp only [ctx,hg]; rfl) (by simp) ⟨rfl,rfl,rfl,rfl,trivial⟩) ⟨by omega,by simp [bJ],Nat.le_refl _⟩ fun g hgg=>?_
 obtain ⟨i,acc⟩:=g
 obtain ⟨hi,hp,ha⟩:=hgg
 simp only at hi hp ha
 simp only [f115l0,↓gos,gop,qA,qB,qC,qD,qE,qF,qG,qH,qI]
 refine ⟨fun h=>?_,fun h=>?_⟩
 ·have h2:i<l.length:=by omega
  refine aO (by omega) (aU [] h2 ?_)
  have htk:=rZ h2 []
  have hm:l.getD i []∈l:=by rw [List.getD_eq_getElem?_getD,List.getElem?_eq_getElem h2]; exact List.getElem_mem h2
  have hdr:l=l.take i++l.getD i []::l.drop (i+1):=by
   rw [List.getD_eq_getElem?_getD,List.getElem?_eq_getElem h2]; simp
  generalize l.getD i []=x at *
  have hx:=hmem x hm
  simp only [List.length_nil] at hx
  simp only [st1,↓gos,gop,qA,qB,qC,qD,qE,qF,qG,qH,qI]
  refine aB (fD x (by omega)) rfl rfl ?_
  cases hpx:plainF x with
  | none=>
   have hn:bJ l=none:=by rw [hdr]; exact jB hpx _ _
   have hpf:pfx l=acc:=by rw [hdr]; exact OS hpx _ hp
   simp only [hn,hpf,Option.isSome_none,Bool.false_eq_true,reduceIte,↓gos,gop,qA,qB,qC,qD,qE,qF,qG,qH,qI]
   exact ⟨fun _=>aDO { c with groups:=eM acc } rfl rfl,fun q=>absurd q (by decide)⟩
  | some y=>
   have w1:IntKind.i64.wrap ((i:Int)+1)=((i+1:Nat):Int):=by rw [wrap_i64 (by omega) (by omega)]; rfl
   simp only [Option.isSome_some,Option.getD_some,reduceIte,w1,forall_eq,ctx,↓gos,gop,qA,qB,qC,qD,qE,qF,qG,qH,qI]
   have hpl:bJ (l.take (i+1))=some (acc++[y]):=by rw [htk,jG,hp,hpx]; rfl
   have hti:List.take (eM acc).length (List.map sv (eM acc))=List.map sv (eM acc):=List.take_of_length_le (by simp)
   refine ⟨fun q=>?_,fun q=>?_⟩
   ·have hne2:eM (acc++[y])=eM acc++[y]:=by simp [eM,q]
    refine aO (by omega) (aO (by omega) ?_)
    refine dO 4 (i+1,acc++[y]) ?_ (by simp) ⟨rfl,rfl,rfl,rfl,rfl,rfl,rfl,rfl,trivial⟩ rfl ⟨by simp only; omega,hpl,by simp only; rw [hne2]; simp; omega⟩ (by simp only; omega)
    rw [hne2]
    simp only [List.map_append,List.length_append,List.length_cons,List.length_nil]
    rfl
   ·have hne2:eM (acc++[y])=eM acc:=by simp [eM,q]
    refine aQ (i+1,acc++[y]) (by rw [hne2]) (by simp) ⟨rfl,rfl,rfl,rfl,trivial⟩ ⟨by simp only; omega,hpl,by simp only; rw [hne2]; omega⟩ (by simp only; omega)
 ·have h2:i=l.length:=by omega
  subst h2
  rw [List.take_length] at hp
  rw [hp]
  have hal:(eM acc).length≤12:=by omega
  simp only [ctx,↓gos,gop,qA,qB,qC,qD,qE,qF,qG,qH,qI]
  generalize eM acc=g at *
  by_cases hg0:g=[]
  ·subst hg0
   refine aB KE rfl rfl ?_
   simp only [↓gos,gop,qA,qB,qC,qD,qE,qF,qG,qH,qI]
   have hc:=sD [] (by simp)
   refine fL (h1:=[.arr 1 []]) [2] [2] (by simp) (by simp) rfl rfl rfl rfl hc rfl ?_
   simp only [List.foldl,bB,aR,DV.ren,upL,↓gos,gop,qA,qB,qC,qD,qE,qF,qG,qH,qI]
   exact fS (c:={ c with groups:=xA [] }) (u:=List.replicate (([]:List (List UInt8)).length - (xA []).length) [.str []]) (tl:=[.arr 1 (l.map st1)]) rfl rfl
  ·have hp0:0<g.length:=List.length_pos_iff.2 hg0
   have hsl:=vS (lt:=Op.bytesLess) g
   refine qT (i:=2) rfl (XX g none (by omega) hp0) rfl rfl ?_
   rintro h' d ⟨rfl,rfl⟩
   refine ⟨_,rfl,rfl,?_⟩
   simp only [↓gos,gop,qA,qB,qC,qD,qE,qF,qG,qH,qI]
   have hc:=sD (mV Op.bytesLess g) (by omega)
   rw [hsl] at hc
   refine fL (h1:=[.arr 1 ((mV Op.bytesLess g).map st1)]) [2] [2] (by simp) (by simp) rfl rfl rfl rfl hc rfl ?_
   simp only [List.foldl,bB,aR,DV.ren,upL,↓gos,gop,qA,qB,qC,qD,qE,qF,qG,qH,qI]
   exact fS (c:={ c with groups:=xA g }) (u:=List.replicate (g.length - (xA g).length) [.str []]) (tl:=[.arr 1 (l.map st1)]) rfl rfl
theorem HG {E:Env}{f:Nat}{h:List AObj}{sz:Nat}{post:List AObj→DV→Prop}(h1:ACalls E f h [.emp true sz] post)(h2:ACalls E f h [.emp false sz] post):ACalls E f h [.sl sz []] post:=
 ⟨h1.1,fun w ok β vs hG hN hH hlen hv=>by
  match vs,hlen with
  | [v],_=>
  have r:=hv 0 v _ rfl rfl
  cases r with
  | sl A n c _ _ b x vs' hn hnc hsz hes hA hc h1' h' =>
   have hn:n=0:=by simpa using hn
   subst hn
   cases A with
   | none=>
    refine h1.2 w ok β _ hG hN hH rfl fun i v d q1 q2=>?_
    cases i with
    | zero=>cases q1; cases q2; exact .emp0 _ _
    | succ i=>simp at q1
   | some A=>
    refine h2.2 w ok β _ hG hN hH rfl fun i v d q1 q2=>?_
    cases i with
    | zero=>cases q1; cases q2; exact .emp1 _ _ _
    | succ i=>simp at q1⟩
theorem JW (l:List (List DV))(hl:l.length<1000000000):aY 119 [.sl 2 l] (.sl 2 l):=by
 cases l with
 | nil=>
  refine HG ?_ ?_
  ·refine bQ c119 (by simp [f119]) ?_
   simp only [f119,aG,aD,↓gos,gop,qA,qB,qC,qD,qE,qF,qG,qH,qI]
   exact dF [0,1] rfl rfl ⟨rfl,rfl⟩
  ·refine bQ c119 (by simp [f119]) ?_
   simp only [f119,aG,aD,↓gos,gop,qA,qB,qC,qD,qE,qF,qG,qH,qI]
   exact dF [0,1,2] rfl rfl ⟨rfl,rfl⟩
 | cons x l=>
  refine bQ c119 (by simp [f119]) ?_
  simp only [f119,aG,aD,↓gos,gop,qA,qB,qC,qD,qE,qF,qG,qH,qI]
  refine aO (by simp) ?_
  simp only [List.length_cons] at hl
  refine aO (by omega) (aO (by omega) ?_)
  have e:bU [1] [.arr 2 [],.arr 2 (x::l)] (.osl 2 1 0 (l.length+1) none)=.sl 2 (x::l):=DQ (F:=[1]) (sz:=2) (i:=1) (n:=l.length+1) (c:=none) rfl (by simp) rfl
  exact dF [1] (D:=.sl 2 (x::l)) e rfl ⟨rfl,rfl⟩
theorem yT (p:PR)(hp:p.ps.length<1000000000):aY 57 [.agg (pv p)] (.agg (pv p)):=by
 refine bQ c57 (by simp [f57]) ?_
 simp only [f57,pv,aG,aD,↓gos,gop,qA,qB,qC,qD,qE,qF,qG,qH,qI]
 refine aX (JW _ (by simpa using hp)) rfl rfl ?_
 simp only [aG,aD,↓gos,gop,qA,qB,qC,qD,qE,qF,qG,qH,qI]
 exact dF [] rfl rfl ⟨rfl,rfl⟩
def cA (c:CT)(s:List UInt8):Nat→CT×Bool×Int
 | 0=>({ c with name:=plS s },true,plE s)
 | 1=>((pO c s).1,true,(pO c s).2)
 | 2=>({ c with nick:=plS s },true,plE s)
 | 3=>rW c s
 | 4=>({ c with email:=plS s },true,plE s)
 | 5=>({ c with tel:=plS s },true,plE s)
 | 6=>((sL c s).1,true,(sL c s).2.2)
 | 7=>({ c with note:=plS s },true,plE s)
 | 8=>({ c with uid:=plS s },true,plE s)
 | _=>(c,false,0)
def qV (c:CT)(s:List UInt8)(u:List (List DV)):Nat→List (List DV)
 | 6=>(sL c s).2.1
 | _=>u
theorem PW (c:CT)(u:List (List DV))(s:List UInt8)(hs:s.length<100000000):∀ k,k<9→(k=6→c.groups=[]∧u=[]∧(aS 44 false [] s).length≤12)→TkX (kf k) c u (.str s::kc k) (cA c s k).1 (qV c s u k) (cA c s k).2.1 (cA c s k).2.2:=
 SI (fun _=>tx0 c u s (by omega)) (fun _=>tx1 c u s hs) (fun _=>tx2 c u s (by omega)) (fun _=>tx3 c u s hs) (fun _=>tx4 c u s (by omega)) (fun _=>tx5 c u s (by omega)) (fun h=>by obtain ⟨h1,h2,h3⟩:=h rfl; subst h2; exact tx6 c s hs h1 h3) (fun _=>tx7 c u s (by omega)) (fun _=>tx8 c u s (by omega))
def rH (ns:List (List UInt8)):List (List UInt8×PV):=ns.map fun n=>(n,.int .i64 1)
def iP (c:CT)(ns:List (List UInt8))(p:PR):CT×List (List UInt8)×Int:=
 if 0≤knI p.n 9∧p.g=[]∧p.ps=[]∧p.n∉ns then
  (if (cA c p.v (knI p.n 9).toNat).2.2=0 then
   (if (cA c p.v (knI p.n 9).toNat).2.1=true then ((cA c p.v (knI p.n 9).toNat).1,ns++[p.n],0)
   else ({ (cA c p.v (knI p.n 9).toNat).1 with other:=(cA c p.v (knI p.n 9).toNat).1.other++[p] },ns,0))
  else (C0,ns,(cA c p.v (knI p.n 9).toNat).2.2))
 else ({ c with other:=c.other++[p] },ns,0)
def ofK (l:List PR):Nat→CT×List (List UInt8)×Int
 | 0=>(C0,[],0)
 | i+1=>if (ofK l i).2.2=0 then (match l[i]? with | some p=>iP (ofK l i).1 (ofK l i).2.1 p | none=>ofK l i) else ofK l i
theorem EU {l:List PR}{k:Nat}(h:(ofK l k).2.2≠0):∀ n,ofK l (k+n)=ofK l k
 | 0=>rfl
 | n+1=>by
  rw [show k+(n+1)=(k+n)+1 from rfl,ofK,EU h n,if_neg h]
def DB (c:CT)(ns:List (List UInt8))(p:PR)(u:List (List DV)):List (List DV):=if 0≤knI p.n 9∧p.g=[]∧p.ps=[]∧p.n∉ns then qV c p.v u (knI p.n 9).toNat else u
def ofU (l:List PR):Nat→List (List DV)
 | 0=>[]
 | i+1=>match l[i]? with | some p=>DB (ofK l i).1 (ofK l i).2.1 p (ofU l i) | none=>ofU l i
theorem lY (c:CT)(s:List UInt8)(k:Nat)(hk:k≠6):(cA c s k).1.groups=c.groups:=by
 unfold cA
 split
 case _=>rfl
 case _=>
  simp only [pO]
  split
  ·rfl
  ·split
   ·split <;> rfl
   ·rfl
 case _=>rfl
 case _=>
  simp only [rW]
  split
  ·split <;> rfl
  ·rfl
 case _=>rfl
 case _=>rfl
 case _=>exact absurd rfl hk
 all_goals rfl
theorem xT (c:CT)(s:List UInt8)(u:List (List DV))(k:Nat)(hk:k≠6):qV c s u k=u:=by
 unfold qV
 split
 ·exact absurd rfl hk
 ·rfl
def ofR (l:List PR):CT×Int:=
 if (ofK l l.length).2.2=0 then (if cV (ofK l l.length).1=true then ((ofK l l.length).1,0) else (C0,12)) else (C0,(ofK l l.length).2.2)
theorem uZ (s:List UInt8):∀ ns,hB s (.int .i64 0) (rH ns)=.int .i64 (if s∈ns then 1 else 0)
 | []=>rfl
 | n::ns=>by
  have:=uZ s ns
  simp only [rH,List.map_cons,hB] at *
  by_cases h:n=s
  ·subst h; simp
  ·rw [if_neg h,this]
   have:s∈n::ns↔s∈ns:=by simp [Ne.symm h]
   simp only [this]
theorem EJ (s:List UInt8):∀ ns,eX s (rH ns)=decide (s∈ns)
 | []=>rfl
 | n::ns=>by
  have:=EJ s ns
  simp only [rH,List.map_cons,eX] at *
  by_cases h:n=s
  ·subst h; simp
  ·rw [if_neg h,this]
   simp [Ne.symm h]
theorem RG (s:List UInt8)(ns:List (List UInt8))(h:s∉ns):CR (rH ns) s (.int .i64 1)=rH (ns++[s]):=by
 unfold CR
 rw [EJ,decide_eq_false h]
 simp [rH]
theorem OK (nm:List UInt8):(dL nm).all DV.one=true:=by unfold dL; split <;> rfl
theorem QK (nm:List UInt8):(dL nm).length=3:=by unfold dL; split <;> rfl
theorem tA (nm:List UInt8):(DV.agg (dL nm)).closed=true:=by
 have hi:=vN nm 9
 unfold dL
 split
 ·exact fR _ (by omega)
 ·rfl
theorem KO (nm:List UInt8)(h:List AObj)(K:List DV→List AObj→Prop):ocP (dL nm) h K=K (dL nm) h:=by
 unfold dL
 split
 ·simp only [knv,↓gos,gop,qA,qB,qC,qD,qE,qF,qG,qH,qI]
 ·simp only [↓gos,gop,qA,qB,qC,qD,qE,qF,qG,qH,qI]
def cty (c:CT):List DV:=[.str c.name,.str c.family,.str c.given,.str c.nick,.str c.jid,.str c.email,.str c.tel,.str c.note,.str c.uid,.osl 1 7 0 c.groups.length none,.osl 4 8 0 c.other.length none]
theorem KB (nm:List UInt8):∀ n,0≤knI nm n→KNS.getD (knI nm n).toNat []=nm
 | 0,h=>by simp [knI] at h
 | n+1,h=>by
  rw [knI] at h ⊢
  split
  ·rename_i h2; exact KB nm n h2
  ·rename_i h2
   rw [if_neg h2] at h
   split
   ·rename_i h3; simpa using h3
   ·rename_i h3; rw [if_neg h3] at h; omega
theorem wD (c:CT)(s:List UInt8)(k:Nat):(cA c s k).1.other=c.other:=by
 unfold cA
 split
 case _=>rfl
 case _=>
  simp only [pO]
  split
  ·rfl
  ·split
   ·split <;> rfl
   ·rfl
 case _=>rfl
 case _=>
  simp only [rW]
  split
  ·split <;> rfl
  ·rfl
 case _=>rfl
 case _=>rfl
 case _=>
  unfold sL
  split <;> rfl
 all_goals rfl
theorem aFa (l:List PR)(hl:l.length<1000000)(hwt:∀ p∈l,p.v.length<100000000∧p.ps.length<1000000000)(hcat:∀ p∈l,p.n=KNS.getD 6 []→(aS 44 false [] p.v).length≤12)(hok:(ofK l l.length).2.2=0→okS (ofK l l.length).1):aY 27 [.sl 4 (l.map pv)] (.tup [.agg (ctv (ofR l).1),.int .i64 (ofR l).2]):=by
  refine bQ c27 (by simp [f27]) ?_
  simp only [f27,aG,aD,↓gos,gop,qA,qB,qC,qD,qE,qF,qG,qH,qI]
  have hC0:DV.agg (ctv C0)=.agg (ctv C0):=rfl
  refine aM (γ:=Nat) (fun i=>[(16,.int .i64 i),(15,.int .i64 l.length),(14,.sl 4 (l.map pv)),(5,.mp 3),(4,.ptr 6 0),(3,.int .i64 0),(2,.ptr 2 0)]) (fun i=>[.arr 1 [],.arr 4 [],.box [.str [],.str [],.str [],.str [],.str [],.str [],.str [],.str [],.str [],.osl 1 0 0 0 none,.osl 4 1 0 0 none],.mapo (rH (ofK l i).2.1),.arr 1 [],.arr 4 [],.box (cty (ofK l i).1),.arr 1 ((ofK l i).1.groups.map sv++ofU l i),.arr 4 ((ofK l i).1.other.map pv)])
    (fun i=>i≤l.length∧(ofK l i).2.2=0∧(ofK l i).1.other.length≤i∧(KNS.getD 6 []∉(ofK l i).2.1→(ofK l i).1.groups=[]∧ofU l i=[])) (fun i=>l.length - i) 0
    (wks rfl (by simp) ⟨rfl,rfl,rfl,rfl,rfl,rfl,rfl,trivial⟩) ⟨by omega,rfl,Nat.le_refl _,fun _=>⟨rfl,rfl⟩⟩ fun i ⟨hi,hz,hol,hcu⟩=>?_
  simp only [f27l0,aG,aD,↓gos,gop,qA,qB,qC,qD,qE,qF,qG,qH,qI]
  refine ⟨fun h5=>?_,fun h5=>?_⟩
  · have h2:i<l.length:=by omega
    have hm:l[i]∈l:=List.getElem_mem h2
    have hstep:ofK l (i+1)=iP (ofK l i).1 (ofK l i).2.1 l[i]:=by rw [ofK,if_pos hz,List.getElem?_eq_getElem h2]
    have hstepU:ofU l (i+1)=DB (ofK l i).1 (ofK l i).2.1 l[i] (ofU l i):=by rw [ofU,List.getElem?_eq_getElem h2]
    refine uO l[i] (by simp [h2]) ?_
    generalize l[i]=p at *
    generalize ofK l i=o at *
    generalize ofU l i=u at *
    obtain ⟨c,ns,e⟩:=o
    simp only at hz hstep hol hcu hstepU
    simp only [pv,cty,aG,aD,↓gos,gop,qA,qB,qC,qD,qE,qF,qG,qH,qI]
    refine vI [(9,.bool (decide (0≤knI p.n 9))),(8,.ptr 11 0),(7,.ptr 10 0),(16,.int .i64 i),(15,.int .i64 l.length),(14,.sl 4 (l.map pv)),(5,.mp 3),(4,.ptr 6 0),(3,.int .i64 0),(2,.ptr 2 0)]
      [.arr 1 [],.arr 4 [],.box [.str [],.str [],.str [],.str [],.str [],.str [],.str [],.str [],.str [],.osl 1 0 0 0 none,.osl 4 1 0 0 none],.mapo (rH ns),.arr 1 [],.arr 4 [],.box (cty c),.arr 1 (c.groups.map sv++u),.arr 4 (c.other.map pv),.arr 2 [],.box (pv p),.box (dL p.n)] ?_ (fun hk=>?_) (fun hk=>?_)
    · have hi9:=vN p.n 9
      by_cases hf:0≤knI p.n 9∧p.g=[]∧p.ps=[]∧p.n∉ns
      · obtain ⟨h0,hg,hps,hns⟩:=hf
        have hk9:(knI p.n 9).toNat<9:=by omega
        have hfk:dL p.n=knv (knI p.n 9).toNat:=if_pos h0
        have hv0:hB p.n (.int .i64 0) (rH ns)=.int .i64 0:=by rw [uZ,if_neg hns]
        simp only [pv,cty,hfk,knv,hg,hps,hv0,decide_eq_true h0,sR,PV.dv,List.map_nil,List.length_nil,aG,aD,↓gos,gop,qA,qB,qC,qD,qE,qF,qG,qH,qI]
        have hcc:=sV _ hk9
        have hcn:(knI p.n 9).toNat=6→p.n=KNS.getD 6 []:=fun h=>by have:=KB p.n 9 h0; rw [h] at this; exact this.symm
        have htk:=PW c u p.v (hwt p hm).1 (knI p.n 9).toNat hk9 (fun h=>by
          have hn:=hcn h
          obtain ⟨g1,g2⟩:=hcu (by rw [← hn]; exact hns)
          exact ⟨g1,g2,hcat p hm hn⟩)
        have hsu:DB c ns p u=qV c p.v u (knI p.n 9).toNat:=if_pos ⟨h0,hg,hps,hns⟩
        rw [hsu] at hstepU
        have hcu' : KNS.getD 6 []∉ns++[p.n]→(cA c p.v (knI p.n 9).toNat).1.groups=[]∧qV c p.v u (knI p.n 9).toNat=[]:=fun q=>by
          rw [List.mem_append,not_or] at q
          have hk6:(knI p.n 9).toNat≠6:=fun h=>q.2 (by rw [← hcn h]; simp)
          rw [lY _ _ _ hk6,xT _ _ _ _ hk6]
          exact hcu q.1
        have hcf:(cA c p.v (knI p.n 9).toNat).2.1=false→(knI p.n 9).toNat≠6:=fun h e=>by rw [e] at h; exact absurd h (by show ¬ true=false; decide)
        refine fL (DR:=.tup [.bool (cA c p.v (knI p.n 9).toNat).2.1,.int .i64 (cA c p.v (knI p.n 9).toNat).2.2]) (h1:=HX c u) (ds1:=.ptr 0 0::.str p.v::kc (knI p.n 9).toNat) [6,8,7] [8,7] (by decide) (by simp) rfl rfl (by
          simp only [List.map_cons]
          rw [cJ fun d hd=>(show DV.dn _ _ d=d from cY (List.all_eq_true.1 hcc d hd))]
          rfl) (by
          simp only [List.all_cons,Bool.and_eq_true]
          exact ⟨⟨rfl,rfl,List.all_eq_true.2 fun d hd=>bC (List.all_eq_true.1 hcc d hd)⟩,rfl,rfl,rfl,rfl⟩) htk rfl ?_
        have hs:iP c ns p=if (cA c p.v (knI p.n 9).toNat).2.2=0 then
            (if (cA c p.v (knI p.n 9).toNat).2.1=true then ((cA c p.v (knI p.n 9).toNat).1,ns++[p.n],0)
            else ({ (cA c p.v (knI p.n 9).toNat).1 with other:=(cA c p.v (knI p.n 9).toNat).1.other++[p] },ns,0))
            else (C0,ns,(cA c p.v (knI p.n 9).toNat).2.2):=if_pos ⟨h0,hg,hps,hns⟩
        rw [hs] at hstep
        clear hs htk
        have hto:=wD c p.v (knI p.n 9).toNat
        have htg:=lY c p.v (knI p.n 9).toNat
        have htu:=xT c p.v u (knI p.n 9).toNat
        generalize qV c p.v u (knI p.n 9).toNat=u' at *
        generalize cA c p.v (knI p.n 9).toNat=o at *
        obtain ⟨c',t,e'⟩:=o
        simp only at hstep hto
        rw [← hto] at hol
        have herr:e' ≠ 0→ofR l=(C0,e'):=fun he=>by
          rw [if_neg he] at hstep
          have h:=EU (l:=l) (k:=i+1) (by rw [hstep]; exact he) (l.length - (i+1))
          rw [show i+1+(l.length - (i+1))=l.length by omega,hstep] at h
          unfold ofR
          rw [h,if_neg he]
        have w1:IntKind.i64.wrap ((i:Int)+1)=((i+1:Nat):Int):=by rw [wrap_i64 (by omega) (by omega)]; rfl
        cases t
        · simp only [HX,ctx,List.foldl,bB,aR,DV.ren,upL,aG,aD,↓gos,gop,qA,qB,qC,qD,qE,qF,qG,qH,qI]
          refine ⟨fun he=>?_,fun he=>?_⟩
          · rw [herr he]
            exact dF [12,13] rfl rfl ⟨rfl,rfl⟩
          · subst he
            rw [if_pos rfl,if_neg (by simp)] at hstep
            have hown:=yT p (hwt p hm).2
            simp only [pv,hg,hps,List.map_nil] at hown
            refine aX hown rfl rfl ?_
            simp only [w1,forall_eq,aG,aD,↓gos,gop,qA,qB,qC,qD,qE,qF,qG,qH,qI]
            refine aO (by omega) (aO (by omega) ?_)
            refine dO 9 (i+1) ?_ (by simp) ⟨rfl,rfl,rfl,rfl,rfl,rfl,rfl,rfl,rfl,rfl,rfl,rfl,rfl,rfl,trivial⟩ ?_ ⟨by omega,by rw [hstep],by rw [hstep]; simp; omega,by rw [hstep,hstepU]; exact fun q=>⟨(htg (hcf rfl)).trans (hcu q).1,(htu (hcf rfl)).trans (hcu q).2⟩⟩ (by omega)
            · rw [hstep,hstepU]
              simp only [List.map_append,List.map_cons,List.map_nil,cty,List.length_append,List.length_cons,List.length_nil,Nat.zero_add,pv,hg,hps]
              rfl
            · rfl
        · simp only [HX,ctx,hv0,sR,PV.dv,w1,forall_eq,List.foldl,bB,aR,DV.ren,upL,aG,aD,↓gos,gop,qA,qB,qC,qD,qE,qF,qG,qH,qI]
          refine ⟨fun he=>?_,fun he=>?_⟩
          · rw [herr he]
            exact dF [12,13] rfl rfl ⟨rfl,rfl⟩
          · subst he
            rw [if_pos rfl,if_pos rfl] at hstep
            have hw0:IntKind.i64.wrap (0+1)=1:=by decide
            refine dO 9 (i+1) ?_ (by simp) ⟨rfl,rfl,rfl,rfl,rfl,rfl,rfl,rfl,rfl,rfl,rfl,rfl,rfl,rfl,trivial⟩ ?_ ⟨by omega,by rw [hstep],by rw [hstep]; simp only; omega,by rw [hstep,hstepU]; exact hcu'⟩ (by omega)
            · rw [hstep,hstepU,hw0,RG _ _ hns]
              rfl
            · rfl
      · have hs:iP c ns p=({ c with other:=c.other++[p] },ns,0):=if_neg hf
        have hsu:DB c ns p u=u:=if_neg hf
        rw [hs] at hstep
        rw [hsu] at hstepU
        have w1:IntKind.i64.wrap ((i:Int)+1)=((i+1:Nat):Int):=by rw [wrap_i64 (by omega) (by omega)]; rfl
        by_cases h0:0≤knI p.n 9
        · by_cases hg:p.g=[]
          · by_cases hps:p.ps=[]
            · have hns:p.n∈ns:=Classical.byContradiction fun h=>hf ⟨h0,hg,hps,h⟩
              have hv0:hB p.n (.int .i64 0) (rH ns)=.int .i64 1:=by rw [uZ,if_pos hns]
              simp only [pv,cty,hg,hps,hv0,decide_eq_true h0,sR,PV.dv,List.map_nil,List.length_nil,aG,aD,↓gos,gop,qA,qB,qC,qD,qE,qF,qG,qH,qI]
              refine ⟨fun h=>absurd h (by decide),fun _=>?_⟩
              have hown:=yT p (hwt p hm).2
              simp only [pv,hg,hps,List.map_nil] at hown
              refine aX hown rfl rfl ?_
              simp only [w1,forall_eq,aG,aD,↓gos,gop,qA,qB,qC,qD,qE,qF,qG,qH,qI]
              refine aO (by omega) (aO (by omega) ?_)
              refine dO 9 (i+1) ?_ (by simp) ⟨rfl,rfl,rfl,rfl,rfl,rfl,rfl,rfl,rfl,rfl,rfl,rfl,rfl,rfl,trivial⟩ ?_ ⟨by omega,by rw [hstep],by rw [hstep]; simp; omega,by rw [hstep,hstepU]; exact hcu⟩ (by omega)
              · rw [hstep,hstepU]
                simp only [List.map_append,List.map_cons,List.map_nil,cty,List.length_append,List.length_cons,List.length_nil,Nat.zero_add,pv,hg,hps,List.map_nil]
                rfl
              · rfl
            · simp only [pv,cty,hg,decide_eq_true h0,List.length_map,aG,aD,↓gos,gop,qA,qB,qC,qD,qE,qF,qG,qH,qI]
              refine ⟨fun h=>absurd (List.eq_nil_of_length_eq_zero (by omega)) hps,fun _=>?_⟩
              have hown:=yT p (hwt p hm).2
              simp only [pv,hg] at hown
              refine aX hown rfl rfl ?_
              simp only [w1,forall_eq,aG,aD,↓gos,gop,qA,qB,qC,qD,qE,qF,qG,qH,qI]
              refine aO (by omega) (aO (by omega) ?_)
              refine dO 9 (i+1) ?_ (by simp) ⟨rfl,rfl,rfl,rfl,rfl,rfl,rfl,rfl,rfl,rfl,rfl,rfl,rfl,rfl,trivial⟩ ?_ ⟨by omega,by rw [hstep],by rw [hstep]; simp; omega,by rw [hstep,hstepU]; exact hcu⟩ (by omega)
              · rw [hstep,hstepU]
                simp only [List.map_append,List.map_cons,List.map_nil,cty,List.length_append,List.length_cons,List.length_nil,Nat.zero_add,pv,hg]
                rfl
              · rfl
          · simp only [pv,cty,decide_eq_true h0,aG,aD,↓gos,gop,qA,qB,qC,qD,qE,qF,qG,qH,qI]
            refine ⟨fun h=>absurd h hg,fun _=>?_⟩
            refine aX (yT p (hwt p hm).2) rfl rfl ?_
            simp only [pv,w1,forall_eq,aG,aD,↓gos,gop,qA,qB,qC,qD,qE,qF,qG,qH,qI]
            refine aO (by omega) (aO (by omega) ?_)
            refine dO 9 (i+1) ?_ (by simp) ⟨rfl,rfl,rfl,rfl,rfl,rfl,rfl,rfl,rfl,rfl,rfl,rfl,rfl,rfl,trivial⟩ ?_ ⟨by omega,by rw [hstep],by rw [hstep]; simp; omega,by rw [hstep,hstepU]; exact hcu⟩ (by omega)
            · rw [hstep,hstepU]
              simp only [List.map_append,List.map_cons,List.map_nil,cty,List.length_append,List.length_cons,List.length_nil,Nat.zero_add]
              rfl
            · rfl
        · simp only [pv,cty,decide_eq_false h0,aG,aD,↓gos,gop,qA,qB,qC,qD,qE,qF,qG,qH,qI]
          refine aX (yT p (hwt p hm).2) rfl rfl ?_
          simp only [pv,w1,forall_eq,aG,aD,↓gos,gop,qA,qB,qC,qD,qE,qF,qG,qH,qI]
          refine aO (by omega) (aO (by omega) ?_)
          refine dO 9 (i+1) ?_ (by simp) ⟨rfl,rfl,rfl,rfl,rfl,rfl,rfl,rfl,rfl,rfl,rfl,rfl,rfl,rfl,trivial⟩ ?_ ⟨by omega,by rw [hstep],by rw [hstep]; simp; omega,by rw [hstep,hstepU]; exact hcu⟩ (by omega)
          · rw [hstep,hstepU]
            simp only [List.map_append,List.map_cons,List.map_nil,cty,List.length_append,List.length_cons,List.length_nil,Nat.zero_add]
            rfl
          · rfl
    · rw [kO]
      simp only [aG,aD,↓gos,gop,qA,qB,qC,qD,qE,qF,qG,qH,qI]
      refine aX YF rfl rfl ?_
      simp only [aG,aD,↓gos,gop,qA,qB,qC,qD,qE,qF,qG,qH,qI]
      refine aX (NL p.n) rfl (by show ((DV.agg (dL p.n)).closed&&_)=true; rw [tA]; rfl) ?_
      simp only [OK,QK,KO,aG,aD,↓gos,gop,qA,qB,qC,qD,qE,qF,qG,qH,qI]
      refine jH ?_ hk
      exact wks rfl (by simp) ⟨rfl,rfl,rfl,rfl,rfl,rfl,rfl,rfl,rfl,rfl,trivial⟩
    · repeat' refine sC ?_ ?_
      all_goals
        rw [kO]
        simp only [aG,aD,↓gos,gop,qA,qB,qC,qD,qE,qF,qG,qH,qI]
        refine aX YF rfl rfl ?_
        simp only [aG,aD,↓gos,gop,qA,qB,qC,qD,qE,qF,qG,qH,qI]
        refine aX (NL p.n) rfl (by show ((DV.agg (dL p.n)).closed&&_)=true; rw [tA]; rfl) ?_
        simp only [OK,QK,KO,aG,aD,↓gos,gop,qA,qB,qC,qD,qE,qF,qG,qH,qI]
        refine jH ?_ hk
        exact wks rfl (by simp) ⟨rfl,rfl,rfl,rfl,rfl,rfl,rfl,rfl,rfl,rfl,trivial⟩
  · have h2:i=l.length:=by omega
    subst h2
    have hfin:ofR l=if cV (ofK l l.length).1=true then ((ofK l l.length).1,0) else (C0,12):=by unfold ofR; rw [if_pos hz]
    have hokS:=hok hz
    rw [hfin]
    generalize ofK l l.length=o at *
    obtain ⟨c,ns,e⟩:=o
    simp only at hz hol hokS
    simp only [cty,aG,aD,↓gos,gop,qA,qB,qC,qD,qE,qF,qG,qH,qI]
    refine iS [7,8] rfl ?_
    generalize ofU l l.length=u at *
    have e1:List.take c.groups.length (List.map sv c.groups++u)=List.map sv c.groups:=List.take_left' (by simp)
    have e3:decide (c.groups.length≤(List.map sv c.groups++u).length)=true:=decide_eq_true (by simp)
    have e2:List.take c.other.length (List.map pv c.other)=List.map pv c.other:=List.take_of_length_le (by simp)
    simp only [e1,e2,e3,List.length_map,Nat.le_refl,decide_true,aG,aD,↓gos,gop,qA,qB,qC,qD,qE,qF,qG,qH,qI]
    refine aX (DA c hokS) rfl rfl ?_
    cases cV c
    · simp only [Bool.false_eq_true,reduceIte,aG,aD,↓gos,gop,qA,qB,qC,qD,qE,qF,qG,qH,qI]
      exact dF [9,10] rfl rfl ⟨rfl,rfl⟩
    · simp only [reduceIte,aG,aD,↓gos,gop,qA,qB,qC,qD,qE,qF,qG,qH,qI]
      exact dF [] rfl rfl ⟨rfl,rfl⟩
end Go.Proofs.Ut
