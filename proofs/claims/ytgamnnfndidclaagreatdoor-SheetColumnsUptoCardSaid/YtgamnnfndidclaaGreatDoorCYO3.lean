/- The library's stable sort of texts: insertion. -/
import Derived.Test.YtgamnnfndidclaaGreatDoorCYFoUtF
import Derived.Test.YtgamnnfndidclaaGreatDoorCYPrB
import Derived.Test.YtgamnnfndidclaaGreatDoorCAiUn
import Derived.Test.YtgamnnfndidclaaGreatDoorCYVcC
import Derived.Test.YtgamnnfndidclaaGreatDoorCLawJid
import Derived.Test.YtgamnnfndidclaaGreatDoorCYFoE
open Nat renaming reduceBEq → qA,reduceAdd → qB,reduceSub → qC,reduceLeDiff → qD,reduceMul → qE
open Int renaming reduceLE → qF,reduceLT → qG,reduceNe → qH,reduceToNat → qI
set_option linter.all false
namespace Go.Proofs.Ut
open Go.Ai
set_option maxRecDepth 100000
def st1 (s:List UInt8):List DV:=[.str s]
theorem KB (x y:List UInt8):aU 185 [.str x,.str y] (.bool (Op.bytesLess x y)):=by
 refine aA c185 (by simp [f185]) ?_
 simp only [f185,↓gos,gop,qA,qB,qC,qD,qE,qF,qG,qH,qI]
 refine ⟨fun h=>aG ?_,fun h=>aG ?_⟩
 ·exact h.symm
 ·exact h.symm
def ND (x y:List UInt8):Int:=if Op.bytesLess x y=true then -1 else if Op.bytesLess y x=true then 1 else 0
theorem aFu (x y:List UInt8):aU 226 [.str x,.str y,.eptr [.fn 185 []] 0] (.int .i64 (ND x y)):=by
 refine aA c226 (by simp [f226]) ?_
 simp only [f226,↓gos,gop,qA,qB,qC,qD,qE,qF,qG,qH,qI]
 refine aB (KB x y) rfl rfl ?_
 unfold ND
 cases Op.bytesLess x y
 ·simp only [↓gos,gop,qA,qB,qC,qD,qE,qF,qG,qH,qI]
  refine aB (KB y x) rfl rfl ?_
  cases Op.bytesLess y x
  ·simp only [↓gos,gop,qA,qB,qC,qD,qE,qF,qG,qH,qI]
   exact mK rfl
  ·simp only [↓gos,gop,qA,qB,qC,qD,qE,qF,qG,qH,qI]
   exact mK rfl
 ·simp only [↓gos,gop,qA,qB,qC,qD,qE,qF,qG,qH,qI]
  exact mK rfl
abbrev FC:DV:=.fn 226 [.eptr [.fn 185 []] 0]
theorem aDT (l:List (List UInt8))(a b:Nat)(c:Option Nat)(hl:l.length<1000000000)(h0:0<l.length)(ha:a<1000000000)(hb:b≤l.length) :
  fN ED true 307 [.arr 1 (l.map st1)] [.osl 1 0 0 l.length c,.int .i64 a,.int .i64 b,FC] fun h d=>h=[.arr 1 ((oH Op.bytesLess [] a (b - a - 1) l).map st1)]∧d=.tup []:=by
 refine mV c307 (by simp [f307]) (by simp) ?_
 simp only [f307,iM,fK,↓gos,gop,qA,qB,qC,qD,qE,qF,qG,qH,qI]
 intro v hv
 rw [wrap_i64 (by omega) (by omega)] at hv
 subst hv
 refine aJ (γ:=Nat) (fun k=>[(1000000,.osl 1 0 0 l.length c),(8,.int .i64 (a+1+k:Nat)),(3,FC),(2,.int .i64 b),(1,.int .i64 a),(0,.osl 1 0 0 l.length c)]) (fun k=>[.arr 1 ((oH Op.bytesLess [] a k l).map st1)]) (fun k=>k≤b - a - 1) (fun k=>b - k) 0
  (wks rfl (by simp) ⟨rfl,rfl,rfl,rfl,rfl,rfl,trivial⟩) (by omega) fun k hk=>?_
 have hkl:=DB (lt:=Op.bytesLess) (d0:=[]) a k l
 have hst:oH Op.bytesLess [] a (k+1) l=sG Op.bytesLess [] a (a+(k+1)) (oH Op.bytesLess [] a k l):=rfl
 generalize hm:oH Op.bytesLess [] a k l=m at hkl hst
 simp only [f307l1,iM,fK,↓gos,gop,qA,qB,qC,qD,qE,qF,qG,qH,qI]
 refine ⟨fun h1=>?_,fun h1=>?_⟩
 ·refine aJ (γ:=List (List UInt8)×Nat) (fun g=>[(1000000,.osl 1 0 0 l.length c),(9,.int .i64 g.2),(8,.int .i64 (a+1+k:Nat)),(3,FC),(2,.int .i64 b),(1,.int .i64 a),(0,.osl 1 0 0 l.length c)]) (fun g=>[.arr 1 (g.1.map st1)])
   (fun g=>g.1.length=l.length∧g.2≤a+1+k∧sG Op.bytesLess [] a g.2 g.1=oH Op.bytesLess [] a (k+1) l) (fun g=>g.2) (m,a+1+k)
   (wks rfl (by simp) ⟨rfl,rfl,rfl,rfl,rfl,rfl,rfl,trivial⟩) ⟨hkl,Nat.le_refl _,by rw [hst]; congr 1; omega⟩ fun g hg=>?_
  obtain ⟨q,j⟩:=g
  obtain ⟨hq,hj,hI⟩:=hg
  simp only at hq hj hI
  simp only [f307l0,iM,fK,↓gos,gop,qA,qB,qC,qD,qE,qF,qG,qH,qI]
  refine ⟨fun h2=>?_,fun h2=>?_⟩
  ·obtain ⟨j,rfl⟩:∃ j',j=j' + 1:=⟨j - 1,by omega⟩
   have w1:IntKind.i64.wrap (((j+1:Nat):Int) - 1)=(j:Int):=by rw [wrap_i64 (by omega) (by omega)]; omega
   have e1:((j+1:Nat):Int)<(l.length:Int):=by omega
   have e2:(j:Int)<(l.length:Int):=by omega
   obtain ⟨x,hx⟩:∃ x,q[j+1]?=some x:=⟨_,List.getElem?_eq_getElem (by omega)⟩
   obtain ⟨y,hy⟩:∃ y,q[j]?=some y:=⟨_,List.getElem?_eq_getElem (by omega)⟩
   have hu:sG Op.bytesLess [] a (j+1) q=if a<j+1∧Op.bytesLess (q.getD (j+1) []) (q.getD j [])=true then sG Op.bytesLess [] a j (sw2 [] q (j+1)) else q:=rfl
   have hsw:sw2 [] q (j+1)=(q.set (j+1) (q.getD j [])).set j (q.getD (j+1) []):=rfl
   have hwl:=KH (d0:=[]) q (j+1)
   rw [List.getD_eq_getElem?_getD,List.getD_eq_getElem?_getD,hx,hy,Option.getD_some,Option.getD_some] at hu hsw
   simp only [w1,forall_eq,e1,e2,hx,hy,st1,↓gos,gop,qA,qB,qC,qD,qE,qF,qG,qH,qI]
   refine aB (aFu x y) rfl rfl ?_
   cases hlt:Op.bytesLess x y
   ·have hend:q=oH Op.bytesLess [] a (k+1) l:=by rw [← hI,hu,if_neg (by rw [hlt]; simp)]
    obtain ⟨n,hn,hn0⟩:∃ n,ND x y=n∧¬ n<0:=⟨_,rfl,by unfold ND; rw [hlt]; split <;> simp_all; split <;> omega⟩
    rw [hn]
    have w2:IntKind.i64.wrap (((a+1+k:Nat):Int)+1)=((a+1+(k+1):Nat):Int):=by rw [wrap_i64 (by omega) (by omega)]; omega
    simp only [hn0,w2,forall_eq,iM,fK,↓gos,gop,qA,qB,qC,qD,qE,qF,qG,qH,qI]
    exact aN (k+1) (by rw [hend]) (by simp) ⟨rfl,rfl,rfl,rfl,rfl,rfl,trivial⟩ (by omega) (by omega)
   ·rw [if_pos ⟨by omega,hlt⟩] at hu
    rw [show ND x y = -1 by unfold ND; rw [hlt]; rfl]
    have e3:j+1<q.length:=by omega
    have e4:j<q.length:=by omega
    simp only [w1,forall_eq,e1,e2,hx,hy,st1,iM,fK,↓tG,List.getElem?_map,List.getElem?_set,List.length_map,e3,e4,Option.map_some,reduceIte,ite_self,↓gos,gop,qA,qB,qC,qD,qE,qF,qG,qH,qI]
    refine aN (sw2 [] q (j+1),j) ?_ (by simp) ⟨rfl,rfl,rfl,rfl,rfl,rfl,rfl,trivial⟩ ⟨hwl.trans hq,by simp only; omega,by rw [← hI,hu]⟩ (Nat.lt_succ_self j)
    simp only [hsw,List.map_set]
    rfl
  ·have hend:q=oH Op.bytesLess [] a (k+1) l:=by
    rw [← hI]
    cases j with
    | zero=>rfl
    | succ j=>unfold sG; rw [if_neg (by omega)]
   have w2:IntKind.i64.wrap (((a+1+k:Nat):Int)+1)=((a+1+(k+1):Nat):Int):=by rw [wrap_i64 (by omega) (by omega)]; omega
   rw [w2]
   intro v hv
   subst hv
   exact aN (k+1) (by rw [hend]) (by simp) ⟨rfl,rfl,rfl,rfl,rfl,rfl,trivial⟩ (by omega) (by omega)
 ·have hk2:k=b - a - 1:=by omega
  subst hk2
  exact GI rfl rfl ⟨by rw [hm],rfl⟩ rfl h0 rfl
end Go.Proofs.Ut

namespace Go.Ai
theorem NU {E:Env}{L:List (Nat×DV)}{h:List AObj}{f:Nat}{ds ds' : List DV}{post:List AObj→DV→Prop}{K:DV→St→Prop}{i sz:Nat}{es:List (List DV)}(hi:h[i]?=some (.arr sz es))(hc:fN E true f [.arr sz es] ds' post)(he:ds.map (DV.dn [i] h)=ds')
  (hin:∀ h' d,post h' d→(d.free&&h'.all iP)=true) (hk:∀ h' d,post h' d→∃ es',h' = [.arr sz es']∧d.closed=true∧K d (sta L (h.set i (.arr sz es')))):acall E true f ds K (sta L h):=by
 have hlt:i<h.length:=(List.getElem?_eq_some_iff.1 hi).1
 have hg:h.getD i .dead=.arr sz es:=by simp [hi]
 refine .go ?_
 refine .inr (.inr ⟨true,[i],post,.inl rfl,by simp,fun l hl=>by simp at hl; subst hl; exact hlt,?_,fun h' d hp=>?_⟩)
 ·rw [show (sta L h).h=h from rfl,he]
  simp only [List.map_cons,List.map_nil,hg,iU]
  exact hc
 ·have hfr:=hin h' d hp
  obtain ⟨es',rfl,hd,hk⟩:=hk h' d hp
  refine ⟨.inr hfr,?_⟩
  rw [aZ hd]
  have e:(sta L h).handed true [i] [AObj.arr sz es']=sta L (h.set i (.arr sz es')):=by
   unfold St.handed
   simp [aS,bP,sta]
  rw [e]; exact hk
end Go.Ai
namespace Go.Proofs.Ut
open Go.Ai
set_option maxRecDepth 100000
theorem SB (l:List (List UInt8)):((DV.tup []).free&&[AObj.arr 1 (l.map st1)].all iP)=true:=by simp [DV.free,DV.free.freeAll,iP,st1]
theorem ME (l:List (List UInt8))(c:Option Nat)(hl:l.length<20)(h0:0<l.length) :
  fN ED true 275 [.arr 1 (l.map st1)] [.osl 1 0 0 l.length c,.int .i64 l.length,FC] fun h d=>h=[.arr 1 ((iJ Op.bytesLess l).map st1)]∧d=.tup []:=by
 refine mV c275 (by simp [f275]) (by simp) ?_
 simp only [f275,iM,fK,↓gos,gop,qA,qB,qC,qD,qE,qF,qG,qH,qI]
 refine vY 1 ?_
 have e1:¬ (20:Int)≤l.length:=by omega
 have e2:¬ (20:Int)<l.length:=by omega
 simp only [f275l0,e1,iM,fK,↓gos,gop,qA,qB,qC,qD,qE,qF,qG,qH,qI]
 refine BE (i:=0) rfl (aDT l 0 l.length c (by omega) h0 (by omega) (Nat.le_refl _)) rfl rfl ?_
 rintro h' d ⟨rfl,rfl⟩
 refine ⟨_,rfl,rfl,?_⟩
 rw [Nat.sub_zero,RY bl_tot]
 simp only [iM,fK,↓gos,gop,qA,qB,qC,qD,qE,qF,qG,qH,qI]
 refine vY 1 ?_
 simp only [f275l2,e2,iM,fK,↓gos,gop,qA,qB,qC,qD,qE,qF,qG,qH,qI]
 exact GI rfl rfl ⟨rfl,rfl⟩ rfl h0 rfl
theorem aAY (l:List (List UInt8))(c:Option Nat)(hl:l.length<20)(h0:0<l.length) :
  fN ED true 225 [.arr 1 (l.map st1)] [.osl 1 0 0 l.length c,FC] fun h d=>h=[.arr 1 ((iJ Op.bytesLess l).map st1)]∧d=.tup []:=by
 refine mV c225 (by simp [f225]) (by simp) ?_
 simp only [f225,iM,fK,↓gos,gop,qA,qB,qC,qD,qE,qF,qG,qH,qI]
 refine BE (i:=0) rfl (ME l c hl h0) rfl rfl ?_
 rintro h' d ⟨rfl,rfl⟩
 refine ⟨_,rfl,rfl,?_⟩
 simp only [iM,fK,↓gos,gop,qA,qB,qC,qD,qE,qF,qG,qH,qI]
 exact GI rfl rfl ⟨rfl,rfl⟩ rfl h0 rfl
theorem OE (l:List (List UInt8))(hl:l.length<20)(h0:l≠[]) :
  ACalls ED 184 [] [.sl 1 (l.map sv),.fn 185 []] fun h d=>h=[.arr 1 ((iJ Op.bytesLess l).map sv)]∧d=.osl 1 0 0 l.length none:=by
 have hp:0<l.length:=List.length_pos_iff.2 h0
 refine aA c184 (by simp [f184]) ?_
 simp only [f184,↓gos,gop,qA,qB,qC,qD,qE,qF,qG,qH,qI]
 refine iS (IA l h0 (by omega)) (by simp [DV.closed,DV.closed.closedAll]) ?_
 simp only [DV.ren,aS,↓gos,gop,qA,qB,qC,qD,qE,qF,qG,qH,qI]
 refine NU (i:=2) rfl (aAY l none hl hp) rfl ?_ ?_
 ·rintro h' d ⟨rfl,rfl⟩
  exact SB _
 ·rintro h' d ⟨rfl,rfl⟩
  refine ⟨_,rfl,rfl,?_⟩
  simp only [↓gos,gop,qA,qB,qC,qD,qE,qF,qG,qH,qI]
  exact bJ rfl rfl rfl
theorem id0 (i:Nat)(h:i<1):[0][i]?=some i:=by
 have:i=0:=by omega
 subst this
 rfl
def cpA (l:List (List UInt8))(i:Nat):List (List UInt8):=cpK [] l i++l.drop (cpK [] l i).length
theorem YJ {l:List (List UInt8)}{i:Nat}(hi:i≤l.length):(cpA l i).length=l.length:=by
 have:=vR (d0:=[]) l i
 simp [cpA]; omega
theorem TY {l:List (List UInt8)}{i j:Nat}(h:(cpK [] l i).length≤j):(cpA l i)[j]?=l[j]?:=by
 unfold cpA
 rw [List.getElem?_append_right h,List.getElem?_drop]
 congr 1; omega
theorem aBE {l:List (List UInt8)}{i:Nat}{x:List UInt8}(hx:cpK [] l (i+1)=cpK [] l i++[x])(hi:i<l.length):(cpA l i).set (cpK [] l i).length x=cpA l (i+1):=by
 have:=vR (d0:=[]) l i
 unfold cpA
 rw [List.set_append_right _ _ (Nat.le_refl _),Nat.sub_self,List.drop_eq_getElem_cons (by omega:(cpK [] l i).length<l.length),List.set_cons_zero,hx]
 simp
theorem HK (l:List (List UInt8))(hl:l.length<1000000000) :
  ACalls ED 156 [.arr 1 (l.map st1)] [.osl 1 0 0 l.length none] fun h d=>h=[.arr 1 ((cpK [] l l.length).map st1++List.replicate (l.length - (cpK [] l l.length).length) [.str []])]∧d=.osl 1 0 0 (cpK [] l l.length).length none:=by
 refine aA c156 (by simp [f156]) ?_
 simp only [f156,↓gos,gop,qA,qB,qC,qD,qE,qF,qG,qH,qI]
 have same:(∀ j,0<j→j<l.length→l.getD j []≠l.getD (j - 1) [])→[AObj.arr 1 ((cpK [] l l.length).map st1++List.replicate (l.length - (cpK [] l l.length).length) [.str []])]=[.arr 1 (l.map st1)]∧(cpK [] l l.length).length=l.length:=fun h=>by
  have e:cpK [] l l.length=l:=by rw [RK l _ (Nat.le_refl _) h,List.take_length]
  rw [e]; simp
 refine ⟨fun h2=>?_,fun h2=>?_⟩
 ·obtain ⟨s1,s2⟩:=same fun j h3 h4=>by omega
  refine iZ [0] (by simp) (Nat.le_refl _) id0 (by simp) (by simp [rvd,DV.inL]) (by simp [inO]) rfl rfl ?_
  rw [s1,s2]
  simp [aS,rvd,DV.ren]
 ·refine aJ (γ:=Nat) (fun k=>[(3,.int .i64 k),(0,.osl 1 0 0 l.length none)]) (fun k=>[.arr 1 (l.map st1),.arr 1 []]) (fun k=>1≤k∧k≤l.length∧∀ j,0<j→j<k→l.getD j []≠l.getD (j - 1) []) (fun k=>l.length - k) 1
   (wks rfl (by simp) ⟨rfl,rfl,trivial⟩) ⟨by omega,by omega,fun j h3 h4=>by omega⟩ fun k hk=>?_
  obtain ⟨hk1,hk2,hk3⟩:=hk
  simp only [f156l1,↓gos,gop,qA,qB,qC,qD,qE,qF,qG,qH,qI]
  refine ⟨fun h3=>?_,fun h3=>?_⟩
  ·have h3' : k<l.length:=by omega
   have w1:IntKind.i64.wrap ((k:Int) - 1)=((k - 1:Nat):Int):=by rw [wrap_i64 (by omega) (by omega)]; omega
   have w2:IntKind.i64.wrap ((k:Int)+1)=((k+1:Nat):Int):=by rw [wrap_i64 (by omega) (by omega)]; rfl
   have e2:((k - 1:Nat):Int)<(l.length:Int):=by omega
   obtain ⟨x,hx⟩:∃ x,l[k]?=some x:=⟨_,List.getElem?_eq_getElem (by omega)⟩
   obtain ⟨y,hy⟩:∃ y,l[k - 1]?=some y:=⟨_,List.getElem?_eq_getElem (by omega)⟩
   have gx:l.getD k []=x:=by rw [List.getD_eq_getElem?_getD,hx]; rfl
   have gy:l.getD (k - 1) []=y:=by rw [List.getD_eq_getElem?_getD,hy]; rfl
   simp only [w1,forall_eq,h3,e2,hx,hy,st1,↓gos,gop,qA,qB,qC,qD,qE,qF,qG,qH,qI]
   refine ⟨fun q=>?_,fun q=>?_⟩
   ·subst q
    have hdup:cpK [] l (k+1)=cpK [] l k:=by
     conv=>lhs; unfold cpK
     rw [if_pos ⟨by omega,by rw [gx,gy]⟩]
    have hid:cpK [] l k=l.take k:=RK l k (by omega) hk3
    have hlen:(cpK [] l (k+1)).length=k:=by rw [hdup,hid]; simp; omega
    have hA1:cpA l (k+1)=l:=by unfold cpA; rw [hlen,hdup,hid]; simp
    refine aK (by omega) ?_
    refine aJ (γ:=Nat) (fun q=>[(5,.int .i64 q),(4,.osl 1 0 k (l.length - k) none),(3,.int .i64 (cpK [] l (k+q)).length),(0,.osl 1 0 0 l.length none)]) (fun q=>[.arr 1 ((cpA l (k+q)).map st1),.arr 1 []])
     (fun q=>1≤q∧k+q≤l.length∧(cpK [] l (k+q)).length+1≤k+q) (fun q=>l.length - q) 1
     (wks (by rw [hA1]) (by simp) ⟨rfl,rfl,by rw [hlen]; rfl,rfl,trivial⟩) ⟨by omega,by omega,by omega⟩ fun q hq=>?_
    obtain ⟨hq1,hq2,hq3⟩:=hq
    have hAl:=YJ hq2
    simp only [f156l0,↓gos,gop,qA,qB,qC,qD,qE,qF,qG,qH,qI]
    refine ⟨fun h4=>?_,fun h4=>?_⟩
    ·have h4' : k+q<l.length:=by omega
     have w3:IntKind.i64.wrap ((q:Int) - 1)=((q - 1:Nat):Int):=by rw [wrap_i64 (by omega) (by omega)]; omega
     have w4:IntKind.i64.wrap ((q:Int)+1)=((q+1:Nat):Int):=by rw [wrap_i64 (by omega) (by omega)]; rfl
     have w5:IntKind.i64.wrap (((cpK [] l (k+q)).length:Int)+1)=(((cpK [] l (k+q)).length+1:Nat):Int):=by rw [wrap_i64 (by omega) (by omega)]; rfl
     have e3:((q - 1:Nat):Int)<((l.length - k:Nat):Int):=by omega
     have e4:((cpK [] l (k+q)).length:Int)<(l.length:Int):=by omega
     obtain ⟨u,hu⟩:∃ u,l[k+q]?=some u:=⟨_,List.getElem?_eq_getElem h4'⟩
     obtain ⟨v,hv⟩:∃ v,l[k+(q - 1)]?=some v:=⟨_,List.getElem?_eq_getElem (by omega)⟩
     have gu:l.getD (k+q) []=u:=by rw [List.getD_eq_getElem?_getD,hu]; rfl
     have gv:l.getD (k+q - 1) []=v:=by rw [List.getD_eq_getElem?_getD,show k+q - 1=k+(q - 1) by omega,hv]; rfl
     have hu' : (cpA l (k+q))[k+q]?=some u:=by rw [TY (by omega),hu]
     have hv' : (cpA l (k+q))[k+(q - 1)]?=some v:=by rw [TY (by omega),hv]
     simp only [w3,w4,forall_eq,h4,e3,hu',hv',st1,↓gos,gop,qA,qB,qC,qD,qE,qF,qG,qH,qI]
     refine ⟨fun r=>?_,fun r=>?_⟩
     ·have hnx:cpK [] l (k+q+1)=cpK [] l (k+q)++[u]:=by
       conv=>lhs; unfold cpK
       rw [if_neg (fun z=>r (by rw [← gu,← gv]; exact z.2)),gu]
      have hset:=aBE hnx h4'
      refine aK (by omega) (aL [] (by omega) ?_)
      refine aN (q+1) ?_ (by simp) ⟨rfl,rfl,?_,rfl,trivial⟩ ⟨by omega,by omega,?_⟩ (by omega)
      ·rw [show k+(q+1)=k+q+1 from rfl,← hset,List.map_set]; rfl
      ·show DV.int .i64 _=DV.int .i64 _
       rw [w5,show k+(q+1)=k+q+1 from rfl,hnx]; simp
      ·rw [show k+(q+1)=k+q+1 from rfl,hnx]; simp; omega
     ·subst r
      have hnx:cpK [] l (k+(q+1))=cpK [] l (k+q):=by
       rw [show k+(q+1)=k+q+1 from rfl]
       conv=>lhs; unfold cpK
       rw [if_pos ⟨by omega,by rw [gu,gv]⟩]
      refine aN (q+1) ?_ (by simp) ⟨rfl,rfl,?_,rfl,trivial⟩ ⟨by omega,by omega,by rw [hnx]; omega⟩ (by omega)
      ·unfold cpA; rw [hnx]
      ·rw [hnx]; rfl
    ·have hq:k+q=l.length:=by omega
     rw [hq] at hq3 hAl
     simp only [hq]
     have hm:=vR (d0:=[]) l l.length
     have htk:((cpA l l.length).map st1).take (cpK [] l l.length).length=(cpK [] l l.length).map st1:=by
      unfold cpA; simp
     refine aK (by omega) (JN (E:=ED) rfl (by simp; omega) ?_)
     have hdr:List.drop ((cpK [] l l.length).length+(l.length - (cpK [] l l.length).length)) ((cpA l l.length).map st1)=[]:=List.drop_eq_nil_of_le (by simp; omega)
     rw [htk,hdr]
     simp only [↓gos,gop,qA,qB,qC,qD,qE,qF,qG,qH,qI]
     refine aK (by omega) ?_
     exact iZ [0] (by simp) (Nat.le_refl _) id0 (by simp) (by simp [rvd,DV.inL]) (by simp [inO]) rfl rfl ⟨by simp [aS],by simp [rvd,DV.ren]⟩
   ·rw [w2]
    refine aN (k+1) rfl (by simp) ⟨rfl,rfl,trivial⟩ ⟨by omega,by omega,fun j h4 h5=>?_⟩ (by omega)
    rcases Nat.lt_or_ge j k with h6|h6
    ·exact hk3 j h4 h6
    ·obtain rfl:j=k:=by omega
     rw [gx,gy]; exact q
  ·obtain rfl:k=l.length:=by omega
   obtain ⟨s1,s2⟩:=same hk3
   refine iZ [0] (by simp) (Nat.le_refl _) id0 (by simp) (by simp [rvd,DV.inL]) (by simp [inO]) rfl rfl ?_
   rw [s1,s2]
   simp [aS,rvd,DV.ren]
theorem TN {F:List Nat}{h:List AObj}{sz i n:Nat}{es r:List (List DV)}{c:Option Nat}(hi:h[i]?=some (.arr sz es))(hn:n≤es.length)(hr:es.take n=r)(hF:F.contains i=true):rvd (eE F h [.osl sz i 0 n c])=.sl sz r:=by
 subst hr
 have hF' : i∈F:=by simpa using hF
 simp [rvd,eE,cJ,DV.low,frz,hF',hi,hn]
theorem KY (s:List UInt8):aU 187 [.str s] (.bool (decide (s=[]))):=by
 refine aA c187 (by simp [f187]) ?_
 simp only [f187,↓gos,gop,qA,qB,qC,qD,qE,qF,qG,qH,qI]
 refine ⟨fun h=>aG ?_,fun h=>aG ?_⟩
 ·rw [decide_eq_true h]
 ·rw [decide_eq_false h]
theorem jZ {α:Type}{l:List α}{j:Nat}(h:j<l.length)(d:α):l.take (j+1)=l.take j++[l.getD j d]:=by
 rw [List.getD_eq_getElem?_getD,List.getElem?_eq_getElem h]; simp
theorem DO (x:List UInt8):∀ l:List (List UInt8),x∉l.take (l.idxOf x)
 | []=>by simp
 | y::l=>by
  have ih:=DO x l
  by_cases h:y=x
  ·subst h; simp
  ·have hb:(y == x)=false:=by simpa using h
   rw [List.idxOf_cons,hb]
   simp only [cond_false,List.take_succ_cons,List.mem_cons,not_or]
   exact ⟨fun e=>h e.symm,ih⟩
def eI (l:List (List UInt8)):Int:=if []∈l then (l.idxOf []:Nat) else -1
theorem OZ (l:List (List UInt8))(hl:l.length<1000000000):aU 176 [.sl 1 (l.map st1),.fn 187 []] (.int .i64 (eI l)):=by
 refine aA c176 (by simp [f176]) ?_
 simp only [f176,↓gos,gop,qA,qB,qC,qD,qE,qF,qG,qH,qI]
 refine aJ (γ:=Nat) (fun i=>[(8,.int .i64 i),(7,.int .i64 l.length),(0,.sl 1 (l.map st1)),(1,.fn 187 [])]) (fun _=>[]) (fun i=>i≤l.length∧[]∉l.take i) (fun i=>l.length - i) 0
  (wks rfl (by simp) ⟨rfl,rfl,rfl,rfl,trivial⟩) ⟨by omega,by simp⟩ fun i hi=>?_
 obtain ⟨hi,ht⟩:=hi
 simp only [f176l0,↓gos,gop,qA,qB,qC,qD,qE,qF,qG,qH,qI]
 refine ⟨fun h=>?_,fun h=>?_⟩
 ·have h2:i<l.length:=by omega
  refine aL [] (by simpa using h2) ?_
  have htk:=jZ h2 []
  have hdr:l=l.take i++l.getD i []::l.drop (i+1):=by
   rw [List.getD_eq_getElem?_getD,List.getElem?_eq_getElem h2]; simp
  have hti:(l.take i).length=i:=by simp; omega
  generalize l.getD i []=s at *
  simp only [st1,↓gos,gop,qA,qB,qC,qD,qE,qF,qG,qH,qI]
  refine aB (KY s) rfl rfl ?_
  by_cases hs:s=[]
  ·subst hs
   simp only [decide_true,↓gos,gop,qA,qB,qC,qD,qE,qF,qG,qH,qI]
   refine mK ?_
   unfold eI
   have hm:[]∈l:=by rw [hdr]; simp
   have he:l.idxOf []=i:=by rw [hdr,List.idxOf_append,if_neg ht,List.idxOf_cons_self,hti,Nat.zero_add]
   rw [if_pos hm,he]
  ·rw [decide_eq_false hs]
   simp only [↓gos,gop,qA,qB,qC,qD,qE,qF,qG,qH,qI]
   intro v hv
   rw [wrap_i64 (by omega) (by omega)] at hv
   subst hv
   refine aN (i+1) rfl (by simp) ⟨rfl,rfl,rfl,rfl,trivial⟩ ⟨by omega,?_⟩ (by omega)
   rw [htk]; simp [ht,Ne.symm hs]
 ·have h2:i=l.length:=by omega
  subst h2
  rw [List.take_length] at ht
  refine mK ?_
  unfold eI
  rw [if_neg ht]
def flK (l:List (List UInt8))(j:Nat):List (List UInt8):=(l.take j).filter fun s => !decide (s=[])
def flA (l:List (List UInt8))(j:Nat):List (List UInt8):=flK l j++l.drop (flK l j).length
theorem HC (l:List (List UInt8))(j:Nat):(flK l j).length≤j:=Nat.le_trans (List.length_filter_le _ _) (by simp; omega)
theorem aCk {l:List (List UInt8)}{i:Nat}(hi:i≤l.length):(flA l i).length=l.length:=by
 have:=HC l i
 simp [flA]; omega
theorem aHf {l:List (List UInt8)}{i j:Nat}(h:(flK l i).length≤j):(flA l i)[j]?=l[j]?:=by
 unfold flA
 rw [List.getElem?_append_right h,List.getElem?_drop]
 congr 1; omega
theorem aBy {l:List (List UInt8)}{i:Nat}{x:List UInt8}(hx:flK l (i+1)=flK l i++[x])(hi:i<l.length):(flA l i).set (flK l i).length x=flA l (i+1):=by
 have:=HC l i
 unfold flA
 rw [List.set_append_right _ _ (Nat.le_refl _),Nat.sub_self,List.drop_eq_getElem_cons (by omega:(flK l i).length<l.length),List.set_cons_zero,hx]
 simp
theorem VZ {l:List (List UInt8)}{i:Nat}(h:[]∉l.take i):flK l i=l.take i:=by
 unfold flK
 rw [List.filter_eq_self]
 intro s hs
 have:s≠[]:=fun e=>h (e▸hs)
 simp [this]
theorem LF (l:List (List UInt8))(tl:List (List DV))(hl:l.length<1000000000) :
  ACalls ED 186 [.arr 1 (l.map st1++tl)] [.osl 1 0 0 l.length none,.fn 187 []] fun h d=>h=[.arr 1 ((flK l l.length).map st1++(List.replicate (l.length - (flK l l.length).length) [.str []]++tl))]∧d=.osl 1 0 0 (flK l l.length).length none:=by
 refine aA c186 (by simp [f186]) ?_
 simp only [f186,↓gos,gop,qA,qB,qC,qD,qE,qF,qG,qH,qI]
 refine aB (OZ l hl) (by simp [DV.dn,DV.low,DV.low.lowAll]) rfl ?_
 simp only [↓gos,gop,qA,qB,qC,qD,qE,qF,qG,qH,qI]
 unfold eI
 by_cases hm:[]∈l
 ·rw [if_pos hm]
  have hil:=List.idxOf_lt_length_of_mem hm
  have hin:[]∉l.take (l.idxOf []):=DO [] l
  have e1:(((l.idxOf []:Nat):Int) = -1)=False:=by simp
  have w1:IntKind.i64.wrap (((l.idxOf []:Nat):Int)+1)=((l.idxOf []+1:Nat):Int):=by rw [wrap_i64 (by omega) (by omega)]; rfl
  have hat:l[l.idxOf []]?=some []:=by rw [List.getElem?_eq_getElem hil]; simp
  generalize l.idxOf []=k at *
  simp only [e1,w1,forall_eq,↓gos,gop,qA,qB,qC,qD,qE,qF,qG,qH,qI]
  have hk0:flK l k=l.take k:=VZ hin
  have hk1:flK l (k+1)=l.take k:=by
   unfold flK
   rw [jZ hil [],List.getD_eq_getElem?_getD,hat,List.filter_append]
   have:=hk0
   unfold flK at this
   rw [this]; simp
  have hA:flA l (k+1)=l:=by unfold flA; rw [hk1]; simp [Nat.min_eq_left (Nat.le_of_lt hil)]
  have hle:(flK l (k+1)).length=k:=by rw [hk1]; simp; omega
  refine aJ (γ:=Nat) (fun j=>[(6,.int .i64 j),(5,.int .i64 (flK l j).length),(1,.fn 187 []),(0,.osl 1 0 0 l.length none)]) (fun j=>[.arr 1 ((flA l j).map st1++tl),.arr 1 []])
   (fun j=>j≤l.length∧(flK l j).length<j) (fun j=>l.length - j) (k+1)
   (wks (by rw [hA]) (by simp) ⟨rfl,by rw [hle]; rfl,rfl,rfl,trivial⟩) ⟨by omega,by omega⟩ fun j hj=>?_
  obtain ⟨hj1,hj2⟩:=hj
  have hAl:=aCk hj1
  simp only [f186l0,↓gos,gop,qA,qB,qC,qD,qE,qF,qG,qH,qI]
  refine ⟨fun h4=>?_,fun h4=>?_⟩
  ·have h4' : j<l.length:=by omega
   have w3:IntKind.i64.wrap ((j:Int)+1)=((j+1:Nat):Int):=by rw [wrap_i64 (by omega) (by omega)]; rfl
   have w5:IntKind.i64.wrap (((flK l j).length:Int)+1)=(((flK l j).length+1:Nat):Int):=by rw [wrap_i64 (by omega) (by omega)]; rfl
   obtain ⟨u,hu⟩:∃ u,l[j]?=some u:=⟨_,List.getElem?_eq_getElem h4'⟩
   have hu' : ((flA l j).map st1++tl)[j]?=some (st1 u):=by
    rw [List.getElem?_append_left (by simp; omega),List.getElem?_map,aHf (by omega),hu]; rfl
   have hnx:flK l (j+1)=flK l j++(if u=[] then [] else [u]):=by
    unfold flK
    rw [jZ h4' [],List.getD_eq_getElem?_getD,hu,List.filter_append]
    by_cases hz:u=[] <;> simp [hz]
   simp only [w3,forall_eq,h4,hu',st1,↓gos,gop,qA,qB,qC,qD,qE,qF,qG,qH,qI]
   refine aB (KY u) rfl rfl ?_
   by_cases hz:u=[]
   ·rw [if_pos hz,List.append_nil] at hnx
    rw [decide_eq_true hz]
    simp only [w3,forall_eq,↓gos,gop,qA,qB,qC,qD,qE,qF,qG,qH,qI]
    refine aN (j+1) ?_ (by simp) ⟨rfl,by rw [hnx]; rfl,rfl,rfl,trivial⟩ ⟨by omega,by rw [hnx]; omega⟩ (by omega)
    unfold flA; rw [hnx]
   ·rw [if_neg hz] at hnx
    have hset:=aBy hnx h4'
    have e5:((flK l j).length:Int)<(l.length:Int):=by omega
    obtain ⟨z,hz'⟩:∃ z,((flA l j).map st1++tl)[(flK l j).length]?=some [z]:=by
     refine ⟨.str ((flA l j).getD (flK l j).length []),?_⟩
     rw [List.getElem?_append_left (by simp; omega),List.getElem?_map,List.getD_eq_getElem?_getD,List.getElem?_eq_getElem (by omega)]; rfl
    rw [decide_eq_false hz]
    simp only [w3,w5,e5,hz',forall_eq,↓gos,gop,qA,qB,qC,qD,qE,qF,qG,qH,qI]
    refine aN (j+1) ?_ (by simp) ⟨rfl,by rw [hnx]; simp; rfl,rfl,rfl,trivial⟩ ⟨by omega,by rw [hnx]; simp; omega⟩ (by omega)
    rw [← hset,List.map_set,List.set_append_left _ _ (by simp; omega)]; rfl
  ·obtain rfl:j=l.length:=by omega
   have htk:((flA l l.length).map st1++tl).take (flK l l.length).length=(flK l l.length).map st1:=by
    rw [List.take_append_of_le_length (by simp; omega)]
    unfold flA; simp
   have hdr:((flA l l.length).map st1++tl).drop ((flK l l.length).length+(l.length - (flK l l.length).length))=tl:=by
    rw [show (flK l l.length).length+(l.length - (flK l l.length).length)=((flA l l.length).map st1).length by simp; omega]
    simp
   refine aK (by omega) (JN (E:=ED) rfl (by simp; omega) ?_)
   rw [htk,hdr]
   simp only [↓gos,gop,qA,qB,qC,qD,qE,qF,qG,qH,qI]
   refine aK (by omega) ?_
   exact iZ [0] (by simp) (Nat.le_refl _) id0 (by simp) (by simp [rvd,DV.inL]) (by simp [inO]) rfl rfl ⟨by simp [aS],by simp [rvd,DV.ren]⟩
 ·rw [if_neg hm]
  have e:flK l l.length=l:=by rw [VZ (by rw [List.take_length]; exact hm),List.take_length]
  simp only [↓gos,gop,qA,qB,qC,qD,qE,qF,qG,qH,qI]
  exact iZ [0] (by simp) (Nat.le_refl _) id0 (by simp) (by simp [rvd,DV.inL]) (by simp [inO]) rfl rfl ⟨by rw [e]; simp [aS],by rw [e]; simp [rvd,DV.ren]⟩
theorem OO (l:List (List UInt8))(hl:l.length<20)(h0:l≠[]):aU 147 [.sl 1 (l.map sv)] (.sl 1 ((hO l).map sv)):=by
 have hsl:=sR (lt:=Op.bytesLess) l
 have hcl:=vR (d0:=[]) (iJ Op.bytesLess l) l.length
 refine bB c147 (by simp [f147]) ?_
 simp only [f147,aE,aC,↓gos,gop,qA,qB,qC,qD,qE,qF,qG,qH,qI]
 refine iS (OE l hl h0) (by simp [DV.closed,DV.closed.closedAll]) ?_
 simp only [DV.ren,aS,aE,aC,↓gos,gop,qA,qB,qC,qD,qE,qF,qG,qH,qI]
 have hc:=HK (iJ Op.bytesLess l) (by omega)
 rw [hsl] at hc
 refine nP (h1:=[.arr 1 ((iJ Op.bytesLess l).map st1)]) [1] [1] (by simp) (by simp) rfl rfl rfl rfl hc rfl ?_
 simp only [List.foldl,bP,aS,DV.ren,upL,aE,aC,↓gos,gop,qA,qB,qC,qD,qE,qF,qG,qH,qI]
 have hd:=LF (cpK [] (iJ Op.bytesLess l) l.length) (List.replicate (l.length - (cpK [] (iJ Op.bytesLess l) l.length).length) [.str []]) (by omega)
 refine nP (h1:=[.arr 1 ((cpK [] (iJ Op.bytesLess l) l.length).map st1++List.replicate (l.length - (cpK [] (iJ Op.bytesLess l) l.length).length) [.str []])]) [1] [1] (by simp) (by simp) rfl rfl rfl rfl hd rfl ?_
 simp only [List.foldl,bP,aS,DV.ren,upL,aE,aC,↓gos,gop,qA,qB,qC,qD,qE,qF,qG,qH,qI]
 have hfl:=HC (cpK [] (iJ Op.bytesLess l) l.length) (cpK [] (iJ Op.bytesLess l) l.length).length
 refine bH [1] (TN (es:=(flK (cpK [] (iJ Op.bytesLess l) l.length) (cpK [] (iJ Op.bytesLess l) l.length).length).map st1++_) rfl (by simp) (by rw [List.take_left' (by simp)]) rfl) rfl ⟨rfl,?_⟩
 unfold hO flK
 rw [List.take_length]; rfl
end Go.Proofs.Ut
