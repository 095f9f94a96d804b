/- Addresses: strings.Split at one sign; the parts of a domain. -/
import Derived.Test.YtgamnnfndidclaaGreatDoorCAiBld
import Derived.Test.YtgamnnfndidclaaGreatDoorCAiUn
import Derived.Shelf.Strings.Count
import Derived.Test.YtgamnnfndidclaaGreatDoorCLawJid
import Derived.Test.YtgamnnfndidclaaGreatDoorCYPrB
open Nat renaming reduceBEq → qA,reduceAdd → qB,reduceSub → qC,reduceLeDiff → qD,reduceMul → qE
open Int renaming reduceLE → qF,reduceLT → qG,reduceNe → qH,reduceToNat → qI
set_option linter.all false
namespace Go.Proofs.Ut
open Go.Ai Go.Shelf Go.RowKit
set_option maxRecDepth 100000
theorem TR (s:List UInt8)(c:UInt8):aU 326 [.str s,.str [c]] (.int .i64 (s.count c:Nat)):=by
 refine yG ⟨Tryz.f326,Tryz.func326,by kernel_rfl,by kernel_rfl⟩ fun w ok β vs hl hv=>?_
 obtain ⟨u,v,rfl⟩:=two hl
 obtain rfl:=dB (hv 0 u _ rfl rfl)
 obtain rfl:=dB (hv 1 v _ rfl rfl)
 refine ⟨_,fun _ _ _=>.int _ _,(Any.strings_Count_one Tryz.lays138 ⟨s.toArray⟩ c w).mono ?_⟩
 rintro e w' ⟨rfl,rfl⟩
 exact ⟨rfl,Below.refl _ _⟩
def spN (l:List (List UInt8))(n:Nat):List (List DV):=(l++List.replicate (n - l.length) []).map sv
theorem pR (c:UInt8)(r:List UInt8):∀ x:List UInt8,c∉x→Lib.indexByte (x++c::r) c=x.length
 | [],_=>by simp [Lib.indexByte]
 | b::x,h=>by
  simp only [List.mem_cons,not_or] at h
  rw [List.cons_append]
  unfold Lib.indexByte
  rw [if_neg (by simpa using fun e=>h.1 e.symm),pR c r x h.2,if_neg (by simp)]
  simp
theorem mR (c:UInt8):∀ s:List UInt8,(aR c s).length=s.count c+1
 | []=>rfl
 | b::s=>by
  have h:=mR c s
  unfold aR
  by_cases e:b=c
  ·subst e; simp [h]
  ·rw [if_neg e,List.count_cons,if_neg (by simpa using e)]
   split
   ·rename_i h2; exact absurd h2 (nM c s)
   ·rename_i x l h2; rw [h2] at h; simpa using h
theorem KJ (l:List (List UInt8))(x:List UInt8)(n:Nat)(h:l.length<n):(spN l n).set l.length [.str x]=spN (l++[x]) n:=by
 obtain ⟨k,rfl⟩:∃ k,n=l.length+(k+1):=⟨n - l.length - 1,by omega⟩
 unfold spN
 rw [show l.length+(k+1) - l.length=k+1 by omega,show l.length+(k+1) - (l++[x]).length=k by simp; omega]
 simp [sv,List.replicate_succ,List.set_append_right]
theorem JY (l:List (List UInt8))(n:Nat)(h:l.length<n):(spN l n)[l.length]?=some [.str []]:=by
 unfold spN
 rw [List.getElem?_map,List.getElem?_append_right (Nat.le_refl _),Nat.sub_self]
 obtain ⟨k,hk⟩:∃ k,n - l.length=k+1:=⟨n - l.length - 1,by omega⟩
 rw [hk]; rfl
theorem aCH (l:List (List UInt8)):spN l l.length=l.map sv:=by simp [spN]
theorem QS (s:List UInt8)(c:UInt8)(hs:s.length<1000000000):ACalls ED 294 [] [.str s,.str [c],.int .i64 0,.int .i64 (-1)] (fun h d=>h=[.arr 1 ((aR c s).map sv)]∧d=.osl 1 0 0 (aR c s).length (some (aR c s).length)):=by
 refine aA c294 (by simp [f294]) ?_
 simp only [f294,↓gos,gop,qA,qB,qC,qD,qE,qF,qG,qH,qI,forall_eq,IntKind.wrap,IntKind.bits,IntKind.signed,Int.reduceEq,Int.reduceAdd,Int.reduceSub,Int.reduceMul,Int.reduceMod,Int.reduceDiv,Int.reduceTDiv,Int.reducePow,Nat.reducePow,Int.reduceNeg,reduceIte,reduceCtorEq,ge_iff_le,Nat.reduceEqDiff]
 refine aB (TR s c) rfl rfl ?_
 have hc:s.count c≤s.length:=List.count_le_length
 have hlen:=mR c s
 generalize hk:s.count c=k at hc hlen ⊢
 have hw:IntKind.i64.wrap ((k:Int)+1)=((k+1:Nat):Int):=by rw [wrap_i64 (by omega) (by omega)]; rfl
 have hw2:IntKind.i64.wrap ((s.length:Int)+1)=((s.length+1:Nat):Int):=by rw [wrap_i64 (by omega) (by omega)]; rfl
 have hmn:(if ((s.length+1:Nat):Int)<((k+1:Nat):Int) then ((s.length+1:Nat):Int) else ((k+1:Nat):Int))=((k+1:Nat):Int):=if_neg (by omega)
 have hw3:IntKind.i64.wrap (((k+1:Nat):Int) - 1)=(k:Nat):=by rw [wrap_i64 (by omega) (by omega)]; omega
 simp only [hw,hw2,hmn,hw3,forall_eq,Int.toNat_natCast,↓gos,gop,qA,qB,qC,qD,qE,qF,qG,qH,qI]
 repeat (refine aK (by omega) ?_)
 rw [show List.replicate (k+1) [DV.str []]=spN [] (k+1) by simp [spN,sv]]
 refine aJ (γ:=List (List UInt8)×List UInt8) (fun g=>[(0,.str g.2),(1,.str [c]),(2,.int .i64 0),(3,.int .i64 (k:Nat)),(9,.osl 1 1 0 (k+1) (some (k+1))),(10,.int .i64 (g.1.length:Nat))])
  (fun g=>[.arr 1 [],.arr 1 (spN g.1 (k+1))]) (fun g=>g.1++aR c g.2=aR c s∧g.1.length+g.2.count c=k∧g.2.length≤s.length) (fun g=>k - g.1.length) ([],s)
  (wks rfl (by simp) ⟨rfl,rfl,rfl,rfl,rfl,rfl,trivial⟩) ⟨rfl,by simpa using hk,Nat.le_refl _⟩ fun g hg=>?_
 obtain ⟨done,rest⟩:=g
 obtain ⟨h1,h2,h3⟩:=hg
 simp only at h1 h2 h3
 simp only [f294l0,↓gos,gop,qA,qB,qC,qD,qE,qF,qG,qH,qI]
 refine ⟨fun q1=>?_,fun q1=>?_⟩
 ·refine aB (QL rest c) rfl rfl ?_
  have hmem:c∈rest:=List.count_pos_iff.1 (by omega)
  obtain ⟨x,r,rfl,hx⟩:=List.eq_append_cons_of_mem hmem
  have hxl:x.length+(r.length+1)≤s.length:=by simpa using h3
  have w1:IntKind.i64.wrap ((x.length:Int)+0)=(x.length:Nat):=by rw [Int.add_zero,wrap_i64 (by omega) (by omega)]
  have w2:IntKind.i64.wrap ((x.length:Int)+1)=(x.length+1:Nat):=by rw [wrap_i64 (by omega) (by omega)]; rfl
  have w3:IntKind.i64.wrap ((done.length:Int)+1)=(done.length+1:Nat):=by rw [wrap_i64 (by omega) (by omega)]; rfl
  have hneg:((x.length:Int)<0)↔False:=by simp
  simp only [pR c r x hx,w1,w2,w3,hneg,List.length_singleton,Int.toNat_natCast,forall_eq,↓gos,gop,qA,qB,qC,qD,qE,qF,qG,qH,qI]
  have e1:List.take x.length (x++c::r)=x:=by simp
  have e2:List.take ((x++c::r).length - (x.length+1)) (List.drop (x.length+1) (x++c::r))=r:=by
   rw [List.take_of_length_le (by simp; omega)]; simp
  have hxr:(x++c::r).length=x.length+(r.length+1):=by simp
  rw [e1,e2]
  refine aK (by omega) (aK (by omega) ⟨[.str []],JY _ _ (by omega),aK (by decide) (aK (by omega) ?_)⟩)
  refine aN (done++[x],r) ?_ (by simp) ⟨rfl,rfl,rfl,rfl,rfl,?_,trivial⟩ ⟨?_,?_,?_⟩ ?_
  ·rw [← KJ _ _ _ (by omega)]; rfl
  ·simp [slots]
  ·rw [nE c r x hx] at h1
   simpa using h1
  ·have:List.count c (x++c::r)=List.count c r+1:=by
    rw [List.count_append,List.count_eq_zero.2 hx]; simp
   simp only [List.length_append,List.length_singleton]
   omega
  ·simp only; omega
  ·simp only [List.length_append,List.length_singleton]; omega
 ·have hno:c∉rest:=List.count_eq_zero.1 (by omega)
  rw [pQ c rest hno] at h1
  have hdk:done.length=k:=by omega
  refine aK (by omega) ⟨[.str []],JY _ _ (by omega),aK (by decide) ?_⟩
  intro v hv
  rw [wrap_i64 (by omega) (by omega)] at hv
  refine aK (by omega) (aK (by omega) ?_)
  have hvn:v.toNat=k+1:=by omega
  have e3:(spN done (k+1)).set done.length (DV.str rest::List.drop 1 [DV.str []])=(aR c s).map sv:=by
   show (spN done (k+1)).set done.length [DV.str rest]=_
   rw [KJ _ _ _ (by omega),h1,← hlen,aCH]
  rw [e3,hvn,hlen]
  exact AG rfl rfl rfl rfl
theorem VH (s:List UInt8)(c:UInt8)(hs:s.length<1000000000):ACalls ED 249 [] [.str s,.str [c]] (fun h d=>h=[.arr 1 ((aR c s).map sv)]∧d=.osl 1 0 0 (aR c s).length (some (aR c s).length)):=by
 refine aA c249 (by simp [f249]) ?_
 simp only [f249,↓gos,gop,qA,qB,qC,qD,qE,qF,qG,qH,qI]
 refine iS (QS s c hs) (by simp [DV.closed,DV.closed.closedAll]) ?_
 simp only [DV.ren,aS,↓gos,gop,qA,qB,qC,qD,qE,qF,qG,qH,qI]
 exact AG rfl (by simp [sv]) rfl rfl
theorem QO (s:List UInt8)(c:UInt8)(hs:s.length<1000000000):aU 293 [.str s,.str [c]] (.bool (decide (s.getLast?=some c))):=by
 refine aA c293 (by simp [f293]) ?_
 simp only [f293,↓gos,gop,qA,qB,qC,qD,qE,qF,qG,qH,qI]
 refine ⟨fun h1 v hv=>?_,fun h1=>?_⟩
 ·rw [wrap_i64 (by omega) (by omega)] at hv
  have hv' : v.toNat=s.length - 1:=by omega
  have hne:s≠[]:=fun e=>by subst e; simp at h1
  obtain ⟨t,a,rfl⟩:∃ t a,s=t++[a]:=⟨s.dropLast,s.getLast hne,(List.dropLast_concat_getLast hne).symm⟩
  have e1:List.take ((t++[a]).length - v.toNat) (List.drop v.toNat (t++[a]))=[a]:=by
   rw [hv']; simp
  rw [e1]
  refine aK (by omega) (aK (by omega) ⟨fun h=>aG ?_,fun h=>aG ?_⟩)
  ·rw [decide_eq_true]; simpa using h
  ·rw [decide_eq_false]; simpa using h
 ·have:s=[]:=List.eq_nil_of_length_eq_zero (by omega)
  subst this
  exact aG rfl
theorem aGZ (s:List UInt8)(c:UInt8)(hs:s.length<1000000000):aU 251 [.str s,.str [c]] (.bool (decide (s.getLast?=some c))):=by
 refine aA c251 (by simp [f251]) ?_
 simp only [f251,↓gos,gop,qA,qB,qC,qD,qE,qF,qG,qH,qI]
 refine aB (QO s c hs) rfl rfl ?_
 simp only [↓gos,gop,qA,qB,qC,qD,qE,qF,qG,qH,qI]
 exact aG rfl
theorem aCR (s:List UInt8)(hs:s.length<1000000000):aU 248 [.str s,.str [46]] (.str (bF s)):=by
 refine aA c248 (by simp [f248]) ?_
 simp only [f248,↓gos,gop,qA,qB,qC,qD,qE,qF,qG,qH,qI]
 refine aB (QO s 46 hs) rfl rfl ?_
 unfold bF
 by_cases h:s.getLast?=some 46
 ·have hl:0<s.length:=by
   cases s with
   | nil=>simp at h
   | cons a l=>simp
  rw [decide_eq_true h,if_pos h]
  simp only [↓gos,gop,qA,qB,qC,qD,qE,qF,qG,qH,qI]
  intro v hv
  rw [wrap_i64 (by omega) (by omega)] at hv
  have hv' : v.toNat=s.length - 1:=by omega
  refine aK (by omega) (aK (by omega) ?_)
  rw [hv',← List.dropLast_eq_take]
  exact gS rfl
 ·rw [decide_eq_false h,if_neg h]
  simp only [↓gos,gop,qA,qB,qC,qD,qE,qF,qG,qH,qI]
  exact gS rfl
theorem ZH (s:List UInt8)(hs:s.length<1000000000):aU 199 [.str s,.str [46]] (.str (bF s)):=by
 refine aA c199 (by simp [f199]) ?_
 simp only [f199,↓gos,gop,qA,qB,qC,qD,qE,qF,qG,qH,qI]
 refine aB (aCR s hs) rfl rfl ?_
 simp only [↓gos,gop,qA,qB,qC,qD,qE,qF,qG,qH,qI]
 exact gS rfl
theorem xI (c:UInt8):∀ (s:List UInt8)(x:List UInt8),x∈aR c s→x.length≤s.length
 | [],x,h=>by simp [aR] at h; simp [h]
 | b::s,x,h=>by
  have ih:=xI c s
  unfold aR at h
  split at h
  ·rcases List.mem_cons.1 h with rfl|h
   ·simp
   ·have:=ih x h; simp; omega
  ·split at h
   ·rename_i h2; exact absurd h2 (nM c s)
   ·rename_i y l h2
    rw [h2] at ih
    rcases List.mem_cons.1 h with rfl|h
    ·have:=ih y (by simp); simp; omega
    ·have:=ih x (by simp [h]); simp; omega
theorem dW {α:Type}{l:List α}{i:Nat}(h:i<l.length)(d:α):l.take (i+1)=l.take i++[l.getD i d]:=by
 rw [List.take_add_one,List.getD_eq_getElem?_getD,List.getElem?_eq_getElem h]; rfl
theorem LO (x:List UInt8):cC x = !(decide (x=[])||(List.isPrefixOf [45] x||decide (x.getLast?=some 45))):=by
 cases x with
 | nil=>rfl
 | cons a l=>
  simp only [cC,List.isPrefixOf,Bool.and_true,List.head?_cons,Option.some.injEq,Bool.not_or,reduceCtorEq,decide_false,Bool.not_false,Bool.true_and]
  by_cases h:a=45
  ·subst h; rfl
  ·rw [decide_eq_false h,show (45 == a)=false from by simpa using fun e=>h e.symm]
theorem SO (s:List UInt8)(hs:s.length<1000000000):aU 200 [.str s] (.bool ((aR 46 s).all cC)):=by
 refine aA c200 (by simp [f200]) ?_
 simp only [f200,↓gos,gop,qA,qB,qC,qD,qE,qF,qG,qH,qI]
 refine iS (VH s 46 hs) (by simp [DV.closed,DV.closed.closedAll]) ?_
 simp only [DV.ren,aS,↓gos,gop,qA,qB,qC,qD,qE,qF,qG,qH,qI]
 have hlen:=mR 46 s
 have hc:s.count 46≤s.length:=List.count_le_length
 refine aJ (γ:=Nat) (fun i=>[(8,.int .i64 i),(7,.int .i64 (aR 46 s).length),(6,.osl 1 0 0 (aR 46 s).length (some (aR 46 s).length))]) (fun _=>[.arr 1 ((aR 46 s).map sv)])
  (fun i=>i≤(aR 46 s).length∧((aR 46 s).take i).all cC=true) (fun i=>(aR 46 s).length - i) 0 (wks rfl (by simp) ⟨rfl,rfl,rfl,trivial⟩) ⟨by omega,by simp⟩ fun i hi=>?_
 obtain ⟨hi,ht⟩:=hi
 simp only [f200l0,↓gos,gop,qA,qB,qC,qD,qE,qF,qG,qH,qI]
 have hpl:∀ x∈aR 46 s,x.length<1000000000:=fun x hx=>Nat.lt_of_le_of_lt (xI 46 s x hx) hs
 generalize aR 46 s=l at *
 refine ⟨fun h1=>?_,fun h1=>?_⟩
 ·have h2:i<l.length:=by omega
  refine aK (by omega) (aL [] h2 ?_)
  have htk:=dW h2 []
  have hm:l.getD i []∈l:=by rw [List.getD_eq_getElem?_getD,List.getElem?_eq_getElem h2]; exact List.getElem_mem h2
  generalize l.getD i []=x at *
  have hx:=hpl x hm
  have hok:=LO x
  simp only [sv,↓gos,gop,qA,qB,qC,qD,qE,qF,qG,qH,qI]
  have bad:cC x=false→l.all cC=false:=fun h=>by rw [List.all_eq_false]; exact ⟨x,hm,by simp [h]⟩
  refine ⟨fun q=>?_,fun q=>?_⟩
  ·rw [bad (by rw [hok,decide_eq_true q]; rfl)]
   exact aD rfl ⟨rfl,rfl⟩
  ·rw [decide_eq_false q,Bool.false_or] at hok
   refine aB (aFG x [45] (by omega) (by simp)) rfl rfl ?_
   cases h3:[45].isPrefixOf x
   ·rw [h3,Bool.false_or] at hok
    simp only [↓gos,gop,qA,qB,qC,qD,qE,qF,qG,qH,qI]
    refine aB (aGZ x 45 hx) rfl rfl ?_
    by_cases h4:x.getLast?=some 45
    ·rw [decide_eq_true h4] at hok ⊢
     simp only [↓gos,gop,qA,qB,qC,qD,qE,qF,qG,qH,qI]
     rw [bad hok]
     exact aD rfl ⟨rfl,rfl⟩
    ·rw [decide_eq_false h4] at hok ⊢
     simp only [↓gos,gop,qA,qB,qC,qD,qE,qF,qG,qH,qI]
     intro v hv
     rw [wrap_i64 (by omega) (by omega)] at hv
     exact aN (i+1) rfl (by simp) ⟨by show DV.int .i64 v=_; rw [hv]; rfl,rfl,rfl,trivial⟩ ⟨by omega,by rw [htk,List.all_append,ht]; simp [hok]⟩ (by omega)
   ·rw [h3] at hok
    simp only [↓gos,gop,qA,qB,qC,qD,qE,qF,qG,qH,qI]
    rw [bad hok]
    exact aD rfl ⟨rfl,rfl⟩
 ·have:i=l.length:=by omega
  subst this
  rw [List.take_length] at ht
  exact aG ht.symm
end Go.Proofs.Ut

namespace Go.Proofs.Ut
open Go.Ai
set_option maxRecDepth 100000
def dM (s:List UInt8):List UInt8×Int:=
 iI (bO (bY (if (cut 64 (cut 47 s).1).2.2 then (cut 64 (cut 47 s).1).1 else [])) (cut 64 (cut 47 s).1).2.2 64) (dF (bN (if (cut 64 (cut 47 s).1).2.2 then (cut 64 (cut 47 s).1).2.1 else (cut 47 s).1)))
  (bO (tE (cut 47 s).2.1) (cut 47 s).2.2 64)
theorem tI (s:List UInt8):(bF s).length≤s.length:=by unfold bF; split <;> simp
theorem MZ (s:List UInt8)(hs:s.length<100000000)(hr:(bN s).1.length<1000000000):SE 159 [.str s] (dF (bN s)):=by
 refine aA c159 (by simp [f159]) ?_
 simp only [f159,↓gos,gop,qA,qB,qC,qD,qE,qF,qG,qH,qI]
 refine aB (aEo s hs) rfl rfl ?_
 unfold dF
 generalize bN s=x at *
 obtain ⟨t,e⟩:=x
 simp only at hr
 simp only [↓gos,gop,qA,qB,qC,qD,qE,qF,qG,qH,qI]
 refine ⟨fun h=>?_,fun h=>?_⟩
 ·rw [if_pos h]; exact aD rfl ⟨rfl,rfl⟩
 ·rw [if_neg (by simpa using h)]
  refine aB (ZH t hr) rfl rfl ?_
  have hd:=tI t
  generalize bF t=d at *
  simp only [↓gos,gop,qA,qB,qC,qD,qE,qF,qG,qH,qI]
  unfold kS
  refine ⟨fun q=>?_,fun q=>?_⟩
  ·rw [decide_eq_false (by omega)]; exact aD rfl ⟨rfl,rfl⟩
  ·rw [decide_eq_true (by omega),Bool.true_and]
   refine aB (SO d (by omega)) rfl rfl ?_
   cases (aR 46 d).all cC
   ·simp only [↓gos,gop,qA,qB,qC,qD,qE,qF,qG,qH,qI]; exact aD rfl ⟨rfl,rfl⟩
   ·simp only [↓gos,gop,qA,qB,qC,qD,qE,qF,qG,qH,qI]; exact aD rfl ⟨rfl,rfl⟩
theorem KQ (f:Nat)(r:List UInt8×Int)(s:List UInt8)(is:Bool)(most:Nat)(hm:most<1000)(hr:r.1.length<1000000000)(hf:SE f [.str s] r):SE 160 [.agg [.str s,.bool is],.fn f [],.int .i64 most] (bO r is most):=by
 refine aA c160 (by simp [f160]) ?_
 simp only [f160,↓gos,gop,qA,qB,qC,qD,qE,qF,qG,qH,qI]
 refine aB hf rfl rfl ?_
 obtain ⟨t,e⟩:=r
 simp only at hr
 unfold bO
 simp only [↓gos,gop,qA,qB,qC,qD,qE,qF,qG,qH,qI]
 refine ⟨fun h=>?_,fun h=>?_⟩
 ·rw [if_pos h]; exact aD rfl ⟨rfl,rfl⟩
 ·obtain rfl:e=0:=by simpa using h
  rw [if_neg (by simp)]
  cases is
  ·rw [if_neg (by simp)]
   simp only [↓gos,gop,qA,qB,qC,qD,qE,qF,qG,qH,qI]
   exact aD rfl ⟨rfl,rfl⟩
  ·simp only [↓gos,gop,qA,qB,qC,qD,qE,qF,qG,qH,qI]
   refine ⟨fun q=>?_,fun q=>⟨fun q2=>?_,fun q2=>?_⟩⟩
   ·rw [if_pos (.inl q)]; exact aD rfl ⟨rfl,rfl⟩
   ·rw [if_pos (.inr (by omega))]; exact aD rfl ⟨rfl,rfl⟩
   ·rw [if_neg (fun h=>h.elim q (by omega))]; exact aD rfl ⟨rfl,rfl⟩
theorem aAR (l d:List UInt8)(hl:l.length<1000000000)(hd:d.length<1000000000):aU 123 [.agg [.str l,.str d,.str []]] (.str (if l=[] then d else l++64::d)):=by
 refine aA c123 (by simp [f123]) ?_
 simp only [f123,↓gos,gop,qA,qB,qC,qD,qE,qF,qG,qH,qI]
 refine ⟨fun h=>?_,fun h=>?_⟩
 ·rw [if_neg h]
  refine aK (by omega) (aK (by simp; omega) (gS (by simp)))
 ·rw [if_pos (by simpa using h)]
  exact gS rfl
theorem TB (s:List UInt8)(hs:s.length<1000000000):aU 158 [.str s] (.tup [.agg [.str (if (cut 64 (cut 47 s).1).2.2 then (cut 64 (cut 47 s).1).1 else []),.bool (cut 64 (cut 47 s).1).2.2],
  .str (if (cut 64 (cut 47 s).1).2.2 then (cut 64 (cut 47 s).1).2.1 else (cut 47 s).1),.agg [.str (cut 47 s).2.1,.bool (cut 47 s).2.2]]):=by
 refine aA c158 (by simp [f158]) ?_
 simp only [f158,↓gos,gop,qA,qB,qC,qD,qE,qF,qG,qH,qI]
 refine aB (yU s 47 (by omega)) rfl rfl ?_
 have hl:=kH 47 s
 generalize cut 47 s=x at *
 obtain ⟨head,res,has⟩:=x
 simp only at hl
 simp only [↓gos,gop,qA,qB,qC,qD,qE,qF,qG,qH,qI]
 refine aB (yU head 64 (by omega)) rfl rfl ?_
 generalize cut 64 head=x at *
 obtain ⟨l,d,is⟩:=x
 cases is
 ·simp only [↓gos,gop,qA,qB,qC,qD,qE,qF,qG,qH,qI]
  exact aD rfl ⟨rfl,by simp [rvd]⟩
 ·simp only [↓gos,gop,qA,qB,qC,qD,qE,qF,qG,qH,qI]
  exact aD rfl ⟨rfl,by simp [rvd]⟩
structure JP where
 l:List UInt8
 d:List UInt8
 r:List UInt8
 e:Int
def bV (L D R:List UInt8×Int):JP:=if D.2≠0 then ⟨[],[],[],D.2⟩ else if L.2≠0 then ⟨[],[],[],L.2⟩ else if R.2≠0 then ⟨[],[],[],R.2⟩ else ⟨L.1,D.1,R.1,0⟩
def lU (s:List UInt8):JP:=
 bV (bO (bY (if (cut 64 (cut 47 s).1).2.2 then (cut 64 (cut 47 s).1).1 else [])) (cut 64 (cut 47 s).1).2.2 64) (dF (bN (if (cut 64 (cut 47 s).1).2.2 then (cut 64 (cut 47 s).1).2.1 else (cut 47 s).1)))
  (bO (tE (cut 47 s).2.1) (cut 47 s).2.2 64)
def yK (p:JP):List UInt8×Int:=if p.e≠0 then ([],p.e) else if p.r≠[] then ([],14) else (if p.l=[] then p.d else p.l++64::p.d,0)
theorem CP (s:List UInt8):dM s=yK (lU s):=by
 unfold dM lU iI bV yK
 generalize dF _=D
 generalize bO _ _ _=L
 generalize bO _ _ _=R
 by_cases h1:D.2=0
 ·by_cases h2:L.2=0
  ·by_cases h3:R.2=0
   ·simp [h1,h2,h3]
   ·simp [h1,h2,h3]
  ·simp [h1,h2]
 ·simp [h1]
def okJ (s:List UInt8):Prop:=∀ x:List UInt8,x.length≤s.length→(bY x).1.length<1000000000∧(bN x).1.length<1000000000∧(tE x).1.length<1000000000
theorem TS (s:List UInt8)(hs:s.length<100000000)(hb:okJ s):aU 122 [.str s] (.tup [.agg [.str (lU s).l,.str (lU s).d,.str (lU s).r],.int .i64 (lU s).e]):=by
 have hl:=kH 47 s
 have hl2:=kH 64 (cut 47 s).1
 have hp:=TB s (by omega)
 unfold lU
 generalize cut 47 s=x at *
 obtain ⟨head,res,has⟩:=x
 simp only at *
 generalize cut 64 head=x at *
 obtain ⟨l,d,is⟩:=x
 simp only at *
 have hln:(if is=true then l else []).length≤s.length:=by cases is <;> simp; omega
 have hdn:(if is=true then d else head).length≤s.length:=by cases is <;> simp <;> omega
 generalize (if is=true then l else [])=l at *
 generalize (if is=true then d else head)=d at *
 have cD:=MZ d (by omega) (hb d hdn).2.1
 have cL:=KQ 161 (bY l) l is 64 (by omega) (hb l hln).1 (aEs l (by omega))
 have cR:=KQ 162 (tE res) res has 64 (by omega) (hb res hl.2).2.2 (aId res (by omega))
 generalize dF (bN d)=D at *
 generalize bO (bY l) is 64=L at *
 generalize bO (tE res) has 64=R at *
 obtain ⟨D,eD⟩:=D
 obtain ⟨L,eL⟩:=L
 obtain ⟨R,eR⟩:=R
 refine aA c122 (by simp [f122]) ?_
 simp only [f122,↓gos,gop,qA,qB,qC,qD,qE,qF,qG,qH,qI]
 refine aB hp rfl rfl ?_
 simp only [↓gos,gop,qA,qB,qC,qD,qE,qF,qG,qH,qI]
 refine aB cD rfl rfl ?_
 unfold bV
 simp only [↓gos,gop,qA,qB,qC,qD,qE,qF,qG,qH,qI]
 refine ⟨fun h=>?_,fun h=>?_⟩
 ·rw [if_pos h]; exact aD rfl ⟨rfl,rfl⟩
 ·rw [if_neg (by simpa using h)]
  refine aB cL rfl rfl ?_
  simp only [↓gos,gop,qA,qB,qC,qD,qE,qF,qG,qH,qI]
  refine ⟨fun h=>?_,fun h=>?_⟩
  ·rw [if_pos h]; exact aD rfl ⟨rfl,rfl⟩
  ·rw [if_neg (by simpa using h)]
   refine aB cR rfl rfl ?_
   simp only [↓gos,gop,qA,qB,qC,qD,qE,qF,qG,qH,qI]
   refine ⟨fun h=>?_,fun h=>?_⟩
   ·rw [if_pos h]; exact aD rfl ⟨rfl,rfl⟩
   ·rw [if_neg (by simpa using h)]
    exact aD rfl ⟨rfl,rfl⟩
theorem aCe (x:List UInt8×Int)(is:Bool)(n:Nat):(bO x is n).1.length≤x.1.length:=by
 unfold bO; split
 ·simp
 ·split <;> simp
theorem aFY (x:List UInt8×Int):(dF x).1.length≤x.1.length:=by
 have:=tI x.1
 unfold dF; split
 ·simp
 ·split <;> simp <;> omega
theorem QZ (s:List UInt8)(hb:okJ s):(lU s).l.length<1000000000∧(lU s).d.length<1000000000:=by
 have hl:=kH 47 s
 have hl2:=kH 64 (cut 47 s).1
 unfold lU
 generalize cut 47 s=x at *
 obtain ⟨head,res,has⟩:=x
 simp only at *
 generalize cut 64 head=x at *
 obtain ⟨l,d,is⟩:=x
 simp only at *
 have hln:(if is=true then l else []).length≤s.length:=by cases is <;> simp; omega
 have hdn:(if is=true then d else head).length≤s.length:=by cases is <;> simp <;> omega
 generalize (if is=true then l else [])=l at *
 generalize (if is=true then d else head)=d at *
 have q1:=(hb l hln).1
 have q2:=(hb d hdn).2.1
 have q3:=aCe (bY l) is 64
 have q4:=aFY (bN d)
 unfold bV
 repeat' split
 all_goals simp
 all_goals omega
theorem aHe (s:List UInt8)(hs:s.length<100000000)(hb:okJ s):SE 63 [.str s] (dM s):=by
 have hj:=QZ s hb
 have hp:=TS s hs hb
 rw [CP]
 refine aA c63 (by simp [f63]) ?_
 simp only [f63,↓gos,gop,qA,qB,qC,qD,qE,qF,qG,qH,qI]
 generalize lU s=p at *
 obtain ⟨l,d,r,e⟩:=p
 refine aB hp rfl rfl ?_
 unfold yK
 simp only at *
 simp only [↓gos,gop,qA,qB,qC,qD,qE,qF,qG,qH,qI]
 refine ⟨fun h=>?_,fun h=>⟨fun h2=>?_,fun h2=>?_⟩⟩
 ·rw [if_pos h]; exact aD rfl ⟨rfl,rfl⟩
 ·rw [if_neg (by simpa using h),if_pos h2]; exact aD rfl ⟨rfl,rfl⟩
 ·rw [if_neg (by simpa using h),if_neg (by simpa using h2)]
  obtain rfl:r=[]:=by simpa using h2
  refine aB (aAR l d hj.1 hj.2) rfl rfl ?_
  simp only [↓gos,gop,qA,qB,qC,qD,qE,qF,qG,qH,qI]
  exact aD rfl ⟨rfl,rfl⟩
end Go.Proofs.Ut

namespace Go.Proofs.Ut
open Go.Ai Classical
set_option linter.unusedSimpArgs false
set_option linter.unusedVariables false
set_option maxHeartbeats 1000000
set_option maxRecDepth 100000
theorem ofn (x:UInt8)(n:Nat)(h:x.toNat=n):UInt8.ofNat n=x:=by subst h; simp
theorem aEX (x:UInt8)(h:x.toNat<128):en (x.toNat:Int)=[x]:=by
 rw [mQ (by unfold okC; omega),if_pos h]
 exact congrArg (fun b=>[b]) (ofn x _ rfl)
theorem aEf (x y:UInt8)(h1:x.toNat / 32=6)(h2:y.toNat / 64=2)(h:x.toNat % 32*64+y.toNat % 64≥128)(ok:okC (x.toNat % 32*64+y.toNat % 64)):en ((x.toNat % 32*64+y.toNat % 64:Nat):Int)=[x,y]:=by
 rw [mQ ok,if_neg (by omega),if_pos (by omega),ofn x _ (by omega),ofn y _ (by omega)]
theorem aGH (x y z:UInt8)(h1:x.toNat / 16=14)(h2:y.toNat / 64=2)(h3:z.toNat / 64=2)(h:x.toNat % 16*4096+y.toNat % 64*64+z.toNat % 64≥2048)(ok:okC (x.toNat % 16*4096+y.toNat % 64*64+z.toNat % 64)) :
  en ((x.toNat % 16*4096+y.toNat % 64*64+z.toNat % 64:Nat):Int)=[x,y,z]:=by
 rw [mQ ok,if_neg (by omega),if_neg (by omega),if_pos (by omega),ofn x _ (by omega),ofn y _ (by omega),ofn z _ (by omega)]
theorem aEH (x y z u:UInt8)(h1:x.toNat / 8=30)(h2:y.toNat / 64=2)(h3:z.toNat / 64=2)(h4:u.toNat / 64=2)(h:x.toNat % 8*262144+y.toNat % 64*4096+z.toNat % 64*64+u.toNat % 64≥65536)
  (ok:okC (x.toNat % 8*262144+y.toNat % 64*4096+z.toNat % 64*64+u.toNat % 64)):en ((x.toNat % 8*262144+y.toNat % 64*4096+z.toNat % 64*64+u.toNat % 64:Nat):Int)=[x,y,z,u]:=by
 rw [mQ ok,if_neg (by omega),if_neg (by omega),if_neg (by omega),ofn x _ (by omega),ofn y _ (by omega),ofn z _ (by omega),ofn u _ (by omega)]
theorem XV (s:List UInt8)(h:3<s.length):∃ x y z u t,s=x::y::z::u::t:=by
 match s,h with
 | x::y::z::u::t,_=>exact ⟨x,y,z,u,t,rfl⟩
 | [_],h=>simp at h
 | [_,_],h=>simp at h
 | [_,_,_],h=>simp at h
theorem aIq (s:List UInt8)(h0:0<s.length)(hg:D s 0≠(65533,1)):en ((D s 0).1:Nat)=s.take (D s 0).2:=by
 have hok:=(eC s 0 h0).2.2
 revert hg hok
 rw [AW]
 by_cases b1:by_ s 0<128
 ·rw [if_pos b1]
  intro _ hok
  match s,h0,b1 with
  | x::t,_,b1=>exact aEX x b1
 rw [if_neg b1]
 by_cases c2:by_ s 0 / 32=6∧0+1<s.length∧by_ s (0+1) / 64=2
 ·rw [if_pos c2]
  by_cases h:by_ s 0 % 32*64+by_ s (0+1) % 64≥128
  ·rw [if_pos h]
   intro _ hok
   match s,c2,h,hok with
   | [_],c2,_,_=>simp at c2
   | x::y::t,c2,h,hok=>exact aEf x y c2.1 c2.2.2 h hok
  ·rw [if_neg h]; intro q; exact absurd rfl q
 rw [if_neg c2]
 by_cases c3:by_ s 0 / 16=14∧(0+1<s.length∧by_ s (0+1) / 64=2)∧0+2<s.length∧by_ s (0+2) / 64=2
 ·rw [if_pos c3]
  by_cases h:by_ s 0 % 16*4096+by_ s (0+1) % 64*64+by_ s (0+2) % 64≥2048∧okC (by_ s 0 % 16*4096+by_ s (0+1) % 64*64+by_ s (0+2) % 64)
  ·rw [if_pos h]
   intro _ hok
   match s,c3,h,hok with
   | [_],c3,_,_=>simp at c3
   | [_,_],c3,_,_=>simp at c3
   | x::y::z::t,c3,h,hok=>exact aGH x y z c3.1 c3.2.1.2 c3.2.2.2 h.1 hok
  ·rw [if_neg h]; intro q; exact absurd rfl q
 rw [if_neg c3]
 by_cases c4:by_ s 0 / 8=30∧(0+1<s.length∧by_ s (0+1) / 64=2)∧(0+2<s.length∧by_ s (0+2) / 64=2)∧0+3<s.length∧by_ s (0+3) / 64=2
 ·rw [if_pos c4]
  by_cases h:by_ s 0 % 8*262144+by_ s (0+1) % 64*4096+by_ s (0+2) % 64*64+by_ s (0+3) % 64≥65536∧okC (by_ s 0 % 8*262144+by_ s (0+1) % 64*4096+by_ s (0+2) % 64*64+by_ s (0+3) % 64)
  ·rw [if_pos h]
   intro _ hok
   obtain ⟨x,y,z,u,t,rfl⟩:∃ x y z u t,s=x::y::z::u::t:=XV s (by have:=c4.2.2.2.1; omega)
   have e0:by_ (x::y::z::u::t) 0=x.toNat:=rfl
   have e1:by_ (x::y::z::u::t) (0+1)=y.toNat:=rfl
   have e2:by_ (x::y::z::u::t) (0+2)=z.toNat:=rfl
   have e3:by_ (x::y::z::u::t) (0+3)=u.toNat:=rfl
   simp only [e0,e1,e2,e3] at c4 h hok ⊢
   exact aEH x y z u c4.1 c4.2.1.2 c4.2.2.1.2 c4.2.2.2.2 h.1 hok
  ·rw [if_neg h]; intro q; exact absurd rfl q
 rw [if_neg c4]
 intro q; exact absurd rfl q
def wr (cs:List Nat):List UInt8:=cs.flatMap fun c:Nat=>en c
theorem JJ (c:Nat)(b:List Nat):wr (c::b)=en c++wr b:=rfl
theorem SW (p:Int→Bool):∀ n (s:List UInt8),s.length≤n→bC p s 0=true→∃ cs,s=wr cs∧∀ c∈cs,okC c∧p c=true
 | _,[],_,_=>⟨[],rfl,by simp⟩
 | 0,x::t,h,_=>by simp at h
 | n+1,x::t,h,hr=>by
  have hl:=eC (x::t) 0 (by simp)
  rw [dT _ _ _ (by simp)] at hr
  split at hr
  ·cases hr
  rename_i hg
  rw [Bool.and_eq_true] at hr
  have hen:=aIq (x::t) (by simp) hg
  have hsp:=List.take_append_drop (D (x::t) 0).2 (x::t)
  have hlt:((x::t).take (D (x::t) 0).2).length=(D (x::t) 0).2:=by
   rw [List.length_take]; omega
  have hsh:=qZ p ((x::t).take (D (x::t) 0).2) ((x::t).drop (D (x::t) 0).2) _ 0 (Nat.le_refl _)
  rw [hsp,hlt,Nat.add_zero] at hsh
  rw [Nat.zero_add,hsh] at hr
  obtain ⟨cs,h1,h2⟩:=SW p n ((x::t).drop (D (x::t) 0).2) (by rw [List.length_drop]; simp only [List.length_cons] at h ⊢; omega) hr.2
  refine ⟨(D (x::t) 0).1::cs,?_,?_⟩
  ·rw [JJ,hen,← h1,hsp]
  ·intro c hc
   rcases List.mem_cons.1 hc with rfl|hc
   ·exact ⟨hl.2.2,hr.1⟩
   ·exact h2 c hc
def sH (s:List UInt8)(most:Nat):Nat→Nat→Nat
 | 0,n=>n
 | k+1,n=>if n<s.length then (if 0<n∧most<n+(D s n).2 then n else sH s most k (n+(D s n).2)) else n
def fits (s:List UInt8)(most:Nat):Nat:=sH s most s.length 0
theorem xH (s:List UInt8)(most:Nat):∀ k j n,s.length - n≤k→s.length - n≤j→sH s most k n=sH s most j n
 | 0,0,_,_,_=>rfl
 | 0,j+1,n,h,_=>by rw [sH,sH,if_neg (by omega)]
 | k+1,0,n,_,h=>by rw [sH,sH,if_neg (by omega)]
 | k+1,j+1,n,h1,h2=>by
  rw [sH,sH]
  by_cases hn:n<s.length
  ·have:=eC s n hn
   rw [if_pos hn,if_pos hn,xH s most k j (n+(D s n).2) (by omega) (by omega)]
  ·rw [if_neg hn,if_neg hn]
def zH (s:List UInt8)(most n:Nat):Nat:=sH s most (s.length - n) n
theorem qL (s:List UInt8)(most n:Nat)(hn:n<s.length):zH s most n=if 0<n∧most<n+(D s n).2 then n else zH s most (n+(D s n).2):=by
 have:=eC s n hn
 rw [zH,show s.length - n=(s.length - n - 1)+1 by omega,sH,if_pos hn,xH s most _ (s.length - (n+(D s n).2)) (n+(D s n).2) (by omega) (Nat.le_refl _)]
 rfl
theorem vE (s:List UInt8)(most n:Nat)(hn:¬ n<s.length):zH s most n=n:=by
 rw [zH,show s.length - n=0 by omega]; rfl
theorem JR (s:List UInt8)(most:Nat):∀ k n,s.length - n≤k→n≤s.length→n≤zH s most n∧zH s most n≤s.length
 | 0,n,h,hn=>by rw [vE s most n (by omega)]; omega
 | k+1,n,h,hn=>by
  by_cases c:n<s.length
  ·have:=eC s n c
   have ih:=JR s most k (n+(D s n).2) (by omega) (by omega)
   rw [qL s most n c]
   split <;> omega
  ·rw [vE s most n c]; omega
theorem kK (s:List UInt8)(most:Nat)(h:s≠[]):0<fits s most∧fits s most≤s.length:=by
 have h0:0<s.length:=List.length_pos_iff.2 h
 have:=eC s 0 h0
 have e:fits s most=zH s most 0:=rfl
 rw [e,qL s most 0 h0,if_neg (by omega)]
 have:=JR s most _ (0+(D s 0).2) (Nat.le_refl _) (by omega)
 omega
theorem DC (most:Nat):fits [] most=0:=rfl
def kR:Nat→List UInt8→List (List UInt8)
 | 0,_=>[]
 | k+1,s=>if s=[] then [] else (32::s.take (fits s 74))::kR k (s.drop (fits s 74))
def qY (s:List UInt8):List (List UInt8):=s.take (fits s 75)::kR s.length (s.drop (fits s 75))
def kP (l:List (List UInt8)):List UInt8:=l.flatMap fun r=>r++[13,10]
def gZ (l:List (List UInt8)):List UInt8:=l.flatMap fun s=>kP (qY s)
theorem jU (r:List UInt8)(l:List (List UInt8)):kP (r::l)=r++13::10::kP l:=by simp [kP]
theorem nH:∀ k j (s:List UInt8),s.length≤k→s.length≤j→kR k s=kR j s
 | 0,0,_,_,_=>rfl
 | 0,j+1,s,h,_=>by rw [kR,kR,if_pos (List.eq_nil_of_length_eq_zero (by omega))]
 | k+1,0,s,_,h=>by rw [kR,kR,if_pos (List.eq_nil_of_length_eq_zero (by omega))]
 | k+1,j+1,s,h1,h2=>by
  rw [kR,kR]
  by_cases hs:s=[]
  ·rw [if_pos hs,if_pos hs]
  ·have:=kK s 74 hs
   rw [if_neg hs,if_neg hs,nH k j _ (by rw [List.length_drop]; omega) (by rw [List.length_drop]; omega)]
def lO (s:List UInt8):List (List UInt8):=kR s.length s
theorem nC (s:List UInt8)(hs:s≠[]):lO s=(32::s.take (fits s 74))::lO (s.drop (fits s 74)):=by
 have:=kK s 74 hs
 have h0:0<s.length:=List.length_pos_iff.2 hs
 rw [lO,show s.length=(s.length - 1)+1 by omega,kR,if_neg hs,nH _ (s.drop (fits s 74)).length _ (by rw [List.length_drop]; omega) (Nat.le_refl _)]
 rfl
theorem qM:lO []=[]:=rfl
theorem pC (s:List UInt8):qY s=s.take (fits s 75)::lO (s.drop (fits s 75)):=by
 rw [qY,lO,nH s.length _ _ (by simp) (Nat.le_refl _)]
def WD (r:List UInt8):Bool:=r.any fun x=>decide (x=13)||decide (x=10)
end Go.Proofs.Ut
