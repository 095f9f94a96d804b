/- The document's prep; awake. -/
import Derived.Test.YtgamnnfndidclaaGreatDoorGYPrD
import Derived.Shelf.Lays
import Derived.Ground.NamesProg
import Derived.Test.YtgamnnfndidclaaGreatDoorProg
import Derived.Test.YtgamnnfndidclaaGreatDoorGYFoB
import Derived.Test.YtgamnnfndidclaaGreatDoorGAiUn
import Derived.Shelf.Strings.Count
import Derived.Test.YtgamnnfndidclaaGreatDoorGLawJid
open Nat renaming reduceBEq → qA,reduceAdd → qB,reduceSub → qC,reduceLeDiff → qD,reduceMul → qE
open Int renaming reduceLE → qF,reduceLT → qG,reduceNe → qH,reduceToNat → qI
set_option linter.all false
namespace Go.Proofs.Ut
open Go.Ai Classical
set_option linter.unusedSimpArgs false
set_option maxHeartbeats 1000000
set_option maxRecDepth 100000
end Go.Proofs.Ut

namespace Go.Proofs
open Go.Shelf
def Tryz.lays138_ren:Go.Shelf.Ren:=⟨fun | 138=>326 | 195=>338 | 218=>339 | 143=>126 | 219=>166 | 217=>212 | 225=>213 | 224=>214 | 267=>215 | 266=>260 | 314=>261 | n=>n,fun | 9=>9 | 3=>3 | 4=>4 | 5=>5 | 0=>0 | 46=>22 | 146=>253 | 51=>218 | n=>n,fun | 1=>2 | n=>n⟩
theorem Tryz.lays138:Go.Proofs.Lays.n138 Tryz.prog Tryz.lays138_ren:={
 mixed:=by kernel_rfl
 f138:=Go.Ai.tS Tryz.func326 (by kernel_rfl)
 f143:=Go.Ai.tS Tryz.func126 (by kernel_rfl)
 f195:=Go.Ai.tS Tryz.func338 (by kernel_rfl)
 f217:=Go.Ai.tS Tryz.func212 (by kernel_rfl)
 f218:=Go.Ai.tS Tryz.func339 (by kernel_rfl)
 f219:=Go.Ai.tS Tryz.func166 (by kernel_rfl)
 f224:=Go.Ai.tS Tryz.func214 (by kernel_rfl)
 f225:=Go.Ai.tS Tryz.func213 (by kernel_rfl)
 f266:=Go.Ai.tS Tryz.func260 (by kernel_rfl)
 f267:=Go.Ai.tS Tryz.func215 (by kernel_rfl)
 f314:=Go.Ai.tS Tryz.func261 (by kernel_rfl)
 t0:=Tryz.underlying0
 a0:=Tryz.isAgg0
 z0:=Tryz.sizeOf0
 v0:=Tryz.zeroValue0
 t3:=Tryz.underlying3
 a3:=Tryz.isAgg3
 z3:=Tryz.sizeOf3
 v3:=Tryz.zeroValue3
 t4:=Tryz.underlying4
 a4:=Tryz.isAgg4
 z4:=Tryz.sizeOf4
 v4:=Tryz.zeroValue4
 t5:=Tryz.underlying5
 a5:=Tryz.isAgg5
 z5:=Tryz.sizeOf5
 v5:=Tryz.zeroValue5
 t9:=Tryz.underlying9
 a9:=Tryz.isAgg9
 z9:=Tryz.sizeOf9
 v9:=Tryz.zeroValue9
 t46:=Tryz.underlying22
 a46:=Tryz.isAgg22
 z46:=Tryz.sizeOf22
 v46:=Tryz.zeroValue22
 t51:=Tryz.underlying218
 a51:=Tryz.isAgg218
 z51:=Tryz.sizeOf218
 v51:=Tryz.zeroValue218
 t146:=Tryz.underlying253
 a146:=Tryz.isAgg253
 z146:=Tryz.sizeOf253
 v146:=Tryz.zeroValue253
 g1:=by kernel_rfl }
end Go.Proofs

namespace Go.Proofs.Ut
open Go.Ai Go.Shelf Go.RowKit
set_option maxRecDepth 100000
theorem MR (s:List UInt8)(c:UInt8):aY 326 [.str s,.str [c]] (.int .i64 (s.count c:Nat)):=by
 refine yZ ⟨Tryz.f326,Tryz.func326,by kernel_rfl,by kernel_rfl⟩ fun w ok β vs hl hv=>?_
 obtain ⟨u,v,rfl⟩:=two hl
 obtain rfl:=cU (hv 0 u _ rfl rfl)
 obtain rfl:=cU (hv 1 v _ rfl rfl)
 refine ⟨_,fun _ _ _=>.int _ _,(Any.strings_Count_one Tryz.lays138 ⟨s.toArray⟩ c w).mono ?_⟩
 rintro e w' ⟨rfl,rfl⟩
 exact ⟨rfl,Below.refl _ _⟩
def spN (l:List (List UInt8))(n:Nat):List (List DV):=(l++List.replicate (n - l.length) []).map sv
theorem mX (c:UInt8)(r:List UInt8):∀ x:List UInt8,c∉x→Lib.indexByte (x++c::r) c=x.length
 | [],_=>by simp [Lib.indexByte]
 | b::x,h=>by
  simp only [List.mem_cons,not_or] at h
  rw [List.cons_append]
  unfold Lib.indexByte
  rw [if_neg (by simpa using fun e=>h.1 e.symm),mX c r x h.2,if_neg (by simp)]
  simp
theorem kT (c:UInt8):∀ s:List UInt8,(aV c s).length=s.count c+1
 | []=>rfl
 | b::s=>by
  have h:=kT c s
  unfold aV
  by_cases e:b=c
  ·subst e; simp [h]
  ·rw [if_neg e,List.count_cons,if_neg (by simpa using e)]
   split
   ·rename_i h2; exact absurd h2 (qW c s)
   ·rename_i x l h2; rw [h2] at h; simpa using h
theorem DW (l:List (List UInt8))(x:List UInt8)(n:Nat)(h:l.length<n):(spN l n).set l.length [.str x]=spN (l++[x]) n:=by
 obtain ⟨k,rfl⟩:∃ k,n=l.length+(k+1):=⟨n - l.length - 1,by omega⟩
 unfold spN
 rw [show l.length+(k+1) - l.length=k+1 by omega,show l.length+(k+1) - (l++[x]).length=k by simp; omega]
 simp [sv,List.replicate_succ,List.set_append_right]
theorem DO (l:List (List UInt8))(n:Nat)(h:l.length<n):(spN l n)[l.length]?=some [.str []]:=by
 unfold spN
 rw [List.getElem?_map,List.getElem?_append_right (Nat.le_refl _),Nat.sub_self]
 obtain ⟨k,hk⟩:∃ k,n - l.length=k+1:=⟨n - l.length - 1,by omega⟩
 rw [hk]; rfl
theorem TP (l:List (List UInt8)):spN l l.length=l.map sv:=by simp [spN]
theorem KZ (s:List UInt8)(c:UInt8)(hs:s.length<1000000000):ACalls ED 294 [] [.str s,.str [c],.int .i64 0,.int .i64 (-1)] (fun h d=>h=[.arr 1 ((aV c s).map sv)]∧d=.osl 1 0 0 (aV c s).length (some (aV c s).length)):=by
 refine aA c294 (by simp [f294]) ?_
 simp only [f294,↓gos,gop,qA,qB,qC,qD,qE,qF,qG,qH,qI,forall_eq,IntKind.wrap,IntKind.bits,IntKind.signed,Int.reduceEq,Int.reduceAdd,Int.reduceSub,Int.reduceMul,Int.reduceMod,Int.reduceDiv,Int.reduceTDiv,Int.reducePow,Nat.reducePow,Int.reduceNeg,reduceIte,reduceCtorEq,ge_iff_le,Nat.reduceEqDiff]
 refine aB (MR s c) rfl rfl ?_
 have hc:s.count c≤s.length:=List.count_le_length
 have hlen:=kT c s
 generalize hk:s.count c=k at hc hlen ⊢
 have hw:IntKind.i64.wrap ((k:Int)+1)=((k+1:Nat):Int):=by rw [wrap_i64 (by omega) (by omega)]; rfl
 have hw2:IntKind.i64.wrap ((s.length:Int)+1)=((s.length+1:Nat):Int):=by rw [wrap_i64 (by omega) (by omega)]; rfl
 have hmn:(if ((s.length+1:Nat):Int)<((k+1:Nat):Int) then ((s.length+1:Nat):Int) else ((k+1:Nat):Int))=((k+1:Nat):Int):=if_neg (by omega)
 have hw3:IntKind.i64.wrap (((k+1:Nat):Int) - 1)=(k:Nat):=by rw [wrap_i64 (by omega) (by omega)]; omega
 simp only [hw,hw2,hmn,hw3,forall_eq,Int.toNat_natCast,↓gos,gop,qA,qB,qC,qD,qE,qF,qG,qH,qI]
 repeat (refine aO (by omega) ?_)
 rw [show List.replicate (k+1) [DV.str []]=spN [] (k+1) by simp [spN,sv]]
 refine aM (γ:=List (List UInt8)×List UInt8) (fun g=>[(0,.str g.2),(1,.str [c]),(2,.int .i64 0),(3,.int .i64 (k:Nat)),(9,.osl 1 1 0 (k+1) (some (k+1))),(10,.int .i64 (g.1.length:Nat))])
  (fun g=>[.arr 1 [],.arr 1 (spN g.1 (k+1))]) (fun g=>g.1++aV c g.2=aV c s∧g.1.length+g.2.count c=k∧g.2.length≤s.length) (fun g=>k - g.1.length) ([],s)
  (wks rfl (by simp) ⟨rfl,rfl,rfl,rfl,rfl,rfl,trivial⟩) ⟨rfl,by simpa using hk,Nat.le_refl _⟩ fun g hg=>?_
 obtain ⟨done,rest⟩:=g
 obtain ⟨h1,h2,h3⟩:=hg
 simp only at h1 h2 h3
 simp only [f294l0,↓gos,gop,qA,qB,qC,qD,qE,qF,qG,qH,qI]
 refine ⟨fun q1=>?_,fun q1=>?_⟩
 ·refine aB (NF rest c) rfl rfl ?_
  have hmem:c∈rest:=List.count_pos_iff.1 (by omega)
  obtain ⟨x,r,rfl,hx⟩:=List.eq_append_cons_of_mem hmem
  have hxl:x.length+(r.length+1)≤s.length:=by simpa using h3
  have w1:IntKind.i64.wrap ((x.length:Int)+0)=(x.length:Nat):=by rw [Int.add_zero,wrap_i64 (by omega) (by omega)]
  have w2:IntKind.i64.wrap ((x.length:Int)+1)=(x.length+1:Nat):=by rw [wrap_i64 (by omega) (by omega)]; rfl
  have w3:IntKind.i64.wrap ((done.length:Int)+1)=(done.length+1:Nat):=by rw [wrap_i64 (by omega) (by omega)]; rfl
  have hneg:((x.length:Int)<0)↔False:=by simp
  simp only [mX c r x hx,w1,w2,w3,hneg,List.length_singleton,Int.toNat_natCast,forall_eq,↓gos,gop,qA,qB,qC,qD,qE,qF,qG,qH,qI]
  have e1:List.take x.length (x++c::r)=x:=by simp
  have e2:List.take ((x++c::r).length - (x.length+1)) (List.drop (x.length+1) (x++c::r))=r:=by
   rw [List.take_of_length_le (by simp; omega)]; simp
  have hxr:(x++c::r).length=x.length+(r.length+1):=by simp
  rw [e1,e2]
  refine aO (by omega) (aO (by omega) ⟨[.str []],DO _ _ (by omega),aO (by decide) (aO (by omega) ?_)⟩)
  refine aQ (done++[x],r) ?_ (by simp) ⟨rfl,rfl,rfl,rfl,rfl,?_,trivial⟩ ⟨?_,?_,?_⟩ ?_
  ·rw [← DW _ _ _ (by omega)]; rfl
  ·simp [slots]
  ·rw [rQ c r x hx] at h1
   simpa using h1
  ·have:List.count c (x++c::r)=List.count c r+1:=by
    rw [List.count_append,List.count_eq_zero.2 hx]; simp
   simp only [List.length_append,List.length_singleton]
   omega
  ·simp only; omega
  ·simp only [List.length_append,List.length_singleton]; omega
 ·have hno:c∉rest:=List.count_eq_zero.1 (by omega)
  rw [tP c rest hno] at h1
  have hdk:done.length=k:=by omega
  refine aO (by omega) ⟨[.str []],DO _ _ (by omega),aO (by decide) ?_⟩
  intro v hv
  rw [wrap_i64 (by omega) (by omega)] at hv
  refine aO (by omega) (aO (by omega) ?_)
  have hvn:v.toNat=k+1:=by omega
  have e3:(spN done (k+1)).set done.length (DV.str rest::List.drop 1 [DV.str []])=(aV c s).map sv:=by
   show (spN done (k+1)).set done.length [DV.str rest]=_
   rw [DW _ _ _ (by omega),h1,← hlen,TP]
  rw [e3,hvn,hlen]
  exact wR rfl rfl rfl rfl
theorem OY (s:List UInt8)(c:UInt8)(hs:s.length<1000000000):ACalls ED 249 [] [.str s,.str [c]] (fun h d=>h=[.arr 1 ((aV c s).map sv)]∧d=.osl 1 0 0 (aV c s).length (some (aV c s).length)):=by
 refine aA c249 (by simp [f249]) ?_
 simp only [f249,↓gos,gop,qA,qB,qC,qD,qE,qF,qG,qH,qI]
 refine gC (KZ s c hs) (by simp [DV.closed,DV.closed.closedAll]) ?_
 simp only [DV.ren,aR,↓gos,gop,qA,qB,qC,qD,qE,qF,qG,qH,qI]
 exact wR rfl (by simp [sv]) rfl rfl
theorem LZ (s:List UInt8)(c:UInt8)(hs:s.length<1000000000):aY 293 [.str s,.str [c]] (.bool (decide (s.getLast?=some c))):=by
 refine aA c293 (by simp [f293]) ?_
 simp only [f293,↓gos,gop,qA,qB,qC,qD,qE,qF,qG,qH,qI]
 refine ⟨fun h1 v hv=>?_,fun h1=>?_⟩
 ·rw [wrap_i64 (by omega) (by omega)] at hv
  have hv' : v.toNat=s.length - 1:=by omega
  have hne:s≠[]:=fun e=>by subst e; simp at h1
  obtain ⟨t,a,rfl⟩:∃ t a,s=t++[a]:=⟨s.dropLast,s.getLast hne,(List.dropLast_concat_getLast hne).symm⟩
  have e1:List.take ((t++[a]).length - v.toNat) (List.drop v.toNat (t++[a]))=[a]:=by
   rw [hv']; simp
  rw [e1]
  refine aO (by omega) (aO (by omega) ⟨fun h=>aJ ?_,fun h=>aJ ?_⟩)
  ·rw [decide_eq_true]; simpa using h
  ·rw [decide_eq_false]; simpa using h
 ·have:s=[]:=List.eq_nil_of_length_eq_zero (by omega)
  subst this
  exact aJ rfl
theorem aBx (s:List UInt8)(c:UInt8)(hs:s.length<1000000000):aY 251 [.str s,.str [c]] (.bool (decide (s.getLast?=some c))):=by
 refine aA c251 (by simp [f251]) ?_
 simp only [f251,↓gos,gop,qA,qB,qC,qD,qE,qF,qG,qH,qI]
 refine aB (LZ s c hs) rfl rfl ?_
 simp only [↓gos,gop,qA,qB,qC,qD,qE,qF,qG,qH,qI]
 exact aJ rfl
theorem WL (s:List UInt8)(hs:s.length<1000000000):aY 248 [.str s,.str [46]] (.str (fV s)):=by
 refine aA c248 (by simp [f248]) ?_
 simp only [f248,↓gos,gop,qA,qB,qC,qD,qE,qF,qG,qH,qI]
 refine aB (LZ s 46 hs) rfl rfl ?_
 unfold fV
 by_cases h:s.getLast?=some 46
 ·have hl:0<s.length:=by
   cases s with
   | nil=>simp at h
   | cons a l=>simp
  rw [decide_eq_true h,if_pos h]
  simp only [↓gos,gop,qA,qB,qC,qD,qE,qF,qG,qH,qI]
  intro v hv
  rw [wrap_i64 (by omega) (by omega)] at hv
  have hv' : v.toNat=s.length - 1:=by omega
  refine aO (by omega) (aO (by omega) ?_)
  rw [hv',← List.dropLast_eq_take]
  exact kV rfl
 ·rw [decide_eq_false h,if_neg h]
  simp only [↓gos,gop,qA,qB,qC,qD,qE,qF,qG,qH,qI]
  exact kV rfl
theorem WN (s:List UInt8)(hs:s.length<1000000000):aY 199 [.str s,.str [46]] (.str (fV s)):=by
 refine aA c199 (by simp [f199]) ?_
 simp only [f199,↓gos,gop,qA,qB,qC,qD,qE,qF,qG,qH,qI]
 refine aB (WL s hs) rfl rfl ?_
 simp only [↓gos,gop,qA,qB,qC,qD,qE,qF,qG,qH,qI]
 exact kV rfl
theorem sS (c:UInt8):∀ (s:List UInt8)(x:List UInt8),x∈aV c s→x.length≤s.length
 | [],x,h=>by simp [aV] at h; simp [h]
 | b::s,x,h=>by
  have ih:=sS c s
  unfold aV at h
  split at h
  ·rcases List.mem_cons.1 h with rfl|h
   ·simp
   ·have:=ih x h; simp; omega
  ·split at h
   ·rename_i h2; exact absurd h2 (qW c s)
   ·rename_i y l h2
    rw [h2] at ih
    rcases List.mem_cons.1 h with rfl|h
    ·have:=ih y (by simp); simp; omega
    ·have:=ih x (by simp [h]); simp; omega
theorem rK {α:Type}{l:List α}{i:Nat}(h:i<l.length)(d:α):l.take (i+1)=l.take i++[l.getD i d]:=by
 rw [List.take_add_one,List.getD_eq_getElem?_getD,List.getElem?_eq_getElem h]; rfl
theorem GM (x:List UInt8):iN x = !(decide (x=[])||(List.isPrefixOf [45] x||decide (x.getLast?=some 45))):=by
 cases x with
 | nil=>rfl
 | cons a l=>
  simp only [iN,List.isPrefixOf,Bool.and_true,List.head?_cons,Option.some.injEq,Bool.not_or,reduceCtorEq,decide_false,Bool.not_false,Bool.true_and]
  by_cases h:a=45
  ·subst h; rfl
  ·rw [decide_eq_false h,show (45 == a)=false from by simpa using fun e=>h e.symm]
theorem KK (s:List UInt8)(hs:s.length<1000000000):aY 200 [.str s] (.bool ((aV 46 s).all iN)):=by
 refine aA c200 (by simp [f200]) ?_
 simp only [f200,↓gos,gop,qA,qB,qC,qD,qE,qF,qG,qH,qI]
 refine gC (OY s 46 hs) (by simp [DV.closed,DV.closed.closedAll]) ?_
 simp only [DV.ren,aR,↓gos,gop,qA,qB,qC,qD,qE,qF,qG,qH,qI]
 have hlen:=kT 46 s
 have hc:s.count 46≤s.length:=List.count_le_length
 refine aM (γ:=Nat) (fun i=>[(8,.int .i64 i),(7,.int .i64 (aV 46 s).length),(6,.osl 1 0 0 (aV 46 s).length (some (aV 46 s).length))]) (fun _=>[.arr 1 ((aV 46 s).map sv)])
  (fun i=>i≤(aV 46 s).length∧((aV 46 s).take i).all iN=true) (fun i=>(aV 46 s).length - i) 0 (wks rfl (by simp) ⟨rfl,rfl,rfl,trivial⟩) ⟨by omega,by simp⟩ fun i hi=>?_
 obtain ⟨hi,ht⟩:=hi
 simp only [f200l0,↓gos,gop,qA,qB,qC,qD,qE,qF,qG,qH,qI]
 have hpl:∀ x∈aV 46 s,x.length<1000000000:=fun x hx=>Nat.lt_of_le_of_lt (sS 46 s x hx) hs
 generalize aV 46 s=l at *
 refine ⟨fun h1=>?_,fun h1=>?_⟩
 ·have h2:i<l.length:=by omega
  refine aO (by omega) (aU [] h2 ?_)
  have htk:=rK h2 []
  have hm:l.getD i []∈l:=by rw [List.getD_eq_getElem?_getD,List.getElem?_eq_getElem h2]; exact List.getElem_mem h2
  generalize l.getD i []=x at *
  have hx:=hpl x hm
  have hok:=GM x
  simp only [sv,↓gos,gop,qA,qB,qC,qD,qE,qF,qG,qH,qI]
  have bad:iN x=false→l.all iN=false:=fun h=>by rw [List.all_eq_false]; exact ⟨x,hm,by simp [h]⟩
  refine ⟨fun q=>?_,fun q=>?_⟩
  ·rw [bad (by rw [hok,decide_eq_true q]; rfl)]
   exact aC rfl ⟨rfl,rfl⟩
  ·rw [decide_eq_false q,Bool.false_or] at hok
   refine aB (aCf x [45] (by omega) (by simp)) rfl rfl ?_
   cases h3:[45].isPrefixOf x
   ·rw [h3,Bool.false_or] at hok
    simp only [↓gos,gop,qA,qB,qC,qD,qE,qF,qG,qH,qI]
    refine aB (aBx x 45 hx) rfl rfl ?_
    by_cases h4:x.getLast?=some 45
    ·rw [decide_eq_true h4] at hok ⊢
     simp only [↓gos,gop,qA,qB,qC,qD,qE,qF,qG,qH,qI]
     rw [bad hok]
     exact aC rfl ⟨rfl,rfl⟩
    ·rw [decide_eq_false h4] at hok ⊢
     simp only [↓gos,gop,qA,qB,qC,qD,qE,qF,qG,qH,qI]
     intro v hv
     rw [wrap_i64 (by omega) (by omega)] at hv
     exact aQ (i+1) rfl (by simp) ⟨by show DV.int .i64 v=_; rw [hv]; rfl,rfl,rfl,trivial⟩ ⟨by omega,by rw [htk,List.all_append,ht]; simp [hok]⟩ (by omega)
   ·rw [h3] at hok
    simp only [↓gos,gop,qA,qB,qC,qD,qE,qF,qG,qH,qI]
    rw [bad hok]
    exact aC rfl ⟨rfl,rfl⟩
 ·have:i=l.length:=by omega
  subst this
  rw [List.take_length] at ht
  exact aJ ht.symm
end Go.Proofs.Ut

namespace Go.Proofs.Ut
open Go.Ai
set_option maxRecDepth 100000
def lN (s:List UInt8):List UInt8×Int:=
 PF (eW (nH (if (cut 64 (cut 47 s).1).2.2 then (cut 64 (cut 47 s).1).1 else [])) (cut 64 (cut 47 s).1).2.2 64) (nS (jZ (if (cut 64 (cut 47 s).1).2.2 then (cut 64 (cut 47 s).1).2.1 else (cut 47 s).1)))
  (eW (BD (cut 47 s).2.1) (cut 47 s).2.2 64)
theorem rT (s:List UInt8):(fV s).length≤s.length:=by unfold fV; split <;> simp
theorem GY (s:List UInt8)(hs:s.length<100000000)(hr:(jZ s).1.length<1000000000):SE 159 [.str s] (nS (jZ s)):=by
 refine aA c159 (by simp [f159]) ?_
 simp only [f159,↓gos,gop,qA,qB,qC,qD,qE,qF,qG,qH,qI]
 refine aB (aBg s hs) rfl rfl ?_
 unfold nS
 generalize jZ s=x at *
 obtain ⟨t,e⟩:=x
 simp only at hr
 simp only [↓gos,gop,qA,qB,qC,qD,qE,qF,qG,qH,qI]
 refine ⟨fun h=>?_,fun h=>?_⟩
 ·rw [if_pos h]; exact aC rfl ⟨rfl,rfl⟩
 ·rw [if_neg (by simpa using h)]
  refine aB (WN t hr) rfl rfl ?_
  have hd:=rT t
  generalize fV t=d at *
  simp only [↓gos,gop,qA,qB,qC,qD,qE,qF,qG,qH,qI]
  unfold YM
  refine ⟨fun q=>?_,fun q=>?_⟩
  ·rw [decide_eq_false (by omega)]; exact aC rfl ⟨rfl,rfl⟩
  ·rw [decide_eq_true (by omega),Bool.true_and]
   refine aB (KK d (by omega)) rfl rfl ?_
   cases (aV 46 d).all iN
   ·simp only [↓gos,gop,qA,qB,qC,qD,qE,qF,qG,qH,qI]; exact aC rfl ⟨rfl,rfl⟩
   ·simp only [↓gos,gop,qA,qB,qC,qD,qE,qF,qG,qH,qI]; exact aC rfl ⟨rfl,rfl⟩
theorem EM (f:Nat)(r:List UInt8×Int)(s:List UInt8)(is:Bool)(most:Nat)(hm:most<1000)(hr:r.1.length<1000000000)(hf:SE f [.str s] r):SE 160 [.agg [.str s,.bool is],.fn f [],.int .i64 most] (eW r is most):=by
 refine aA c160 (by simp [f160]) ?_
 simp only [f160,↓gos,gop,qA,qB,qC,qD,qE,qF,qG,qH,qI]
 refine aB hf rfl rfl ?_
 obtain ⟨t,e⟩:=r
 simp only at hr
 unfold eW
 simp only [↓gos,gop,qA,qB,qC,qD,qE,qF,qG,qH,qI]
 refine ⟨fun h=>?_,fun h=>?_⟩
 ·rw [if_pos h]; exact aC rfl ⟨rfl,rfl⟩
 ·obtain rfl:e=0:=by simpa using h
  rw [if_neg (by simp)]
  cases is
  ·rw [if_neg (by simp)]
   simp only [↓gos,gop,qA,qB,qC,qD,qE,qF,qG,qH,qI]
   exact aC rfl ⟨rfl,rfl⟩
  ·simp only [↓gos,gop,qA,qB,qC,qD,qE,qF,qG,qH,qI]
   refine ⟨fun q=>?_,fun q=>⟨fun q2=>?_,fun q2=>?_⟩⟩
   ·rw [if_pos (.inl q)]; exact aC rfl ⟨rfl,rfl⟩
   ·rw [if_pos (.inr (by omega))]; exact aC rfl ⟨rfl,rfl⟩
   ·rw [if_neg (fun h=>h.elim q (by omega))]; exact aC rfl ⟨rfl,rfl⟩
theorem UQ (l d:List UInt8)(hl:l.length<1000000000)(hd:d.length<1000000000):aY 123 [.agg [.str l,.str d,.str []]] (.str (if l=[] then d else l++64::d)):=by
 refine aA c123 (by simp [f123]) ?_
 simp only [f123,↓gos,gop,qA,qB,qC,qD,qE,qF,qG,qH,qI]
 refine ⟨fun h=>?_,fun h=>?_⟩
 ·rw [if_neg h]
  refine aO (by omega) (aO (by simp; omega) (kV (by simp)))
 ·rw [if_pos (by simpa using h)]
  exact kV rfl
theorem LR (s:List UInt8)(hs:s.length<1000000000):aY 158 [.str s] (.tup [.agg [.str (if (cut 64 (cut 47 s).1).2.2 then (cut 64 (cut 47 s).1).1 else []),.bool (cut 64 (cut 47 s).1).2.2],
  .str (if (cut 64 (cut 47 s).1).2.2 then (cut 64 (cut 47 s).1).2.1 else (cut 47 s).1),.agg [.str (cut 47 s).2.1,.bool (cut 47 s).2.2]]):=by
 refine aA c158 (by simp [f158]) ?_
 simp only [f158,↓gos,gop,qA,qB,qC,qD,qE,qF,qG,qH,qI]
 refine aB (uD s 47 (by omega)) rfl rfl ?_
 have hl:=lF 47 s
 generalize cut 47 s=x at *
 obtain ⟨head,res,has⟩:=x
 simp only at hl
 simp only [↓gos,gop,qA,qB,qC,qD,qE,qF,qG,qH,qI]
 refine aB (uD head 64 (by omega)) rfl rfl ?_
 generalize cut 64 head=x at *
 obtain ⟨l,d,is⟩:=x
 cases is
 ·simp only [↓gos,gop,qA,qB,qC,qD,qE,qF,qG,qH,qI]
  exact aC rfl ⟨rfl,by simp [rvd]⟩
 ·simp only [↓gos,gop,qA,qB,qC,qD,qE,qF,qG,qH,qI]
  exact aC rfl ⟨rfl,by simp [rvd]⟩
structure JP where
 l:List UInt8
 d:List UInt8
 r:List UInt8
 e:Int
def oQ (L D R:List UInt8×Int):JP:=if D.2≠0 then ⟨[],[],[],D.2⟩ else if L.2≠0 then ⟨[],[],[],L.2⟩ else if R.2≠0 then ⟨[],[],[],R.2⟩ else ⟨L.1,D.1,R.1,0⟩
def qO (s:List UInt8):JP:=
 oQ (eW (nH (if (cut 64 (cut 47 s).1).2.2 then (cut 64 (cut 47 s).1).1 else [])) (cut 64 (cut 47 s).1).2.2 64) (nS (jZ (if (cut 64 (cut 47 s).1).2.2 then (cut 64 (cut 47 s).1).2.1 else (cut 47 s).1)))
  (eW (BD (cut 47 s).2.1) (cut 47 s).2.2 64)
def BV (p:JP):List UInt8×Int:=if p.e≠0 then ([],p.e) else if p.r≠[] then ([],14) else (if p.l=[] then p.d else p.l++64::p.d,0)
theorem MX (s:List UInt8):lN s=BV (qO s):=by
 unfold lN qO PF oQ BV
 generalize nS _=D
 generalize eW _ _ _=L
 generalize eW _ _ _=R
 by_cases h1:D.2=0
 ·by_cases h2:L.2=0
  ·by_cases h3:R.2=0
   ·simp [h1,h2,h3]
   ·simp [h1,h2,h3]
  ·simp [h1,h2]
 ·simp [h1]
def okJ (s:List UInt8):Prop:=∀ x:List UInt8,x.length≤s.length→(nH x).1.length<1000000000∧(jZ x).1.length<1000000000∧(BD x).1.length<1000000000
theorem KS (s:List UInt8)(hs:s.length<100000000)(hb:okJ s):aY 122 [.str s] (.tup [.agg [.str (qO s).l,.str (qO s).d,.str (qO s).r],.int .i64 (qO s).e]):=by
 have hl:=lF 47 s
 have hl2:=lF 64 (cut 47 s).1
 have hp:=LR s (by omega)
 unfold qO
 generalize cut 47 s=x at *
 obtain ⟨head,res,has⟩:=x
 simp only at *
 generalize cut 64 head=x at *
 obtain ⟨l,d,is⟩:=x
 simp only at *
 have hln:(if is=true then l else []).length≤s.length:=by cases is <;> simp; omega
 have hdn:(if is=true then d else head).length≤s.length:=by cases is <;> simp <;> omega
 generalize (if is=true then l else [])=l at *
 generalize (if is=true then d else head)=d at *
 have cD:=GY d (by omega) (hb d hdn).2.1
 have cL:=EM 161 (nH l) l is 64 (by omega) (hb l hln).1 (aCy l (by omega))
 have cR:=EM 162 (BD res) res has 64 (by omega) (hb res hl.2).2.2 (aDA res (by omega))
 generalize nS (jZ d)=D at *
 generalize eW (nH l) is 64=L at *
 generalize eW (BD res) has 64=R at *
 obtain ⟨D,eD⟩:=D
 obtain ⟨L,eL⟩:=L
 obtain ⟨R,eR⟩:=R
 refine aA c122 (by simp [f122]) ?_
 simp only [f122,↓gos,gop,qA,qB,qC,qD,qE,qF,qG,qH,qI]
 refine aB hp rfl rfl ?_
 simp only [↓gos,gop,qA,qB,qC,qD,qE,qF,qG,qH,qI]
 refine aB cD rfl rfl ?_
 unfold oQ
 simp only [↓gos,gop,qA,qB,qC,qD,qE,qF,qG,qH,qI]
 refine ⟨fun h=>?_,fun h=>?_⟩
 ·rw [if_pos h]; exact aC rfl ⟨rfl,rfl⟩
 ·rw [if_neg (by simpa using h)]
  refine aB cL rfl rfl ?_
  simp only [↓gos,gop,qA,qB,qC,qD,qE,qF,qG,qH,qI]
  refine ⟨fun h=>?_,fun h=>?_⟩
  ·rw [if_pos h]; exact aC rfl ⟨rfl,rfl⟩
  ·rw [if_neg (by simpa using h)]
   refine aB cR rfl rfl ?_
   simp only [↓gos,gop,qA,qB,qC,qD,qE,qF,qG,qH,qI]
   refine ⟨fun h=>?_,fun h=>?_⟩
   ·rw [if_pos h]; exact aC rfl ⟨rfl,rfl⟩
   ·rw [if_neg (by simpa using h)]
    exact aC rfl ⟨rfl,rfl⟩
theorem UN (x:List UInt8×Int)(is:Bool)(n:Nat):(eW x is n).1.length≤x.1.length:=by
 unfold eW; split
 ·simp
 ·split <;> simp
theorem aBJ (x:List UInt8×Int):(nS x).1.length≤x.1.length:=by
 have:=rT x.1
 unfold nS; split
 ·simp
 ·split <;> simp <;> omega
theorem aBG (s:List UInt8)(hb:okJ s):(qO s).l.length<1000000000∧(qO s).d.length<1000000000:=by
 have hl:=lF 47 s
 have hl2:=lF 64 (cut 47 s).1
 unfold qO
 generalize cut 47 s=x at *
 obtain ⟨head,res,has⟩:=x
 simp only at *
 generalize cut 64 head=x at *
 obtain ⟨l,d,is⟩:=x
 simp only at *
 have hln:(if is=true then l else []).length≤s.length:=by cases is <;> simp; omega
 have hdn:(if is=true then d else head).length≤s.length:=by cases is <;> simp <;> omega
 generalize (if is=true then l else [])=l at *
 generalize (if is=true then d else head)=d at *
 have q1:=(hb l hln).1
 have q2:=(hb d hdn).2.1
 have q3:=UN (nH l) is 64
 have q4:=aBJ (jZ d)
 unfold oQ
 repeat' split
 all_goals simp
 all_goals omega
theorem aCx (s:List UInt8)(hs:s.length<100000000)(hb:okJ s):SE 63 [.str s] (lN s):=by
 have hj:=aBG s hb
 have hp:=KS s hs hb
 rw [MX]
 refine aA c63 (by simp [f63]) ?_
 simp only [f63,↓gos,gop,qA,qB,qC,qD,qE,qF,qG,qH,qI]
 generalize qO s=p at *
 obtain ⟨l,d,r,e⟩:=p
 refine aB hp rfl rfl ?_
 unfold BV
 simp only at *
 simp only [↓gos,gop,qA,qB,qC,qD,qE,qF,qG,qH,qI]
 refine ⟨fun h=>?_,fun h=>⟨fun h2=>?_,fun h2=>?_⟩⟩
 ·rw [if_pos h]; exact aC rfl ⟨rfl,rfl⟩
 ·rw [if_neg (by simpa using h),if_pos h2]; exact aC rfl ⟨rfl,rfl⟩
 ·rw [if_neg (by simpa using h),if_neg (by simpa using h2)]
  obtain rfl:r=[]:=by simpa using h2
  refine aB (UQ l d hj.1 hj.2) rfl rfl ?_
  simp only [↓gos,gop,qA,qB,qC,qD,qE,qF,qG,qH,qI]
  exact aC rfl ⟨rfl,rfl⟩
end Go.Proofs.Ut
