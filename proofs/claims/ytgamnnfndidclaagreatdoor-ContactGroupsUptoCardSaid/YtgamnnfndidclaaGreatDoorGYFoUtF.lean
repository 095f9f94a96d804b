import Derived.Test.YtgamnnfndidclaaGreatDoorGYFoUtD
import Derived.Shelf.Lays
import Derived.Shelf.Strings.BuilderX
import Derived.Shelf.Unicode.ValidAny
import Derived.Shelf.Unicode.DecodeAny
import Derived.Ground.NamesProg
import Derived.Test.YtgamnnfndidclaaGreatDoorProg
import Derived.Below
open Nat renaming reduceBEq → qA,reduceAdd → qB,reduceSub → qC,reduceLeDiff → qD,reduceMul → qE
open Int renaming reduceLE → qF,reduceLT → qG,reduceNe → qH,reduceToNat → qI
set_option linter.all false
namespace Go.Proofs.Ut
open Go.Ai Classical
set_option linter.unusedSimpArgs false
set_option maxHeartbeats 1000000
set_option maxRecDepth 100000
def num (n:Int):List DV:=[.int .i64 n]
noncomputable def EV (s:List UInt8)(i:Nat):Nat×Nat:=if D s i=(65533,1) then (0,0) else if bR (D s i).1 then D s i else (0,0)
theorem gL (L:List Int):((DV.osl 1 0 0 L.length none).free&&[AObj.arr 1 (L.map num)].all iD)=true:=by simp [DV.free,iD,num]
section
variable {E:Env} (hP:E.P=Tryz.prog)
include hP
theorem aDP (s:List UInt8)(i:Nat)(hi:i<s.length)(hs:s.length<100000000000):ACalls E 179 [] [.str s,.int .i64 i] (rC (nV s i)):=by
 refine aA (hP▸c179) (by simp [f179]) ?_
 exact f65_go s i hi hs
theorem JU (s:List UInt8)(i:Nat)(hi:i<s.length)(hs:s.length<100000000000):ACalls E 139 [] [.str s,.int .i64 i] (rC (EV s i)):=by
 refine aA (hP▸c139) (by simp [f139]) ?_
 simp only [f139,↓gos,gop,qA,qB,qC,qD,qE,qF,qG,qH,qI]
 refine aB (aDP hP s i hi hs) rfl rfl ?_
 have hD:=dE s i hi
 rw [ZP s i hi]
 unfold EV
 by_cases hb:D s i=(65533,1)
 ·rw [if_pos hb,if_pos hb]
  simp only [↓gos,gop,qA,qB,qC,qD,qE,qF,qG,qH,qI]
  exact vP rfl rfl
 ·rw [if_neg hb,if_neg hb]
  have hz:(((D s i).2:Nat):Int)=0↔False:=by simp; omega
  simp only [hz,↓gos,gop,qA,qB,qC,qD,qE,qF,qG,qH,qI]
  refine aB (aDj hP (D s i).1) rfl rfl ?_
  rw [KI hD.2.2]
  cases hm:bR (D s i).1
  ·rw [if_neg (by simp)]
   simp only [↓gos,gop,qA,qB,qC,qD,qE,qF,qG,qH,qI]
   exact vP rfl rfl
  ·rw [if_pos rfl]
   simp only [↓gos,gop,qA,qB,qC,qD,qE,qF,qG,qH,qI]
   exact vP rfl rfl
theorem yR (s:List UInt8)(hs:s.length<100000000000):ACalls E 71 [] [.str s] fun h d=>h=[]∧d=.bool (aW bR s 0):=by
 refine aA (hP▸c71) (by simp [f71]) ?_
 simp only [f71,↓gos,gop,qA,qB,qC,qD,qE,qF,qG,qH,qI]
 refine aM (γ:=Nat) (fun i=>[(0,.str s),(3,.int .i64 i)]) (fun _=>[]) (fun i=>i≤s.length∧aW bR s i=aW bR s 0) (fun i=>s.length - i) 0 (wks rfl (Nat.zero_le _) ⟨rfl,rfl,trivial⟩) ⟨by omega,rfl⟩ fun i hi=>?_
 obtain ⟨hi,hr⟩:=hi
 simp only [f71l0,↓gos,gop,qA,qB,qC,qD,qE,qF,qG,qH,qI]
 refine ⟨fun h1=>aB (JU hP s i (by omega) hs) rfl rfl ?_,fun h1=>aJ ?_⟩
 ·have hlt:i<s.length:=by omega
  have hD:=dE s i hlt
  rw [cX _ _ _ hlt] at hr
  unfold EV
  by_cases hb:D s i=(65533,1)
  ·rw [if_pos hb] at hr ⊢
   simp only [↓gos,gop,qA,qB,qC,qD,qE,qF,qG,qH,qI]
   exact aJ hr
  ·rw [if_neg hb] at hr ⊢
   cases hm:bR (D s i).1
   ·rw [hm] at hr
    rw [if_neg (by simp)]
    simp only [↓gos,gop,qA,qB,qC,qD,qE,qF,qG,qH,qI]
    exact aJ hr
   ·rw [hm,Bool.true_and] at hr
    rw [if_pos rfl]
    have hz:(((D s i).2:Nat):Int)=0↔False:=by simp; omega
    simp only [hz,↓gos,gop,qA,qB,qC,qD,qE,qF,qG,qH,qI]
    intro v hv
    rw [wrap_i64 (by omega) (by omega)] at hv
    exact aQ (i+(D s i).2) rfl (Nat.zero_le _) ⟨rfl,by show DV.int .i64 v=_; rw [hv]; rfl,trivial⟩ ⟨hD.2.1,hr⟩ (by omega)
 ·rw [← hr,dC _ _ _ (by omega)]
abbrev aBV (E:Env)(f:Nat)(args:List DV)(L:List Int):Prop:=ACalls E f [] args fun h d=>h=[.arr 1 (L.map num)]∧d=.osl 1 0 0 L.length none
def rs (s:List UInt8):List Int:=if aW bR s 0 then gH s 0 else []
theorem OJ (s:List UInt8)(hs:s.length<100000000000):aBV E 72 [.str s] (rs s):=by
 refine aA (hP▸c72) (by simp [f72]) ?_
 simp only [f72,↓gos,gop,qA,qB,qC,qD,qE,qF,qG,qH,qI]
 refine aB (yR hP s hs) rfl rfl ?_
 unfold rs
 cases hv:aW bR s 0
 ·simp only [↓gos,gop,qA,qB,qC,qD,qE,qF,qG,qH,qI]
  exact bO rfl rfl rfl
 ·simp only [↓gos,gop,qA,qB,qC,qD,qE,qF,qG,qH,qI]
  refine aM (γ:=Nat×List Int) (fun g=>[(0,.str s),(3,.osl 1 1 0 g.2.length none),(4,.int .i64 (g.1:Nat))]) (fun g=>[.arr 1 [],.arr 1 (g.2.map num)]) (fun g=>g.1≤s.length∧aW bR s g.1=true∧g.2++gH s g.1=gH s 0∧g.2.length≤g.1) (fun g=>s.length - g.1) (0,[]) (wks rfl (Nat.zero_le _) ⟨rfl,rfl,rfl,trivial⟩) ⟨by simp,hv,rfl,by simp⟩ fun g hg=>?_
  obtain ⟨i,acc⟩:=g
  obtain ⟨hi,hr,hacc,hlen⟩:=hg
  simp only at hi hr hacc hlen
  simp only [f72l0,num,↓gos,gop,qA,qB,qC,qD,qE,qF,qG,qH,qI]
  refine ⟨fun h1=>aB (JU hP s i (by omega) hs) rfl rfl ?_,fun h1=>bO rfl ?_ ?_⟩
  ·have hlt:i<s.length:=by omega
   have hD:=dE s i hlt
   rw [cX _ _ _ hlt] at hr
   rw [eH _ _ hlt] at hacc
   unfold EV
   by_cases hb:D s i=(65533,1)
   ·rw [if_pos hb] at hr; cases hr
   ·rw [if_neg hb] at hr ⊢
    rw [Bool.and_eq_true] at hr
    rw [if_pos hr.1]
    simp only [↓gos,gop,qA,qB,qC,qD,qE,qF,qG,qH,qI]
    refine ⟨by omega,by omega,fun v hv=>?_⟩
    rw [wrap_i64 (by omega) (by omega)] at hv
    refine dO 2 (i+(D s i).2,acc++[((D s i).1:Int)]) ?_ (Nat.zero_le _) ⟨rfl,rfl,?_,rfl,?_,rfl,trivial⟩ rfl ⟨hD.2.1,hr.2,by simpa using hacc,by simp; omega⟩ (by simp only; omega)
    ·simp [num]
    ·simp [slots]
    ·show DV.int .i64 v=_
     rw [hv]; rfl
  ·rw [cK _ _ (by omega),List.append_nil] at hacc
   rw [← hacc]; simp
  ·rw [cK _ _ (by omega),List.append_nil] at hacc
   rw [← hacc]; simp
theorem DT (hv:pW E)(s:List UInt8)(hs:s.length<100000000000):aBV E 127 [.str s] (rs s):=by
 refine aA (hP▸c127) (by simp [f127]) ?_
 simp only [f127,↓gos,gop,qA,qB,qC,qD,qE,qF,qG,qH,qI]
 refine aB (FB hP hv s (by omega)) rfl rfl ?_
 rw [jA]
 unfold rs
 cases hvv:aW bR s 0
 ·simp only [↓gos,gop,qA,qB,qC,qD,qE,qF,qG,qH,qI]
  exact bO rfl rfl rfl
 ·simp only [↓gos,gop,qA,qB,qC,qD,qE,qF,qG,qH,qI]
  refine aM (γ:=Nat×List Int) (fun g=>[(3,.osl 1 1 0 g.2.length none),(10,.ptr 2 0)]) (fun g=>[.arr 1 [],.arr 1 (g.2.map num),.iter s g.1]) (fun g=>g.1≤s.length∧g.2++gH s g.1=gH s 0∧g.2.length≤g.1) (fun g=>s.length - g.1) (0,[]) (wks rfl (Nat.zero_le _) ⟨rfl,rfl,trivial⟩) ⟨by simp,rfl,by simp⟩ fun g hg=>?_
  obtain ⟨i,acc⟩:=g
  obtain ⟨hi,hacc,hlen⟩:=hg
  simp only at hi hacc hlen
  simp only [f127l0,num,↓gos,gop,qA,qB,qC,qD,qE,qF,qG,qH,qI]
  refine ⟨fun h1 v hv=>?_,fun h1=>bO rfl ?_ ?_⟩
  ·have hD:=dE s i h1
   rw [eH _ _ h1] at hacc
   have hok:=hD.2.2
   unfold okC at hok
   have hv' : v=((D s i).1:Int):=by
    rw [hv]
    exact wrap_i64 (x:=((D s i).1:Int)) (by omega) (by omega)
   refine ⟨by omega,by omega,?_⟩
   refine dO 3 (i+(D s i).2,acc++[((D s i).1:Int)]) ?_ (Nat.zero_le _) ⟨?_,rfl,rfl,rfl,trivial⟩ rfl ⟨hD.2.1,by simpa using hacc,by simp; omega⟩ (by simp only; omega)
   ·simp [num,hv']; rfl
   ·simp [slots]
  ·rw [cK _ _ h1,List.append_nil] at hacc
   rw [← hacc]; simp
  ·rw [cK _ _ h1,List.append_nil] at hacc
   rw [← hacc]; simp
theorem FJ (hv:pW E)(s:List UInt8)(hs:s.length<100000000000):ACalls E 66 [] [.str s] fun h d=>h=[]∧d=.int .i64 ((rs s).length:Int):=by
 refine aA (hP▸c66) (by simp [f66]) ?_
 simp only [f66,↓gos,gop,qA,qB,qC,qD,qE,qF,qG,qH,qI]
 refine bH (DT hP hv s hs) rfl (gL _) ?_
 simp only [DV.ren,aR,↓gos,gop,qA,qB,qC,qD,qE,qF,qG,qH,qI]
 exact qK rfl
theorem aCE (hv:pW E)(s:List UInt8)(most:Int)(hs:s.length<100000000000):ACalls E 135 [] [.str s,.int .i64 most] fun h d=>h=[]∧d=.bool (aW cG s 0&&decide (((rs s).length:Int)≤most)):=by
 refine aA (hP▸c135) (by simp [f135]) ?_
 simp only [f135,↓gos,gop,qA,qB,qC,qD,qE,qF,qG,qH,qI]
 refine aB (JV hP hv (fun c=>DI hP c) s (by omega)) rfl rfl ?_
 rw [jA]
 cases hvv:aW cG s 0
 ·simp only [↓gos,gop,qA,qB,qC,qD,qE,qF,qG,qH,qI]
  exact aJ rfl
 ·simp only [↓gos,gop,qA,qB,qC,qD,qE,qF,qG,qH,qI]
  refine aB (FJ hP hv s hs) rfl rfl ?_
  simp only [↓gos,gop,qA,qB,qC,qD,qE,qF,qG,qH,qI]
  exact ⟨fun h=>aJ (by simp [h]),fun h=>aJ (by simp [h])⟩
theorem XT (s:List UInt8)(most:Int)(hs:s.length<100000000000):ACalls E 40 [] [.str s,.int .i64 most] fun h d=>h=[]∧d=.bool ((rs s).all (fun c=>decide (32≤c))&&(aW bR s 0&&decide (((rs s).length:Int)≤most))):=by
 refine aA (hP▸c40) (by simp [f40]) ?_
 simp only [f40,↓gos,gop,qA,qB,qC,qD,qE,qF,qG,qH,qI]
 refine bH (OJ hP s hs) rfl (gL _) ?_
 simp only [DV.ren,aR,↓gos,gop,qA,qB,qC,qD,qE,qF,qG,qH,qI]
 have hlen:(rs s).length≤s.length:=by
  unfold rs; split
  ·exact jM s _ 0
  ·simp
 refine aM (γ:=Nat) (fun i=>[(0,.str s),(1,.int .i64 most),(5,.osl 1 0 0 (rs s).length none),(6,.int .i64 i)]) (fun _=>[.arr 1 ((rs s).map num)]) (fun i=>i≤(rs s).length∧∀ j,j<i→32≤(rs s).getD j 0) (fun i=>(rs s).length - i) 0 (wks rfl (Nat.zero_le _) ⟨rfl,rfl,rfl,rfl,trivial⟩) (by simp) fun i hi=>?_
 obtain ⟨hi,hp⟩:=hi
 simp only [f40l0,num,↓gos,gop,qA,qB,qC,qD,qE,qF,qG,qH,qI]
 refine ⟨fun h1=>⟨by omega,aU 0 (by omega) ⟨fun h2=>aJ ?_,fun h2 v hv=>?_⟩⟩,fun h1=>?_⟩
 ·symm
  rw [Bool.and_eq_false_iff]
  left
  rw [List.all_eq_false]
  exact ⟨(rs s).getD i 0,by simp [show i<(rs s).length by omega],by simp only [decide_eq_true_eq]; omega⟩
 ·rw [wrap_i64 (by omega) (by omega)] at hv
  refine aQ (i+1) rfl (Nat.zero_le _) ⟨rfl,rfl,rfl,by show DV.int .i64 v=_; rw [hv]; rfl,trivial⟩ ⟨by omega,fun j hj=>?_⟩ (by omega)
  by_cases hji:j=i
  ·subst hji; omega
  ·exact hp j (by omega)
 ·have hall:(rs s).all (fun c=>decide (32≤c))=true:=by
   rw [List.all_eq_true]
   intro x hx
   obtain ⟨j,hj,rfl⟩:=List.getElem_of_mem hx
   have:=hp j (by omega)
   simpa [hj] using this
  rw [hall,Bool.true_and]
  refine aB (yR hP s hs) rfl rfl ?_
  cases hvv:aW bR s 0
  ·simp only [↓gos,gop,qA,qB,qC,qD,qE,qF,qG,qH,qI]
   exact aJ rfl
  ·simp only [↓gos,gop,qA,qB,qC,qD,qE,qF,qG,qH,qI]
   exact ⟨fun h=>aJ (by simp [h]),fun h=>aJ (by simp [h])⟩
end
end Go.Proofs.Ut

namespace Go.Proofs
open Go.Shelf
def Tryz.laysValid_ren:Go.Shelf.Ren:=⟨fun | 196=>163 | 259=>208 | n=>n,fun | 9=>9 | 4=>4 | 3=>3 | 5=>5 | 12=>12 | 119=>197 | 0=>0 | 46=>22 | 139=>200 | 138=>199 | 53=>243 | n=>n,fun | 3=>0 | 4=>1 | n=>n⟩
theorem Tryz.laysValid:Go.Proofs.Lays.n196 Tryz.prog Tryz.laysValid_ren:={
 mixed:=by kernel_rfl
 f196:=Go.Ai.tS Tryz.func163 (by kernel_rfl)
 f259:=Go.Ai.tS Tryz.func208 (by kernel_rfl)
 t0:=Tryz.underlying0
 a0:=Tryz.isAgg0
 z0:=Tryz.sizeOf0
 v0:=Tryz.zeroValue0
 t3:=Tryz.underlying3
 a3:=Tryz.isAgg3
 z3:=Tryz.sizeOf3
 v3:=Tryz.zeroValue3
 t4:=Tryz.underlying4
 a4:=Tryz.isAgg4
 z4:=Tryz.sizeOf4
 v4:=Tryz.zeroValue4
 t5:=Tryz.underlying5
 a5:=Tryz.isAgg5
 z5:=Tryz.sizeOf5
 v5:=Tryz.zeroValue5
 t9:=Tryz.underlying9
 a9:=Tryz.isAgg9
 z9:=Tryz.sizeOf9
 v9:=Tryz.zeroValue9
 t12:=Tryz.underlying12
 a12:=Tryz.isAgg12
 z12:=Tryz.sizeOf12
 v12:=Tryz.zeroValue12
 t46:=Tryz.underlying22
 a46:=Tryz.isAgg22
 z46:=Tryz.sizeOf22
 v46:=Tryz.zeroValue22
 t53:=Tryz.underlying243
 a53:=Tryz.isAgg243
 z53:=Tryz.sizeOf243
 v53:=Tryz.zeroValue243
 t119:=Tryz.underlying197
 a119:=Tryz.isAgg197
 z119:=Tryz.sizeOf197
 t138:=Tryz.underlying199
 a138:=Tryz.isAgg199
 z138:=Tryz.sizeOf199
 v138:=Tryz.zeroValue199
 t139:=Tryz.underlying200
 a139:=Tryz.isAgg200
 z139:=Tryz.sizeOf200
 v139:=Tryz.zeroValue200
 g3:=by kernel_rfl
 g4:=by kernel_rfl }
def Tryz.lays197_ren:Go.Shelf.Ren:=⟨fun | 197=>220 | 260=>267 | n=>n,fun | 9=>9 | 21=>21 | 3=>3 | 4=>4 | 5=>5 | 105=>210 | 119=>197 | 0=>0 | 46=>22 | 139=>200 | 138=>199 | n=>n,fun | 3=>0 | 4=>1 | n=>n⟩
theorem Tryz.lays197:Go.Proofs.Lays.n197 Tryz.prog Tryz.lays197_ren:={
 mixed:=by kernel_rfl
 f197:=Go.Ai.tS Tryz.func220 (by kernel_rfl)
 f260:=Go.Ai.tS Tryz.func267 (by kernel_rfl)
 t0:=Tryz.underlying0
 a0:=Tryz.isAgg0
 z0:=Tryz.sizeOf0
 v0:=Tryz.zeroValue0
 t3:=Tryz.underlying3
 a3:=Tryz.isAgg3
 z3:=Tryz.sizeOf3
 v3:=Tryz.zeroValue3
 t4:=Tryz.underlying4
 a4:=Tryz.isAgg4
 z4:=Tryz.sizeOf4
 v4:=Tryz.zeroValue4
 t5:=Tryz.underlying5
 a5:=Tryz.isAgg5
 z5:=Tryz.sizeOf5
 v5:=Tryz.zeroValue5
 t9:=Tryz.underlying9
 a9:=Tryz.isAgg9
 z9:=Tryz.sizeOf9
 v9:=Tryz.zeroValue9
 t21:=Tryz.underlying21
 a21:=Tryz.isAgg21
 z21:=Tryz.sizeOf21
 v21:=Tryz.zeroValue21
 t46:=Tryz.underlying22
 a46:=Tryz.isAgg22
 z46:=Tryz.sizeOf22
 v46:=Tryz.zeroValue22
 t105:=Tryz.underlying210
 a105:=Tryz.isAgg210
 z105:=Tryz.sizeOf210
 v105:=Tryz.zeroValue210
 t119:=Tryz.underlying197
 a119:=Tryz.isAgg197
 z119:=Tryz.sizeOf197
 t138:=Tryz.underlying199
 a138:=Tryz.isAgg199
 z138:=Tryz.sizeOf199
 v138:=Tryz.zeroValue199
 t139:=Tryz.underlying200
 a139:=Tryz.isAgg200
 z139:=Tryz.sizeOf200
 v139:=Tryz.zeroValue200
 g3:=by kernel_rfl
 g4:=by kernel_rfl }
def Tryz.lays169_ren:Go.Shelf.Ren:=⟨fun | 169=>175 | n=>n,fun | 70=>167 | 9=>9 | 0=>0 | 72=>169 | 37=>47 | 127=>213 | 3=>3 | 5=>5 | n=>n,fun | n=>n⟩
theorem Tryz.lays169:Go.Proofs.Lays.n169 Tryz.prog Tryz.lays169_ren:={
 mixed:=by kernel_rfl
 f169:=Go.Ai.tS Tryz.func175 (by kernel_rfl)
 t0:=Tryz.underlying0
 a0:=Tryz.isAgg0
 z0:=Tryz.sizeOf0
 v0:=Tryz.zeroValue0
 t3:=Tryz.underlying3
 a3:=Tryz.isAgg3
 z3:=Tryz.sizeOf3
 v3:=Tryz.zeroValue3
 t9:=Tryz.underlying9
 a9:=Tryz.isAgg9
 z9:=Tryz.sizeOf9
 v9:=Tryz.zeroValue9
 t37:=Tryz.underlying47
 a37:=Tryz.isAgg47
 z37:=Tryz.sizeOf47
 v37:=Tryz.zeroValue47
 t70:=Tryz.underlying167
 a70:=Tryz.isAgg167
 z70:=Tryz.sizeOf167
 v70:=Tryz.zeroValue167
 t72:=Tryz.underlying169
 a72:=Tryz.isAgg169
 z72:=Tryz.sizeOf169
 v72:=Tryz.zeroValue169
 t127:=Tryz.underlying213
 a127:=Tryz.isAgg213
 z127:=Tryz.sizeOf213
 v127:=Tryz.zeroValue213 }
def Tryz.lays165_ren:Go.Shelf.Ren:=⟨fun | 165=>190 | 240=>223 | 241=>229 | 276=>274 | 277=>279 | n=>n,fun | 70=>167 | 3=>3 | 0=>0 | 4=>4 | 9=>9 | 20=>20 | 72=>169 | 37=>47 | 164=>272 | 5=>5 | n=>n,fun | n=>n⟩
theorem Tryz.lays165:Go.Proofs.Lays.n165 Tryz.prog Tryz.lays165_ren:={
 mixed:=by kernel_rfl
 f165:=Go.Ai.tS Tryz.func190 (by kernel_rfl)
 f240:=Go.Ai.tS Tryz.func223 (by kernel_rfl)
 f241:=Go.Ai.tS Tryz.func229 (by kernel_rfl)
 f276:=Go.Ai.tS Tryz.func274 (by kernel_rfl)
 f277:=Go.Ai.tS Tryz.func279 (by kernel_rfl)
 t0:=Tryz.underlying0
 a0:=Tryz.isAgg0
 z0:=Tryz.sizeOf0
 v0:=Tryz.zeroValue0
 t3:=Tryz.underlying3
 a3:=Tryz.isAgg3
 z3:=Tryz.sizeOf3
 v3:=Tryz.zeroValue3
 t4:=Tryz.underlying4
 a4:=Tryz.isAgg4
 z4:=Tryz.sizeOf4
 v4:=Tryz.zeroValue4
 t9:=Tryz.underlying9
 a9:=Tryz.isAgg9
 z9:=Tryz.sizeOf9
 v9:=Tryz.zeroValue9
 t20:=Tryz.underlying20
 a20:=Tryz.isAgg20
 z20:=Tryz.sizeOf20
 v20:=Tryz.zeroValue20
 t37:=Tryz.underlying47
 a37:=Tryz.isAgg47
 z37:=Tryz.sizeOf47
 v37:=Tryz.zeroValue47
 t70:=Tryz.underlying167
 a70:=Tryz.isAgg167
 z70:=Tryz.sizeOf167
 v70:=Tryz.zeroValue167
 t72:=Tryz.underlying169
 a72:=Tryz.isAgg169
 z72:=Tryz.sizeOf169
 v72:=Tryz.zeroValue169
 t164:=Tryz.underlying272
 a164:=Tryz.isAgg272
 z164:=Tryz.sizeOf272
 v164:=Tryz.zeroValue272 }
def Tryz.lays217_ren:Go.Shelf.Ren:=⟨fun | 217=>212 | 266=>260 | n=>n,fun | 9=>9 | 5=>5 | 3=>3 | n=>n,fun | n=>n⟩
theorem Tryz.lays217:Go.Proofs.Lays.n217 Tryz.prog Tryz.lays217_ren:={
 mixed:=by kernel_rfl
 f217:=Go.Ai.tS Tryz.func212 (by kernel_rfl)
 f266:=Go.Ai.tS Tryz.func260 (by kernel_rfl)
 t3:=Tryz.underlying3
 a3:=Tryz.isAgg3
 z3:=Tryz.sizeOf3
 v3:=Tryz.zeroValue3
 t5:=Tryz.underlying5
 a5:=Tryz.isAgg5
 z5:=Tryz.sizeOf5
 v5:=Tryz.zeroValue5
 t9:=Tryz.underlying9
 a9:=Tryz.isAgg9
 z9:=Tryz.sizeOf9
 v9:=Tryz.zeroValue9 }
def Tryz.lays219_ren:Go.Shelf.Ren:=⟨fun | 219=>166 | 217=>212 | 225=>213 | 224=>214 | 267=>215 | 266=>260 | 314=>261 | n=>n,fun | 9=>9 | 3=>3 | 4=>4 | 5=>5 | 46=>22 | 146=>253 | 51=>218 | n=>n,fun | 1=>2 | n=>n⟩
theorem Tryz.lays219:Go.Proofs.Lays.n219 Tryz.prog Tryz.lays219_ren:={
 mixed:=by kernel_rfl
 f217:=Go.Ai.tS Tryz.func212 (by kernel_rfl)
 f219:=Go.Ai.tS Tryz.func166 (by kernel_rfl)
 f224:=Go.Ai.tS Tryz.func214 (by kernel_rfl)
 f225:=Go.Ai.tS Tryz.func213 (by kernel_rfl)
 f266:=Go.Ai.tS Tryz.func260 (by kernel_rfl)
 f267:=Go.Ai.tS Tryz.func215 (by kernel_rfl)
 f314:=Go.Ai.tS Tryz.func261 (by kernel_rfl)
 t3:=Tryz.underlying3
 a3:=Tryz.isAgg3
 z3:=Tryz.sizeOf3
 v3:=Tryz.zeroValue3
 t4:=Tryz.underlying4
 a4:=Tryz.isAgg4
 z4:=Tryz.sizeOf4
 v4:=Tryz.zeroValue4
 t5:=Tryz.underlying5
 a5:=Tryz.isAgg5
 z5:=Tryz.sizeOf5
 v5:=Tryz.zeroValue5
 t9:=Tryz.underlying9
 a9:=Tryz.isAgg9
 z9:=Tryz.sizeOf9
 v9:=Tryz.zeroValue9
 t46:=Tryz.underlying22
 a46:=Tryz.isAgg22
 z46:=Tryz.sizeOf22
 v46:=Tryz.zeroValue22
 t51:=Tryz.underlying218
 a51:=Tryz.isAgg218
 z51:=Tryz.sizeOf218
 v51:=Tryz.zeroValue218
 t146:=Tryz.underlying253
 a146:=Tryz.isAgg253
 z146:=Tryz.sizeOf253
 v146:=Tryz.zeroValue253
 g1:=by kernel_rfl }
def Tryz.lays143_ren:Go.Shelf.Ren:=⟨fun | 143=>126 | 219=>166 | 217=>212 | 225=>213 | 224=>214 | 267=>215 | 266=>260 | 314=>261 | n=>n,fun | 9=>9 | 3=>3 | 4=>4 | 5=>5 | 46=>22 | 146=>253 | 51=>218 | n=>n,fun | 1=>2 | n=>n⟩
theorem Tryz.lays143:Go.Proofs.Lays.n143 Tryz.prog Tryz.lays143_ren:={
 mixed:=by kernel_rfl
 f143:=Go.Ai.tS Tryz.func126 (by kernel_rfl)
 f217:=Go.Ai.tS Tryz.func212 (by kernel_rfl)
 f219:=Go.Ai.tS Tryz.func166 (by kernel_rfl)
 f224:=Go.Ai.tS Tryz.func214 (by kernel_rfl)
 f225:=Go.Ai.tS Tryz.func213 (by kernel_rfl)
 f266:=Go.Ai.tS Tryz.func260 (by kernel_rfl)
 f267:=Go.Ai.tS Tryz.func215 (by kernel_rfl)
 f314:=Go.Ai.tS Tryz.func261 (by kernel_rfl)
 t3:=Tryz.underlying3
 a3:=Tryz.isAgg3
 z3:=Tryz.sizeOf3
 v3:=Tryz.zeroValue3
 t4:=Tryz.underlying4
 a4:=Tryz.isAgg4
 z4:=Tryz.sizeOf4
 v4:=Tryz.zeroValue4
 t5:=Tryz.underlying5
 a5:=Tryz.isAgg5
 z5:=Tryz.sizeOf5
 v5:=Tryz.zeroValue5
 t9:=Tryz.underlying9
 a9:=Tryz.isAgg9
 z9:=Tryz.sizeOf9
 v9:=Tryz.zeroValue9
 t46:=Tryz.underlying22
 a46:=Tryz.isAgg22
 z46:=Tryz.sizeOf22
 v46:=Tryz.zeroValue22
 t51:=Tryz.underlying218
 a51:=Tryz.isAgg218
 z51:=Tryz.sizeOf218
 v51:=Tryz.zeroValue218
 t146:=Tryz.underlying253
 a146:=Tryz.isAgg253
 z146:=Tryz.sizeOf253
 v146:=Tryz.zeroValue253
 g1:=by kernel_rfl }
def Tryz.lays153_ren:Go.Shelf.Ren:=⟨fun | 153=>222 | 152=>270 | 226=>271 | 227=>272 | 228=>273 | 137=>305 | 119=>306 | 224=>214 | 225=>213 | 217=>212 | 266=>260 | n=>n,fun | 9=>9 | 3=>3 | 4=>4 | 5=>5 | 21=>21 | 117=>270 | 116=>269 | 0=>0 | 46=>22 | 124=>295 | n=>n,fun | n=>n⟩
theorem Tryz.lays153:Go.Proofs.Lays.n153 Tryz.prog Tryz.lays153_ren:={
 mixed:=by kernel_rfl
 f119:=Go.Ai.tS Tryz.func306 (by kernel_rfl)
 f137:=Go.Ai.tS Tryz.func305 (by kernel_rfl)
 f152:=Go.Ai.tS Tryz.func270 (by kernel_rfl)
 f153:=Go.Ai.tS Tryz.func222 (by kernel_rfl)
 f217:=Go.Ai.tS Tryz.func212 (by kernel_rfl)
 f224:=Go.Ai.tS Tryz.func214 (by kernel_rfl)
 f225:=Go.Ai.tS Tryz.func213 (by kernel_rfl)
 f226:=Go.Ai.tS Tryz.func271 (by kernel_rfl)
 f227:=Go.Ai.tS Tryz.func272 (by kernel_rfl)
 f228:=Go.Ai.tS Tryz.func273 (by kernel_rfl)
 f266:=Go.Ai.tS Tryz.func260 (by kernel_rfl)
 t0:=Tryz.underlying0
 a0:=Tryz.isAgg0
 z0:=Tryz.sizeOf0
 v0:=Tryz.zeroValue0
 t3:=Tryz.underlying3
 a3:=Tryz.isAgg3
 z3:=Tryz.sizeOf3
 v3:=Tryz.zeroValue3
 t4:=Tryz.underlying4
 a4:=Tryz.isAgg4
 z4:=Tryz.sizeOf4
 v4:=Tryz.zeroValue4
 t5:=Tryz.underlying5
 a5:=Tryz.isAgg5
 z5:=Tryz.sizeOf5
 v5:=Tryz.zeroValue5
 t9:=Tryz.underlying9
 a9:=Tryz.isAgg9
 z9:=Tryz.sizeOf9
 v9:=Tryz.zeroValue9
 t21:=Tryz.underlying21
 a21:=Tryz.isAgg21
 z21:=Tryz.sizeOf21
 v21:=Tryz.zeroValue21
 t46:=Tryz.underlying22
 a46:=Tryz.isAgg22
 z46:=Tryz.sizeOf22
 v46:=Tryz.zeroValue22
 t116:=Tryz.underlying269
 a116:=Tryz.isAgg269
 z116:=Tryz.sizeOf269
 t117:=Tryz.underlying270
 a117:=Tryz.isAgg270
 z117:=Tryz.sizeOf270
 v117:=Tryz.zeroValue270
 t124:=Tryz.underlying295
 a124:=Tryz.isAgg295
 z124:=Tryz.sizeOf295
 v124:=Tryz.zeroValue295 }
def Tryz.lays164_ren:Go.Shelf.Ren:=⟨fun | 164=>171 | 197=>220 | 239=>221 | 260=>267 | 274=>268 | 275=>269 | n=>n,fun | 9=>9 | 4=>4 | 3=>3 | 5=>5 | 0=>0 | 21=>21 | 105=>210 | 156=>259 | 49=>258 | 157=>260 | 46=>22 | 159=>262 | 162=>265 | 160=>263 | 119=>197 | 139=>200 | 138=>199 | 208=>303 | 51=>218 | 206=>301 | n=>n,fun | 11=>3 | 12=>4 | 13=>5 | 3=>0 | 4=>1 | n=>n⟩
theorem Tryz.lays164:Go.Proofs.Lays.n164 Tryz.prog Tryz.lays164_ren:={
 mixed:=by kernel_rfl
 f164:=Go.Ai.tS Tryz.func171 (by kernel_rfl)
 f197:=Go.Ai.tS Tryz.func220 (by kernel_rfl)
 f239:=Go.Ai.tS Tryz.func221 (by kernel_rfl)
 f260:=Go.Ai.tS Tryz.func267 (by kernel_rfl)
 f274:=Go.Ai.tS Tryz.func268 (by kernel_rfl)
 f275:=Go.Ai.tS Tryz.func269 (by kernel_rfl)
 t0:=Tryz.underlying0
 a0:=Tryz.isAgg0
 z0:=Tryz.sizeOf0
 v0:=Tryz.zeroValue0
 t3:=Tryz.underlying3
 a3:=Tryz.isAgg3
 z3:=Tryz.sizeOf3
 v3:=Tryz.zeroValue3
 t4:=Tryz.underlying4
 a4:=Tryz.isAgg4
 z4:=Tryz.sizeOf4
 v4:=Tryz.zeroValue4
 t5:=Tryz.underlying5
 a5:=Tryz.isAgg5
 z5:=Tryz.sizeOf5
 v5:=Tryz.zeroValue5
 t9:=Tryz.underlying9
 a9:=Tryz.isAgg9
 z9:=Tryz.sizeOf9
 v9:=Tryz.zeroValue9
 t21:=Tryz.underlying21
 a21:=Tryz.isAgg21
 z21:=Tryz.sizeOf21
 v21:=Tryz.zeroValue21
 t46:=Tryz.underlying22
 a46:=Tryz.isAgg22
 z46:=Tryz.sizeOf22
 v46:=Tryz.zeroValue22
 t49:=Tryz.underlying258
 a49:=Tryz.isAgg258
 z49:=Tryz.sizeOf258
 v49:=Tryz.zeroValue258
 t51:=Tryz.underlying218
 a51:=Tryz.isAgg218
 z51:=Tryz.sizeOf218
 v51:=Tryz.zeroValue218
 t105:=Tryz.underlying210
 a105:=Tryz.isAgg210
 z105:=Tryz.sizeOf210
 v105:=Tryz.zeroValue210
 t119:=Tryz.underlying197
 a119:=Tryz.isAgg197
 z119:=Tryz.sizeOf197
 t138:=Tryz.underlying199
 a138:=Tryz.isAgg199
 z138:=Tryz.sizeOf199
 v138:=Tryz.zeroValue199
 t139:=Tryz.underlying200
 a139:=Tryz.isAgg200
 z139:=Tryz.sizeOf200
 v139:=Tryz.zeroValue200
 t156:=Tryz.underlying259
 a156:=Tryz.isAgg259
 z156:=Tryz.sizeOf259
 t157:=Tryz.underlying260
 a157:=Tryz.isAgg260
 z157:=Tryz.sizeOf260
 v157:=Tryz.zeroValue260
 t159:=Tryz.underlying262
 a159:=Tryz.isAgg262
 z159:=Tryz.sizeOf262
 v159:=Tryz.zeroValue262
 t160:=Tryz.underlying263
 a160:=Tryz.isAgg263
 z160:=Tryz.sizeOf263
 v160:=Tryz.zeroValue263
 t162:=Tryz.underlying265
 a162:=Tryz.isAgg265
 z162:=Tryz.sizeOf265
 v162:=Tryz.zeroValue265
 t206:=Tryz.underlying301
 a206:=Tryz.isAgg301
 z206:=Tryz.sizeOf301
 v206:=Tryz.zeroValue301
 t208:=Tryz.underlying303
 a208:=Tryz.isAgg303
 z208:=Tryz.sizeOf303
 v208:=Tryz.zeroValue303
 g3:=by kernel_rfl
 g4:=by kernel_rfl
 g11:=by kernel_rfl
 g12:=by kernel_rfl
 g13:=by kernel_rfl }
def Tryz.lays161_ren:Go.Shelf.Ren:=⟨fun | 161=>262 | 231=>298 | 227=>272 | 233=>299 | 235=>300 | 228=>273 | 197=>220 | 151=>327 | 260=>267 | 152=>270 | 137=>305 | 119=>306 | 224=>214 | 225=>213 | 217=>212 | 266=>260 | n=>n,fun | 9=>9 | 4=>4 | 3=>3 | 5=>5 | 117=>270 | 116=>269 | 0=>0 | 124=>295 | 105=>210 | 21=>21 | 119=>197 | 46=>22 | 139=>200 | 138=>199 | n=>n,fun | 3=>0 | 4=>1 | n=>n⟩
theorem Tryz.lays161:Go.Proofs.Lays.n161 Tryz.prog Tryz.lays161_ren:={
 mixed:=by kernel_rfl
 f119:=Go.Ai.tS Tryz.func306 (by kernel_rfl)
 f137:=Go.Ai.tS Tryz.func305 (by kernel_rfl)
 f151:=Go.Ai.tS Tryz.func327 (by kernel_rfl)
 f152:=Go.Ai.tS Tryz.func270 (by kernel_rfl)
 f161:=Go.Ai.tS Tryz.func262 (by kernel_rfl)
 f197:=Go.Ai.tS Tryz.func220 (by kernel_rfl)
 f217:=Go.Ai.tS Tryz.func212 (by kernel_rfl)
 f224:=Go.Ai.tS Tryz.func214 (by kernel_rfl)
 f225:=Go.Ai.tS Tryz.func213 (by kernel_rfl)
 f227:=Go.Ai.tS Tryz.func272 (by kernel_rfl)
 f228:=Go.Ai.tS Tryz.func273 (by kernel_rfl)
 f231:=Go.Ai.tS Tryz.func298 (by kernel_rfl)
 f233:=Go.Ai.tS Tryz.func299 (by kernel_rfl)
 f235:=Go.Ai.tS Tryz.func300 (by kernel_rfl)
 f260:=Go.Ai.tS Tryz.func267 (by kernel_rfl)
 f266:=Go.Ai.tS Tryz.func260 (by kernel_rfl)
 t0:=Tryz.underlying0
 a0:=Tryz.isAgg0
 z0:=Tryz.sizeOf0
 v0:=Tryz.zeroValue0
 t3:=Tryz.underlying3
 a3:=Tryz.isAgg3
 z3:=Tryz.sizeOf3
 v3:=Tryz.zeroValue3
 t4:=Tryz.underlying4
 a4:=Tryz.isAgg4
 z4:=Tryz.sizeOf4
 v4:=Tryz.zeroValue4
 t5:=Tryz.underlying5
 a5:=Tryz.isAgg5
 z5:=Tryz.sizeOf5
 v5:=Tryz.zeroValue5
 t9:=Tryz.underlying9
 a9:=Tryz.isAgg9
 z9:=Tryz.sizeOf9
 v9:=Tryz.zeroValue9
 t21:=Tryz.underlying21
 a21:=Tryz.isAgg21
 z21:=Tryz.sizeOf21
 v21:=Tryz.zeroValue21
 t46:=Tryz.underlying22
 a46:=Tryz.isAgg22
 z46:=Tryz.sizeOf22
 v46:=Tryz.zeroValue22
 t105:=Tryz.underlying210
 a105:=Tryz.isAgg210
 z105:=Tryz.sizeOf210
 v105:=Tryz.zeroValue210
 t116:=Tryz.underlying269
 a116:=Tryz.isAgg269
 z116:=Tryz.sizeOf269
 t117:=Tryz.underlying270
 a117:=Tryz.isAgg270
 z117:=Tryz.sizeOf270
 v117:=Tryz.zeroValue270
 t119:=Tryz.underlying197
 a119:=Tryz.isAgg197
 z119:=Tryz.sizeOf197
 t124:=Tryz.underlying295
 a124:=Tryz.isAgg295
 z124:=Tryz.sizeOf295
 v124:=Tryz.zeroValue295
 t138:=Tryz.underlying199
 a138:=Tryz.isAgg199
 z138:=Tryz.sizeOf199
 v138:=Tryz.zeroValue199
 t139:=Tryz.underlying200
 a139:=Tryz.isAgg200
 z139:=Tryz.sizeOf200
 v139:=Tryz.zeroValue200
 g3:=by kernel_rfl
 g4:=by kernel_rfl }
def Tryz.lays166_ren:Go.Shelf.Ren:=⟨fun | 166=>174 | 240=>223 | 276=>274 | n=>n,fun | 70=>167 | 3=>3 | 0=>0 | 4=>4 | 9=>9 | 20=>20 | 72=>169 | 37=>47 | 164=>272 | 5=>5 | 75=>171 | 80=>174 | n=>n,fun | n=>n⟩
theorem Tryz.lays166:Go.Proofs.Lays.n166 Tryz.prog Tryz.lays166_ren:={
 mixed:=by kernel_rfl
 f166:=Go.Ai.tS Tryz.func174 (by kernel_rfl)
 f240:=Go.Ai.tS Tryz.func223 (by kernel_rfl)
 f276:=Go.Ai.tS Tryz.func274 (by kernel_rfl)
 t0:=Tryz.underlying0
 a0:=Tryz.isAgg0
 z0:=Tryz.sizeOf0
 v0:=Tryz.zeroValue0
 t3:=Tryz.underlying3
 a3:=Tryz.isAgg3
 z3:=Tryz.sizeOf3
 v3:=Tryz.zeroValue3
 t4:=Tryz.underlying4
 a4:=Tryz.isAgg4
 z4:=Tryz.sizeOf4
 v4:=Tryz.zeroValue4
 t9:=Tryz.underlying9
 a9:=Tryz.isAgg9
 z9:=Tryz.sizeOf9
 v9:=Tryz.zeroValue9
 t20:=Tryz.underlying20
 a20:=Tryz.isAgg20
 z20:=Tryz.sizeOf20
 v20:=Tryz.zeroValue20
 t37:=Tryz.underlying47
 a37:=Tryz.isAgg47
 z37:=Tryz.sizeOf47
 v37:=Tryz.zeroValue47
 t70:=Tryz.underlying167
 a70:=Tryz.isAgg167
 z70:=Tryz.sizeOf167
 v70:=Tryz.zeroValue167
 t72:=Tryz.underlying169
 a72:=Tryz.isAgg169
 z72:=Tryz.sizeOf169
 v72:=Tryz.zeroValue169
 t75:=Tryz.underlying171
 a75:=Tryz.isAgg171
 z75:=Tryz.sizeOf171
 v75:=Tryz.zeroValue171
 t164:=Tryz.underlying272
 a164:=Tryz.isAgg272
 z164:=Tryz.sizeOf272
 v164:=Tryz.zeroValue272 }
theorem Tryz.set153:(Tryz.prog.info? (Tryz.lays153_ren.t 116)).map (fun i=>(i.zero,i.size))=some (some (.agg (Array.replicate 256 (.bool false))),256):=by kernel_rfl
theorem Tryz.extra166:Builder.Extra Tryz.prog Tryz.lays166_ren:={
 sizeBuilder:=by kernel_rfl
 liesBuilder:=by kernel_rfl
 t5:=Tryz.underlying5
 a5:=Tryz.isAgg5
 z5:=Tryz.sizeOf5
 v5:=Tryz.zeroValue5
 infoByte:=by kernel_rfl
 cellsByte:=by kernel_rfl
 sizeByte:=by kernel_rfl
 neB5:=by decide }
theorem Tryz.extra169:Builder.Extra Tryz.prog Tryz.lays169_ren:={
 sizeBuilder:=by kernel_rfl
 liesBuilder:=by kernel_rfl
 t5:=Tryz.underlying5
 a5:=Tryz.isAgg5
 z5:=Tryz.sizeOf5
 v5:=Tryz.zeroValue5
 infoByte:=by kernel_rfl
 cellsByte:=by kernel_rfl
 sizeByte:=by kernel_rfl
 neB5:=by decide }
theorem Tryz.extra165:Builder.Extra Tryz.prog Tryz.lays165_ren:={
 sizeBuilder:=by kernel_rfl
 liesBuilder:=by kernel_rfl
 t5:=Tryz.underlying5
 a5:=Tryz.isAgg5
 z5:=Tryz.sizeOf5
 v5:=Tryz.zeroValue5
 infoByte:=by kernel_rfl
 cellsByte:=by kernel_rfl
 sizeByte:=by kernel_rfl
 neB5:=by decide }
end Go.Proofs

namespace Go.Ai
open Go.RowKit
theorem Ev.below {w w' : World}{ok:Nat→Prop}{β:Loc}(h:Below w.heap.size w w'):Ev w ok β w' ok β:=
 ⟨h.os,h.tape,h.output,h.size,fun b hb _=>h.block b hb,fun l x q=>.inl ⟨l,x,q,rfl⟩,fun _ q=>q,fun _ q=>.inl q,fun b hb=>by simp only [World.shape?,h.block b hb]⟩
theorem qJ {N:Nat}{w w' : World}{ok:Nat→Prop}{β:Loc}(h:HRep N w ok β [])(hs:w.heap.size≤w'.heap.size):HRep N w' ok β []:=
 ⟨h.out,h.inj,fun l b o q=>absurd q (by rw [h.out l (Nat.zero_le _)]; simp),h.dis,fun b q=>Nat.lt_of_lt_of_le (h.okl b q) hs,fun l o q=>by simp at q⟩
theorem gX {E:Env}{w w' : World}(hg:E.G w)(hn:E.N≤w.heap.size)(h:Below w.heap.size w w'):E.G w' := E.stable w w' hg fun b hb=>h.block b (Nat.lt_of_lt_of_le hb hn)
end Go.Ai
namespace Go.Proofs.Ut
open Go.Ai Go.Shelf Go.RowKit
def kB (i:Nat):Int:=if 65≤i∧i≤90 then i+32 else if i=107 then 8490 else if i=115 then 383 else if 97≤i∧i≤122 then i - 32 else i
structure Laid (w:World):Prop where
 tabs:Lib.Utf8Tabs 0 1 w
 most:∃ m,w.cell? ⟨2,0,none⟩=some (.int .i64 m)
 fold:∀ i:Nat,i<128→w.cell? ⟨3,i,none⟩=some (.int .u16 (kB i))
theorem aEE {E:Env}(hP:E.P=Tryz.prog)(hG:∀ w,E.G w→Lib.Utf8Tabs (Tryz.laysValid_ren.g 3) (Tryz.laysValid_ren.g 4) w):pW E:=by
 intro s hs
 refine ⟨hP▸⟨Tryz.f163,Tryz.func163,by kernel_rfl,by kernel_rfl⟩,fun w ok β vs hg hn hh hl hv=>?_⟩
 obtain ⟨v0,rfl⟩:∃ v0,vs=[v0]:=by
  match vs,hl with
  | [a],_=>exact ⟨a,rfl⟩
 have r0:=hv 0 v0 _ rfl rfl
 generalize hd:DV.str s=d0 at r0
 cases r0 <;> try cases hd
 rename_i t
 rw [hP]
 refine Calls.mono (Any.utf8_ValidString Tryz.laysValid t w (by simpa using hs) (hG w hg)) ?_
 rintro e w' ⟨rfl,hb⟩
 exact ⟨_,ok,β,[],_,rfl,⟨rfl,rfl⟩,gX hg hn hb,Ev.below hb,qJ hh hb.size,.bool _,fun l cs q=>by simp at q,Nat.le_refl _,fun _ _ _=>rfl⟩
noncomputable def ED:Env where
 P:=Tryz.prog
 N:=4
 G:=Laid
 stable:=fun w w' h hb=>by
  have hc:∀ b c,b<4→w'.cell? ⟨b,c,none⟩=w.cell? ⟨b,c,none⟩:=fun b c hb' => by simp only [World.cell?,hb b hb']
  exact ⟨⟨fun c q=>by rw [hc 0 _ (by omega)]; exact h.tabs.1 c q,fun i q=>by rw [hc 1 _ (by omega),hc 1 _ (by omega)]; exact h.tabs.2 i q⟩,
   h.most.imp fun m q=>by rw [hc 2 _ (by omega)]; exact q,fun i q=>by rw [hc 3 _ (by omega)]; exact h.fold i q⟩
theorem vED:pW ED:=aEE rfl fun _ h=>h.tabs
end Go.Proofs.Ut
