/-
  DERIVED: THE SHELF's CONTRACTS AT THIS DUMP, IN PLAIN WORDS (tools/lay-plain.mjs out of 'YVcShelf.lean', which tools/lay-shelf.mjs wrote): THE SAME DECLARATIONS UNDER THE SAME NAMES: 'import', 'namespace', 'open', 'def', 'theorem' AND NOTHING ELSE: no command of the shelf's: FOR A HAND-IN. Each laying: the table of numbers ('.._ren') and one theorem, a field a fact of the dump's own or the kernel's comparison; each contract: ONE APPLICATION.
-/
import Derived.Shelf.Lays
import Derived.Ground.NamesProg
import Derived.Test.YtgamnnfndidclaaGreatDoorProg
import Derived.Test.YtgamnnfndidclaaGreatDoorGYO2
import Derived.Lib.Case
import Derived.Test.YtgamnnfndidclaaGreatDoorGYFoUtD
set_option linter.all false
namespace Go.Proofs
open Go.Shelf
def Tryz.lays158_ren:Go.Shelf.Ren:=⟨fun | 158=>218 | 165=>190 | 166=>174 | 167=>263 | 169=>175 | 230=>264 | 203=>265 | 240=>223 | 241=>229 | 197=>220 | 118=>301 | 168=>302 | 270=>303 | 262=>304 | 276=>274 | 277=>279 | 260=>267 | 242=>328 | 313=>329 | 278=>340 | 274=>268 | 275=>269 | n=>n,fun | 9=>9 | 4=>4 | 3=>3 | 5=>5 | 72=>169 | 0=>0 | 76=>172 | 75=>171 | 107=>212 | 70=>167 | 20=>20 | 37=>47 | 127=>213 | 21=>21 | 105=>210 | 164=>272 | 162=>265 | 203=>330 | 119=>197 | 46=>22 | 139=>200 | 138=>199 | 51=>218 | 160=>263 | 208=>303 | 206=>301 | 80=>174 | n=>n,fun | 13=>5 | 3=>0 | 4=>1 | n=>n⟩
theorem Tryz.lays158:Go.Proofs.Lays.n158 Tryz.prog Tryz.lays158_ren:={
 mixed:=by kernel_rfl
 f118:=Go.Ai.tS Tryz.func301 (by kernel_rfl)
 f158:=Go.Ai.tS Tryz.func218 (by kernel_rfl)
 f165:=Go.Ai.tS Tryz.func190 (by kernel_rfl)
 f166:=Go.Ai.tS Tryz.func174 (by kernel_rfl)
 f167:=Go.Ai.tS Tryz.func263 (by kernel_rfl)
 f168:=Go.Ai.tS Tryz.func302 (by kernel_rfl)
 f169:=Go.Ai.tS Tryz.func175 (by kernel_rfl)
 f197:=Go.Ai.tS Tryz.func220 (by kernel_rfl)
 f203:=Go.Ai.tS Tryz.func265 (by kernel_rfl)
 f230:=Go.Ai.tS Tryz.func264 (by kernel_rfl)
 f240:=Go.Ai.tS Tryz.func223 (by kernel_rfl)
 f241:=Go.Ai.tS Tryz.func229 (by kernel_rfl)
 f242:=Go.Ai.tS Tryz.func328 (by kernel_rfl)
 f260:=Go.Ai.tS Tryz.func267 (by kernel_rfl)
 f262:=Go.Ai.tS Tryz.func304 (by kernel_rfl)
 f270:=Go.Ai.tS Tryz.func303 (by kernel_rfl)
 f274:=Go.Ai.tS Tryz.func268 (by kernel_rfl)
 f275:=Go.Ai.tS Tryz.func269 (by kernel_rfl)
 f276:=Go.Ai.tS Tryz.func274 (by kernel_rfl)
 f277:=Go.Ai.tS Tryz.func279 (by kernel_rfl)
 f278:=Go.Ai.tS Tryz.func340 (by kernel_rfl)
 f313:=Go.Ai.tS Tryz.func329 (by kernel_rfl)
 t0:=Tryz.underlying0
 a0:=Tryz.isAgg0
 z0:=Tryz.sizeOf0
 v0:=Tryz.zeroValue0
 t3:=Tryz.underlying3
 a3:=Tryz.isAgg3
 z3:=Tryz.sizeOf3
 v3:=Tryz.zeroValue3
 t4:=Tryz.underlying4
 a4:=Tryz.isAgg4
 z4:=Tryz.sizeOf4
 v4:=Tryz.zeroValue4
 t5:=Tryz.underlying5
 a5:=Tryz.isAgg5
 z5:=Tryz.sizeOf5
 v5:=Tryz.zeroValue5
 t9:=Tryz.underlying9
 a9:=Tryz.isAgg9
 z9:=Tryz.sizeOf9
 v9:=Tryz.zeroValue9
 t20:=Tryz.underlying20
 a20:=Tryz.isAgg20
 z20:=Tryz.sizeOf20
 v20:=Tryz.zeroValue20
 t21:=Tryz.underlying21
 a21:=Tryz.isAgg21
 z21:=Tryz.sizeOf21
 v21:=Tryz.zeroValue21
 t37:=Tryz.underlying47
 a37:=Tryz.isAgg47
 z37:=Tryz.sizeOf47
 v37:=Tryz.zeroValue47
 t46:=Tryz.underlying22
 a46:=Tryz.isAgg22
 z46:=Tryz.sizeOf22
 v46:=Tryz.zeroValue22
 t51:=Tryz.underlying218
 a51:=Tryz.isAgg218
 z51:=Tryz.sizeOf218
 v51:=Tryz.zeroValue218
 t70:=Tryz.underlying167
 a70:=Tryz.isAgg167
 z70:=Tryz.sizeOf167
 v70:=Tryz.zeroValue167
 t72:=Tryz.underlying169
 a72:=Tryz.isAgg169
 z72:=Tryz.sizeOf169
 v72:=Tryz.zeroValue169
 t75:=Tryz.underlying171
 a75:=Tryz.isAgg171
 z75:=Tryz.sizeOf171
 v75:=Tryz.zeroValue171
 t76:=Tryz.underlying172
 a76:=Tryz.isAgg172
 z76:=Tryz.sizeOf172
 v76:=Tryz.zeroValue172
 t105:=Tryz.underlying210
 a105:=Tryz.isAgg210
 z105:=Tryz.sizeOf210
 v105:=Tryz.zeroValue210
 t107:=Tryz.underlying212
 a107:=Tryz.isAgg212
 z107:=Tryz.sizeOf212
 v107:=Tryz.zeroValue212
 t119:=Tryz.underlying197
 a119:=Tryz.isAgg197
 z119:=Tryz.sizeOf197
 t127:=Tryz.underlying213
 a127:=Tryz.isAgg213
 z127:=Tryz.sizeOf213
 v127:=Tryz.zeroValue213
 t138:=Tryz.underlying199
 a138:=Tryz.isAgg199
 z138:=Tryz.sizeOf199
 v138:=Tryz.zeroValue199
 t139:=Tryz.underlying200
 a139:=Tryz.isAgg200
 z139:=Tryz.sizeOf200
 v139:=Tryz.zeroValue200
 t160:=Tryz.underlying263
 a160:=Tryz.isAgg263
 z160:=Tryz.sizeOf263
 v160:=Tryz.zeroValue263
 t162:=Tryz.underlying265
 a162:=Tryz.isAgg265
 z162:=Tryz.sizeOf265
 v162:=Tryz.zeroValue265
 t164:=Tryz.underlying272
 a164:=Tryz.isAgg272
 z164:=Tryz.sizeOf272
 v164:=Tryz.zeroValue272
 t203:=Tryz.underlying330
 a203:=Tryz.isAgg330
 z203:=Tryz.sizeOf330
 v203:=Tryz.zeroValue330
 t206:=Tryz.underlying301
 a206:=Tryz.isAgg301
 z206:=Tryz.sizeOf301
 v206:=Tryz.zeroValue301
 t208:=Tryz.underlying303
 a208:=Tryz.isAgg303
 z208:=Tryz.sizeOf303
 v208:=Tryz.zeroValue303
 g3:=by kernel_rfl
 g4:=by kernel_rfl
 g13:=by kernel_rfl }
def Tryz.lays239_ren:Go.Shelf.Ren:=⟨fun | 239=>221 | 274=>268 | 275=>269 | n=>n,fun | 21=>21 | 4=>4 | 3=>3 | 156=>259 | 0=>0 | 49=>258 | 157=>260 | 46=>22 | 159=>262 | 162=>265 | 160=>263 | 208=>303 | 51=>218 | 206=>301 | n=>n,fun | 11=>3 | 12=>4 | 13=>5 | n=>n⟩
theorem Tryz.lays239:Go.Proofs.Lays.n239 Tryz.prog Tryz.lays239_ren:={
 mixed:=by kernel_rfl
 f239:=Go.Ai.tS Tryz.func221 (by kernel_rfl)
 f274:=Go.Ai.tS Tryz.func268 (by kernel_rfl)
 f275:=Go.Ai.tS Tryz.func269 (by kernel_rfl)
 t0:=Tryz.underlying0
 a0:=Tryz.isAgg0
 z0:=Tryz.sizeOf0
 v0:=Tryz.zeroValue0
 t3:=Tryz.underlying3
 a3:=Tryz.isAgg3
 z3:=Tryz.sizeOf3
 v3:=Tryz.zeroValue3
 t4:=Tryz.underlying4
 a4:=Tryz.isAgg4
 z4:=Tryz.sizeOf4
 v4:=Tryz.zeroValue4
 t21:=Tryz.underlying21
 a21:=Tryz.isAgg21
 z21:=Tryz.sizeOf21
 v21:=Tryz.zeroValue21
 t46:=Tryz.underlying22
 a46:=Tryz.isAgg22
 z46:=Tryz.sizeOf22
 v46:=Tryz.zeroValue22
 t49:=Tryz.underlying258
 a49:=Tryz.isAgg258
 z49:=Tryz.sizeOf258
 v49:=Tryz.zeroValue258
 t51:=Tryz.underlying218
 a51:=Tryz.isAgg218
 z51:=Tryz.sizeOf218
 v51:=Tryz.zeroValue218
 t156:=Tryz.underlying259
 a156:=Tryz.isAgg259
 z156:=Tryz.sizeOf259
 t157:=Tryz.underlying260
 a157:=Tryz.isAgg260
 z157:=Tryz.sizeOf260
 v157:=Tryz.zeroValue260
 t159:=Tryz.underlying262
 a159:=Tryz.isAgg262
 z159:=Tryz.sizeOf262
 v159:=Tryz.zeroValue262
 t160:=Tryz.underlying263
 a160:=Tryz.isAgg263
 z160:=Tryz.sizeOf263
 v160:=Tryz.zeroValue263
 t162:=Tryz.underlying265
 a162:=Tryz.isAgg265
 z162:=Tryz.sizeOf265
 v162:=Tryz.zeroValue265
 t206:=Tryz.underlying301
 a206:=Tryz.isAgg301
 z206:=Tryz.sizeOf301
 v206:=Tryz.zeroValue301
 t208:=Tryz.underlying303
 a208:=Tryz.isAgg303
 z208:=Tryz.sizeOf303
 v208:=Tryz.zeroValue303
 g11:=by kernel_rfl
 g12:=by kernel_rfl
 g13:=by kernel_rfl }
end Go.Proofs

namespace Go.Proofs.Ut
open Go.Ai
set_option linter.unusedSimpArgs false
set_option linter.unusedVariables false
set_option maxRecDepth 100000
theorem aAF {P:UInt8→Prop}(h:∀ n,n<256→P (UInt8.ofNat n))(c:UInt8):P c:=by
 have:=h c.toNat (UInt8.toNat_lt c)
 rwa [UInt8.ofNat_toNat] at this
def SGN:List UInt8:=[65,66,67,68,69,70,71,72,73,74,75,76,77,78,79,80,81,82,83,84,85,86,87,88,89,90,97,98,99,100,101,102,103,104,105,106,107,108,109,110,111,112,113,114,115,116,117,118,119,120,121,122,48,49,50,51,52,53,54,55,56,57,45]
def isS (c:UInt8):Bool:=SGN.contains c
def A4:List UInt8:=[59,58,44,34]
def A3:List UInt8:=[59,58,44]
def up (s:List UInt8):List UInt8:=s.map Lib.upperB
theorem aFN (c:UInt8):isS c=true→c.toNat<128∧32≤c.toNat∧bR c.toNat=true:=aAF (P:=fun c=>isS c=true→c.toNat<128∧32≤c.toNat∧bR c.toNat=true) (by decide +kernel) c
def dH (s:List UInt8):List UInt8:=s.takeWhile isS
def bP (s:List UInt8):List UInt8:=s.dropWhile isS
theorem uA (s:List UInt8):dH s++bP s=s:=List.takeWhile_append_dropWhile
theorem KN (s:List UInt8):∀ x∈dH s,isS x=true:=fun x hx=>by
 have:=List.all_takeWhile (p:=isS) (l:=s)
 exact List.all_eq_true.1 this x hx
def fZ (s:List UInt8):List UInt8×List UInt8×Bool:=
 match s with
 | []=>([],[],true)
 | x::t=>if x=34 then cut 34 t else ((x::t).takeWhile (fun c => !A4.contains c),(x::t).dropWhile (fun c => !A4.contains c),true)
def bW (s:List UInt8):(List UInt8×List UInt8)×List UInt8×Bool:=
 if up (dH s)=[] then ((up (dH s),[]),bP s,false) else
 match bP s with
 | []=>((up (dH s),[]),[],false)
 | x::t=>if x=61 then ((up (dH s),(fZ t).1),(fZ t).2) else ((up (dH s),[]),x::t,false)
def qZ:Nat→List (List UInt8×List UInt8)→List UInt8→List (List UInt8×List UInt8)×List UInt8×Bool
 | 0,acc,s=>(acc,s,true)
 | k+1,acc,s=>match s with
  | []=>(acc,[],true)
  | x::t=>if x=59 then (if (bW t).2.2=true then qZ k (acc++[(bW t).1]) (bW t).2.1 else (acc,(bW t).2.1,false)) else (acc,x::t,true)
theorem DC (c:UInt8):∀ s:List UInt8,(cut c s).2.2=true→s=(cut c s).1++c::(cut c s).2.1∧c∉(cut c s).1
 | [],h=>by simp [cut] at h
 | x::s,h=>by
  rw [cut] at h ⊢
  by_cases hx:x=c
  ·rw [if_pos hx]; subst hx; simp
  ·rw [if_neg hx] at h ⊢
   have:=DC c s h
   simp only at this ⊢
   refine ⟨by rw [List.cons_append,← this.1],?_⟩
   simp only [List.mem_cons,not_or]
   exact ⟨fun e=>hx e.symm,this.2⟩
theorem HD (s:List UInt8):(fZ s).2.1.length≤s.length:=by
 unfold fZ
 cases s with
 | nil=>simp
 | cons x t=>
  simp only
  split
  ·have:=(rB 34 t).1; simp only [List.length_cons]; omega
  ·exact (List.dropWhile_sublist _).length_le
theorem fM (s:List UInt8):(bP s).length≤s.length:=(List.dropWhile_sublist _).length_le
theorem jN (s:List UInt8):(bW s).2.1.length≤s.length:=by
 unfold bW
 have:=fM s
 split
 ·exact this
 ·cases hr:bP s with
  | nil=>simp
  | cons x t=>
   rw [hr] at this
   simp only
   split
   ·have h2:=HD t
    simp only [List.length_cons] at this
    show (fZ t).2.1.length≤_
    omega
   ·exact this
theorem sA:∀ k j acc (s:List UInt8),s.length≤k→s.length≤j→qZ k acc s=qZ j acc s
 | 0,0,_,_,_,_=>rfl
 | 0,j+1,acc,s,h,_=>by obtain rfl:=List.eq_nil_of_length_eq_zero (show s.length=0 by omega); rfl
 | k+1,0,acc,s,_,h=>by obtain rfl:=List.eq_nil_of_length_eq_zero (show s.length=0 by omega); rfl
 | k+1,j+1,acc,[],_,_=>rfl
 | k+1,j+1,acc,x::t,h1,h2=>by
  have:=jN t
  simp only [List.length_cons] at h1 h2
  simp only [qZ]
  rw [sA k j _ (bW t).2.1 (by omega) (by omega)]
def eC (acc:List (List UInt8×List UInt8))(s:List UInt8):=qZ s.length acc s
theorem rG (acc:List (List UInt8×List UInt8))(t:List UInt8):eC acc (59::t)=if (bW t).2.2=true then eC (acc++[(bW t).1]) (bW t).2.1 else (acc,(bW t).2.1,false):=by
 have:=jN t
 unfold eC
 rw [List.length_cons,qZ,if_pos rfl,sA t.length (bW t).2.1.length _ _ (by omega) (Nat.le_refl _)]
theorem tE (acc:List (List UInt8×List UInt8))(s:List UInt8)(h:s.head?≠some 59):eC acc s=(acc,s,true):=by
 cases s with
 | nil=>rfl
 | cons x t=>
  unfold eC
  rw [List.length_cons,qZ,if_neg (fun e=>h (by rw [e]; rfl))]
structure PR where
 g:List UInt8
 n:List UInt8
 ps:List (List UInt8×List UInt8)
 v:List UInt8
 deriving DecidableEq
def dV (s:List UInt8):List UInt8×List UInt8×List UInt8:=
 if dH s≠[]∧(bP s).head?=some 46 then (dH s,dH (bP s).tail,bP (bP s).tail) else ([],dH s,bP s)
def iC (s:List UInt8):List UInt8×Bool:=if s.head?=some 58 then (s.tail,true) else (s,false)
def rP (s:List UInt8):PR×Bool:=
 if up (dV s).2.1=[] then (⟨(dV s).1,[],[],(iC (dV s).2.2).1⟩,false) else
 if (eC [] (dV s).2.2).2.2=false then (⟨(dV s).1,up (dV s).2.1,(eC [] (dV s).2.2).1,[]⟩,false) else
 (⟨(dV s).1,up (dV s).2.1,(eC [] (dV s).2.2).1,(iC (eC [] (dV s).2.2).2.1).1⟩,(iC (eC [] (dV s).2.2).2.1).2)
def HW (v:List UInt8):List UInt8:=if v=[]∨v.any A3.contains=true then 34::v++[34] else v
def nT (a:List UInt8×List UInt8):List UInt8:=59::a.1++61::HW a.2
def mF (p:PR):List UInt8:=if p.g=[] then p.n else p.g++46::p.n
def aL (p:PR):List UInt8:=mF p++p.ps.flatMap nT++58::p.v
end Go.Proofs.Ut

namespace Go.Proofs.Ut
open Go.Ai Classical Go.Shelf Go.RowKit
set_option linter.unusedSimpArgs false
set_option linter.unusedVariables false
set_option maxHeartbeats 1000000
set_option maxRecDepth 100000
end Go.Proofs.Ut
