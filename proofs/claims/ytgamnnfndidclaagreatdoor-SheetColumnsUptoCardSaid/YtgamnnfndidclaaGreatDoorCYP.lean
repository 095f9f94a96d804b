/- sheet.columns: what hands back closures. -/
import Derived.Test.YtgamnnfndidclaaGreatDoorCYK
import Derived.Test.YtgamnnfndidclaaGreatDoorCYO3
open Nat renaming reduceBEq → qA,reduceAdd → qB,reduceSub → qC,reduceLeDiff → qD,reduceMul → qE
open Int renaming reduceLE → qF,reduceLT → qG,reduceNe → qH,reduceToNat → qI
open Int renaming reduceEq → rA,reduceAdd → rB,reduceSub → rC,reduceMul → rD,reduceMod → rE,reduceDiv → rF,reduceTDiv → rG,reducePow → rH
open Nat renaming reducePow → rI
set_option linter.all false
namespace Go.Proofs.Ut
open Go.Ai
set_option maxRecDepth 100000
def col (name:List UInt8)(g:Nat):List DV:=[.str name,.fn 143 [.eptr [.fn g []] 0],.fn 144 [.eptr [.fn g []] 0]]
theorem lK (name:List UInt8)(g:Nat):aU 89 [.str name,.fn g []] (.agg (col name g)):=by
 refine bB c89 (by simp [f89]) ?_
 simp only [f89,aE,aC,↓gos,gop,qA,qB,qC,qD,qE,qF,qG,qH,qI]
 exact bH [0] rfl rfl ⟨rfl,rfl⟩
def vD:List UInt8:=[110,97,109,101]
def zF:List UInt8:=[102,97,109,105,108,121]
def IT:List UInt8:=[103,105,118,101,110]
def aBa:List UInt8:=[110,105,99,107]
def JID:List UInt8:=[106,105,100]
def JM:List UInt8:=[101,109,97,105,108]
def TEL:List UInt8:=[116,101,108]
def aAN:List UInt8:=[110,111,116,101]
def UID:List UInt8:=[117,105,100]
def jX:List UInt8:=[103,114,111,117,112,115]
def COLS:List (List UInt8):=[vD,zF,IT,aBa,JID,JM,TEL,aAN,UID,jX]
def wL:List (List DV):=[col vD 90,col zF 91,col IT 92,col aBa 93,[.str JID,.fn 94 [],.fn 95 []],col JM 96,col TEL 97,col aAN 98,col UID 99,[.str jX,.fn 100 [],.fn 101 []]]
theorem lY:aU 48 [] (.sl 3 wL):=by
 refine bB c48 (by simp [f48]) ?_
 simp only [f48,aE,aC,↓gos,gop,qA,qB,qC,qD,qE,qF,qG,qH,qI]
 refine aV (lK vD 90) rfl rfl ?_
 simp only [aE,aC,↓gos,gop,qA,qB,qC,qD,qE,qF,qG,qH,qI]
 refine aV (lK zF 91) rfl rfl ?_
 simp only [aE,aC,↓gos,gop,qA,qB,qC,qD,qE,qF,qG,qH,qI]
 refine aV (lK IT 92) rfl rfl ?_
 simp only [aE,aC,↓gos,gop,qA,qB,qC,qD,qE,qF,qG,qH,qI]
 refine aV (lK aBa 93) rfl rfl ?_
 simp only [aE,aC,↓gos,gop,qA,qB,qC,qD,qE,qF,qG,qH,qI]
 refine aV (lK JM 96) rfl rfl ?_
 simp only [aE,aC,↓gos,gop,qA,qB,qC,qD,qE,qF,qG,qH,qI]
 refine aV (lK TEL 97) rfl rfl ?_
 simp only [aE,aC,↓gos,gop,qA,qB,qC,qD,qE,qF,qG,qH,qI]
 refine aV (lK aAN 98) rfl rfl ?_
 simp only [aE,aC,↓gos,gop,qA,qB,qC,qD,qE,qF,qG,qH,qI]
 refine aV (lK UID 99) rfl rfl ?_
 simp only [col,aE,aC,↓gos,gop,qA,qB,qC,qD,qE,qF,qG,qH,qI]
 exact bH [1] rfl rfl ⟨rfl,rfl⟩
def FR (b:UInt8):UInt8:=if 65≤b.toNat∧b.toNat≤90 then b+32 else b
def fO (s:List UInt8):List UInt8:=s.map FR
def NK (l:List (List UInt8))(x:List UInt8):Int:=if l.contains x then (l.idxOf x:Nat) else -1
theorem KM (l:List (List UInt8))(x:List UInt8)(hl:l.length<1000000000):aU 84 [.sl 1 (l.map sv),.str x] (.int .i64 (NK l x)):=by
 refine aA c84 (by simp [f84]) ?_
 simp only [f84,↓gos,gop,qA,qB,qC,qD,qE,qF,qG,qH,qI]
 refine aJ (γ:=Nat) (fun i=>[(8,.int .i64 i),(7,.int .i64 l.length),(0,.sl 1 (l.map sv)),(1,.str x)]) (fun _=>[]) (fun i=>i≤l.length∧x∉l.take i) (fun i=>l.length - i) 0
  (wks rfl (by simp) ⟨rfl,rfl,rfl,rfl,trivial⟩) ⟨by omega,by simp⟩ fun i hi=>?_
 obtain ⟨hi,ht⟩:=hi
 simp only [f84l0,↓gos,gop,qA,qB,qC,qD,qE,qF,qG,qH,qI]
 refine ⟨fun h=>?_,fun h=>?_⟩
 ·have h2:i<l.length:=by omega
  refine aL [] (by simpa using h2) ?_
  have htk:=dW h2 []
  have hdr:l=l.take i++l.getD i []::l.drop (i+1):=by
   rw [List.getD_eq_getElem?_getD,List.getElem?_eq_getElem h2]; simp
  have hti:(l.take i).length=i:=by simp; omega
  generalize l.getD i []=s at *
  simp only [sv,↓gos,gop,qA,qB,qC,qD,qE,qF,qG,qH,qI]
  refine ⟨fun q=>?_,fun q=>?_⟩
  ·subst q
   refine aD rfl ⟨rfl,?_⟩
   have hm:l.contains x=true:=by rw [hdr]; simp
   have he:l.idxOf x=i:=by rw [hdr,List.idxOf_append,if_neg ht,List.idxOf_cons_self,hti,Nat.zero_add]
   unfold NK
   rw [hm,he]; rfl
  ·intro v hv
   rw [wrap_i64 (by omega) (by omega)] at hv
   subst hv
   refine aN (i+1) rfl (by simp) ⟨rfl,rfl,rfl,rfl,trivial⟩ ⟨by omega,?_⟩ (by omega)
   rw [htk]; simp [ht,q]
 ·have h2:i=l.length:=by omega
  subst h2
  rw [List.take_length] at ht
  refine aD rfl ⟨rfl,?_⟩
  unfold NK
  rw [if_neg (by simpa using ht)]; rfl
theorem nO (l:List (List UInt8))(x:List UInt8)(hl:l.length<1000000000):aU 83 [.sl 1 (l.map sv),.str x] (.bool (l.contains x)):=by
 refine aA c83 (by simp [f83]) ?_
 simp only [f83,↓gos,gop,qA,qB,qC,qD,qE,qF,qG,qH,qI]
 refine aB (KM l x hl) rfl rfl ?_
 have hx:(0≤NK l x)↔l.contains x=true:=by
  unfold NK; split <;> rename_i h
  ·simp only [h,iff_true]; exact Int.natCast_nonneg _
  ·simp only [h]; simp
 simp only [↓gos,gop,qA,qB,qC,qD,qE,qF,qG,qH,qI]
 refine ⟨fun h=>aG ?_,fun h=>aG ?_⟩
 ·rw [hx.1 h]
 ·symm; simpa using fun e=>h (hx.2 (by simpa using e))
def loT (n:List UInt8)(j:Nat):List UInt8:=fO (n.take j)++n.drop j
theorem aCs (n:List UInt8)(j:Nat):(loT n j).length=n.length:=by simp [loT,fO]; omega
theorem AV (n:List UInt8)(j:Nat)(h:j<n.length):n.drop j=n.getD j 0::n.drop (j+1):=by
 rw [List.getD_eq_getElem?_getD,List.getElem?_eq_getElem h]; exact List.drop_eq_getElem_cons h
theorem aAU (n:List UInt8)(j:Nat)(h:j<n.length):(loT n j).getD j 0=n.getD j 0:=by
 unfold loT
 have hl:(fO (n.take j)).length=j:=by simp [fO]; omega
 rw [List.getD_eq_getElem?_getD,List.getD_eq_getElem?_getD,List.getElem?_append_right (by omega),hl,Nat.sub_self,List.getElem?_drop,Nat.add_zero]
theorem aBR (n:List UInt8)(j:Nat)(h:j<n.length):(loT n j).set j (FR (n.getD j 0))=loT n (j+1):=by
 unfold loT
 have hl:(fO (n.take j)).length=j:=by simp [fO]; omega
 rw [List.set_append_right _ _ (by omega),hl,Nat.sub_self,AV n j h,List.set_cons_zero,dW h 0]
 simp [fO]
theorem QC (n:List UInt8)(j:Nat)(h:j<n.length)(hu:FR (n.getD j 0)=n.getD j 0):loT n j=loT n (j+1):=by
 unfold loT
 rw [dW h 0,AV n j h]
 generalize n.getD j 0=c at *
 simp [fO,hu]
theorem aDe {bs:List UInt8}{i:Nat}{K:List DV→Prop}(h:i<bs.length)(hk:K [.int .u8 (bs.getD i 0).toNat]):fX (byv bs)[i]? K:=by
 unfold byv
 rw [AM]
 exact aL 0 h hk
theorem aBi (c:UInt8):(FR c).toNat=if 65≤c.toNat∧c.toNat≤90 then c.toNat+32 else c.toNat:=by
 unfold FR
 split
 ·rw [UInt8.toNat_add]; simp; omega
 ·rfl
theorem YA (s:List UInt8)(hs:s.length<100000000):aU 82 [.str s] (.str (fO s)):=by
 refine aA c82 (by simp [f82]) ?_
 simp only [f82,↓gos,gop,qA,qB,qC,qD,qE,qF,qG,qH,qI]
 refine mC ?_
 simp only [↓gos,gop,qA,qB,qC,qD,qE,qF,qG,qH,qI]
 refine aJ (γ:=Nat) (fun j=>[(10,.int .i64 j),(9,.int .i64 s.length),(8,.osl 1 0 0 s.length none),(3,.osl 1 0 0 s.length none)]) (fun j=>[.arr 1 (byv (loT s j))]) (fun j=>j≤s.length) (fun j=>s.length - j) 0
  (wks rfl (by simp) ⟨rfl,rfl,rfl,rfl,trivial⟩) (by omega) fun j hj=>?_
 have hul:=aCs s j
 simp only [f82l0,↓gos,gop,qA,qB,qC,qD,qE,qF,qG,qH,qI]
 refine ⟨fun a1=>?_,fun a1=>?_⟩
 ·have hj:j<s.length:=by omega
  have hge:=aAU s j hj
  have hup:=aBi (s.getD j 0)
  have hset:=aBR s j hj
  have hskip:=QC s j hj
  have hci:(s.getD j 0).toNat<256:=UInt8.toNat_lt _
  generalize s.getD j 0=c at hge hup hset hskip hci
  refine aK (by omega) (aDe (by omega) ?_)
  rw [hge]
  simp only [List.getElem?_cons_zero,↓gos,gop,qA,qB,qC,qD,qE,qF,qG,qH,qI]
  refine ⟨fun c1=>⟨fun c2=>?_,fun c2=>?_⟩,fun c1=>?_⟩
  ·have w1:IntKind.u8.wrap ((c.toNat:Int) - 65)=((c.toNat - 65:Nat):Int):=by rw [Go.Ai.wrap_u8 (by omega) (by omega)]; omega
   have w2:IntKind.u8.wrap (((c.toNat - 65:Nat):Int)+97)=((FR c).toNat:Int):=by rw [hup,if_pos ⟨by omega,by omega⟩,Go.Ai.wrap_u8 (by omega) (by omega)]; omega
   simp only [w1,w2,forall_eq]
   refine aK (by omega) (aDe (by omega) ?_)
   refine aK (by simp) ?_
   rw [show IntKind.i64.wrap ((j:Int)+1)=(j+1:Nat) by rw [wrap_i64 (by omega) (by omega)]; rfl]
   simp only [List.drop_succ_cons,List.drop_zero]
   rw [aAp _ j (FR c) _ rfl,hset]
   exact aN (j+1) rfl (by simp) ⟨rfl,rfl,rfl,rfl,trivial⟩ (by omega) (by omega)
  ·intro v hv
   rw [wrap_i64 (by omega) (by omega)] at hv
   subst hv
   rw [hskip (UInt8.toNat_inj.1 (by rw [hup,if_neg (by omega)]))]
   exact aN (j+1) rfl (by simp) ⟨rfl,rfl,rfl,rfl,trivial⟩ (by omega) (by omega)
  ·intro v hv
   rw [wrap_i64 (by omega) (by omega)] at hv
   subst hv
   rw [hskip (UInt8.toNat_inj.1 (by rw [hup,if_neg (by omega)]))]
   exact aN (j+1) rfl (by simp) ⟨rfl,rfl,rfl,rfl,trivial⟩ (by omega) (by omega)
 ·have hje:j=s.length:=by omega
  subst hje
  have hun:loT s s.length=fO s:=by simp [loT]
  rw [hun]
  have hul2:(fO s).length=s.length:=by simp [fO]
  refine .inr ⟨_,rfl,by simp [byv,fO],fO s,by rw [List.take_of_length_le (by simp [byv,fO])]; rfl,?_⟩
  exact gS rfl
theorem aGl (l:List (List UInt8))(hl:l.length<1000000000)(hw:∀ s∈l,s.length<100000000):aU 81 [.sl 1 (l.map sv),.fn 82 []] (.sl 1 ((l.map fO).map sv)):=by
 refine bB c81 (by simp [f81]) ?_
 simp only [f81,aE,aC,↓gos,gop,qA,qB,qC,qD,qE,qF,qG,qH,qI]
 refine aJ (γ:=Nat) (fun i=>[(10,.int .i64 i),(9,.int .i64 l.length),(8,.sl 1 (l.map sv)),(1,.fn 82 []),(5,.osl 1 1 0 i none)]) (fun i=>[.arr 1 [],.arr 1 (((l.take i).map fO).map sv)]) (fun i=>i≤l.length) (fun i=>l.length - i) 0
  (wks rfl (by simp) ⟨rfl,rfl,rfl,rfl,rfl,trivial⟩) (by omega) fun i hi=>?_
 simp only [f81l0,aE,aC,↓gos,gop,qA,qB,qC,qD,qE,qF,qG,qH,qI]
 refine ⟨fun h=>?_,fun h=>?_⟩
 ·have h2:i<l.length:=by omega
  refine aL [] (by simpa using h2) ?_
  have htk:=dW h2 []
  have hm:l.getD i []∈l:=by rw [List.getD_eq_getElem?_getD,List.getElem?_eq_getElem h2]; exact List.getElem_mem h2
  generalize l.getD i []=s at *
  simp only [sv,↓gos,gop,qA,qB,qC,qD,qE,qF,qG,qH,qI]
  refine aB (YA s (hw s hm)) rfl rfl ?_
  simp only [↓gos,gop,qA,qB,qC,qD,qE,qF,qG,qH,qI]
  have hti:(l.take i).length=i:=by simp; omega
  refine aK (by omega) (aK (by omega) (aK (by omega) ?_))
  intro v hv
  rw [wrap_i64 (by omega) (by omega)] at hv
  subst hv
  refine cI 2 (i+1) ?_ (Nat.zero_le _) ⟨rfl,rfl,rfl,rfl,rfl,rfl,rfl,rfl,rfl,rfl,trivial⟩ rfl (by omega) (by omega)
  have e:List.take i (List.map sv (List.map fO (List.take i l)))=List.map sv (List.map fO (List.take i l)):=List.take_of_length_le (by rw [List.length_map,List.length_map,hti]; exact Nat.le_refl _)
  rw [e,htk]
  simp [sv]
 ·have h2:i=l.length:=by omega
  subst h2
  rw [List.take_length]
  exact bH [1] (sU rfl (by simp) rfl) rfl ⟨rfl,rfl⟩
theorem lB (n:List UInt8)(g:Nat):aU 80 [.agg (col n g)] (.str n):=by
 refine aA c80 (by simp [f80]) ?_
 simp only [f80,col,↓gos,gop,qA,qB,qC,qD,qE,qF,qG,qH,qI]
 exact gS rfl
theorem JO (n:List UInt8)(f g:Nat):aU 80 [.agg [.str n,.fn f [],.fn g []]] (.str n):=by
 refine aA c80 (by simp [f80]) ?_
 simp only [f80,↓gos,gop,qA,qB,qC,qD,qE,qF,qG,qH,qI]
 exact gS rfl
theorem aBt:aU 47 [.sl 3 wL,.fn 80 []] (.sl 1 (COLS.map sv)):=by
 refine bB c47 (by simp [f47]) ?_
 simp only [f47,aE,aC,wL,col,List.length_cons,List.length_nil,↓gos,gop,qA,qB,qC,qD,qE,qF,qG,qH,qI]
 refine vY 11 ?_
 simp only [f47l0,aE,aC,↓gos,gop,qA,qB,qC,qD,qE,qF,qG,qH,qI,forall_eq,IntKind.wrap,IntKind.bits,IntKind.signed,rA,rB,rC,rD,rE,rF,rG,rH,rI,Int.reduceNeg,reduceIte,reduceCtorEq,ge_iff_le,Nat.reduceEqDiff]
 refine aB (lB vD 90) rfl rfl ?_
 simp only [aE,aC,↓gos,gop,qA,qB,qC,qD,qE,qF,qG,qH,qI,forall_eq,IntKind.wrap,IntKind.bits,IntKind.signed,rA,rB,rC,rD,rE,rF,rG,rH,rI,Int.reduceNeg,reduceIte,reduceCtorEq,ge_iff_le,Nat.reduceEqDiff]
 refine gW ?_
 simp only [f47l0,aE,aC,↓gos,gop,qA,qB,qC,qD,qE,qF,qG,qH,qI,forall_eq,IntKind.wrap,IntKind.bits,IntKind.signed,rA,rB,rC,rD,rE,rF,rG,rH,rI,Int.reduceNeg,reduceIte,reduceCtorEq,ge_iff_le,Nat.reduceEqDiff]
 refine aB (lB zF 91) rfl rfl ?_
 simp only [aE,aC,↓gos,gop,qA,qB,qC,qD,qE,qF,qG,qH,qI,forall_eq,IntKind.wrap,IntKind.bits,IntKind.signed,rA,rB,rC,rD,rE,rF,rG,rH,rI,Int.reduceNeg,reduceIte,reduceCtorEq,ge_iff_le,Nat.reduceEqDiff]
 refine gW ?_
 simp only [f47l0,aE,aC,↓gos,gop,qA,qB,qC,qD,qE,qF,qG,qH,qI,forall_eq,IntKind.wrap,IntKind.bits,IntKind.signed,rA,rB,rC,rD,rE,rF,rG,rH,rI,Int.reduceNeg,reduceIte,reduceCtorEq,ge_iff_le,Nat.reduceEqDiff]
 refine aB (lB IT 92) rfl rfl ?_
 simp only [aE,aC,↓gos,gop,qA,qB,qC,qD,qE,qF,qG,qH,qI,forall_eq,IntKind.wrap,IntKind.bits,IntKind.signed,rA,rB,rC,rD,rE,rF,rG,rH,rI,Int.reduceNeg,reduceIte,reduceCtorEq,ge_iff_le,Nat.reduceEqDiff]
 refine gW ?_
 simp only [f47l0,aE,aC,↓gos,gop,qA,qB,qC,qD,qE,qF,qG,qH,qI,forall_eq,IntKind.wrap,IntKind.bits,IntKind.signed,rA,rB,rC,rD,rE,rF,rG,rH,rI,Int.reduceNeg,reduceIte,reduceCtorEq,ge_iff_le,Nat.reduceEqDiff]
 refine aB (lB aBa 93) rfl rfl ?_
 simp only [aE,aC,↓gos,gop,qA,qB,qC,qD,qE,qF,qG,qH,qI,forall_eq,IntKind.wrap,IntKind.bits,IntKind.signed,rA,rB,rC,rD,rE,rF,rG,rH,rI,Int.reduceNeg,reduceIte,reduceCtorEq,ge_iff_le,Nat.reduceEqDiff]
 refine gW ?_
 simp only [f47l0,aE,aC,↓gos,gop,qA,qB,qC,qD,qE,qF,qG,qH,qI,forall_eq,IntKind.wrap,IntKind.bits,IntKind.signed,rA,rB,rC,rD,rE,rF,rG,rH,rI,Int.reduceNeg,reduceIte,reduceCtorEq,ge_iff_le,Nat.reduceEqDiff]
 refine aB (JO JID 94 95) rfl rfl ?_
 simp only [aE,aC,↓gos,gop,qA,qB,qC,qD,qE,qF,qG,qH,qI,forall_eq,IntKind.wrap,IntKind.bits,IntKind.signed,rA,rB,rC,rD,rE,rF,rG,rH,rI,Int.reduceNeg,reduceIte,reduceCtorEq,ge_iff_le,Nat.reduceEqDiff]
 refine gW ?_
 simp only [f47l0,aE,aC,↓gos,gop,qA,qB,qC,qD,qE,qF,qG,qH,qI,forall_eq,IntKind.wrap,IntKind.bits,IntKind.signed,rA,rB,rC,rD,rE,rF,rG,rH,rI,Int.reduceNeg,reduceIte,reduceCtorEq,ge_iff_le,Nat.reduceEqDiff]
 refine aB (lB JM 96) rfl rfl ?_
 simp only [aE,aC,↓gos,gop,qA,qB,qC,qD,qE,qF,qG,qH,qI,forall_eq,IntKind.wrap,IntKind.bits,IntKind.signed,rA,rB,rC,rD,rE,rF,rG,rH,rI,Int.reduceNeg,reduceIte,reduceCtorEq,ge_iff_le,Nat.reduceEqDiff]
 refine gW ?_
 simp only [f47l0,aE,aC,↓gos,gop,qA,qB,qC,qD,qE,qF,qG,qH,qI,forall_eq,IntKind.wrap,IntKind.bits,IntKind.signed,rA,rB,rC,rD,rE,rF,rG,rH,rI,Int.reduceNeg,reduceIte,reduceCtorEq,ge_iff_le,Nat.reduceEqDiff]
 refine aB (lB TEL 97) rfl rfl ?_
 simp only [aE,aC,↓gos,gop,qA,qB,qC,qD,qE,qF,qG,qH,qI,forall_eq,IntKind.wrap,IntKind.bits,IntKind.signed,rA,rB,rC,rD,rE,rF,rG,rH,rI,Int.reduceNeg,reduceIte,reduceCtorEq,ge_iff_le,Nat.reduceEqDiff]
 refine gW ?_
 simp only [f47l0,aE,aC,↓gos,gop,qA,qB,qC,qD,qE,qF,qG,qH,qI,forall_eq,IntKind.wrap,IntKind.bits,IntKind.signed,rA,rB,rC,rD,rE,rF,rG,rH,rI,Int.reduceNeg,reduceIte,reduceCtorEq,ge_iff_le,Nat.reduceEqDiff]
 refine aB (lB aAN 98) rfl rfl ?_
 simp only [aE,aC,↓gos,gop,qA,qB,qC,qD,qE,qF,qG,qH,qI,forall_eq,IntKind.wrap,IntKind.bits,IntKind.signed,rA,rB,rC,rD,rE,rF,rG,rH,rI,Int.reduceNeg,reduceIte,reduceCtorEq,ge_iff_le,Nat.reduceEqDiff]
 refine gW ?_
 simp only [f47l0,aE,aC,↓gos,gop,qA,qB,qC,qD,qE,qF,qG,qH,qI,forall_eq,IntKind.wrap,IntKind.bits,IntKind.signed,rA,rB,rC,rD,rE,rF,rG,rH,rI,Int.reduceNeg,reduceIte,reduceCtorEq,ge_iff_le,Nat.reduceEqDiff]
 refine aB (lB UID 99) rfl rfl ?_
 simp only [aE,aC,↓gos,gop,qA,qB,qC,qD,qE,qF,qG,qH,qI,forall_eq,IntKind.wrap,IntKind.bits,IntKind.signed,rA,rB,rC,rD,rE,rF,rG,rH,rI,Int.reduceNeg,reduceIte,reduceCtorEq,ge_iff_le,Nat.reduceEqDiff]
 refine gW ?_
 simp only [f47l0,aE,aC,↓gos,gop,qA,qB,qC,qD,qE,qF,qG,qH,qI,forall_eq,IntKind.wrap,IntKind.bits,IntKind.signed,rA,rB,rC,rD,rE,rF,rG,rH,rI,Int.reduceNeg,reduceIte,reduceCtorEq,ge_iff_le,Nat.reduceEqDiff]
 refine aB (JO jX 100 101) rfl rfl ?_
 simp only [aE,aC,↓gos,gop,qA,qB,qC,qD,qE,qF,qG,qH,qI,forall_eq,IntKind.wrap,IntKind.bits,IntKind.signed,rA,rB,rC,rD,rE,rF,rG,rH,rI,Int.reduceNeg,reduceIte,reduceCtorEq,ge_iff_le,Nat.reduceEqDiff]
 refine gW ?_
 simp only [f47l0,aE,aC,↓gos,gop,qA,qB,qC,qD,qE,qF,qG,qH,qI,forall_eq,IntKind.wrap,IntKind.bits,IntKind.signed,rA,rB,rC,rD,rE,rF,rG,rH,rI,Int.reduceNeg,reduceIte,reduceCtorEq,ge_iff_le,Nat.reduceEqDiff]
 exact bH [1] rfl rfl ⟨rfl,rfl⟩
def nU (l:List (List UInt8))(i:Nat):Bool:=COLS.contains (l.getD i []) && !(l.take i).contains (l.getD i [])
def fC (row:List (List UInt8)):List (List UInt8)×Bool:=if (List.range row.length).all (nU (row.map fO))=true then (row.map fO,(row.map fO).contains vD) else ([],false)
theorem UM (row:List (List UInt8))(hl:row.length<1000000000)(hw:∀ s∈row,s.length<100000000):aU 41 [.sl 1 (row.map sv)] (.tup [.sl 1 ((fC row).1.map sv),.bool (fC row).2]):=by
 refine bB c41 (by simp [f41]) ?_
 simp only [f41,aE,aC,↓gos,gop,qA,qB,qC,qD,qE,qF,qG,qH,qI]
 refine aV lY rfl rfl ?_
 simp only [aE,aC,↓gos,gop,qA,qB,qC,qD,qE,qF,qG,qH,qI]
 refine aV aBt rfl rfl ?_
 simp only [aE,aC,↓gos,gop,qA,qB,qC,qD,qE,qF,qG,qH,qI]
 refine aV (aGl row hl hw) rfl rfl ?_
 unfold fC
 have hlen:(row.map fO).length=row.length:=by simp
 rw [← hlen]
 rw [← hlen] at hl
 generalize row.map fO=l at *
 simp only [aE,aC,↓gos,gop,qA,qB,qC,qD,qE,qF,qG,qH,qI]
 refine aJ (γ:=Nat) (fun i=>[(14,.int .i64 i),(13,.int .i64 l.length),(12,.sl 1 (l.map sv)),(5,.sl 1 (l.map sv)),(4,.sl 1 (COLS.map sv))]) (fun _=>[.arr 1 []]) (fun i=>i≤l.length∧(List.range i).all (nU l)=true) (fun i=>l.length - i) 0
  (wks rfl (by simp) ⟨rfl,rfl,rfl,rfl,rfl,trivial⟩) ⟨by omega,by simp⟩ fun i hi=>?_
 obtain ⟨hi,ht⟩:=hi
 simp only [f41l0,aE,aC,↓gos,gop,qA,qB,qC,qD,qE,qF,qG,qH,qI]
 refine ⟨fun h=>?_,fun h=>?_⟩
 ·have h2:i<l.length:=by omega
  have hr:(List.range (i+1)).all (nU l)=nU l i:=by rw [List.range_succ,List.all_append,ht]; simp
  have bad:nU l i=false→(if (List.range l.length).all (nU l)=true then (l,l.contains vD) else (([]:List (List UInt8)),false))=([],false):=fun h=>by
   rw [if_neg]; rw [show (List.range l.length).all (nU l)=false by rw [List.all_eq_false]; exact ⟨i,by simpa using h2,by simp [h]⟩]; simp
  rw [show nU l i=(COLS.contains (l.getD i []) && !(l.take i).contains (l.getD i [])) from rfl] at hr bad
  refine aL [] (by simpa using h2) ?_
  generalize l.getD i []=s at *
  simp only [sv,aE,aC,↓gos,gop,qA,qB,qC,qD,qE,qF,qG,qH,qI]
  refine aB (nO COLS s (by decide)) rfl rfl ?_
  cases hc:COLS.contains s
  ·simp only [aE,aC,↓gos,gop,qA,qB,qC,qD,qE,qF,qG,qH,qI]
   rw [bad (by rw [hc]; rfl)]
   exact bH [1] rfl rfl ⟨rfl,rfl⟩
  ·simp only [aE,aC,↓gos,gop,qA,qB,qC,qD,qE,qF,qG,qH,qI]
   rw [hc,Bool.true_and] at hr bad
   rw [← List.map_take]
   refine aK (by omega) ?_
   refine aB (nO (l.take i) s (by simp; omega)) rfl rfl ?_
   cases hc2:(l.take i).contains s
   ·rw [hc2] at hr
    simp only [aE,aC,↓gos,gop,qA,qB,qC,qD,qE,qF,qG,qH,qI]
    intro v hv
    rw [wrap_i64 (by omega) (by omega)] at hv
    subst hv
    exact aN (i+1) rfl (by simp) ⟨rfl,rfl,rfl,rfl,rfl,trivial⟩ ⟨by omega,hr⟩ (by omega)
   ·simp only [aE,aC,↓gos,gop,qA,qB,qC,qD,qE,qF,qG,qH,qI]
    rw [bad (by rw [hc2]; rfl)]
    exact bH [1] rfl rfl ⟨rfl,rfl⟩
 ·have h2:i=l.length:=by omega
  subst h2
  simp only [List.getElem?_cons_zero,COLS,sv,aE,aC,↓gos,gop,qA,qB,qC,qD,qE,qF,qG,qH,qI]
  refine aB (nO l vD hl) rfl rfl ?_
  simp only [aE,aC,↓gos,gop,qA,qB,qC,qD,qE,qF,qG,qH,qI]
  rw [if_pos ht]
  exact bH [] rfl rfl ⟨rfl,rfl⟩
def At (g k:Nat):Prop:=∀ cs:List DV,cs.all DV.closed=true→ACalls ED g [.box cs] [.ptr 0 0] fun h d=>h=[.box cs]∧d=.ptr 0 k
theorem iW {cs:List DV}{k:Nat}{tl:List AObj}(hcl:cs.all DV.closed=true):eK 1 (fun h d=>h=[AObj.box cs]∧d=DV.ptr 0 k) (some [DV.ptr 0 k]) (.box cs::tl):=
 iZ [0] (by simp) (Nat.le_refl _) id0 (by simp) (by simp [rvd,DV.inL]) (by
  intro l hl
  simp at hl; subst hl
  exact List.all_eq_true.2 fun d hd=>bA (List.all_eq_true.1 hcl d hd)) rfl rfl ⟨by
  simp only [List.map_cons,List.map_nil,List.getD_cons_zero,aS]
  rw [bM fun d hd=>aZ (List.all_eq_true.1 hcl d hd)],by simp [rvd,DV.ren]⟩
theorem aHA:At 90 0:=fun cs hcl=>by
 refine aA c90 (by simp [f90]) ?_
 simp only [f90,↓gos,gop,qA,qB,qC,qD,qE,qF,qG,qH,qI]
 exact iW hcl
theorem aJp:At 91 1:=fun cs hcl=>by
 refine aA c91 (by simp [f91]) ?_
 simp only [f91,↓gos,gop,qA,qB,qC,qD,qE,qF,qG,qH,qI]
 exact iW hcl
theorem aKj:At 92 2:=fun cs hcl=>by
 refine aA c92 (by simp [f92]) ?_
 simp only [f92,↓gos,gop,qA,qB,qC,qD,qE,qF,qG,qH,qI]
 exact iW hcl
theorem aII:At 93 3:=fun cs hcl=>by
 refine aA c93 (by simp [f93]) ?_
 simp only [f93,↓gos,gop,qA,qB,qC,qD,qE,qF,qG,qH,qI]
 exact iW hcl
theorem aIJ:At 96 5:=fun cs hcl=>by
 refine aA c96 (by simp [f96]) ?_
 simp only [f96,↓gos,gop,qA,qB,qC,qD,qE,qF,qG,qH,qI]
 exact iW hcl
theorem aIL:At 97 6:=fun cs hcl=>by
 refine aA c97 (by simp [f97]) ?_
 simp only [f97,↓gos,gop,qA,qB,qC,qD,qE,qF,qG,qH,qI]
 exact iW hcl
theorem aHE:At 98 7:=fun cs hcl=>by
 refine aA c98 (by simp [f98]) ?_
 simp only [f98,↓gos,gop,qA,qB,qC,qD,qE,qF,qG,qH,qI]
 exact iW hcl
theorem aJh:At 99 8:=fun cs hcl=>by
 refine aA c99 (by simp [f99]) ?_
 simp only [f99,↓gos,gop,qA,qB,qC,qD,qE,qF,qG,qH,qI]
 exact iW hcl
theorem jD {g k:Nat}(hg:At g k)(cs:List DV)(s:List UInt8)(hcl:cs.all DV.closed=true)(hk:k<cs.length) :
  ACalls ED 143 [.box cs] [.ptr 0 0,.str s,.eptr [.fn g []] 0] fun h d=>h=[.box (cs.take k++[.str s]++cs.drop (k+1))]∧d=.int .i64 0:=by
 refine aA c143 (by simp [f143]) ?_
 simp only [f143,↓gos,gop,qA,qB,qC,qD,qE,qF,qG,qH,qI]
 refine nP (h1:=[.box cs]) [0] [] (by simp) (by simp) rfl (by
  simp only [List.map_cons,List.map_nil,List.getD_cons_zero,iU]
  rw [bM fun d hd=>cK (List.all_eq_true.1 hcl d hd)]) rfl (by
  simp only [List.all_cons,List.all_nil,Bool.and_true,Bool.and_eq_true]
  refine ⟨rfl,?_⟩
  exact List.all_eq_true.2 fun d hd=>bA (List.all_eq_true.1 hcl d hd)) (hg cs hcl) rfl ?_
 simp only [List.foldl,bP,aS,DV.ren,upL,bM fun d hd=>aZ (List.all_eq_true.1 hcl d hd),↓gos,gop,qA,qB,qC,qD,qE,qF,qG,qH,qI]
 refine aK (by omega) ?_
 refine fE ?_ rfl ⟨by simp,rfl⟩
 refine List.all_eq_true.2 fun d hd=>?_
 rcases List.mem_append.1 hd with hd|hd
 ·rcases List.mem_append.1 hd with hd|hd
  ·exact List.all_eq_true.1 hcl d (List.mem_of_mem_take hd)
  ·obtain rfl:d=.str s:=by simpa using hd
   rfl
 ·exact List.all_eq_true.1 hcl d (List.mem_of_mem_drop hd)
theorem iH (c:CT):(ctv c).all DV.closed=true:=rfl
abbrev Tk (f:Nat)(c:CT)(xs:List DV)(c' : CT)(e:Int):Prop:=ACalls ED f [.box (ctv c)] (.ptr 0 0::xs) fun h d=>h=[.box (ctv c')]∧d=.int .i64 e
theorem aKM (c:CT)(s:List UInt8):Tk 143 c [.str s,.eptr [.fn 90 []] 0] { c with name:=s } 0:=jD aHA (ctv c) s rfl (by simp [ctv])
theorem aKL (c:CT)(s:List UInt8):Tk 143 c [.str s,.eptr [.fn 91 []] 0] { c with family:=s } 0:=jD aJp (ctv c) s rfl (by simp [ctv])
theorem aLj (c:CT)(s:List UInt8):Tk 143 c [.str s,.eptr [.fn 92 []] 0] { c with given:=s } 0:=jD aKj (ctv c) s rfl (by simp [ctv])
theorem aKy (c:CT)(s:List UInt8):Tk 143 c [.str s,.eptr [.fn 93 []] 0] { c with nick:=s } 0:=jD aII (ctv c) s rfl (by simp [ctv])
theorem aKr (c:CT)(s:List UInt8):Tk 143 c [.str s,.eptr [.fn 96 []] 0] { c with email:=s } 0:=jD aIJ (ctv c) s rfl (by simp [ctv])
theorem aKZ (c:CT)(s:List UInt8):Tk 143 c [.str s,.eptr [.fn 97 []] 0] { c with tel:=s } 0:=jD aIL (ctv c) s rfl (by simp [ctv])
theorem aKJ (c:CT)(s:List UInt8):Tk 143 c [.str s,.eptr [.fn 98 []] 0] { c with note:=s } 0:=jD aHE (ctv c) s rfl (by simp [ctv])
theorem aLg (c:CT)(s:List UInt8):Tk 143 c [.str s,.eptr [.fn 99 []] 0] { c with uid:=s } 0:=jD aJh (ctv c) s rfl (by simp [ctv])
def NZ (c:CT)(s:List UInt8):CT×Int:=if s=[] then (c,0) else ({ c with jid:=(dM s).1 },(dM s).2)
theorem aKD (c:CT)(s:List UInt8)(hs:s.length<100000000):Tk 94 c [.str s] (NZ c s).1 (NZ c s).2:=by
 refine aA c94 (by simp [f94]) ?_
 simp only [f94,↓gos,gop,qA,qB,qC,qD,qE,qF,qG,qH,qI]
 unfold NZ
 refine ⟨fun h=>?_,fun h=>?_⟩
 ·rw [if_pos h]
  exact fE rfl rfl ⟨rfl,rfl⟩
 ·rw [if_neg h]
  refine aB (XC s hs) rfl rfl ?_
  simp only [ctv,↓gos,gop,qA,qB,qC,qD,qE,qF,qG,qH,qI]
  exact fE rfl rfl ⟨rfl,rfl⟩
def eJ:List (List UInt8)→Option (List (List UInt8))
 | []=>some []
 | x::l=>(plainF x).bind fun y=>(eJ l).map (y :: ·)
theorem rK (x:List UInt8):∀ l:List (List UInt8),eJ (l++[x])=(eJ l).bind fun a=>(plainF x).map (a++[·])
 | []=>by simp only [List.nil_append,eJ]; cases plainF x <;> rfl
 | z::l=>by
  simp only [List.cons_append,eJ,rK x l]
  cases plainF z with
  | none=>rfl
  | some y=>
   cases eJ l with
   | none=>rfl
   | some a=>cases plainF x <;> rfl
theorem rQ {x:List UInt8}(hx:plainF x=none):∀ (a b:List (List UInt8)),eJ (a++x::b)=none
 | [],b=>by simp [eJ,hx]
 | z::a,b=>by
  simp only [List.cons_append,eJ,rQ hx a b]
  cases plainF z <;> rfl
def kG (c:CT)(s:List UInt8):CT×Int:=match eJ (bK 59 false [] s) with
 | none=>(c,18)
 | some l=>({ c with groups:=hO l },0)
theorem wO (sep:UInt8):∀ (s:List UInt8)(e:Bool)(cur:List UInt8),bK sep e cur s≠[]
 | [],e,cur=>by simp [bK]
 | x::s,e,cur=>by
  unfold bK
  split
  ·simp
  ·exact wO sep s _ _
theorem nA (sep:UInt8):∀ (s:List UInt8)(e:Bool)(cur:List UInt8),∀ x∈bK sep e cur s,x.length≤cur.length+s.length
 | [],e,cur,x,hx=>by simp [bK] at hx; subst hx; simp
 | y::s,e,cur,x,hx=>by
  unfold bK at hx
  split at hx
  ·rcases List.mem_cons.1 hx with rfl|hx
   ·simp
   ·have:=nA sep s _ _ x hx
    simp at this; simp; omega
  ·have:=nA sep s _ _ x hx
   simp at this; simp; omega
theorem aKQ (c:CT)(s:List UInt8)(hs:s.length<100000000)(h20:(bK 59 false [] s).length<20):Tk 100 c [.str s] (kG c s).1 (kG c s).2:=by
 have hne:=wO 59 s false []
 have hmem:=nA 59 s false []
 refine aA c100 (by simp [f100]) ?_
 simp only [f100,↓gos,gop,qA,qB,qC,qD,qE,qF,qG,qH,qI]
 refine iS (aAF s 59 hs) (by simp [DV.closed]) ?_
 unfold kG
 generalize bK 59 false [] s=l at *
 simp only [DV.ren,aS,↓gos,gop,qA,qB,qC,qD,qE,qF,qG,qH,qI]
 refine aJ (γ:=Nat×List (List UInt8)) (fun g=>[(13,.int .i64 g.1),(12,.int .i64 l.length),(11,.osl 1 2 0 l.length none),(5,.osl 1 1 0 g.2.length none),(0,.ptr 0 0)]) (fun g=>[.box (ctv c),.arr 1 (g.2.map st1),.arr 1 (l.map st1)])
  (fun g=>g.1≤l.length∧eJ (l.take g.1)=some g.2∧g.2.length=g.1) (fun g=>l.length - g.1) (0,[])
  (wks rfl (by simp) ⟨rfl,rfl,rfl,rfl,rfl,trivial⟩) ⟨by omega,by simp [eJ],rfl⟩ fun g hg=>?_
 obtain ⟨i,acc⟩:=g
 obtain ⟨hi,hp,ha⟩:=hg
 simp only at hi hp ha
 simp only [f100l0,↓gos,gop,qA,qB,qC,qD,qE,qF,qG,qH,qI]
 refine ⟨fun h=>?_,fun h=>?_⟩
 ·have h2:i<l.length:=by omega
  refine aK (by omega) (aL [] h2 ?_)
  have htk:=jZ h2 []
  have hm:l.getD i []∈l:=by rw [List.getD_eq_getElem?_getD,List.getElem?_eq_getElem h2]; exact List.getElem_mem h2
  have hdr:l=l.take i++l.getD i []::l.drop (i+1):=by
   rw [List.getD_eq_getElem?_getD,List.getElem?_eq_getElem h2]; simp
  generalize l.getD i []=x at *
  have hx:=hmem x hm
  simp only [List.length_nil] at hx
  simp only [st1,↓gos,gop,qA,qB,qC,qD,qE,qF,qG,qH,qI]
  refine aB (aBv x (by omega)) rfl rfl ?_
  cases hpx:plainF x with
  | none=>
   have hn:eJ l=none:=by rw [hdr]; exact rQ hpx _ _
   simp only [hn,Option.isSome_none,Bool.false_eq_true,reduceIte,↓gos,gop,qA,qB,qC,qD,qE,qF,qG,qH,qI]
   exact ⟨fun _=>fE rfl rfl ⟨rfl,rfl⟩,fun q=>absurd q (by decide)⟩
  | some y=>
   have w1:IntKind.i64.wrap ((i:Int)+1)=((i+1:Nat):Int):=by rw [wrap_i64 (by omega) (by omega)]; rfl
   simp only [Option.isSome_some,Option.getD_some,reduceIte,w1,forall_eq,↓gos,gop,qA,qB,qC,qD,qE,qF,qG,qH,qI]
   refine aK (by omega) (aK (by omega) ?_)
   refine cI 3 (i+1,acc++[y]) ?_ (by simp) ⟨rfl,rfl,rfl,rfl,rfl,rfl,by simp; rfl,rfl,rfl,rfl,trivial⟩ rfl ⟨by simp only; omega,by rw [htk,rK,hp,hpx]; rfl,by simp [ha]⟩ (by simp only; omega)
   simp only [List.map_append]
   rfl
 ·have h2:i=l.length:=by omega
  subst h2
  rw [List.take_length] at hp
  refine gM [1] rfl ?_
  simp only [hp,↓gos,gop,qA,qB,qC,qD,qE,qF,qG,qH,qI]
  refine aV (OO acc (by omega) (by intro e; subst e; exact hne (List.eq_nil_of_length_eq_zero ha.symm))) rfl rfl ?_
  simp only [ctv,↓gos,gop,qA,qB,qC,qD,qE,qF,qG,qH,qI]
  exact fE rfl rfl ⟨rfl,rfl⟩
end Go.Proofs.Ut
