/- sheet.columns: what hands back closures. -/
import Derived.Test.YtgamnnfndidclaaGreatDoorBYK
import Derived.Test.YtgamnnfndidclaaGreatDoorBYO3
open Nat renaming reduceBEq → qA,reduceAdd → qB,reduceSub → qC,reduceLeDiff → qD,reduceMul → qE
open Int renaming reduceLE → qF,reduceLT → qG,reduceNe → qH,reduceToNat → qI
open Int renaming reduceEq → rA,reduceAdd → rB,reduceSub → rC,reduceMul → rD,reduceMod → rE,reduceDiv → rF,reduceTDiv → rG,reducePow → rH
open Nat renaming reducePow → rI
set_option linter.all false
namespace Go.Proofs.Ut
open Go.Ai
set_option maxRecDepth 100000
def col (name:List UInt8)(g:Nat):List DV:=[.str name,.fn 143 [.eptr [.fn g []] 0],.fn 144 [.eptr [.fn g []] 0]]
theorem text89 (name:List UInt8)(g:Nat):DRet 89 [.str name,.fn g []] (.agg (col name g)):=by
 refine acalls_goF c89 (by simp [f89]) ?_
 simp only [f89,finF_e,finF_en,↓gos,gop,qA,qB,qC,qD,qE,qF,qG,qH,qI]
 exact end_fc [0] rfl rfl ⟨rfl,rfl⟩
def NAME:List UInt8:=[110,97,109,101]
def FAMILY:List UInt8:=[102,97,109,105,108,121]
def GIVEN:List UInt8:=[103,105,118,101,110]
def NICK:List UInt8:=[110,105,99,107]
def JID:List UInt8:=[106,105,100]
def EMAIL:List UInt8:=[101,109,97,105,108]
def TEL:List UInt8:=[116,101,108]
def NOTE:List UInt8:=[110,111,116,101]
def UID:List UInt8:=[117,105,100]
def GROUPS:List UInt8:=[103,114,111,117,112,115]
def COLS:List (List UInt8):=[NAME,FAMILY,GIVEN,NICK,JID,EMAIL,TEL,NOTE,UID,GROUPS]
def cols:List (List DV):=[col NAME 90,col FAMILY 91,col GIVEN 92,col NICK 93,[.str JID,.fn 94 [],.fn 95 []],col EMAIL 96,col TEL 97,col NOTE 98,col UID 99,[.str GROUPS,.fn 100 [],.fn 101 []]]
theorem columns48:DRet 48 [] (.sl 3 cols):=by
 refine acalls_goF c48 (by simp [f48]) ?_
 simp only [f48,finF_e,finF_en,↓gos,gop,qA,qB,qC,qD,qE,qF,qG,qH,qI]
 refine call_clo (text89 NAME 90) rfl rfl ?_
 simp only [finF_e,finF_en,↓gos,gop,qA,qB,qC,qD,qE,qF,qG,qH,qI]
 refine call_clo (text89 FAMILY 91) rfl rfl ?_
 simp only [finF_e,finF_en,↓gos,gop,qA,qB,qC,qD,qE,qF,qG,qH,qI]
 refine call_clo (text89 GIVEN 92) rfl rfl ?_
 simp only [finF_e,finF_en,↓gos,gop,qA,qB,qC,qD,qE,qF,qG,qH,qI]
 refine call_clo (text89 NICK 93) rfl rfl ?_
 simp only [finF_e,finF_en,↓gos,gop,qA,qB,qC,qD,qE,qF,qG,qH,qI]
 refine call_clo (text89 EMAIL 96) rfl rfl ?_
 simp only [finF_e,finF_en,↓gos,gop,qA,qB,qC,qD,qE,qF,qG,qH,qI]
 refine call_clo (text89 TEL 97) rfl rfl ?_
 simp only [finF_e,finF_en,↓gos,gop,qA,qB,qC,qD,qE,qF,qG,qH,qI]
 refine call_clo (text89 NOTE 98) rfl rfl ?_
 simp only [finF_e,finF_en,↓gos,gop,qA,qB,qC,qD,qE,qF,qG,qH,qI]
 refine call_clo (text89 UID 99) rfl rfl ?_
 simp only [col,finF_e,finF_en,↓gos,gop,qA,qB,qC,qD,qE,qF,qG,qH,qI]
 exact end_fc [1] rfl rfl ⟨rfl,rfl⟩
def lowB (b:UInt8):UInt8:=if 65≤b.toNat∧b.toNat≤90 then b+32 else b
def lowL (s:List UInt8):List UInt8:=s.map lowB
def idxI (l:List (List UInt8))(x:List UInt8):Int:=if l.contains x then (l.idxOf x:Nat) else -1
theorem index84 (l:List (List UInt8))(x:List UInt8)(hl:l.length<1000000000):DRet 84 [.sl 1 (l.map sv),.str x] (.int .i64 (idxI l x)):=by
 refine acalls_go c84 (by simp [f84]) ?_
 simp only [f84,↓gos,gop,qA,qB,qC,qD,qE,qF,qG,qH,qI]
 refine goN_lp (γ:=Nat) (fun i=>[(8,.int .i64 i),(7,.int .i64 l.length),(0,.sl 1 (l.map sv)),(1,.str x)]) (fun _=>[]) (fun i=>i≤l.length∧x∉l.take i) (fun i=>l.length - i) 0
  (wks rfl (by simp) ⟨rfl,rfl,rfl,rfl,trivial⟩) ⟨by omega,by simp⟩ fun i hi=>?_
 obtain ⟨hi,ht⟩:=hi
 simp only [f84l0,↓gos,gop,qA,qB,qC,qD,qE,qF,qG,qH,qI]
 refine ⟨fun h=>?_,fun h=>?_⟩
 ·have h2:i<l.length:=by omega
  refine optP_at [] (by simpa using h2) ?_
  have htk:=take_getD' h2 []
  have hdr:l=l.take i++l.getD i []::l.drop (i+1):=by
   rw [List.getD_eq_getElem?_getD,List.getElem?_eq_getElem h2]; simp
  have hti:(l.take i).length=i:=by simp; omega
  generalize l.getD i []=s at *
  simp only [sv,↓gos,gop,qA,qB,qC,qD,qE,qF,qG,qH,qI]
  refine ⟨fun q=>?_,fun q=>?_⟩
  ·subst q
   refine finE_closed rfl ⟨rfl,?_⟩
   have hm:l.contains x=true:=by rw [hdr]; simp
   have he:l.idxOf x=i:=by rw [hdr,List.idxOf_append,if_neg ht,List.idxOf_cons_self,hti,Nat.zero_add]
   unfold idxI
   rw [hm,he]; rfl
  ·intro v hv
   rw [wrap_i64 (by omega) (by omega)] at hv
   subst hv
   refine rnd_s (i+1) rfl (by simp) ⟨rfl,rfl,rfl,rfl,trivial⟩ ⟨by omega,?_⟩ (by omega)
   rw [htk]; simp [ht,q]
 ·have h2:i=l.length:=by omega
  subst h2
  rw [List.take_length] at ht
  refine finE_closed rfl ⟨rfl,?_⟩
  unfold idxI
  rw [if_neg (by simpa using ht)]; rfl
theorem contains83 (l:List (List UInt8))(x:List UInt8)(hl:l.length<1000000000):DRet 83 [.sl 1 (l.map sv),.str x] (.bool (l.contains x)):=by
 refine acalls_go c83 (by simp [f83]) ?_
 simp only [f83,↓gos,gop,qA,qB,qC,qD,qE,qF,qG,qH,qI]
 refine call_ret (index84 l x hl) rfl rfl ?_
 have hx:(0≤idxI l x)↔l.contains x=true:=by
  unfold idxI; split <;> rename_i h
  ·simp only [h,iff_true]; exact Int.natCast_nonneg _
  ·simp only [h]; simp
 simp only [↓gos,gop,qA,qB,qC,qD,qE,qF,qG,qH,qI]
 refine ⟨fun h=>endb ?_,fun h=>endb ?_⟩
 ·rw [hx.1 h]
 ·symm; simpa using fun e=>h (hx.2 (by simpa using e))
def loT (n:List UInt8)(j:Nat):List UInt8:=lowL (n.take j)++n.drop j
theorem loT_len (n:List UInt8)(j:Nat):(loT n j).length=n.length:=by simp [loT,lowL]; omega
theorem drop_by' (n:List UInt8)(j:Nat)(h:j<n.length):n.drop j=n.getD j 0::n.drop (j+1):=by
 rw [List.getD_eq_getElem?_getD,List.getElem?_eq_getElem h]; exact List.drop_eq_getElem_cons h
theorem loT_get (n:List UInt8)(j:Nat)(h:j<n.length):(loT n j).getD j 0=n.getD j 0:=by
 unfold loT
 have hl:(lowL (n.take j)).length=j:=by simp [lowL]; omega
 rw [List.getD_eq_getElem?_getD,List.getD_eq_getElem?_getD,List.getElem?_append_right (by omega),hl,Nat.sub_self,List.getElem?_drop,Nat.add_zero]
theorem loT_set (n:List UInt8)(j:Nat)(h:j<n.length):(loT n j).set j (lowB (n.getD j 0))=loT n (j+1):=by
 unfold loT
 have hl:(lowL (n.take j)).length=j:=by simp [lowL]; omega
 rw [List.set_append_right _ _ (by omega),hl,Nat.sub_self,drop_by' n j h,List.set_cons_zero,take_getD' h 0]
 simp [lowL]
theorem loT_skip (n:List UInt8)(j:Nat)(h:j<n.length)(hu:lowB (n.getD j 0)=n.getD j 0):loT n j=loT n (j+1):=by
 unfold loT
 rw [take_getD' h 0,drop_by' n j h]
 generalize n.getD j 0=c at *
 simp [lowL,hu]
theorem optG' {bs:List UInt8}{i:Nat}{K:List DV→Prop}(h:i<bs.length)(hk:K [.int .u8 (bs.getD i 0).toNat]):optP (byv bs)[i]? K:=by
 unfold byv
 rw [optP_map]
 exact optP_at 0 h hk
theorem low_nat (c:UInt8):(lowB c).toNat=if 65≤c.toNat∧c.toNat≤90 then c.toNat+32 else c.toNat:=by
 unfold lowB
 split
 ·rw [UInt8.toNat_add]; simp; omega
 ·rfl
theorem small82 (s:List UInt8)(hs:s.length<100000000):DRet 82 [.str s] (.str (lowL s)):=by
 refine acalls_go c82 (by simp [f82]) ?_
 simp only [f82,↓gos,gop,qA,qB,qC,qD,qE,qF,qG,qH,qI]
 refine s2b_osl ?_
 simp only [↓gos,gop,qA,qB,qC,qD,qE,qF,qG,qH,qI]
 refine goN_lp (γ:=Nat) (fun j=>[(10,.int .i64 j),(9,.int .i64 s.length),(8,.osl 1 0 0 s.length none),(3,.osl 1 0 0 s.length none)]) (fun j=>[.arr 1 (byv (loT s j))]) (fun j=>j≤s.length) (fun j=>s.length - j) 0
  (wks rfl (by simp) ⟨rfl,rfl,rfl,rfl,trivial⟩) (by omega) fun j hj=>?_
 have hul:=loT_len s j
 simp only [f82l0,↓gos,gop,qA,qB,qC,qD,qE,qF,qG,qH,qI]
 refine ⟨fun a1=>?_,fun a1=>?_⟩
 ·have hj:j<s.length:=by omega
  have hge:=loT_get s j hj
  have hup:=low_nat (s.getD j 0)
  have hset:=loT_set s j hj
  have hskip:=loT_skip s j hj
  have hci:(s.getD j 0).toNat<256:=UInt8.toNat_lt _
  generalize s.getD j 0=c at hge hup hset hskip hci
  refine chk_i (by omega) (optG' (by omega) ?_)
  rw [hge]
  simp only [List.getElem?_cons_zero,↓gos,gop,qA,qB,qC,qD,qE,qF,qG,qH,qI]
  refine ⟨fun c1=>⟨fun c2=>?_,fun c2=>?_⟩,fun c1=>?_⟩
  ·have w1:IntKind.u8.wrap ((c.toNat:Int) - 65)=((c.toNat - 65:Nat):Int):=by rw [Go.Ai.wrap_u8 (by omega) (by omega)]; omega
   have w2:IntKind.u8.wrap (((c.toNat - 65:Nat):Int)+97)=((lowB c).toNat:Int):=by rw [hup,if_pos ⟨by omega,by omega⟩,Go.Ai.wrap_u8 (by omega) (by omega)]; omega
   simp only [w1,w2,forall_eq]
   refine chk_i (by omega) (optG' (by omega) ?_)
   refine chk_i (by simp) ?_
   rw [show IntKind.i64.wrap ((j:Int)+1)=(j+1:Nat) by rw [wrap_i64 (by omega) (by omega)]; rfl]
   simp only [List.drop_succ_cons,List.drop_zero]
   rw [byv_set _ j (lowB c) _ rfl,hset]
   exact rnd_s (j+1) rfl (by simp) ⟨rfl,rfl,rfl,rfl,trivial⟩ (by omega) (by omega)
  ·intro v hv
   rw [wrap_i64 (by omega) (by omega)] at hv
   subst hv
   rw [hskip (UInt8.toNat_inj.1 (by rw [hup,if_neg (by omega)]))]
   exact rnd_s (j+1) rfl (by simp) ⟨rfl,rfl,rfl,rfl,trivial⟩ (by omega) (by omega)
  ·intro v hv
   rw [wrap_i64 (by omega) (by omega)] at hv
   subst hv
   rw [hskip (UInt8.toNat_inj.1 (by rw [hup,if_neg (by omega)]))]
   exact rnd_s (j+1) rfl (by simp) ⟨rfl,rfl,rfl,rfl,trivial⟩ (by omega) (by omega)
 ·have hje:j=s.length:=by omega
  subst hje
  have hun:loT s s.length=lowL s:=by simp [loT]
  rw [hun]
  have hul2:(lowL s).length=s.length:=by simp [lowL]
  refine .inr ⟨_,rfl,by simp [byv,lowL],lowL s,by rw [List.take_of_length_le (by simp [byv,lowL])]; rfl,?_⟩
  exact ends rfl
theorem each81 (l:List (List UInt8))(hl:l.length<1000000000)(hw:∀ s∈l,s.length<100000000):DRet 81 [.sl 1 (l.map sv),.fn 82 []] (.sl 1 ((l.map lowL).map sv)):=by
 refine acalls_goF c81 (by simp [f81]) ?_
 simp only [f81,finF_e,finF_en,↓gos,gop,qA,qB,qC,qD,qE,qF,qG,qH,qI]
 refine goN_lp (γ:=Nat) (fun i=>[(10,.int .i64 i),(9,.int .i64 l.length),(8,.sl 1 (l.map sv)),(1,.fn 82 []),(5,.osl 1 1 0 i none)]) (fun i=>[.arr 1 [],.arr 1 (((l.take i).map lowL).map sv)]) (fun i=>i≤l.length) (fun i=>l.length - i) 0
  (wks rfl (by simp) ⟨rfl,rfl,rfl,rfl,rfl,trivial⟩) (by omega) fun i hi=>?_
 simp only [f81l0,finF_e,finF_en,↓gos,gop,qA,qB,qC,qD,qE,qF,qG,qH,qI]
 refine ⟨fun h=>?_,fun h=>?_⟩
 ·have h2:i<l.length:=by omega
  refine optP_at [] (by simpa using h2) ?_
  have htk:=take_getD' h2 []
  have hm:l.getD i []∈l:=by rw [List.getD_eq_getElem?_getD,List.getElem?_eq_getElem h2]; exact List.getElem_mem h2
  generalize l.getD i []=s at *
  simp only [sv,↓gos,gop,qA,qB,qC,qD,qE,qF,qG,qH,qI]
  refine call_ret (small82 s (hw s hm)) rfl rfl ?_
  simp only [↓gos,gop,qA,qB,qC,qD,qE,qF,qG,qH,qI]
  have hti:(l.take i).length=i:=by simp; omega
  refine chk_i (by omega) (chk_i (by omega) (chk_i (by omega) ?_))
  intro v hv
  rw [wrap_i64 (by omega) (by omega)] at hv
  subst hv
  refine rnd_d 2 (i+1) ?_ (Nat.zero_le _) ⟨rfl,rfl,rfl,rfl,rfl,rfl,rfl,rfl,rfl,rfl,trivial⟩ rfl (by omega) (by omega)
  have e:List.take i (List.map sv (List.map lowL (List.take i l)))=List.map sv (List.map lowL (List.take i l)):=List.take_of_length_le (by rw [List.length_map,List.length_map,hti]; exact Nat.le_refl _)
  rw [e,htk]
  simp [sv]
 ·have h2:i=l.length:=by omega
  subst h2
  rw [List.take_length]
  exact end_fc [1] (frz_row rfl (by simp) rfl) rfl ⟨rfl,rfl⟩
theorem name80 (n:List UInt8)(g:Nat):DRet 80 [.agg (col n g)] (.str n):=by
 refine acalls_go c80 (by simp [f80]) ?_
 simp only [f80,col,↓gos,gop,qA,qB,qC,qD,qE,qF,qG,qH,qI]
 exact ends rfl
theorem name80' (n:List UInt8)(f g:Nat):DRet 80 [.agg [.str n,.fn f [],.fn g []]] (.str n):=by
 refine acalls_go c80 (by simp [f80]) ?_
 simp only [f80,↓gos,gop,qA,qB,qC,qD,qE,qF,qG,qH,qI]
 exact ends rfl
theorem names47:DRet 47 [.sl 3 cols,.fn 80 []] (.sl 1 (COLS.map sv)):=by
 refine acalls_goF c47 (by simp [f47]) ?_
 simp only [f47,finF_e,finF_en,cols,col,List.length_cons,List.length_nil,↓gos,gop,qA,qB,qC,qD,qE,qF,qG,qH,qI]
 refine goN_un 11 ?_
 simp only [f47l0,finF_e,finF_en,↓gos,gop,qA,qB,qC,qD,qE,qF,qG,qH,qI,forall_eq,IntKind.wrap,IntKind.bits,IntKind.signed,rA,rB,rC,rD,rE,rF,rG,rH,rI,Int.reduceNeg,reduceIte,reduceCtorEq,ge_iff_le,Nat.reduceEqDiff]
 refine call_ret (name80 NAME 90) rfl rfl ?_
 simp only [finF_e,finF_en,↓gos,gop,qA,qB,qC,qD,qE,qF,qG,qH,qI,forall_eq,IntKind.wrap,IntKind.bits,IntKind.signed,rA,rB,rC,rD,rE,rF,rG,rH,rI,Int.reduceNeg,reduceIte,reduceCtorEq,ge_iff_le,Nat.reduceEqDiff]
 refine un_go ?_
 simp only [f47l0,finF_e,finF_en,↓gos,gop,qA,qB,qC,qD,qE,qF,qG,qH,qI,forall_eq,IntKind.wrap,IntKind.bits,IntKind.signed,rA,rB,rC,rD,rE,rF,rG,rH,rI,Int.reduceNeg,reduceIte,reduceCtorEq,ge_iff_le,Nat.reduceEqDiff]
 refine call_ret (name80 FAMILY 91) rfl rfl ?_
 simp only [finF_e,finF_en,↓gos,gop,qA,qB,qC,qD,qE,qF,qG,qH,qI,forall_eq,IntKind.wrap,IntKind.bits,IntKind.signed,rA,rB,rC,rD,rE,rF,rG,rH,rI,Int.reduceNeg,reduceIte,reduceCtorEq,ge_iff_le,Nat.reduceEqDiff]
 refine un_go ?_
 simp only [f47l0,finF_e,finF_en,↓gos,gop,qA,qB,qC,qD,qE,qF,qG,qH,qI,forall_eq,IntKind.wrap,IntKind.bits,IntKind.signed,rA,rB,rC,rD,rE,rF,rG,rH,rI,Int.reduceNeg,reduceIte,reduceCtorEq,ge_iff_le,Nat.reduceEqDiff]
 refine call_ret (name80 GIVEN 92) rfl rfl ?_
 simp only [finF_e,finF_en,↓gos,gop,qA,qB,qC,qD,qE,qF,qG,qH,qI,forall_eq,IntKind.wrap,IntKind.bits,IntKind.signed,rA,rB,rC,rD,rE,rF,rG,rH,rI,Int.reduceNeg,reduceIte,reduceCtorEq,ge_iff_le,Nat.reduceEqDiff]
 refine un_go ?_
 simp only [f47l0,finF_e,finF_en,↓gos,gop,qA,qB,qC,qD,qE,qF,qG,qH,qI,forall_eq,IntKind.wrap,IntKind.bits,IntKind.signed,rA,rB,rC,rD,rE,rF,rG,rH,rI,Int.reduceNeg,reduceIte,reduceCtorEq,ge_iff_le,Nat.reduceEqDiff]
 refine call_ret (name80 NICK 93) rfl rfl ?_
 simp only [finF_e,finF_en,↓gos,gop,qA,qB,qC,qD,qE,qF,qG,qH,qI,forall_eq,IntKind.wrap,IntKind.bits,IntKind.signed,rA,rB,rC,rD,rE,rF,rG,rH,rI,Int.reduceNeg,reduceIte,reduceCtorEq,ge_iff_le,Nat.reduceEqDiff]
 refine un_go ?_
 simp only [f47l0,finF_e,finF_en,↓gos,gop,qA,qB,qC,qD,qE,qF,qG,qH,qI,forall_eq,IntKind.wrap,IntKind.bits,IntKind.signed,rA,rB,rC,rD,rE,rF,rG,rH,rI,Int.reduceNeg,reduceIte,reduceCtorEq,ge_iff_le,Nat.reduceEqDiff]
 refine call_ret (name80' JID 94 95) rfl rfl ?_
 simp only [finF_e,finF_en,↓gos,gop,qA,qB,qC,qD,qE,qF,qG,qH,qI,forall_eq,IntKind.wrap,IntKind.bits,IntKind.signed,rA,rB,rC,rD,rE,rF,rG,rH,rI,Int.reduceNeg,reduceIte,reduceCtorEq,ge_iff_le,Nat.reduceEqDiff]
 refine un_go ?_
 simp only [f47l0,finF_e,finF_en,↓gos,gop,qA,qB,qC,qD,qE,qF,qG,qH,qI,forall_eq,IntKind.wrap,IntKind.bits,IntKind.signed,rA,rB,rC,rD,rE,rF,rG,rH,rI,Int.reduceNeg,reduceIte,reduceCtorEq,ge_iff_le,Nat.reduceEqDiff]
 refine call_ret (name80 EMAIL 96) rfl rfl ?_
 simp only [finF_e,finF_en,↓gos,gop,qA,qB,qC,qD,qE,qF,qG,qH,qI,forall_eq,IntKind.wrap,IntKind.bits,IntKind.signed,rA,rB,rC,rD,rE,rF,rG,rH,rI,Int.reduceNeg,reduceIte,reduceCtorEq,ge_iff_le,Nat.reduceEqDiff]
 refine un_go ?_
 simp only [f47l0,finF_e,finF_en,↓gos,gop,qA,qB,qC,qD,qE,qF,qG,qH,qI,forall_eq,IntKind.wrap,IntKind.bits,IntKind.signed,rA,rB,rC,rD,rE,rF,rG,rH,rI,Int.reduceNeg,reduceIte,reduceCtorEq,ge_iff_le,Nat.reduceEqDiff]
 refine call_ret (name80 TEL 97) rfl rfl ?_
 simp only [finF_e,finF_en,↓gos,gop,qA,qB,qC,qD,qE,qF,qG,qH,qI,forall_eq,IntKind.wrap,IntKind.bits,IntKind.signed,rA,rB,rC,rD,rE,rF,rG,rH,rI,Int.reduceNeg,reduceIte,reduceCtorEq,ge_iff_le,Nat.reduceEqDiff]
 refine un_go ?_
 simp only [f47l0,finF_e,finF_en,↓gos,gop,qA,qB,qC,qD,qE,qF,qG,qH,qI,forall_eq,IntKind.wrap,IntKind.bits,IntKind.signed,rA,rB,rC,rD,rE,rF,rG,rH,rI,Int.reduceNeg,reduceIte,reduceCtorEq,ge_iff_le,Nat.reduceEqDiff]
 refine call_ret (name80 NOTE 98) rfl rfl ?_
 simp only [finF_e,finF_en,↓gos,gop,qA,qB,qC,qD,qE,qF,qG,qH,qI,forall_eq,IntKind.wrap,IntKind.bits,IntKind.signed,rA,rB,rC,rD,rE,rF,rG,rH,rI,Int.reduceNeg,reduceIte,reduceCtorEq,ge_iff_le,Nat.reduceEqDiff]
 refine un_go ?_
 simp only [f47l0,finF_e,finF_en,↓gos,gop,qA,qB,qC,qD,qE,qF,qG,qH,qI,forall_eq,IntKind.wrap,IntKind.bits,IntKind.signed,rA,rB,rC,rD,rE,rF,rG,rH,rI,Int.reduceNeg,reduceIte,reduceCtorEq,ge_iff_le,Nat.reduceEqDiff]
 refine call_ret (name80 UID 99) rfl rfl ?_
 simp only [finF_e,finF_en,↓gos,gop,qA,qB,qC,qD,qE,qF,qG,qH,qI,forall_eq,IntKind.wrap,IntKind.bits,IntKind.signed,rA,rB,rC,rD,rE,rF,rG,rH,rI,Int.reduceNeg,reduceIte,reduceCtorEq,ge_iff_le,Nat.reduceEqDiff]
 refine un_go ?_
 simp only [f47l0,finF_e,finF_en,↓gos,gop,qA,qB,qC,qD,qE,qF,qG,qH,qI,forall_eq,IntKind.wrap,IntKind.bits,IntKind.signed,rA,rB,rC,rD,rE,rF,rG,rH,rI,Int.reduceNeg,reduceIte,reduceCtorEq,ge_iff_le,Nat.reduceEqDiff]
 refine call_ret (name80' GROUPS 100 101) rfl rfl ?_
 simp only [finF_e,finF_en,↓gos,gop,qA,qB,qC,qD,qE,qF,qG,qH,qI,forall_eq,IntKind.wrap,IntKind.bits,IntKind.signed,rA,rB,rC,rD,rE,rF,rG,rH,rI,Int.reduceNeg,reduceIte,reduceCtorEq,ge_iff_le,Nat.reduceEqDiff]
 refine un_go ?_
 simp only [f47l0,finF_e,finF_en,↓gos,gop,qA,qB,qC,qD,qE,qF,qG,qH,qI,forall_eq,IntKind.wrap,IntKind.bits,IntKind.signed,rA,rB,rC,rD,rE,rF,rG,rH,rI,Int.reduceNeg,reduceIte,reduceCtorEq,ge_iff_le,Nat.reduceEqDiff]
 exact end_fc [1] rfl rfl ⟨rfl,rfl⟩
def headI (l:List (List UInt8))(i:Nat):Bool:=COLS.contains (l.getD i []) && !(l.take i).contains (l.getD i [])
def headR (row:List (List UInt8)):List (List UInt8)×Bool:=if (List.range row.length).all (headI (row.map lowL))=true then (row.map lowL,(row.map lowL).contains NAME) else ([],false)
theorem header41 (row:List (List UInt8))(hl:row.length<1000000000)(hw:∀ s∈row,s.length<100000000):DRet 41 [.sl 1 (row.map sv)] (.tup [.sl 1 ((headR row).1.map sv),.bool (headR row).2]):=by
 refine acalls_goF c41 (by simp [f41]) ?_
 simp only [f41,finF_e,finF_en,↓gos,gop,qA,qB,qC,qD,qE,qF,qG,qH,qI]
 refine call_clo columns48 rfl rfl ?_
 simp only [finF_e,finF_en,↓gos,gop,qA,qB,qC,qD,qE,qF,qG,qH,qI]
 refine call_clo names47 rfl rfl ?_
 simp only [finF_e,finF_en,↓gos,gop,qA,qB,qC,qD,qE,qF,qG,qH,qI]
 refine call_clo (each81 row hl hw) rfl rfl ?_
 unfold headR
 have hlen:(row.map lowL).length=row.length:=by simp
 rw [← hlen]
 rw [← hlen] at hl
 generalize row.map lowL=l at *
 simp only [finF_e,finF_en,↓gos,gop,qA,qB,qC,qD,qE,qF,qG,qH,qI]
 refine goN_lp (γ:=Nat) (fun i=>[(14,.int .i64 i),(13,.int .i64 l.length),(12,.sl 1 (l.map sv)),(5,.sl 1 (l.map sv)),(4,.sl 1 (COLS.map sv))]) (fun _=>[.arr 1 []]) (fun i=>i≤l.length∧(List.range i).all (headI l)=true) (fun i=>l.length - i) 0
  (wks rfl (by simp) ⟨rfl,rfl,rfl,rfl,rfl,trivial⟩) ⟨by omega,by simp⟩ fun i hi=>?_
 obtain ⟨hi,ht⟩:=hi
 simp only [f41l0,finF_e,finF_en,↓gos,gop,qA,qB,qC,qD,qE,qF,qG,qH,qI]
 refine ⟨fun h=>?_,fun h=>?_⟩
 ·have h2:i<l.length:=by omega
  have hr:(List.range (i+1)).all (headI l)=headI l i:=by rw [List.range_succ,List.all_append,ht]; simp
  have bad:headI l i=false→(if (List.range l.length).all (headI l)=true then (l,l.contains NAME) else (([]:List (List UInt8)),false))=([],false):=fun h=>by
   rw [if_neg]; rw [show (List.range l.length).all (headI l)=false by rw [List.all_eq_false]; exact ⟨i,by simpa using h2,by simp [h]⟩]; simp
  rw [show headI l i=(COLS.contains (l.getD i []) && !(l.take i).contains (l.getD i [])) from rfl] at hr bad
  refine optP_at [] (by simpa using h2) ?_
  generalize l.getD i []=s at *
  simp only [sv,finF_e,finF_en,↓gos,gop,qA,qB,qC,qD,qE,qF,qG,qH,qI]
  refine call_ret (contains83 COLS s (by decide)) rfl rfl ?_
  cases hc:COLS.contains s
  ·simp only [finF_e,finF_en,↓gos,gop,qA,qB,qC,qD,qE,qF,qG,qH,qI]
   rw [bad (by rw [hc]; rfl)]
   exact end_fc [1] rfl rfl ⟨rfl,rfl⟩
  ·simp only [finF_e,finF_en,↓gos,gop,qA,qB,qC,qD,qE,qF,qG,qH,qI]
   rw [hc,Bool.true_and] at hr bad
   rw [← List.map_take]
   refine chk_i (by omega) ?_
   refine call_ret (contains83 (l.take i) s (by simp; omega)) rfl rfl ?_
   cases hc2:(l.take i).contains s
   ·rw [hc2] at hr
    simp only [finF_e,finF_en,↓gos,gop,qA,qB,qC,qD,qE,qF,qG,qH,qI]
    intro v hv
    rw [wrap_i64 (by omega) (by omega)] at hv
    subst hv
    exact rnd_s (i+1) rfl (by simp) ⟨rfl,rfl,rfl,rfl,rfl,trivial⟩ ⟨by omega,hr⟩ (by omega)
   ·simp only [finF_e,finF_en,↓gos,gop,qA,qB,qC,qD,qE,qF,qG,qH,qI]
    rw [bad (by rw [hc2]; rfl)]
    exact end_fc [1] rfl rfl ⟨rfl,rfl⟩
 ·have h2:i=l.length:=by omega
  subst h2
  simp only [List.getElem?_cons_zero,COLS,sv,finF_e,finF_en,↓gos,gop,qA,qB,qC,qD,qE,qF,qG,qH,qI]
  refine call_ret (contains83 l NAME hl) rfl rfl ?_
  simp only [finF_e,finF_en,↓gos,gop,qA,qB,qC,qD,qE,qF,qG,qH,qI]
  rw [if_pos ht]
  exact end_fc [] rfl rfl ⟨rfl,rfl⟩
def At (g k:Nat):Prop:=∀ cs:List DV,cs.all DV.closed=true→ACalls ED g [.box cs] [.ptr 0 0] fun h d=>h=[.box cs]∧d=.ptr 0 k
theorem box_end {cs:List DV}{k:Nat}{tl:List AObj}(hcl:cs.all DV.closed=true):finE 1 (fun h d=>h=[AObj.box cs]∧d=DV.ptr 0 k) (some [DV.ptr 0 k]) (.box cs::tl):=
 end_h [0] (by simp) (Nat.le_refl _) id0 (by simp) (by simp [rvd,DV.inL]) (by
  intro l hl
  simp at hl; subst hl
  exact List.all_eq_true.2 fun d hd=>closed_inL (List.all_eq_true.1 hcl d hd)) rfl rfl ⟨by
  simp only [List.map_cons,List.map_nil,List.getD_cons_zero,renO]
  rw [map_same fun d hd=>closed_ren (List.all_eq_true.1 hcl d hd)],by simp [rvd,DV.ren]⟩
theorem at90:At 90 0:=fun cs hcl=>by
 refine acalls_go c90 (by simp [f90]) ?_
 simp only [f90,↓gos,gop,qA,qB,qC,qD,qE,qF,qG,qH,qI]
 exact box_end hcl
theorem at91:At 91 1:=fun cs hcl=>by
 refine acalls_go c91 (by simp [f91]) ?_
 simp only [f91,↓gos,gop,qA,qB,qC,qD,qE,qF,qG,qH,qI]
 exact box_end hcl
theorem at92:At 92 2:=fun cs hcl=>by
 refine acalls_go c92 (by simp [f92]) ?_
 simp only [f92,↓gos,gop,qA,qB,qC,qD,qE,qF,qG,qH,qI]
 exact box_end hcl
theorem at93:At 93 3:=fun cs hcl=>by
 refine acalls_go c93 (by simp [f93]) ?_
 simp only [f93,↓gos,gop,qA,qB,qC,qD,qE,qF,qG,qH,qI]
 exact box_end hcl
theorem at96:At 96 5:=fun cs hcl=>by
 refine acalls_go c96 (by simp [f96]) ?_
 simp only [f96,↓gos,gop,qA,qB,qC,qD,qE,qF,qG,qH,qI]
 exact box_end hcl
theorem at97:At 97 6:=fun cs hcl=>by
 refine acalls_go c97 (by simp [f97]) ?_
 simp only [f97,↓gos,gop,qA,qB,qC,qD,qE,qF,qG,qH,qI]
 exact box_end hcl
theorem at98:At 98 7:=fun cs hcl=>by
 refine acalls_go c98 (by simp [f98]) ?_
 simp only [f98,↓gos,gop,qA,qB,qC,qD,qE,qF,qG,qH,qI]
 exact box_end hcl
theorem at99:At 99 8:=fun cs hcl=>by
 refine acalls_go c99 (by simp [f99]) ?_
 simp only [f99,↓gos,gop,qA,qB,qC,qD,qE,qF,qG,qH,qI]
 exact box_end hcl
theorem text143 {g k:Nat}(hg:At g k)(cs:List DV)(s:List UInt8)(hcl:cs.all DV.closed=true)(hk:k<cs.length) :
  ACalls ED 143 [.box cs] [.ptr 0 0,.str s,.eptr [.fn g []] 0] fun h d=>h=[.box (cs.take k++[.str s]++cs.drop (k+1))]∧d=.int .i64 0:=by
 refine acalls_go c143 (by simp [f143]) ?_
 simp only [f143,↓gos,gop,qA,qB,qC,qD,qE,qF,qG,qH,qI]
 refine call_h (h1:=[.box cs]) [0] [] (by simp) (by simp) rfl (by
  simp only [List.map_cons,List.map_nil,List.getD_cons_zero,lowO]
  rw [map_same fun d hd=>closed_low (List.all_eq_true.1 hcl d hd)]) rfl (by
  simp only [List.all_cons,List.all_nil,Bool.and_true,Bool.and_eq_true]
  refine ⟨rfl,?_⟩
  exact List.all_eq_true.2 fun d hd=>closed_inL (List.all_eq_true.1 hcl d hd)) (hg cs hcl) rfl ?_
 simp only [List.foldl,setAll,renO,DV.ren,upL,map_same fun d hd=>closed_ren (List.all_eq_true.1 hcl d hd),↓gos,gop,qA,qB,qC,qD,qE,qF,qG,qH,qI]
 refine chk_i (by omega) ?_
 refine end_bx ?_ rfl ⟨by simp,rfl⟩
 refine List.all_eq_true.2 fun d hd=>?_
 rcases List.mem_append.1 hd with hd|hd
 ·rcases List.mem_append.1 hd with hd|hd
  ·exact List.all_eq_true.1 hcl d (List.mem_of_mem_take hd)
  ·obtain rfl:d=.str s:=by simpa using hd
   rfl
 ·exact List.all_eq_true.1 hcl d (List.mem_of_mem_drop hd)
theorem ctv_closed (c:CT):(ctv c).all DV.closed=true:=rfl
abbrev Tk (f:Nat)(c:CT)(xs:List DV)(c' : CT)(e:Int):Prop:=ACalls ED f [.box (ctv c)] (.ptr 0 0::xs) fun h d=>h=[.box (ctv c')]∧d=.int .i64 e
theorem put0 (c:CT)(s:List UInt8):Tk 143 c [.str s,.eptr [.fn 90 []] 0] { c with name:=s } 0:=text143 at90 (ctv c) s rfl (by simp [ctv])
theorem put1 (c:CT)(s:List UInt8):Tk 143 c [.str s,.eptr [.fn 91 []] 0] { c with family:=s } 0:=text143 at91 (ctv c) s rfl (by simp [ctv])
theorem put2 (c:CT)(s:List UInt8):Tk 143 c [.str s,.eptr [.fn 92 []] 0] { c with given:=s } 0:=text143 at92 (ctv c) s rfl (by simp [ctv])
theorem put3 (c:CT)(s:List UInt8):Tk 143 c [.str s,.eptr [.fn 93 []] 0] { c with nick:=s } 0:=text143 at93 (ctv c) s rfl (by simp [ctv])
theorem put5 (c:CT)(s:List UInt8):Tk 143 c [.str s,.eptr [.fn 96 []] 0] { c with email:=s } 0:=text143 at96 (ctv c) s rfl (by simp [ctv])
theorem put6 (c:CT)(s:List UInt8):Tk 143 c [.str s,.eptr [.fn 97 []] 0] { c with tel:=s } 0:=text143 at97 (ctv c) s rfl (by simp [ctv])
theorem put7 (c:CT)(s:List UInt8):Tk 143 c [.str s,.eptr [.fn 98 []] 0] { c with note:=s } 0:=text143 at98 (ctv c) s rfl (by simp [ctv])
theorem put8 (c:CT)(s:List UInt8):Tk 143 c [.str s,.eptr [.fn 99 []] 0] { c with uid:=s } 0:=text143 at99 (ctv c) s rfl (by simp [ctv])
def jidP (c:CT)(s:List UInt8):CT×Int:=if s=[] then (c,0) else ({ c with jid:=(bareR s).1 },(bareR s).2)
theorem put4 (c:CT)(s:List UInt8)(hs:s.length<100000000):Tk 94 c [.str s] (jidP c s).1 (jidP c s).2:=by
 refine acalls_go c94 (by simp [f94]) ?_
 simp only [f94,↓gos,gop,qA,qB,qC,qD,qE,qF,qG,qH,qI]
 unfold jidP
 refine ⟨fun h=>?_,fun h=>?_⟩
 ·rw [if_pos h]
  exact end_bx rfl rfl ⟨rfl,rfl⟩
 ·rw [if_neg h]
  refine call_ret (bare_c s hs) rfl rfl ?_
  simp only [ctv,↓gos,gop,qA,qB,qC,qD,qE,qF,qG,qH,qI]
  exact end_bx rfl rfl ⟨rfl,rfl⟩
def plains:List (List UInt8)→Option (List (List UInt8))
 | []=>some []
 | x::l=>(plainF x).bind fun y=>(plains l).map (y :: ·)
theorem plains_snoc (x:List UInt8):∀ l:List (List UInt8),plains (l++[x])=(plains l).bind fun a=>(plainF x).map (a++[·])
 | []=>by simp only [List.nil_append,plains]; cases plainF x <;> rfl
 | z::l=>by
  simp only [List.cons_append,plains,plains_snoc x l]
  cases plainF z with
  | none=>rfl
  | some y=>
   cases plains l with
   | none=>rfl
   | some a=>cases plainF x <;> rfl
theorem plains_none {x:List UInt8}(hx:plainF x=none):∀ (a b:List (List UInt8)),plains (a++x::b)=none
 | [],b=>by simp [plains,hx]
 | z::a,b=>by
  simp only [List.cons_append,plains,plains_none hx a b]
  cases plainF z <;> rfl
def groupsP (c:CT)(s:List UInt8):CT×Int:=match plains (splitF 59 false [] s) with
 | none=>(c,18)
 | some l=>({ c with groups:=groupsR l },0)
theorem splitF_ne (sep:UInt8):∀ (s:List UInt8)(e:Bool)(cur:List UInt8),splitF sep e cur s≠[]
 | [],e,cur=>by simp [splitF]
 | x::s,e,cur=>by
  unfold splitF
  split
  ·simp
  ·exact splitF_ne sep s _ _
theorem splitF_mem (sep:UInt8):∀ (s:List UInt8)(e:Bool)(cur:List UInt8),∀ x∈splitF sep e cur s,x.length≤cur.length+s.length
 | [],e,cur,x,hx=>by simp [splitF] at hx; subst hx; simp
 | y::s,e,cur,x,hx=>by
  unfold splitF at hx
  split at hx
  ·rcases List.mem_cons.1 hx with rfl|hx
   ·simp
   ·have:=splitF_mem sep s _ _ x hx
    simp at this; simp; omega
  ·have:=splitF_mem sep s _ _ x hx
   simp at this; simp; omega
theorem put9 (c:CT)(s:List UInt8)(hs:s.length<100000000)(h20:(splitF 59 false [] s).length<20):Tk 100 c [.str s] (groupsP c s).1 (groupsP c s).2:=by
 have hne:=splitF_ne 59 s false []
 have hmem:=splitF_mem 59 s false []
 refine acalls_go c100 (by simp [f100]) ?_
 simp only [f100,↓gos,gop,qA,qB,qC,qD,qE,qF,qG,qH,qI]
 refine call_new (split26 s 59 hs) (by simp [DV.closed]) ?_
 unfold groupsP
 generalize splitF 59 false [] s=l at *
 simp only [DV.ren,renO,↓gos,gop,qA,qB,qC,qD,qE,qF,qG,qH,qI]
 refine goN_lp (γ:=Nat×List (List UInt8)) (fun g=>[(13,.int .i64 g.1),(12,.int .i64 l.length),(11,.osl 1 2 0 l.length none),(5,.osl 1 1 0 g.2.length none),(0,.ptr 0 0)]) (fun g=>[.box (ctv c),.arr 1 (g.2.map st1),.arr 1 (l.map st1)])
  (fun g=>g.1≤l.length∧plains (l.take g.1)=some g.2∧g.2.length=g.1) (fun g=>l.length - g.1) (0,[])
  (wks rfl (by simp) ⟨rfl,rfl,rfl,rfl,rfl,trivial⟩) ⟨by omega,by simp [plains],rfl⟩ fun g hg=>?_
 obtain ⟨i,acc⟩:=g
 obtain ⟨hi,hp,ha⟩:=hg
 simp only at hi hp ha
 simp only [f100l0,↓gos,gop,qA,qB,qC,qD,qE,qF,qG,qH,qI]
 refine ⟨fun h=>?_,fun h=>?_⟩
 ·have h2:i<l.length:=by omega
  refine chk_i (by omega) (optP_at [] h2 ?_)
  have htk:=take_getDq h2 []
  have hm:l.getD i []∈l:=by rw [List.getD_eq_getElem?_getD,List.getElem?_eq_getElem h2]; exact List.getElem_mem h2
  have hdr:l=l.take i++l.getD i []::l.drop (i+1):=by
   rw [List.getD_eq_getElem?_getD,List.getElem?_eq_getElem h2]; simp
  generalize l.getD i []=x at *
  have hx:=hmem x hm
  simp only [List.length_nil] at hx
  simp only [st1,↓gos,gop,qA,qB,qC,qD,qE,qF,qG,qH,qI]
  refine call_ret (plain16 x (by omega)) rfl rfl ?_
  cases hpx:plainF x with
  | none=>
   have hn:plains l=none:=by rw [hdr]; exact plains_none hpx _ _
   simp only [hn,Option.isSome_none,Bool.false_eq_true,reduceIte,↓gos,gop,qA,qB,qC,qD,qE,qF,qG,qH,qI]
   exact ⟨fun _=>end_bx rfl rfl ⟨rfl,rfl⟩,fun q=>absurd q (by decide)⟩
  | some y=>
   have w1:IntKind.i64.wrap ((i:Int)+1)=((i+1:Nat):Int):=by rw [wrap_i64 (by omega) (by omega)]; rfl
   simp only [Option.isSome_some,Option.getD_some,reduceIte,w1,forall_eq,↓gos,gop,qA,qB,qC,qD,qE,qF,qG,qH,qI]
   refine chk_i (by omega) (chk_i (by omega) ?_)
   refine rnd_d 3 (i+1,acc++[y]) ?_ (by simp) ⟨rfl,rfl,rfl,rfl,rfl,rfl,by simp; rfl,rfl,rfl,rfl,trivial⟩ rfl ⟨by simp only; omega,by rw [htk,plains_snoc,hp,hpx]; rfl,by simp [ha]⟩ (by simp only; omega)
   simp only [List.map_append]
   rfl
 ·have h2:i=l.length:=by omega
  subst h2
  rw [List.take_length] at hp
  refine call_frz [1] rfl ?_
  simp only [hp,↓gos,gop,qA,qB,qC,qD,qE,qF,qG,qH,qI]
  refine call_clo (groups147 acc (by omega) (by intro e; subst e; exact hne (List.eq_nil_of_length_eq_zero ha.symm))) rfl rfl ?_
  simp only [ctv,↓gos,gop,qA,qB,qC,qD,qE,qF,qG,qH,qI]
  exact end_bx rfl rfl ⟨rfl,rfl⟩
end Go.Proofs.Ut
