/- play.Contact. -/
import Derived.Test.YtgamnnfndidclaaGreatDoorBYY6
import Derived.Test.YtgamnnfndidclaaGreatDoorBYX2
import Derived.Test.YtgamnnfndidclaaGreatDoorBYOnce2
import Derived.Test.YtgamnnfndidclaaGreatDoorBLawJid
import Derived.Carry
import Derived.Test.YtgamnnfndidclaaGreatDoorBYFoUtF
import Derived.Test.YtgamnnfndidclaaGreatDoorRows
import Derived.Lib.LaidIn
import Derived.Lib.LaidTab
import Derived.Lib.LaidU8T
import Derived.PinnedBridge
import Derived.ProofKit
import Derived.LaidMore
import Derived.Lay
import Derived.Stop.Joined
import Derived.Handed
import Derived.Shelf.Vars
open Nat renaming reduceBEq → qA,reduceAdd → qB,reduceSub → qC,reduceLeDiff → qD,reduceMul → qE
open Int renaming reduceLE → qF,reduceLT → qG,reduceNe → qH,reduceToNat → qI
set_option linter.all false
namespace Go.Proofs.Ut
open Go.Ai
set_option maxRecDepth 100000
theorem fE (k:Nat)(hk:k<1000000000):DRet 103 [.int .i64 k,.int .i64 5] (.int .i64 ((k % 5:Nat):Int)):=by
 refine acalls_goF c103 (by simp [f103]) ?_
 have w1:IntKind.u64.wrap (k:Int)=k:=wrap_u64 (by omega) (by omega)
 have w2:IntKind.u64.wrap 5=5:=by decide
 have w3:(k:Int).tmod 5=((k % 5:Nat):Int):=rfl
 have w4:IntKind.i64.wrap ((k % 5:Nat):Int)=((k % 5:Nat):Int):=wrap_i64 (by omega) (by omega)
 simp only [f103,w1,w2,w3,w4,forall_eq,finF_e,finF_en,↓gos,gop,qA,qB,qC,qD,qE,qF,qG,qH,qI]
 exact end_fc [] rfl rfl ⟨rfl,rfl⟩
theorem eW (s:List UInt8)(k:Nat)(hs:s.length<100000000)(hk:k<1000000000):DRet 54 [.str s,.int .i64 k] (.str (bG s k)):=by
 have hb:=rbare102 s hs
 unfold bG
 refine acalls_goF c54 (by simp [f54]) ?_
 simp only [f54,finF_e,finF_en,↓gos,gop,qA,qB,qC,qD,qE,qF,qG,qH,qI]
 refine call_clo hb rfl rfl ?_
 generalize bareR s=x at *
 obtain ⟨t,e⟩:=x
 simp only [finF_e,finF_en,↓gos,gop,qA,qB,qC,qD,qE,qF,qG,qH,qI]
 refine ⟨fun h=>?_,fun h=>?_⟩
 ·rw [if_pos h]
  exact end_fc [] rfl rfl ⟨rfl,rfl⟩
 ·rw [if_neg (by simpa using h)]
  refine call_ret (fE k hk) rfl rfl ?_
  have h5:k % 5<5:=Nat.mod_lt _ (by decide)
  generalize k % 5=m at *
  simp only [finF_e,finF_en,↓gos,gop,qA,qB,qC,qD,qE,qF,qG,qH,qI]
  refine chk_i (by omega) ?_
  obtain rfl|rfl|rfl|rfl|rfl:m=0∨m=1∨m=2∨m=3∨m=4:=by omega
  all_goals
   refine optP_in _ rfl ?_
   simp only [finF_e,finF_en,↓gos,gop,qA,qB,qC,qD,qE,qF,qG,qH,qI]
   exact end_fc [] rfl rfl ⟨rfl,rfl⟩
def gP (c:CT)(i:Nat):List (List UInt8):=(c.groups.take i).map fun s=>aA s 30
theorem eS (c:CT){i:Nat}(h:i<c.groups.length):gP c (i+1)=gP c i++[aA (c.groups.getD i []) 30]:=by
 unfold gP
 rw [takeC h [],List.map_append]; rfl
theorem bX (c:CT)(hs:smS c)(nm jv:List UInt8)(hn:nm=(aB c).name)(hj:jv=(aB c).jid)(L:List (Nat×DV))(h5:slots L 5=.int .i64 0)(h4:slots L 4=.osl 1 9 0 0 none)(h3:slots L 3=.ptr 6 0)(h2:slots L 2=.ptr 3 0)(h1:slots L 1=.ptr 0 0) :
    goN ED 0 (finF 0 [RV.cell 2 (some 11)] fun h d=>h=[]∧d=.agg (ctv (aB c)))
      [Fr.block 0,Fr.seq ((ACode.region false [⟨some 65,.mov (.t 4),none⟩,⟨some 66,.call true 30 [.t 65],none⟩,⟨some 67,.faddr 9 (.t 3),none⟩,⟨none,.store true 1 (.t 67) (.t 66),none⟩]).seq ((ACode.region false [⟨some 68,.load (some 11) (.t 3),none⟩,⟨none,.store true 11 (.t 2) (.t 68),none⟩]).seq .ret))]
      f24l0.loop L
      [.box (ctv c),.arr 1 [],.arr 4 [],.box [.str [],.str [],.str [],.str [],.str [],.str [],.str [],.str [],.str [],.osl 1 1 0 0 none,.osl 4 2 0 0 none],.arr 1 [],.arr 4 [],
        .box [.str nm,.str (aA c.family 50),.str (aA c.given 50),.str (aA c.nick 50),.str jv,.str (aA c.email 50),.str (aA c.tel 50),.str (aA c.note 200),.str (aA c.uid 50),.osl 1 7 0 0 none,.osl 4 8 0 0 none],.arr 1 [],.arr 4 [],.arr 1 []]:=by
  have ht:=hs.t
  have hg:=aN c.groups
  refine goN_lp (γ:=Nat) (fun i=>[(5,.int .i64 i),(4,.osl 1 9 0 i none),(3,.ptr 6 0),(2,.ptr 3 0),(1,.ptr 0 0)])
    (fun i=>[.box (ctv c),.arr 1 [],.arr 4 [],.box [.str [],.str [],.str [],.str [],.str [],.str [],.str [],.str [],.str [],.osl 1 1 0 0 none,.osl 4 2 0 0 none],.arr 1 [],.arr 4 [],
        .box [.str nm,.str (aA c.family 50),.str (aA c.given 50),.str (aA c.nick 50),.str jv,.str (aA c.email 50),.str (aA c.tel 50),.str (aA c.note 200),.str (aA c.uid 50),.osl 1 7 0 0 none,.osl 4 8 0 0 none],.arr 1 [],.arr 4 [],.arr 1 ((gP c i).map sv)])
    (fun i=>i≤c.groups.length∧i≤4) (fun i=>4 - i) 0
    (wks rfl (by simp) ⟨h5,h4,h3,h2,h1,trivial⟩) ⟨by omega,by omega⟩ fun i ⟨hi,hi4⟩=>?_
  have hone:IntKind.i64.wrap ((i:Int)+1)=((i+1:Nat):Int):=by rw [wrap_i64 (by omega) (by omega)]; rfl
  have hgl:(gP c i).length=i:=by unfold gP; simp; omega
  simp only [f24l0,ctv,hone,forall_eq,finF_e,finF_en,↓gos,gop,qA,qB,qC,qD,qE,qF,qG,qH,qI]
  refine ⟨fun q1=>⟨fun q2=>?_,fun q2=>?_⟩,fun q1=>?_⟩
  · have hlt:i<c.groups.length:=by omega
    have hli:c.groups[i]?=some (c.groups.getD i []):=by rw [List.getD_eq_getElem?_getD,List.getElem?_eq_getElem hlt]; rfl
    have hm:c.groups.getD i []∈c.groups:=by rw [List.getD_eq_getElem?_getD,List.getElem?_eq_getElem hlt]; exact List.getElem_mem hlt
    have hml:=cO hm
    have hnx:=eS c hlt
    have n4:=bV (c.groups.getD i []) 30 (by omega) (by omega)
    generalize c.groups.getD i []=s at *
    simp only [hli,sv,finF_e,finF_en,↓gos,gop,qA,qB,qC,qD,qE,qF,qG,qH,qI]
    refine call_ret n4 rfl rfl ?_
    simp only [hone,forall_eq,finF_e,finF_en,↓gos,gop,qA,qB,qC,qD,qE,qF,qG,qH,qI]
    have htk:List.take i (List.map sv (gP c i))=List.map sv (gP c i):=List.take_of_length_le (by simp [hgl])
    refine chk_i (by omega) (chk_i (by omega) (chk_i (by omega) ?_))
    refine rnd_d 10 (i+1) ?_ (by simp) ⟨rfl,rfl,rfl,rfl,rfl,rfl,rfl,rfl,rfl,rfl,trivial⟩ rfl ⟨by omega,by omega⟩ (by omega)
    rw [hnx,htk,List.map_append]; rfl
  · have e:gP c i=(c.groups.take 4).map fun s=>aA s 30:=by unfold gP; rw [show i=4 by omega]
    have h30:=bR (gP c i) (by omega)
    have hgr:groupsF (gP c i)=(aB c).groups:=by rw [e]; rfl
    have e1:decide (i≤(gP c i).length)=true:=decide_eq_true (by omega)
    have htk:List.take i (List.map sv (gP c i))=List.map sv (gP c i):=List.take_of_length_le (by simp [hgl])
    rw [hgr] at h30
    refine call_frz [9] rfl ?_
    simp only [e1,htk,sel_true,finF_e,finF_en,↓gos,gop,qA,qB,qC,qD,qE,qF,qG,qH,qI]
    refine call_clo h30 rfl rfl ?_
    simp only [finF_e,finF_en,↓gos,gop,qA,qB,qC,qD,qE,qF,qG,qH,qI]
    refine end_fc [8] ?_ rfl ⟨rfl,rfl⟩
    subst hn hj
    rfl
  · have e:gP c i=(c.groups.take 4).map fun s=>aA s 30:=by
      unfold gP
      rw [List.take_of_length_le (by omega),List.take_of_length_le (by omega)]
    have h30:=bR (gP c i) (by omega)
    have hgr:groupsF (gP c i)=(aB c).groups:=by rw [e]; rfl
    have e1:decide (i≤(gP c i).length)=true:=decide_eq_true (by omega)
    have htk:List.take i (List.map sv (gP c i))=List.map sv (gP c i):=List.take_of_length_le (by simp [hgl])
    rw [hgr] at h30
    refine call_frz [9] rfl ?_
    simp only [e1,htk,sel_true,finF_e,finF_en,↓gos,gop,qA,qB,qC,qD,qE,qF,qG,qH,qI]
    refine call_clo h30 rfl rfl ?_
    simp only [finF_e,finF_en,↓gos,gop,qA,qB,qC,qD,qE,qF,qG,qH,qI]
    refine end_fc [8] ?_ rfl ⟨rfl,rfl⟩
    subst hn hj
    rfl
theorem dF (c:CT)(hs:smS c):DRet 24 [.agg (ctv c)] (.agg (ctv (aB c))):=by
  have ht:=hs.t
  have hg:=aN c.groups
  refine acalls_goF c24 (by simp [f24]) ?_
  simp only [f24,ctv,finF_e,finF_en,↓gos,gop,qA,qB,qC,qD,qE,qF,qG,qH,qI]
  have n1:=bV c.name 100 (by omega) (by omega)
  have n2:=fun s (h:s.length<100000000000)=>bV s 50 h (by omega)
  have n3:=bV c.note 200 (by omega) (by omega)
  refine goN_two [(3,.ptr 6 0),(2,.ptr 3 0),(1,.ptr 0 0)]
    [.box (ctv c),.arr 1 [],.arr 4 [],.box [.str [],.str [],.str [],.str [],.str [],.str [],.str [],.str [],.str [],.osl 1 1 0 0 none,.osl 4 2 0 0 none],.arr 1 [],.arr 4 [],
      .box [.str (aA c.name 100),.str (aA c.family 50),.str (aA c.given 50),.str (aA c.nick 50),.str [],.str (aA c.email 50),.str (aA c.tel 50),.str (aA c.note 200),.str (aA c.uid 50),.osl 1 7 0 0 none,.osl 4 8 0 0 none],.arr 1 [],.arr 4 []] ?_ (fun hk=>?_) (fun hk=>?_)
  · simp only [ctv,finF_e,finF_en,↓gos,gop,qA,qB,qC,qD,qE,qF,qG,qH,qI]
    refine ⟨fun h1=>⟨fun h2=>?_,fun h2=>?_⟩,fun h1=>⟨fun h2=>?_,fun h2=>?_⟩⟩
    · refine call_ret (eW c.jid c.jid.length (by omega) (by omega)) rfl rfl ?_
      simp only [finF_e,finF_en,↓gos,gop,qA,qB,qC,qD,qE,qF,qG,qH,qI]
      exact bX c hs _ _ (if_pos h1).symm (if_neg h2).symm _ rfl rfl rfl rfl rfl
    · exact bX c hs _ _ (if_pos h1).symm (if_pos h2).symm _ rfl rfl rfl rfl rfl
    · refine call_ret (eW c.jid c.jid.length (by omega) (by omega)) rfl rfl ?_
      simp only [finF_e,finF_en,↓gos,gop,qA,qB,qC,qD,qE,qF,qG,qH,qI]
      exact bX c hs _ _ (if_neg h1).symm (if_neg h2).symm _ rfl rfl rfl rfl rfl
    · exact bX c hs _ _ (if_neg h1).symm (if_pos h2).symm _ rfl rfl rfl rfl rfl
  · rw [goN_wk]
    simp only [finF_e,finF_en,↓gos,gop,qA,qB,qC,qD,qE,qF,qG,qH,qI]
    repeat (first | refine call_ret n1 rfl rfl ?_ | refine call_ret n3 rfl rfl ?_ | refine call_ret (n2 _ (by omega)) rfl rfl ?_
                  | simp only [finF_e,finF_en,↓gos,gop,qA,qB,qC,qD,qE,qF,qG,qH,qI])
    refine goK_wkf ?_ hk
    exact wks rfl (by simp) ⟨rfl,rfl,rfl,trivial⟩
  · repeat' refine goN_both ?_ ?_
    all_goals
      rw [goN_wk]
      simp only [finF_e,finF_en,↓gos,gop,qA,qB,qC,qD,qE,qF,qG,qH,qI]
      repeat (first | refine call_ret n1 rfl rfl ?_ | refine call_ret n3 rfl rfl ?_ | refine call_ret (n2 _ (by omega)) rfl rfl ?_
                    | simp only [finF_e,finF_en,↓gos,gop,qA,qB,qC,qD,qE,qF,qG,qH,qI])
      refine goK_wkf ?_ hk
      exact wks rfl (by simp) ⟨rfl,rfl,rfl,trivial⟩
theorem cA:COLS.length=10:=rfl
theorem dY:DRet 47 [.sl 3 cols,.fn 49 []] (.sl 1 (COLS.map sv)):=by
 refine acalls_goF c47 (by simp [f47]) ?_
 simp only [f47,finF_e,finF_en,↓gos,gop,qA,qB,qC,qD,qE,qF,qG,qH,qI]
 refine goN_lp (γ:=Nat) (fun i=>[(10,.int .i64 i),(9,.int .i64 10),(8,.sl 3 cols),(1,.fn 49 []),(5,.osl 1 1 0 i none)]) (fun i=>[.arr 1 [],.arr 1 ((COLS.take i).map sv)]) (fun i=>i≤10) (fun i=>10 - i) 0
  (wks rfl (by simp) ⟨rfl,rfl,rfl,rfl,rfl,trivial⟩) (by omega) fun i hi=>?_
 simp only [f47l0,finF_e,finF_en,↓gos,gop,qA,qB,qC,qD,qE,qF,qG,qH,qI]
 refine ⟨fun h=>?_,fun h=>?_⟩
 ·have h2:i<10:=by omega
  have h1:=tc_closed i h2
  refine optP_in (colv i) (cols_at i h2) ?_
  simp only [colv,finF_e,finF_en,↓gos,gop,qA,qB,qC,qD,qE,qF,qG,qH,qI]
  refine call_clo (eY (COLS.getD i []) (tf i) (uf i) (tc i) (tc i) h1 h1) (by
   rw [List.all_cons,show (DV.agg [.str (COLS.getD i []),.fn (tf i) (tc i),.fn (uf i) (tc i)]).closed=true from aP i h2]; rfl) rfl ?_
  simp only [finF_e,finF_en,↓gos,gop,qA,qB,qC,qD,qE,qF,qG,qH,qI]
  have e:List.take i (List.map sv (List.take i COLS))=List.map sv (List.take i COLS):=List.take_of_length_le (by simp [cA]; omega)
  refine chk_i (by simp [cA]; omega) (chk_i (by omega) (chk_i (by omega) ?_))
  intro v hv
  rw [wrap_i64 (by omega) (by omega)] at hv
  have e3:v=((i+1:Nat):Int):=by rw [hv]; rfl
  subst e3
  refine rnd_d 2 (i+1) ?_ (by simp) ⟨rfl,rfl,rfl,rfl,rfl,rfl,rfl,rfl,rfl,rfl,trivial⟩ rfl (by omega) (by omega)
  rw [take_getD' (show i<COLS.length from h2) [],e]
  simp [sv]
 ·have h2:i=10:=by omega
  subst h2
  exact end_fc [1] (D:=.sl 1 (COLS.map sv)) rfl rfl ⟨rfl,rfl⟩
def bD (l:List CT):List (List (List UInt8))×Int:=if l.length≤60 then (if l.any aZ=true then ([],12) else (COLS::l.map aC,0)) else ([],12)
theorem eQ (l:List CT)(hl:l.length<1000000000)(hw:∀ c∈l,okTell c) :
  DRet 19 [.sl 11 (l.map ctv)] (.tup [.sl 1 ((bD l).1.map rwv),.int .i64 (bD l).2]):=by
 refine acalls_goF c19 (by simp [f19]) ?_
 simp only [f19,List.length_map,finF_e,finF_en,↓gos,gop,qA,qB,qC,qD,qE,qF,qG,qH,qI]
 unfold bD
 refine ⟨fun h=>?_,fun h=>?_⟩
 ·rw [if_neg (by omega)]
  exact end_fc [1] rfl rfl ⟨rfl,rfl⟩
 ·rw [if_pos (by omega)]
  refine call_clo (cJ l hl fun c hc=>(hw c hc).s) rfl rfl ?_
  cases l.any aZ
  ·simp only [Bool.false_eq_true,reduceIte,finF_e,finF_en,↓gos,gop,qA,qB,qC,qD,qE,qF,qG,qH,qI]
   refine call_clo columns48 rfl rfl ?_
   simp only [finF_e,finF_en,↓gos,gop,qA,qB,qC,qD,qE,qF,qG,qH,qI]
   refine call_clo dY rfl rfl ?_
   simp only [finF_e,finF_en,↓gos,gop,qA,qB,qC,qD,qE,qF,qG,qH,qI]
   refine goN_lp (γ:=Nat) (fun i=>[(21,.int .i64 i),(20,.int .i64 l.length),(19,.sl 11 (l.map ctv)),(5,.osl 1 1 0 (i+1) none)]) (fun i=>[.arr 1 [],.arr 1 ((COLS::(l.take i).map aC).map rwv)]) (fun i=>i≤l.length) (fun i=>l.length - i) 0
    (wks rfl (by simp) ⟨rfl,rfl,rfl,rfl,trivial⟩) (by omega) fun i hi=>?_
   simp only [f19l0,finF_e,finF_en,↓gos,gop,qA,qB,qC,qD,qE,qF,qG,qH,qI]
   refine ⟨fun h5=>?_,fun h5=>?_⟩
   ·have h2:i<l.length:=by omega
    have hm:l[i]∈l:=List.getElem_mem h2
    have htk:l.take (i+1)=l.take i++[l[i]]:=by rw [List.take_add_one,List.getElem?_eq_getElem h2]; rfl
    refine optP_in l[i] (by simp [h2]) ?_
    generalize l[i]=c at *
    have e:List.take 11 (ctv c)=ctv c:=rfl
    have hcl:=ctv_closed c
    simp only [e,finF_e,finF_en,↓gos,gop,qA,qB,qC,qD,qE,qF,qG,qH,qI]
    refine chk_i (Nat.le_refl 11) (chk_i rfl (chk_i rfl ?_))
    simp only [bC,finF_e,finF_en,↓gos,gop,qA,qB,qC,qD,qE,qF,qG,qH,qI]
    refine call_clo columns48 rfl rfl ?_
    simp only [finF_e,finF_en,↓gos,gop,qA,qB,qC,qD,qE,qF,qG,qH,qI]
    refine call_h (h1:=[.box (ctv c)]) (ds1:=[.sl 3 cols,.fn 50 [.ptr 0 0]]) [4] [] (by simp) (by simp) rfl (by
     simp only [List.map_cons,List.map_nil,List.getD_cons_zero,List.getD_cons_succ,lowO]
     rw [map_same fun d hd=>closed_low (List.all_eq_true.1 hcl d hd)]) rfl (by
     simp only [List.all_cons,List.all_nil,Bool.and_true,Bool.and_eq_true]
     refine ⟨⟨rfl,rfl⟩,?_⟩
     exact List.all_eq_true.2 fun d hd=>closed_inL (List.all_eq_true.1 hcl d hd)) (fC c (hw c hm)) rfl ?_
    simp only [List.foldl,setAll,renO,DV.ren,upL,map_same fun d hd=>closed_ren (List.all_eq_true.1 hcl d hd),finF_e,finF_en,↓gos,gop,qA,qB,qC,qD,qE,qF,qG,qH,qI]
    have hti:(l.take i).length=i:=by simp; omega
    refine chk_i (by omega) (chk_i (by omega) (chk_i (by omega) ?_))
    intro v hv
    rw [wrap_i64 (by omega) (by omega)] at hv
    have e3:v=((i+1:Nat):Int):=by rw [hv]; rfl
    subst e3
    refine rnd_d 2 (i+1) ?_ (by simp) ⟨rfl,rfl,rfl,rfl,rfl,rfl,rfl,rfl,trivial⟩ rfl (by omega) (by omega)
    have e:List.take i (List.map rwv (List.map aC (List.take i l)))=List.map rwv (List.map aC (List.take i l)):=List.take_of_length_le (by simp; omega)
    rw [htk,e]
    simp only [List.map_append,List.map_cons,List.map_nil]
    rfl
   ·have h2:i=l.length:=by omega
    subst h2
    rw [List.take_length]
    refine end_fc [1] (D:=.tup [.sl 1 (rwv COLS::List.map rwv (List.map aC l)),.int .i64 0]) ?_ rfl ⟨rfl,rfl⟩
    have e:frzD [1] [.arr 1 [],.arr 1 (rwv COLS::List.map rwv (List.map aC l))] (.osl 1 1 0 (l.length+1) none)=.sl 1 (rwv COLS::List.map rwv (List.map aC l)):=
     frz_row (F:=[1]) (sz:=1) (i:=1) (n:=l.length+1) (c:=none) rfl (by simp) rfl
    show DV.tup [frzD _ _ _,_]=_
    rw [e]; rfl
  ·simp only [reduceIte,finF_e,finF_en,↓gos,gop,qA,qB,qC,qD,qE,qF,qG,qH,qI]
   exact end_fc [1] rfl rfl ⟨rfl,rfl⟩
theorem aY:∀ (l:List (List UInt8))(cur:List UInt8),splitF 59 false cur (tails 59 (l.map valF))=cur::l.map valF
 | [],cur=>rfl
 | x::l,cur=>by
  have e:tails 59 ((x::l).map valF)=59::(valF x++tails 59 (l.map valF)):=rfl
  rw [e,splitF,if_pos (by simp),show escN false 59=false from rfl,aT 59 (.inr rfl),aY l]
  rfl
theorem bL (x:List UInt8)(l:List (List UInt8)):splitF 59 false [] (joinF 59 ((x::l).map valF))=(x::l).map valF:=by
 have e:joinF 59 ((x::l).map valF)=valF x++tails 59 (l.map valF):=rfl
 rw [e,aT 59 (.inr rfl),aY]
 rfl
theorem aX:∀ l:List (List UInt8),(∀ s∈l,bJ s=s)→plains (l.map valF)=some l
 | [],_=>rfl
 | x::l,h=>by
  simp only [List.map_cons,plains,bO,aX l fun s hs=>h s (by simp [hs]),h x (by simp)]
  rfl
structure wrC (c:CT):Prop where
 right:rightC c=true
 ok:okS c
 other:c.other=[]
 jid:c.jid=[]∨bareR c.jid=(c.jid,0)
 gl:c.groups.length≤4
 st:St2 Op.bytesLess c.groups
 g:∀ s∈c.groups,s≠[]∧s.length≤120∧bJ s=s
theorem cG {l:List (List UInt8)}(h:St2 Op.bytesLess l)(hn:∀ s∈l,s≠[]):groupsR l=l:=
 st_ext bl_tot (groups_st l) h fun x=>by
  rw [groups_mem]
  exact ⟨fun q=>q.1,fun q=>⟨q,hn x q⟩⟩
theorem cC (c d:CT)(h:wrC c):groupsP d (joinF 59 (c.groups.map valF))=({ d with groups:=c.groups },0):=by
 have hs:=cG h.st fun s hs=>(h.g s hs).1
 have hp:=aX c.groups fun s hs=>(h.g s hs).2.2
 unfold groupsP
 generalize c.groups=l at *
 cases l with
 | nil=>
  have e:plains (splitF 59 false [] (joinF 59 (([]:List (List UInt8)).map valF)))=some [[]]:=rfl
  have e2:groupsR [[]]=[]:=by decide +kernel
  rw [e]
  simp only [e2]
 | cons x l=>
  rw [bL,hp]
  simp only [hs]
theorem dP:∀ k:Fin 10,COLS.contains (COLS.getD k.val [])=true∧COLS.idxOf (COLS.getD k.val [])=k.val:=by decide +kernel
theorem bN (c:CT){k:Nat}(hk:k<10):(aC c).getD k []=aQ c k:=by
 unfold aC
 rw [List.getD_eq_getElem?_getD,List.getElem?_map,List.getElem?_range hk]; rfl
theorem aE (c:CT){k:Nat}(hk:k<10)(h:(oneF COLS (aC c) k).2=0):oneF COLS (aC c) (k+1)=putC k (oneF COLS (aC c) k).1 (aQ c k):=by
 have hi:=dP ⟨k,hk⟩
 simp only at hi
 rw [oneF,if_pos h,if_pos hi.1,hi.2,bN c hk]
theorem bS (c:CT)(h:wrC c):oneF COLS (aC c) 10=(c,0):=by
 have h0:oneF COLS (aC c) 0=(C0,0):=rfl
 have h1:oneF COLS (aC c) 1=({ C0 with name:=c.name },0):=by rw [aE c (by omega) (by rw [h0]),h0]; rfl
 have h2:oneF COLS (aC c) 2=({ C0 with name:=c.name,family:=c.family },0):=by rw [aE c (by omega) (by rw [h1]),h1]; rfl
 have h3:oneF COLS (aC c) 3=({ C0 with name:=c.name,family:=c.family,given:=c.given },0):=by rw [aE c (by omega) (by rw [h2]),h2]; rfl
 have h4:oneF COLS (aC c) 4=({ C0 with name:=c.name,family:=c.family,given:=c.given,nick:=c.nick },0):=by rw [aE c (by omega) (by rw [h3]),h3]; rfl
 have h5:oneF COLS (aC c) 5=({ C0 with name:=c.name,family:=c.family,given:=c.given,nick:=c.nick,jid:=c.jid },0):=by
  rw [aE c (by omega) (by rw [h4]),h4]
  show jidP _ c.jid=_
  unfold jidP
  split
  ·rename_i e; rw [e]; rfl
  ·rename_i e
   rcases h.jid with q|q
   ·exact absurd q e
   ·rw [q]
 have h6:oneF COLS (aC c) 6=({ C0 with name:=c.name,family:=c.family,given:=c.given,nick:=c.nick,jid:=c.jid,email:=c.email },0):=by rw [aE c (by omega) (by rw [h5]),h5]; rfl
 have h7:oneF COLS (aC c) 7=({ C0 with name:=c.name,family:=c.family,given:=c.given,nick:=c.nick,jid:=c.jid,email:=c.email,tel:=c.tel },0):=by rw [aE c (by omega) (by rw [h6]),h6]; rfl
 have h8:oneF COLS (aC c) 8=({ C0 with name:=c.name,family:=c.family,given:=c.given,nick:=c.nick,jid:=c.jid,email:=c.email,tel:=c.tel,note:=c.note },0):=by rw [aE c (by omega) (by rw [h7]),h7]; rfl
 have h9:oneF COLS (aC c) 9=({ C0 with name:=c.name,family:=c.family,given:=c.given,nick:=c.nick,jid:=c.jid,email:=c.email,tel:=c.tel,note:=c.note,uid:=c.uid },0):=by rw [aE c (by omega) (by rw [h8]),h8]; rfl
 rw [aE c (by omega) (by rw [h9]),h9]
 show groupsP _ (joinF 59 (c.groups.map valF))=_
 rw [cC c _ h]
 have ho:=h.other
 obtain ⟨n,f,g,k,j,e,t,o,u,l,m⟩:=c
 simp only at ho
 subst ho
 rfl
theorem bP (c:CT):(aC c).length=10:=by simp [aC]
theorem dO (c:CT)(h:wrC c):oneR COLS (aC c)=(c,0):=by
 unfold oneR
 rw [if_pos (by rw [bP]; rfl),bS c h,if_pos rfl,if_pos h.right]
theorem bE (l:List CT)(h:∀ c∈l,wrC c):∀ i,i≤l.length→readK COLS (l.map aC) i=(l.take i,0,0)
 | 0,_=>rfl
 | i+1,hi=>by
  have hl:i<l.length:=hi
  have e:(l.map aC).getD i []=aC l[i]:=by rw [List.getD_eq_getElem?_getD,List.getElem?_map,List.getElem?_eq_getElem hl]; rfl
  rw [readK,bE l h i (by omega),if_pos rfl,e,dO _ (h _ (List.getElem_mem hl)),if_pos rfl,List.take_add_one,List.getElem?_eq_getElem hl]
  rfl
theorem cZ (l:List CT)(hl:l.length≤60)(h:∀ c∈l,wrC c):readR (COLS::l.map aC)=(l,0,0):=by
 have hh:headR COLS=(COLS,true):=by decide +kernel
 have e:readR (COLS::l.map aC)=if (headR COLS).2=true then (if (l.map aC).length≤60 then readK (headR COLS).1 (l.map aC) (l.map aC).length else ([],0,4)) else ([],0,21):=rfl
 rw [e,hh]
 simp only [if_true,List.length_map]
 rw [if_pos hl,bE l h l.length (Nat.le_refl _),List.take_length]
theorem cM (l:List CT)(hl:l.length≤60)(h:∀ c∈l,wrC c):bD l=(COLS::l.map aC,0):=by
 unfold bD
 rw [if_pos hl,if_neg]
 intro q
 obtain ⟨c,hc,q⟩:=List.any_eq_true.1 q
 have:=h c hc
 unfold aZ at q
 rw [this.right,this.other] at q
 simp at q
theorem bI (c:CT)(h:wrC c):(joinF 59 (c.groups.map valF)).length<10000:=by
 have h1:∀ l:List (List UInt8),(∀ s∈l,s.length≤120)→(tails 59 (l.map valF)).length≤241*l.length:=fun l=>by
  induction l with
  | nil=>intro _; exact Nat.le_refl _
  | cons x l ih=>
   intro hl
   have e:tails 59 ((x::l).map valF)=59::(valF x++tails 59 (l.map valF)):=rfl
   have h1:=ih fun s hs=>hl s (by simp [hs])
   have h2:=hl x (by simp)
   have h3:=dL x
   rw [e,List.length_cons,List.length_append,List.length_cons]; omega
 have h2:(joinF 59 (c.groups.map valF)).length≤(tails 59 (c.groups.map valF)).length:=by
  cases c.groups with
  | nil=>exact Nat.le_refl _
  | cons x l=>show (valF x++tails 59 (l.map valF)).length≤(59::(valF x++tails 59 (l.map valF))).length; simp
 have h3:=h1 c.groups fun s hs=>(h.g s hs).2.1
 have:=h.gl
 omega
theorem bY (c:CT)(h:wrC c):(splitF 59 false [] (joinF 59 (c.groups.map valF))).length<20:=by
 have hl:=h.gl
 generalize c.groups=l at *
 cases l with
 | nil=>decide
 | cons x l=>rw [bL,List.length_map]; omega
theorem dN (c:CT)(h:wrC c):∀ k,k<10→(aQ c k).length<100000000:=
 ten h.ok.name h.ok.family h.ok.given h.ok.nick h.ok.jid h.ok.email h.ok.tel h.ok.note h.ok.uid (by have:=bI c h; show (joinF 59 (c.groups.map valF)).length<_; omega)
theorem eH (l:List CT)(h:∀ c∈l,wrC c):okRows (COLS::l.map aC):=by
 have hh:headR COLS=(COLS,true):=by decide +kernel
 refine ⟨by decide,by decide,fun _ row hr=>?_⟩
 obtain ⟨c,hc,rfl⟩:=List.mem_map.1 hr
 have hc:=h c hc
 rw [hh]
 refine ⟨by rw [bP]; decide,fun s hs=>?_,?_,?_⟩
 ·unfold aC at hs
  obtain ⟨k,hk,rfl⟩:=List.mem_map.1 hs
  exact dN c hc k (by simpa using hk)
 ·have e:COLS.idxOf GROUPS=9:=by decide +kernel
  show (splitF 59 false [] ((aC c).getD (COLS.idxOf GROUPS) [])).length<20
  rw [e,bN c (by omega)]
  exact bY c hc
 ·show okS (oneF COLS (aC c) 10).1
  rw [bS c hc]; exact hc.ok
theorem cP (c:CT):wrC (aB c):=by
 have hg:=aG c
 refine ⟨bM c,cK c,rfl,?_,hg.2.1,hg.2.2.1,fun s hs=>?_⟩
 ·by_cases h:c.jid=[]
  ·refine .inl ?_
   show (if c.jid=[] then [] else bG c.jid c.jid.length)=[]
   rw [if_pos h]
  ·refine .inr ?_
   have e:(aB c).jid=bG c.jid c.jid.length:=if_neg h
   rw [e]
   exact (cU c.jid c.jid.length).1
 ·obtain ⟨h1,h2,t,rfl⟩:=hg.2.2.2 s hs
  exact ⟨h1,h2,dB t 30⟩
def fH (c:CT):Bool:=[c.name,c.family,c.given,c.nick,c.jid,c.email,c.tel,c.note,c.uid].all (fun s=>decide (s.length<10000))&&decide (c.groups.length<10000)&&c.groups.all (fun s=>decide (s.length<10000))&&c.other.isEmpty
theorem fB {c:CT}(h:fH c=true):okS c:=by
 simp only [fH,Bool.and_eq_true,List.all_cons,List.all_nil,decide_eq_true_eq,Bool.and_true] at h
 obtain ⟨⟨⟨⟨h1,h2,h3,h4,h5,h6,h7,h8,h9⟩,h10⟩,h11⟩,h12⟩:=h
 have e:c.other=[]:=by simpa using h12
 refine ⟨by omega,by omega,by omega,by omega,by omega,by omega,by omega,by omega,by omega,by omega,fun s hs=>?_,by simp [e],fun p hp=>by simp [e] at hp⟩
 have:=List.all_eq_true.1 h11 s hs
 simp only [decide_eq_true_eq] at this
 omega
def cQ (names row:List (List UInt8)):Bool:=decide (row.length<10000)&&row.all (fun s=>decide (s.length<10000))&&decide ((splitF 59 false [] (row.getD (names.idxOf GROUPS) [])).length<20)&&fH (oneF names row 10).1
def cV (rows:List (List (List UInt8))):Bool:=match rows with
 | []=>true
 | r::tl=>decide (r.length<10000)&&r.all (fun s=>decide (s.length<10000))&&(!(headR r).2||tl.all (cQ (headR r).1))
theorem dI {names row:List (List UInt8)}(h:cQ names row=true):okRow names row:=by
 simp only [cQ,Bool.and_eq_true,decide_eq_true_eq,List.all_eq_true] at h
 obtain ⟨⟨⟨h1,h2⟩,h3⟩,h4⟩:=h
 exact ⟨by omega,fun s hs=>by have:=h2 s hs; omega,h3,fB h4⟩
theorem dG {rows:List (List (List UInt8))}(h:cV rows=true):okRows rows:=by
 cases rows with
 | nil=>trivial
 | cons r tl=>
  simp only [cV,Bool.and_eq_true,decide_eq_true_eq,List.all_eq_true] at h
  obtain ⟨⟨h1,h2⟩,h3⟩:=h
  refine ⟨by omega,fun s hs=>by have:=h2 s hs; omega,fun hh row hr=>?_⟩
  rw [hh] at h3
  simp only [Bool.not_true,Bool.false_or,List.all_eq_true] at h3
  exact dI (h3 row hr)
def awR:List (List (List UInt8)):=[[[74,73,68],[78,97,109,101]],[[65,64,104],[110]]]
theorem fN:readR awR=([{ C0 with name:=[110],jid:=[97,64,104] }],0,0):=by kernel_rfl
theorem fP:okRows awR:=dG (by decide +kernel)
theorem dV:DRet 14 [.sl 1 [[.sl 1 [[.str [74,73,68]],[.str [78,97,109,101]]]],[.sl 1 [[.str [65,64,104]],[.str [110]]]]]] (.tup [.sl 11 [ctv { C0 with name:=[110],jid:=[97,64,104] }],.int .i64 0,.int .i64 0]):=by
 have h:=read14 awR (by decide) fP
 rw [fN] at h
 exact h
theorem cY:DRet 15 [] (.bool true):=by
 refine acalls_goF c15 (by simp [f15]) ?_
 simp only [f15,finF_e,finF_en,↓gos,gop,qA,qB,qC,qD,qE,qF,qG,qH,qI]
 refine call_frz [2] rfl ?_
 simp only [finF_e,finF_en,↓gos,gop,qA,qB,qC,qD,qE,qF,qG,qH,qI]
 refine call_clo dV rfl rfl ?_
 simp only [ctv,C0,finF_e,finF_en,↓gos,gop,qA,qB,qC,qD,qE,qF,qG,qH,qI]
 exact end_fc [1] rfl rfl ⟨rfl,rfl⟩
theorem dD (c:CT)(h:wrC c):DRet 22 [.agg (ctv c),.agg (ctv c)] (.bool true):=by
 have h29:=plain62 c.groups c.groups (by have:=h.gl; omega) (by have:=h.gl; omega)
 rw [decide_eq_true rfl] at h29
 have h37:=eP ([]:List PR) [] ⟨by simp,by simp⟩ ⟨by simp,by simp⟩
 rw [decide_eq_true rfl] at h37
 have ho:=h.other
 refine acalls_goF c22 (by simp [f22]) ?_
 simp only [f22,ctv,ho,List.map_nil,finF_e,finF_en,↓gos,gop,qA,qB,qC,qD,qE,qF,qG,qH,qI]
 refine call_clo h29 rfl rfl ?_
 simp only [finF_e,finF_en,↓gos,gop,qA,qB,qC,qD,qE,qF,qG,qH,qI]
 refine call_clo h37 rfl rfl ?_
 simp only [finF_e,finF_en,↓gos,gop,qA,qB,qC,qD,qE,qF,qG,qH,qI]
 exact end_fc [] rfl rfl ⟨rfl,rfl⟩
theorem eZ (l:List CT)(hl:l.length<1000)(h:∀ c∈l,wrC c):DRet 21 [.sl 11 (l.map ctv),.sl 11 (l.map ctv),.fn 22 []] (.bool true):=by
 refine acalls_goF c21 (by simp [f21]) ?_
 simp only [f21,List.length_map,finF_e,finF_en,↓gos,gop,qA,qB,qC,qD,qE,qF,qG,qH,qI]
 refine goN_lp (γ:=Nat) (fun i=>[(7,.int .i64 i),(0,.sl 11 (l.map ctv)),(1,.sl 11 (l.map ctv)),(2,.fn 22 [])]) (fun _=>[]) (fun i=>i≤l.length) (fun i=>l.length - i) 0
  (wks rfl (by simp) ⟨rfl,rfl,rfl,rfl,trivial⟩) (by omega) fun i hi=>?_
 have hone:IntKind.i64.wrap ((i:Int)+1)=((i+1:Nat):Int):=by rw [wrap_i64 (by omega) (by omega)]; rfl
 simp only [f21l0,hone,forall_eq,finF_e,finF_en,↓gos,gop,qA,qB,qC,qD,qE,qF,qG,qH,qI]
 refine ⟨fun h1=>?_,fun h1=>?_⟩
 ·have h2:i<l.length:=by omega
  have hm:l[i]∈l:=List.getElem_mem h2
  have h22:=dD l[i] (h _ hm)
  have hli:l[i]?=some l[i]:=List.getElem?_eq_getElem h2
  generalize l[i]=c at *
  have e:List.take 11 (ctv c)=ctv c:=rfl
  simp only [hli,e,finF_e,finF_en,↓gos,gop,qA,qB,qC,qD,qE,qF,qG,qH,qI]
  refine chk_i (Nat.le_refl 11) (chk_i (Nat.le_refl 11) ?_)
  refine call_clo h22 rfl rfl ?_
  simp only [hone,forall_eq,finF_e,finF_en,↓gos,gop,qA,qB,qC,qD,qE,qF,qG,qH,qI]
  exact rnd_s (i+1) rfl (by simp) ⟨rfl,rfl,rfl,rfl,trivial⟩ h2 (by omega)
 ·exact end_fc [] rfl rfl ⟨rfl,rfl⟩
theorem fO (l:List CT)(hl:l.length<1000000000)(hs:∀ c∈l,smS c):DRet 5 [.sl 11 (l.map ctv)] (.bool true):=by
 refine acalls_goF c5 (by simp [f5]) ?_
 simp only [f5,finF_e,finF_en,↓gos,gop,qA,qB,qC,qD,qE,qF,qG,qH,qI]
 refine goN_lp (γ:=Nat) (fun i=>[(4,.int .i64 i),(3,.osl 11 0 0 i none),(0,.sl 11 (l.map ctv))]) (fun i=>[.arr 11 (((l.take i).map aB).map ctv)])
  (fun i=>i≤l.length∧i≤20) (fun i=>20 - i) 0
  (wks rfl (by simp) ⟨rfl,rfl,rfl,trivial⟩) ⟨by omega,by omega⟩ fun i ⟨hi,hi2⟩=>?_
 have hone:IntKind.i64.wrap ((i:Int)+1)=((i+1:Nat):Int):=by rw [wrap_i64 (by omega) (by omega)]; rfl
 simp only [f5l0,hone,forall_eq,finF_e,finF_en,↓gos,gop,qA,qB,qC,qD,qE,qF,qG,qH,qI]
 refine ⟨fun q1=>⟨fun q2=>?_,fun q2=>?_⟩,fun q1=>?_⟩
 ·have h2:i<l.length:=by omega
  have hm:l[i]∈l:=List.getElem_mem h2
  have hc:=hs _ hm
  have hli:l[i]?=some l[i]:=List.getElem?_eq_getElem h2
  have htk:l.take (i+1)=l.take i++[l[i]]:=by rw [List.take_add_one,hli]; rfl
  generalize l[i]=c at *
  have e:List.take 11 (ctv c)=ctv c:=rfl
  have hti:List.take i (List.map ctv (List.map aB (List.take i l)))=List.map ctv (List.map aB (List.take i l)):=List.take_of_length_le (by simp only [List.length_map,List.length_take]; omega)
  simp only [hli,e,finF_e,finF_en,↓gos,gop,qA,qB,qC,qD,qE,qF,qG,qH,qI]
  refine chk_i (Nat.le_refl 11) ?_
  refine call_clo (dT c hc) rfl rfl ?_
  cases cI c
  ·simp only [finF_e,finF_en,↓gos,gop,qA,qB,qC,qD,qE,qF,qG,qH,qI]
   refine call_clo cY rfl rfl ?_
   simp only [finF_e,finF_en,↓gos,gop,qA,qB,qC,qD,qE,qF,qG,qH,qI]
   exact end_fc [] rfl rfl ⟨rfl,rfl⟩
  ·simp only [hli,e,finF_e,finF_en,↓gos,gop,qA,qB,qC,qD,qE,qF,qG,qH,qI]
   refine chk_i (Nat.le_refl 11) ?_
   refine call_clo (dF c hc) rfl rfl ?_
   simp only [ctv,hone,forall_eq,finF_e,finF_en,↓gos,gop,qA,qB,qC,qD,qE,qF,qG,qH,qI]
   refine chk_i (by rw [List.length_take]; omega) (chk_i (by omega) (chk_i (by omega) ?_))
   refine rnd_d 1 (i+1) ?_ (by simp) ⟨rfl,rfl,rfl,rfl,rfl,rfl,trivial⟩ rfl ⟨h2,by omega⟩ (by omega)
   rw [htk]
   show [AObj.arr 11 (List.take i (List.map ctv (List.map aB (List.take i l)))++[ctv (aB c)])]=_
   rw [hti]
   simp only [List.map_append,List.map_cons,List.map_nil]
 all_goals
  have hlen:(l.take i).length=i:=by simp; omega
  have hwr:∀ c∈(l.take i).map aB,wrC c:=fun c hc=>by
   obtain ⟨d,_,rfl⟩:=List.mem_map.1 hc
   exact cP d
  generalize hmm:(l.take i).map aB=m at *
  have hml:m.length=i:=by rw [← hmm,List.length_map]; exact hlen
  have h19:=eQ m (by omega) fun c hc=>⟨(hwr c hc).ok,by have:=bI c (hwr c hc); omega⟩
  rw [cM m (by omega) hwr] at h19
  have h14:=read14 (COLS::m.map aC) (by simp; omega) (eH m hwr)
  rw [cZ m (by omega) hwr] at h14
  have h21:=eZ m (by omega) hwr
  have hti:List.take i (List.map ctv m)=List.map ctv m:=List.take_of_length_le (by simp; omega)
  have e1:decide (i≤m.length)=true:=decide_eq_true (by omega)
  refine call_frz [0] rfl ?_
  simp only [e1,hti,sel_true,List.length_map,finF_e,finF_en,↓gos,gop,qA,qB,qC,qD,qE,qF,qG,qH,qI]
  refine call_clo h19 rfl rfl ?_
  simp only [finF_e,finF_en,↓gos,gop,qA,qB,qC,qD,qE,qF,qG,qH,qI]
  refine call_clo h14 rfl rfl ?_
  simp only [finF_e,finF_en,↓gos,gop,qA,qB,qC,qD,qE,qF,qG,qH,qI]
  refine call_clo cY rfl rfl ?_
  have hone2:IntKind.i64.wrap ((m.length:Int)+1)=((m.length+1:Nat):Int):=by rw [wrap_i64 (by omega) (by omega)]; rfl
  simp only [hone2,forall_eq,List.length_map,List.length_cons,finF_e,finF_en,↓gos,gop,qA,qB,qC,qD,qE,qF,qG,qH,qI]
  refine call_clo h21 rfl rfl ?_
  simp only [finF_e,finF_en,↓gos,gop,qA,qB,qC,qD,qE,qF,qG,qH,qI]
  exact end_fc [] rfl rfl ⟨rfl,rfl⟩
end Go.Proofs.Ut

namespace Go.Ai
open Go.RowKit
theorem row_walk {E:Env}{f:Nat}{args:List DV}(hc:ACalls E f [] args fun h d=>h=[]∧d=.bool true)(W:World)(hg:E.G W)(hn:E.N≤W.heap.size)(vs:List Value)(hl:vs.length=args.length)
  (hv:∀ (i:Nat) v d,vs[i]?=some v→args[i]?=some d→Rep W (fun b=>b<W.heap.size) noLoc v d):Calls E.P f vs.toArray W fun e W' => e=.returned (.bool true)∧Below W.heap.size W W' := by
 refine (hc.2 W (fun b=>b<W.heap.size) noLoc vs hg hn ⟨fun _ _=>rfl,fun l l' b o o' h=>by simp [noLoc] at h,fun l b o h=>by simp [noLoc] at h,fun l b o h=>by simp [noLoc] at h,fun _ h=>h,fun l o h=>by simp at h⟩ hl hv).mono ?_
 rintro e W' ⟨v,ok',β',h',d,rfl,⟨_,rfl⟩,_,hev,_,hr,_⟩
 refine ⟨by rw [hr.bool_in],⟨hev.os,hev.tape,hev.output,hev.size,fun k hk=>hev.same k hk fun l x h=>by simp [noLoc] at h⟩⟩
end Go.Ai

namespace Go.Proofs.Ut
open Go.Shelf Go.Lib Go.RowKit
open Go.Proofs.YtgamnnfndidclaaGreatDoor Go.Ai
noncomputable abbrev laidL : List (String × DataW Unit) := [("unicode/utf8.acceptRanges", Rows.laid_unicode_utf8_acceptRanges), ("unicode.asciiFold", Rows.laid_unicode_asciiFold), ("unicode.caseOrbit", Rows.laid_unicode_caseOrbit), ("unicode.CaseRanges", Rows.laid_unicode_CaseRanges), ("unicode/utf8.first", Rows.laid_unicode_utf8_first)]
theorem dE:(Rows.laid_unicode_utf8_acceptRanges:DataW Unit)=acceptData:=by kernel_rfl
theorem dM:Rows.laid_unicode_utf8_first=firstData:=by kernel_rfl
def dQ:List Int:=(List.range 128).map foldC
theorem eA:(Rows.laid_unicode_asciiFold:DataW Unit)=tabData .u16 dQ:=by kernel_rfl
theorem cH {P:Program}{W:World}{name:String}{k:IntKind}{zs:List Int}{g:Nat}{t e:TypeId}{n:Nat}
  (hg:P.globalNamed name=some g) (hty:(P.globals[g]?).map (·.type)=some t) (ht:P.underlying t=some (.array n e)) (he:P.underlying e=some (.int k)) (hce:P.cellsOf e=1) (hct:P.cellsOf t=n)
  (h:VarReads P W name (tabData k zs)):TabIs P W name k zs:=by
 obtain ⟨g',t',cs,fuel,p,hg',ht',hvar,hd⟩:=h
 obtain rfl:=Option.some.inj (hg.symm.trans hg')
 obtain rfl:=Option.some.inj (hty.symm.trans ht')
 unfold TabIs
 rw [hvar,← cells_of_tab ht he hce hct hd]
theorem laid_of {W:World}(h:laidMetH Tryz.prog laidL W)(hsh:W.ShapedOpen Tryz.prog):Laid W:=by
 rw [MakeChecks.laidMetH_plain _ _ _ (by kernel_rfl)] at h
 have h3:=Lib.laidMet.reads h (.tail _ (.tail _ (.tail _ (.tail _ (.head _)))))
 have h4:=Lib.laidMet.reads h (.head _)
 have h0:=Lib.laidMet.reads h (.tail _ (.head _))
 rw [dM] at h3
 rw [dE] at h4
 rw [eA] at h0
 refine ⟨utf8Tabs_of_readsT (U8Types.of196 Tryz.laysValid) ⟨by kernel_rfl,by kernel_rfl,by kernel_rfl,by kernel_rfl,by kernel_rfl,by kernel_rfl,by kernel_rfl⟩ h3 h4,?_,fun i hi=>?_⟩
 ·exact cell_of_shapedOpen_int (t:=3) (zero:=#[.int .i64 0]) hsh (of_decide_eq_true (by kernel_rfl)) (by kernel_rfl) (by kernel_rfl) (by kernel_rfl) (by kernel_rfl) (by kernel_rfl)
 ·have ht:=cH (P:=Tryz.prog) (g:=3) (t:=259) (e:=258) (n:=128) (by kernel_rfl) (by kernel_rfl) (by kernel_rfl) (by kernel_rfl) (by kernel_rfl) (by kernel_rfl) h0
  have:=ht.cell (g:=3) (by kernel_rfl) i (by simpa [dQ] using hi)
  rw [this]
  simp [dQ,hi]
theorem dC {W:World}(h:Laid W):4≤W.heap.size:=by
 have hm:=h.fold 0 (by omega)
 rcases Nat.lt_or_ge 3 W.heap.size with h1|h1
 ·exact h1
 ·simp [World.cell?,Array.getElem?_eq_none h1] at hm
theorem dA {f:Nat}{args:List DV}(hc:Ai.ACalls ED f [] args fun h d=>h=[]∧d=.bool true)(W:World)(hT:Laid W)(vs:List Value)(hl:vs.length=args.length)
  (hv:∀ (i:Nat) v d,vs[i]?=some v→args[i]?=some d→Ai.Rep W (fun b=>b<W.heap.size) Ai.noLoc v d):Calls Tryz.prog f vs.toArray W fun e W' => e=.returned (.bool true)∧Below W.heap.size W W' :=
 Ai.row_walk hc W hT (dC hT) vs hl hv
end Go.Proofs.Ut
