/- play.Contact. -/
import Derived.Test.YtgamnnfndidclaaGreatDoorCYY6
import Derived.Test.YtgamnnfndidclaaGreatDoorCYX2
import Derived.Test.YtgamnnfndidclaaGreatDoorCYOnce2
open Nat renaming reduceBEq → qA,reduceAdd → qB,reduceSub → qC,reduceLeDiff → qD,reduceMul → qE
open Int renaming reduceLE → qF,reduceLT → qG,reduceNe → qH,reduceToNat → qI
set_option linter.all false
namespace Go.Proofs.Ut
open Go.Ai
set_option maxRecDepth 100000
theorem aED (k:Nat)(hk:k<1000000000):aU 103 [.int .i64 k,.int .i64 5] (.int .i64 ((k % 5:Nat):Int)):=by
 refine bB c103 (by simp [f103]) ?_
 have w1:IntKind.u64.wrap (k:Int)=k:=TJ (by omega) (by omega)
 have w2:IntKind.u64.wrap 5=5:=by decide
 have w3:(k:Int).tmod 5=((k % 5:Nat):Int):=rfl
 have w4:IntKind.i64.wrap ((k % 5:Nat):Int)=((k % 5:Nat):Int):=wrap_i64 (by omega) (by omega)
 simp only [f103,w1,w2,w3,w4,forall_eq,aE,aC,↓gos,gop,qA,qB,qC,qD,qE,qF,qG,qH,qI]
 exact bH [] rfl rfl ⟨rfl,rfl⟩
theorem aDk (s:List UInt8)(k:Nat)(hs:s.length<100000000)(hk:k<1000000000):aU 54 [.str s,.int .i64 k] (.str (tC s k)):=by
 have hb:=RD s hs
 unfold tC
 refine bB c54 (by simp [f54]) ?_
 simp only [f54,aE,aC,↓gos,gop,qA,qB,qC,qD,qE,qF,qG,qH,qI]
 refine aV hb rfl rfl ?_
 generalize dM s=x at *
 obtain ⟨t,e⟩:=x
 simp only [aE,aC,↓gos,gop,qA,qB,qC,qD,qE,qF,qG,qH,qI]
 refine ⟨fun h=>?_,fun h=>?_⟩
 ·rw [if_pos h]
  exact bH [] rfl rfl ⟨rfl,rfl⟩
 ·rw [if_neg (by simpa using h)]
  refine aB (aED k hk) rfl rfl ?_
  have h5:k % 5<5:=Nat.mod_lt _ (by decide)
  generalize k % 5=m at *
  simp only [aE,aC,↓gos,gop,qA,qB,qC,qD,qE,qF,qG,qH,qI]
  refine aK (by omega) ?_
  obtain rfl|rfl|rfl|rfl|rfl:m=0∨m=1∨m=2∨m=3∨m=4:=by omega
  all_goals
   refine fI _ rfl ?_
   simp only [aE,aC,↓gos,gop,qA,qB,qC,qD,qE,qF,qG,qH,qI]
   exact bH [] rfl rfl ⟨rfl,rfl⟩
def gP (c:CT)(i:Nat):List (List UInt8):=(c.groups.take i).map fun s=>aP s 30
theorem ZG (c:CT){i:Nat}(h:i<c.groups.length):gP c (i+1)=gP c i++[aP (c.groups.getD i []) 30]:=by
 unfold gP
 rw [CD h [],List.map_append]; rfl
theorem zL (c:CT)(hs:smS c)(nm jv:List UInt8)(hn:nm=(bL c).name)(hj:jv=(bL c).jid)(L:List (Nat×DV))(h5:slots L 5=.int .i64 0)(h4:slots L 4=.osl 1 9 0 0 none)(h3:slots L 3=.ptr 6 0)(h2:slots L 2=.ptr 3 0)(h1:slots L 1=.ptr 0 0) :
    goN ED 0 (vX 0 [RV.cell 2 (some 11)] fun h d=>h=[]∧d=.agg (ctv (bL c)))
      [Fr.block 0,Fr.seq ((ACode.region false [⟨some 65,.mov (.t 4),none⟩,⟨some 66,.call true 30 [.t 65],none⟩,⟨some 67,.faddr 9 (.t 3),none⟩,⟨none,.store true 1 (.t 67) (.t 66),none⟩]).seq ((ACode.region false [⟨some 68,.load (some 11) (.t 3),none⟩,⟨none,.store true 11 (.t 2) (.t 68),none⟩]).seq .ret))]
      f24l0.loop L
      [.box (ctv c),.arr 1 [],.arr 4 [],.box [.str [],.str [],.str [],.str [],.str [],.str [],.str [],.str [],.str [],.osl 1 1 0 0 none,.osl 4 2 0 0 none],.arr 1 [],.arr 4 [],
        .box [.str nm,.str (aP c.family 50),.str (aP c.given 50),.str (aP c.nick 50),.str jv,.str (aP c.email 50),.str (aP c.tel 50),.str (aP c.note 200),.str (aP c.uid 50),.osl 1 7 0 0 none,.osl 4 8 0 0 none],.arr 1 [],.arr 4 [],.arr 1 []]:=by
  have ht:=hs.t
  have hg:=mW c.groups
  refine aJ (γ:=Nat) (fun i=>[(5,.int .i64 i),(4,.osl 1 9 0 i none),(3,.ptr 6 0),(2,.ptr 3 0),(1,.ptr 0 0)])
    (fun i=>[.box (ctv c),.arr 1 [],.arr 4 [],.box [.str [],.str [],.str [],.str [],.str [],.str [],.str [],.str [],.str [],.osl 1 1 0 0 none,.osl 4 2 0 0 none],.arr 1 [],.arr 4 [],
        .box [.str nm,.str (aP c.family 50),.str (aP c.given 50),.str (aP c.nick 50),.str jv,.str (aP c.email 50),.str (aP c.tel 50),.str (aP c.note 200),.str (aP c.uid 50),.osl 1 7 0 0 none,.osl 4 8 0 0 none],.arr 1 [],.arr 4 [],.arr 1 ((gP c i).map sv)])
    (fun i=>i≤c.groups.length∧i≤4) (fun i=>4 - i) 0
    (wks rfl (by simp) ⟨h5,h4,h3,h2,h1,trivial⟩) ⟨by omega,by omega⟩ fun i ⟨hi,hi4⟩=>?_
  have hone:IntKind.i64.wrap ((i:Int)+1)=((i+1:Nat):Int):=by rw [wrap_i64 (by omega) (by omega)]; rfl
  have hgl:(gP c i).length=i:=by unfold gP; simp; omega
  simp only [f24l0,ctv,hone,forall_eq,aE,aC,↓gos,gop,qA,qB,qC,qD,qE,qF,qG,qH,qI]
  refine ⟨fun q1=>⟨fun q2=>?_,fun q2=>?_⟩,fun q1=>?_⟩
  · have hlt:i<c.groups.length:=by omega
    have hli:c.groups[i]?=some (c.groups.getD i []):=by rw [List.getD_eq_getElem?_getD,List.getElem?_eq_getElem hlt]; rfl
    have hm:c.groups.getD i []∈c.groups:=by rw [List.getD_eq_getElem?_getD,List.getElem?_eq_getElem hlt]; exact List.getElem_mem hlt
    have hml:=FH hm
    have hnx:=ZG c hlt
    have n4:=zO (c.groups.getD i []) 30 (by omega) (by omega)
    generalize c.groups.getD i []=s at *
    simp only [hli,sv,aE,aC,↓gos,gop,qA,qB,qC,qD,qE,qF,qG,qH,qI]
    refine aB n4 rfl rfl ?_
    simp only [hone,forall_eq,aE,aC,↓gos,gop,qA,qB,qC,qD,qE,qF,qG,qH,qI]
    have htk:List.take i (List.map sv (gP c i))=List.map sv (gP c i):=List.take_of_length_le (by simp [hgl])
    refine aK (by omega) (aK (by omega) (aK (by omega) ?_))
    refine cI 10 (i+1) ?_ (by simp) ⟨rfl,rfl,rfl,rfl,rfl,rfl,rfl,rfl,rfl,rfl,trivial⟩ rfl ⟨by omega,by omega⟩ (by omega)
    rw [hnx,htk,List.map_append]; rfl
  · have e:gP c i=(c.groups.take 4).map fun s=>aP s 30:=by unfold gP; rw [show i=4 by omega]
    have h30:=xK (gP c i) (by omega)
    have hgr:dD (gP c i)=(bL c).groups:=by rw [e]; rfl
    have e1:decide (i≤(gP c i).length)=true:=decide_eq_true (by omega)
    have htk:List.take i (List.map sv (gP c i))=List.map sv (gP c i):=List.take_of_length_le (by simp [hgl])
    rw [hgr] at h30
    refine gM [9] rfl ?_
    simp only [e1,htk,eP,aE,aC,↓gos,gop,qA,qB,qC,qD,qE,qF,qG,qH,qI]
    refine aV h30 rfl rfl ?_
    simp only [aE,aC,↓gos,gop,qA,qB,qC,qD,qE,qF,qG,qH,qI]
    refine bH [8] ?_ rfl ⟨rfl,rfl⟩
    subst hn hj
    rfl
  · have e:gP c i=(c.groups.take 4).map fun s=>aP s 30:=by
      unfold gP
      rw [List.take_of_length_le (by omega),List.take_of_length_le (by omega)]
    have h30:=xK (gP c i) (by omega)
    have hgr:dD (gP c i)=(bL c).groups:=by rw [e]; rfl
    have e1:decide (i≤(gP c i).length)=true:=decide_eq_true (by omega)
    have htk:List.take i (List.map sv (gP c i))=List.map sv (gP c i):=List.take_of_length_le (by simp [hgl])
    rw [hgr] at h30
    refine gM [9] rfl ?_
    simp only [e1,htk,eP,aE,aC,↓gos,gop,qA,qB,qC,qD,qE,qF,qG,qH,qI]
    refine aV h30 rfl rfl ?_
    simp only [aE,aC,↓gos,gop,qA,qB,qC,qD,qE,qF,qG,qH,qI]
    refine bH [8] ?_ rfl ⟨rfl,rfl⟩
    subst hn hj
    rfl
theorem MM (c:CT)(hs:smS c):aU 24 [.agg (ctv c)] (.agg (ctv (bL c))):=by
  have ht:=hs.t
  have hg:=mW c.groups
  refine bB c24 (by simp [f24]) ?_
  simp only [f24,ctv,aE,aC,↓gos,gop,qA,qB,qC,qD,qE,qF,qG,qH,qI]
  have n1:=zO c.name 100 (by omega) (by omega)
  have n2:=fun s (h:s.length<100000000000)=>zO s 50 h (by omega)
  have n3:=zO c.note 200 (by omega) (by omega)
  refine sJ [(3,.ptr 6 0),(2,.ptr 3 0),(1,.ptr 0 0)]
    [.box (ctv c),.arr 1 [],.arr 4 [],.box [.str [],.str [],.str [],.str [],.str [],.str [],.str [],.str [],.str [],.osl 1 1 0 0 none,.osl 4 2 0 0 none],.arr 1 [],.arr 4 [],
      .box [.str (aP c.name 100),.str (aP c.family 50),.str (aP c.given 50),.str (aP c.nick 50),.str [],.str (aP c.email 50),.str (aP c.tel 50),.str (aP c.note 200),.str (aP c.uid 50),.osl 1 7 0 0 none,.osl 4 8 0 0 none],.arr 1 [],.arr 4 []] ?_ (fun hk=>?_) (fun hk=>?_)
  · simp only [ctv,aE,aC,↓gos,gop,qA,qB,qC,qD,qE,qF,qG,qH,qI]
    refine ⟨fun h1=>⟨fun h2=>?_,fun h2=>?_⟩,fun h1=>⟨fun h2=>?_,fun h2=>?_⟩⟩
    · refine aB (aDk c.jid c.jid.length (by omega) (by omega)) rfl rfl ?_
      simp only [aE,aC,↓gos,gop,qA,qB,qC,qD,qE,qF,qG,qH,qI]
      exact zL c hs _ _ (if_pos h1).symm (if_neg h2).symm _ rfl rfl rfl rfl rfl
    · exact zL c hs _ _ (if_pos h1).symm (if_pos h2).symm _ rfl rfl rfl rfl rfl
    · refine aB (aDk c.jid c.jid.length (by omega) (by omega)) rfl rfl ?_
      simp only [aE,aC,↓gos,gop,qA,qB,qC,qD,qE,qF,qG,qH,qI]
      exact zL c hs _ _ (if_neg h1).symm (if_neg h2).symm _ rfl rfl rfl rfl rfl
    · exact zL c hs _ _ (if_neg h1).symm (if_pos h2).symm _ rfl rfl rfl rfl rfl
  · rw [jY]
    simp only [aE,aC,↓gos,gop,qA,qB,qC,qD,qE,qF,qG,qH,qI]
    repeat (first | refine aB n1 rfl rfl ?_ | refine aB n3 rfl rfl ?_ | refine aB (n2 _ (by omega)) rfl rfl ?_
                  | simp only [aE,aC,↓gos,gop,qA,qB,qC,qD,qE,qF,qG,qH,qI])
    refine jF ?_ hk
    exact wks rfl (by simp) ⟨rfl,rfl,rfl,trivial⟩
  · repeat' refine nS ?_ ?_
    all_goals
      rw [jY]
      simp only [aE,aC,↓gos,gop,qA,qB,qC,qD,qE,qF,qG,qH,qI]
      repeat (first | refine aB n1 rfl rfl ?_ | refine aB n3 rfl rfl ?_ | refine aB (n2 _ (by omega)) rfl rfl ?_
                    | simp only [aE,aC,↓gos,gop,qA,qB,qC,qD,qE,qF,qG,qH,qI])
      refine jF ?_ hk
      exact wks rfl (by simp) ⟨rfl,rfl,rfl,trivial⟩
theorem tV:COLS.length=10:=rfl
theorem ZM:aU 47 [.sl 3 wL,.fn 49 []] (.sl 1 (COLS.map sv)):=by
 refine bB c47 (by simp [f47]) ?_
 simp only [f47,aE,aC,↓gos,gop,qA,qB,qC,qD,qE,qF,qG,qH,qI]
 refine aJ (γ:=Nat) (fun i=>[(10,.int .i64 i),(9,.int .i64 10),(8,.sl 3 wL),(1,.fn 49 []),(5,.osl 1 1 0 i none)]) (fun i=>[.arr 1 [],.arr 1 ((COLS.take i).map sv)]) (fun i=>i≤10) (fun i=>10 - i) 0
  (wks rfl (by simp) ⟨rfl,rfl,rfl,rfl,rfl,trivial⟩) (by omega) fun i hi=>?_
 simp only [f47l0,aE,aC,↓gos,gop,qA,qB,qC,qD,qE,qF,qG,qH,qI]
 refine ⟨fun h=>?_,fun h=>?_⟩
 ·have h2:i<10:=by omega
  have h1:=mJ i h2
  refine fI (tU i) (yT i h2) ?_
  simp only [tU,aE,aC,↓gos,gop,qA,qB,qC,qD,qE,qF,qG,qH,qI]
  refine aV (aEg (COLS.getD i []) (tf i) (uf i) (tc i) (tc i) h1 h1) (by
   rw [List.all_cons,show (DV.agg [.str (COLS.getD i []),.fn (tf i) (tc i),.fn (uf i) (tc i)]).closed=true from mZ i h2]; rfl) rfl ?_
  simp only [aE,aC,↓gos,gop,qA,qB,qC,qD,qE,qF,qG,qH,qI]
  have e:List.take i (List.map sv (List.take i COLS))=List.map sv (List.take i COLS):=List.take_of_length_le (by simp [tV]; omega)
  refine aK (by simp [tV]; omega) (aK (by omega) (aK (by omega) ?_))
  intro v hv
  rw [wrap_i64 (by omega) (by omega)] at hv
  have e3:v=((i+1:Nat):Int):=by rw [hv]; rfl
  subst e3
  refine cI 2 (i+1) ?_ (by simp) ⟨rfl,rfl,rfl,rfl,rfl,rfl,rfl,rfl,rfl,rfl,trivial⟩ rfl (by omega) (by omega)
  rw [dW (show i<COLS.length from h2) [],e]
  simp [sv]
 ·have h2:i=10:=by omega
  subst h2
  exact bH [1] (D:=.sl 1 (COLS.map sv)) rfl rfl ⟨rfl,rfl⟩
def tK (l:List CT):List (List (List UInt8))×Int:=if l.length≤60 then (if l.any sI=true then ([],12) else (COLS::l.map fS,0)) else ([],12)
theorem aCN (l:List CT)(hl:l.length<1000000000)(hw:∀ c∈l,okTell c) :
  aU 19 [.sl 11 (l.map ctv)] (.tup [.sl 1 ((tK l).1.map rwv),.int .i64 (tK l).2]):=by
 refine bB c19 (by simp [f19]) ?_
 simp only [f19,List.length_map,aE,aC,↓gos,gop,qA,qB,qC,qD,qE,qF,qG,qH,qI]
 unfold tK
 refine ⟨fun h=>?_,fun h=>?_⟩
 ·rw [if_neg (by omega)]
  exact bH [1] rfl rfl ⟨rfl,rfl⟩
 ·rw [if_pos (by omega)]
  refine aV (FD l hl fun c hc=>(hw c hc).s) rfl rfl ?_
  cases l.any sI
  ·simp only [Bool.false_eq_true,reduceIte,aE,aC,↓gos,gop,qA,qB,qC,qD,qE,qF,qG,qH,qI]
   refine aV lY rfl rfl ?_
   simp only [aE,aC,↓gos,gop,qA,qB,qC,qD,qE,qF,qG,qH,qI]
   refine aV ZM rfl rfl ?_
   simp only [aE,aC,↓gos,gop,qA,qB,qC,qD,qE,qF,qG,qH,qI]
   refine aJ (γ:=Nat) (fun i=>[(21,.int .i64 i),(20,.int .i64 l.length),(19,.sl 11 (l.map ctv)),(5,.osl 1 1 0 (i+1) none)]) (fun i=>[.arr 1 [],.arr 1 ((COLS::(l.take i).map fS).map rwv)]) (fun i=>i≤l.length) (fun i=>l.length - i) 0
    (wks rfl (by simp) ⟨rfl,rfl,rfl,rfl,trivial⟩) (by omega) fun i hi=>?_
   simp only [f19l0,aE,aC,↓gos,gop,qA,qB,qC,qD,qE,qF,qG,qH,qI]
   refine ⟨fun h5=>?_,fun h5=>?_⟩
   ·have h2:i<l.length:=by omega
    have hm:l[i]∈l:=List.getElem_mem h2
    have htk:l.take (i+1)=l.take i++[l[i]]:=by rw [List.take_add_one,List.getElem?_eq_getElem h2]; rfl
    refine fI l[i] (by simp [h2]) ?_
    generalize l[i]=c at *
    have e:List.take 11 (ctv c)=ctv c:=rfl
    have hcl:=iH c
    simp only [e,aE,aC,↓gos,gop,qA,qB,qC,qD,qE,qF,qG,qH,qI]
    refine aK (Nat.le_refl 11) (aK rfl (aK rfl ?_))
    simp only [oT,aE,aC,↓gos,gop,qA,qB,qC,qD,qE,qF,qG,qH,qI]
    refine aV lY rfl rfl ?_
    simp only [aE,aC,↓gos,gop,qA,qB,qC,qD,qE,qF,qG,qH,qI]
    refine nP (h1:=[.box (ctv c)]) (ds1:=[.sl 3 wL,.fn 50 [.ptr 0 0]]) [4] [] (by simp) (by simp) rfl (by
     simp only [List.map_cons,List.map_nil,List.getD_cons_zero,List.getD_cons_succ,iU]
     rw [bM fun d hd=>cK (List.all_eq_true.1 hcl d hd)]) rfl (by
     simp only [List.all_cons,List.all_nil,Bool.and_true,Bool.and_eq_true]
     refine ⟨⟨rfl,rfl⟩,?_⟩
     exact List.all_eq_true.2 fun d hd=>bA (List.all_eq_true.1 hcl d hd)) (aFT c (hw c hm)) rfl ?_
    simp only [List.foldl,bP,aS,DV.ren,upL,bM fun d hd=>aZ (List.all_eq_true.1 hcl d hd),aE,aC,↓gos,gop,qA,qB,qC,qD,qE,qF,qG,qH,qI]
    have hti:(l.take i).length=i:=by simp; omega
    refine aK (by omega) (aK (by omega) (aK (by omega) ?_))
    intro v hv
    rw [wrap_i64 (by omega) (by omega)] at hv
    have e3:v=((i+1:Nat):Int):=by rw [hv]; rfl
    subst e3
    refine cI 2 (i+1) ?_ (by simp) ⟨rfl,rfl,rfl,rfl,rfl,rfl,rfl,rfl,trivial⟩ rfl (by omega) (by omega)
    have e:List.take i (List.map rwv (List.map fS (List.take i l)))=List.map rwv (List.map fS (List.take i l)):=List.take_of_length_le (by simp; omega)
    rw [htk,e]
    simp only [List.map_append,List.map_cons,List.map_nil]
    rfl
   ·have h2:i=l.length:=by omega
    subst h2
    rw [List.take_length]
    refine bH [1] (D:=.tup [.sl 1 (rwv COLS::List.map rwv (List.map fS l)),.int .i64 0]) ?_ rfl ⟨rfl,rfl⟩
    have e:cJ [1] [.arr 1 [],.arr 1 (rwv COLS::List.map rwv (List.map fS l))] (.osl 1 1 0 (l.length+1) none)=.sl 1 (rwv COLS::List.map rwv (List.map fS l)):=
     sU (F:=[1]) (sz:=1) (i:=1) (n:=l.length+1) (c:=none) rfl (by simp) rfl
    show DV.tup [cJ _ _ _,_]=_
    rw [e]; rfl
  ·simp only [reduceIte,aE,aC,↓gos,gop,qA,qB,qC,qD,qE,qF,qG,qH,qI]
   exact bH [1] rfl rfl ⟨rfl,rfl⟩
theorem rX:∀ (l:List (List UInt8))(cur:List UInt8),bK 59 false cur (dI 59 (l.map aO))=cur::l.map aO
 | [],cur=>rfl
 | x::l,cur=>by
  have e:dI 59 ((x::l).map aO)=59::(aO x++dI 59 (l.map aO)):=rfl
  rw [e,bK,if_pos (by simp),show uW false 59=false from rfl,pT 59 (.inr rfl),rX l]
  rfl
theorem vB (x:List UInt8)(l:List (List UInt8)):bK 59 false [] (dS 59 ((x::l).map aO))=(x::l).map aO:=by
 have e:dS 59 ((x::l).map aO)=aO x++dI 59 (l.map aO):=rfl
 rw [e,pT 59 (.inr rfl),rX]
 rfl
theorem rM:∀ l:List (List UInt8),(∀ s∈l,mN s=s)→eJ (l.map aO)=some l
 | [],_=>rfl
 | x::l,h=>by
  simp only [List.map_cons,eJ,xT,rM l fun s hs=>h s (by simp [hs]),h x (by simp)]
  rfl
structure wrC (c:CT):Prop where
 right:dC c=true
 ok:okS c
 other:c.other=[]
 jid:c.jid=[]∨dM c.jid=(c.jid,0)
 gl:c.groups.length≤4
 st:St2 Op.bytesLess c.groups
 g:∀ s∈c.groups,s≠[]∧s.length≤120∧mN s=s
theorem DX {l:List (List UInt8)}(h:St2 Op.bytesLess l)(hn:∀ s∈l,s≠[]):hO l=l:=
 XL bl_tot (OF l) h fun x=>by
  rw [EO]
  exact ⟨fun q=>q.1,fun q=>⟨q,hn x q⟩⟩
theorem AK (c d:CT)(h:wrC c):kG d (dS 59 (c.groups.map aO))=({ d with groups:=c.groups },0):=by
 have hs:=DX h.st fun s hs=>(h.g s hs).1
 have hp:=rM c.groups fun s hs=>(h.g s hs).2.2
 unfold kG
 generalize c.groups=l at *
 cases l with
 | nil=>
  have e:eJ (bK 59 false [] (dS 59 (([]:List (List UInt8)).map aO)))=some [[]]:=rfl
  have e2:hO [[]]=[]:=by decide +kernel
  rw [e]
  simp only [e2]
 | cons x l=>
  rw [vB,hp]
  simp only [hs]
theorem OJ (c:CT){k:Nat}(hk:k<10):(fS c).getD k []=hB c k:=by
 unfold fS
 rw [List.getD_eq_getElem?_getD,List.getElem?_map,List.getElem?_range hk]; rfl
theorem qO (c:CT):(fS c).length=10:=by simp [fS]
theorem HF (l:List CT)(hl:l.length≤60)(h:∀ c∈l,wrC c):tK l=(COLS::l.map fS,0):=by
 unfold tK
 rw [if_pos hl,if_neg]
 intro q
 obtain ⟨c,hc,q⟩:=List.any_eq_true.1 q
 have:=h c hc
 unfold sI at q
 rw [this.right,this.other] at q
 simp at q
theorem tY (c:CT)(h:wrC c):(dS 59 (c.groups.map aO)).length<10000:=by
 have h1:∀ l:List (List UInt8),(∀ s∈l,s.length≤120)→(dI 59 (l.map aO)).length≤241*l.length:=fun l=>by
  induction l with
  | nil=>intro _; exact Nat.le_refl _
  | cons x l ih=>
   intro hl
   have e:dI 59 ((x::l).map aO)=59::(aO x++dI 59 (l.map aO)):=rfl
   have h1:=ih fun s hs=>hl s (by simp [hs])
   have h2:=hl x (by simp)
   have h3:=VJ x
   rw [e,List.length_cons,List.length_append,List.length_cons]; omega
 have h2:(dS 59 (c.groups.map aO)).length≤(dI 59 (c.groups.map aO)).length:=by
  cases c.groups with
  | nil=>exact Nat.le_refl _
  | cons x l=>show (aO x++dI 59 (l.map aO)).length≤(59::(aO x++dI 59 (l.map aO))).length; simp
 have h3:=h1 c.groups fun s hs=>(h.g s hs).2.1
 have:=h.gl
 omega
theorem BN (c:CT)(h:wrC c):(bK 59 false [] (dS 59 (c.groups.map aO))).length<20:=by
 have hl:=h.gl
 generalize c.groups=l at *
 cases l with
 | nil=>decide
 | cons x l=>rw [vB,List.length_map]; omega
theorem VL (c:CT)(h:wrC c):∀ k,k<10→(hB c k).length<100000000:=
 ten h.ok.name h.ok.family h.ok.given h.ok.nick h.ok.jid h.ok.email h.ok.tel h.ok.note h.ok.uid (by have:=tY c h; show (dS 59 (c.groups.map aO)).length<_; omega)
theorem HA (c:CT):wrC (bL c):=by
 have hg:=iE c
 refine ⟨wJ c,FF c,rfl,?_,hg.2.1,hg.2.2.1,fun s hs=>?_⟩
 ·by_cases h:c.jid=[]
  ·refine .inl ?_
   show (if c.jid=[] then [] else tC c.jid c.jid.length)=[]
   rw [if_pos h]
  ·refine .inr ?_
   have e:(bL c).jid=tC c.jid c.jid.length:=if_neg h
   rw [e]
   exact (IR c.jid c.jid.length).1
 ·obtain ⟨h1,h2,t,rfl⟩:=hg.2.2.2 s hs
  exact ⟨h1,h2,MY t 30⟩
def aEI (c:CT):Bool:=[c.name,c.family,c.given,c.nick,c.jid,c.email,c.tel,c.note,c.uid].all (fun s=>decide (s.length<10000))&&decide (c.groups.length<10000)&&c.groups.all (fun s=>decide (s.length<10000))&&c.other.isEmpty
theorem aEm {c:CT}(h:aEI c=true):okS c:=by
 simp only [aEI,Bool.and_eq_true,List.all_cons,List.all_nil,decide_eq_true_eq,Bool.and_true] at h
 obtain ⟨⟨⟨⟨h1,h2,h3,h4,h5,h6,h7,h8,h9⟩,h10⟩,h11⟩,h12⟩:=h
 have e:c.other=[]:=by simpa using h12
 refine ⟨by omega,by omega,by omega,by omega,by omega,by omega,by omega,by omega,by omega,by omega,fun s hs=>?_,by simp [e],fun p hp=>by simp [e] at hp⟩
 have:=List.all_eq_true.1 h11 s hs
 simp only [decide_eq_true_eq] at this
 omega
def FO (names row:List (List UInt8)):Bool:=decide (row.length<10000)&&row.all (fun s=>decide (s.length<10000))&&decide ((bK 59 false [] (row.getD (names.idxOf jX) [])).length<20)&&aEI (eY names row 10).1
def JZ (rows:List (List (List UInt8))):Bool:=match rows with
 | []=>true
 | r::tl=>decide (r.length<10000)&&r.all (fun s=>decide (s.length<10000))&&(!(fC r).2||tl.all (FO (fC r).1))
theorem TQ {names row:List (List UInt8)}(h:FO names row=true):okRow names row:=by
 simp only [FO,Bool.and_eq_true,decide_eq_true_eq,List.all_eq_true] at h
 obtain ⟨⟨⟨h1,h2⟩,h3⟩,h4⟩:=h
 exact ⟨by omega,fun s hs=>by have:=h2 s hs; omega,h3,aEm h4⟩
theorem MQ {rows:List (List (List UInt8))}(h:JZ rows=true):zQ rows:=by
 cases rows with
 | nil=>trivial
 | cons r tl=>
  simp only [JZ,Bool.and_eq_true,decide_eq_true_eq,List.all_eq_true] at h
  obtain ⟨⟨h1,h2⟩,h3⟩:=h
  refine ⟨by omega,fun s hs=>by have:=h2 s hs; omega,fun hh row hr=>?_⟩
  rw [hh] at h3
  simp only [Bool.not_true,Bool.false_or,List.all_eq_true] at h3
  exact TQ (h3 row hr)
def awR:List (List (List UInt8)):=[[[74,73,68],[78,97,109,101]],[[65,64,104],[110]]]
theorem aHX:tR awR=([{ C0 with name:=[110],jid:=[97,64,104] }],0,0):=by kernel_rfl
theorem aHK:zQ awR:=MQ (by decide +kernel)
theorem aCB:aU 14 [.sl 1 [[.sl 1 [[.str [74,73,68]],[.str [78,97,109,101]]]],[.sl 1 [[.str [65,64,104]],[.str [110]]]]]] (.tup [.sl 11 [ctv { C0 with name:=[110],jid:=[97,64,104] }],.int .i64 0,.int .i64 0]):=by
 have h:=QI awR (by decide) aHK
 rw [aHX] at h
 exact h
theorem IM:aU 15 [] (.bool true):=by
 refine bB c15 (by simp [f15]) ?_
 simp only [f15,aE,aC,↓gos,gop,qA,qB,qC,qD,qE,qF,qG,qH,qI]
 refine gM [2] rfl ?_
 simp only [aE,aC,↓gos,gop,qA,qB,qC,qD,qE,qF,qG,qH,qI]
 refine aV aCB rfl rfl ?_
 simp only [ctv,C0,aE,aC,↓gos,gop,qA,qB,qC,qD,qE,qF,qG,qH,qI]
 exact bH [1] rfl rfl ⟨rfl,rfl⟩
theorem NL (c:CT)(h:wrC c):aU 22 [.agg (ctv c),.agg (ctv c)] (.bool true):=by
 have h29:=aAx c.groups c.groups (by have:=h.gl; omega) (by have:=h.gl; omega)
 rw [decide_eq_true rfl] at h29
 have h37:=ZW ([]:List PR) [] ⟨by simp,by simp⟩ ⟨by simp,by simp⟩
 rw [decide_eq_true rfl] at h37
 have ho:=h.other
 refine bB c22 (by simp [f22]) ?_
 simp only [f22,ctv,ho,List.map_nil,aE,aC,↓gos,gop,qA,qB,qC,qD,qE,qF,qG,qH,qI]
 refine aV h29 rfl rfl ?_
 simp only [aE,aC,↓gos,gop,qA,qB,qC,qD,qE,qF,qG,qH,qI]
 refine aV h37 rfl rfl ?_
 simp only [aE,aC,↓gos,gop,qA,qB,qC,qD,qE,qF,qG,qH,qI]
 exact bH [] rfl rfl ⟨rfl,rfl⟩
end Go.Proofs.Ut
