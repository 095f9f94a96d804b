/- Contacts: contact.lines, rising, Right. -/
import Derived.Test.YtgamnnfndidclaaGreatDoorGYJ2
import Derived.Test.YtgamnnfndidclaaGreatDoorGYVcE
import Derived.Test.YtgamnnfndidclaaGreatDoorGYO2
open Nat renaming reduceBEq → qA,reduceAdd → qB,reduceSub → qC,reduceLeDiff → qD,reduceMul → qE
open Int renaming reduceLE → qF,reduceLT → qG,reduceNe → qH,reduceToNat → qI
set_option linter.all false
namespace Go.Proofs.Ut
open Go.Ai
set_option maxRecDepth 100000
def fA (s:List UInt8):Bool:=aW cG s 0&&decide (((rs s).length:Int)≤100)
theorem XA (s:List UInt8)(hs:s.length<100000000):aY 134 [.str s] (.bool (!fA s)):=by
 refine aA c134 (by simp [f134]) ?_
 simp only [f134,↓gos,gop,qA,qB,qC,qD,qE,qF,qG,qH,qI]
 refine aB (aCE rfl vED s 100 (by omega)) rfl rfl ?_
 show _
 unfold fA
 cases (aW cG s 0&&decide (((rs s).length:Int)≤100)) <;> simp only [↓gos,gop,qA,qB,qC,qD,qE,qF,qG,qH,qI] <;> exact aJ rfl
theorem QQ (l:List (List UInt8))(hl:l.length<1000000000)(hw:∀ s∈l,s.length<100000000):ACalls ED 176 [] [.sl 1 (l.map sv),.fn 134 []] (fun h d=>h=[]∧∃ n:Int,d=.int .i64 n∧(decide (0≤n)) = !l.all fA):=by
 refine aA c176 (by simp [f176]) ?_
 simp only [f176,↓gos,gop,qA,qB,qC,qD,qE,qF,qG,qH,qI]
 refine aM (γ:=Nat) (fun i=>[(8,.int .i64 i),(7,.int .i64 l.length),(0,.sl 1 (l.map sv)),(1,.fn 134 [])]) (fun _=>[]) (fun i=>i≤l.length∧(l.take i).all fA=true) (fun i=>l.length - i) 0
  (wks rfl (by simp) ⟨rfl,rfl,rfl,rfl,trivial⟩) ⟨by omega,by simp⟩ fun i hi=>?_
 obtain ⟨hi,ht⟩:=hi
 simp only [f176l0,↓gos,gop,qA,qB,qC,qD,qE,qF,qG,qH,qI]
 refine ⟨fun h=>?_,fun h=>?_⟩
 ·have h2:i<l.length:=by omega
  refine aU [] (by simpa using h2) ?_
  have htk:=rK h2 []
  have hm:l.getD i []∈l:=by rw [List.getD_eq_getElem?_getD,List.getElem?_eq_getElem h2]; exact List.getElem_mem h2
  generalize l.getD i []=s at *
  simp only [sv,↓gos,gop,qA,qB,qC,qD,qE,qF,qG,qH,qI]
  refine aB (XA s (hw s hm)) rfl rfl ?_
  cases hk:fA s
  ·simp only [↓gos,gop,qA,qB,qC,qD,qE,qF,qG,qH,qI]
   refine aC rfl ⟨rfl,_,rfl,?_⟩
   rw [show l.all fA=false by rw [List.all_eq_false]; exact ⟨s,hm,by simp [hk]⟩]; simp
  ·simp only [↓gos,gop,qA,qB,qC,qD,qE,qF,qG,qH,qI]
   intro v hv
   rw [wrap_i64 (by omega) (by omega)] at hv
   subst hv
   refine aQ (i+1) rfl (by simp) ⟨rfl,rfl,rfl,rfl,trivial⟩ ⟨by omega,?_⟩ (by omega)
   rw [htk,List.all_append,ht]; simp [hk]
 ·have h2:i=l.length:=by omega
  subst h2
  rw [List.take_length] at ht
  refine aC rfl ⟨rfl,_,rfl,?_⟩
  rw [ht]; rfl
theorem EZ (l:List (List UInt8))(hl:l.length<1000000000)(hw:∀ s∈l,s.length<100000000):aY 69 [.sl 1 (l.map sv)] (.bool (l.all fA)):=by
 have c133' : aY 133 [.sl 1 (l.map sv),.fn 134 []] (.bool (!l.all fA)):=by
  refine aA c133 (by simp [f133]) ?_
  simp only [f133,↓gos,gop,qA,qB,qC,qD,qE,qF,qG,qH,qI]
  refine fO (QQ l hl hw) rfl ⟨_,if l.all fA=true then -1 else 0,rfl,by split <;> simp_all⟩ ?_
  rintro d ⟨n,rfl,hn⟩
  refine ⟨rfl,?_⟩
  rw [← hn]
  simp only [↓gos,gop,qA,qB,qC,qD,qE,qF,qG,qH,qI]
  refine ⟨fun h=>aJ ?_,fun h=>aJ ?_⟩
  ·rw [decide_eq_true h]
  ·rw [decide_eq_false h]
 refine aA c69 (by simp [f69]) ?_
 simp only [f69,↓gos,gop,qA,qB,qC,qD,qE,qF,qG,qH,qI]
 refine aB c133' rfl rfl ?_
 cases l.all fA <;> simp only [Bool.not_true,Bool.not_false,↓gos,gop,qA,qB,qC,qD,qE,qF,qG,qH,qI] <;> exact aJ rfl
def xS (l:List (List UInt8))(i:Nat):Bool := !decide (l.getD i []=[])&&(decide (i=0) || !(Op.bytesLess (l.getD i []) (l.getD (i - 1) [])||decide (l.getD i []=l.getD (i - 1) [])))
def UH (l:List (List UInt8)):Bool:=(List.range l.length).all (xS l)
def dU (l:List (List UInt8)):Bool:=UH l&&decide (l.length≤8)&&l.all fA
theorem PY (l:List (List UInt8))(hl:l.length<1000000000)(hw:∀ s∈l,s.length<100000000):aY 68 [.sl 1 (l.map sv)] (.bool (dU l)):=by
 refine aA c68 (by simp [f68]) ?_
 simp only [f68,↓gos,gop,qA,qB,qC,qD,qE,qF,qG,qH,qI]
 refine aM (γ:=Nat) (fun i=>[(7,.int .i64 i),(6,.int .i64 l.length),(5,.sl 1 (l.map sv)),(0,.sl 1 (l.map sv))]) (fun _=>[]) (fun i=>i≤l.length∧(List.range i).all (xS l)=true) (fun i=>l.length - i) 0
  (wks rfl (by simp) ⟨rfl,rfl,rfl,rfl,trivial⟩) ⟨by omega,by simp⟩ fun i hi=>?_
 obtain ⟨hi,ht⟩:=hi
 simp only [f68l0,↓gos,gop,qA,qB,qC,qD,qE,qF,qG,qH,qI]
 refine ⟨fun h=>?_,fun h=>?_⟩
 ·have h2:i<l.length:=by omega
  have hr:(List.range (i+1)).all (xS l)=xS l i:=by rw [List.range_succ,List.all_append,ht]; simp
  have bad:xS l i=false→dU l=false:=fun h=>by
   unfold dU UH
   rw [show (List.range l.length).all (xS l)=false by rw [List.all_eq_false]; exact ⟨i,by simpa using h2,by simp [h]⟩]; rfl
  refine aU [] (by simpa using h2) ?_
  rw [show xS l i=(!decide (l.getD i []=[])&&(decide (i=0) || !(Op.bytesLess (l.getD i []) (l.getD (i - 1) [])||decide (l.getD i []=l.getD (i - 1) [])))) from rfl] at hr bad
  generalize l.getD i []=s at *
  simp only [sv,↓gos,gop,qA,qB,qC,qD,qE,qF,qG,qH,qI]
  refine ⟨fun q=>?_,fun q=>⟨fun q2 v hv=>?_,fun q2 v hv=>?_⟩⟩
  ·rw [bad (by rw [decide_eq_true q]; rfl)]
   exact aC rfl ⟨rfl,rfl⟩
  ·rw [wrap_i64 (by omega) (by omega)] at hv
   have hv' : v.toNat=i - 1:=by omega
   rw [hv']
   refine aO (by omega) (aU [] (by omega) ?_)
   rw [decide_eq_false q,decide_eq_false (show ¬ i=0 by omega),Bool.false_or,Bool.not_false,Bool.true_and] at hr bad
   refine ⟨fun q3=>?_,fun q3 w hw' => ?_⟩
   ·rw [bad (by rw [q3]; rfl)]
    exact aC rfl ⟨rfl,rfl⟩
   ·rw [q3] at hr
    rw [wrap_i64 (by omega) (by omega)] at hw'
    subst hw'
    exact aQ (i+1) rfl (by simp) ⟨rfl,rfl,rfl,rfl,trivial⟩ ⟨by omega,hr⟩ (by omega)
  ·rw [decide_eq_false q,decide_eq_true (show i=0 by omega)] at hr
   rw [wrap_i64 (by omega) (by omega)] at hv
   subst hv
   exact aQ (i+1) rfl (by simp) ⟨rfl,rfl,rfl,rfl,trivial⟩ ⟨by omega,hr⟩ (by omega)
 ·have h2:i=l.length:=by omega
  subst h2
  refine ⟨fun q=>?_,fun q=>?_⟩
  ·refine aB (EZ l hl hw) rfl rfl ?_
   simp only [↓gos,gop,qA,qB,qC,qD,qE,qF,qG,qH,qI]
   refine aJ ?_
   unfold dU UH
   rw [ht,decide_eq_true (by omega)]; rfl
  ·refine aJ ?_
   unfold dU
   rw [decide_eq_false (by omega)]; simp
theorem pX (m:Int→List Int)(p:Int→Bool)(hm:∀ c,(m c).length≤2)(s:List UInt8):(nC m p s).1.length≤8*s.length:=by
 have h1:=OL s
 have h2:∀ l:List Int,(l.flatMap m).length≤2*l.length:=fun l=>by
  induction l with
  | nil=>simp
  | cons x l ih=>have:=hm x; simp only [List.flatMap_cons,List.length_append,List.length_cons]; omega
 have h3:∀ l:List Int,(l.flatMap en).length≤4*l.length:=fun l=>by
  induction l with
  | nil=>simp
  | cons x l ih=>have:=vV x; simp only [List.flatMap_cons,List.length_append,List.length_cons]; omega
 have h4:=h2 (rs s)
 have h5:=h3 ((rs s).flatMap m)
 unfold nC
 split
 ·split
  ·simp
  ·split
   ·show (((rs s).flatMap m).flatMap en).length≤_; omega
   ·simp
 ·simp
theorem aBD {s:List UInt8}(hs:s.length<100000000):okJ s:=fun x hx=>by
 have h1:=pX cS DZ jK x
 have h2:=pX cS FG jK x
 have h3:=pX jY (fun c => !CF c) rA x
 refine ⟨?_,?_,?_⟩
 ·unfold nH; omega
 ·unfold jZ; omega
 ·unfold BD; omega
theorem OU (s:List UInt8)(hs:s.length<100000000):SE 63 [.str s] (lN s):=aCx s hs (aBD hs)
structure CT where
 name:List UInt8
 family:List UInt8
 given:List UInt8
 nick:List UInt8
 jid:List UInt8
 email:List UInt8
 tel:List UInt8
 note:List UInt8
 uid:List UInt8
 groups:List (List UInt8)
 other:List PR
def ctv (c:CT):List DV:=[.str c.name,.str c.family,.str c.given,.str c.nick,.str c.jid,.str c.email,.str c.tel,.str c.note,.str c.uid,.sl 1 (c.groups.map sv),.sl 4 (c.other.map pv)]
structure okS (c:CT):Prop where
 name:c.name.length<100000000
 family:c.family.length<100000000
 given:c.given.length<100000000
 nick:c.nick.length<100000000
 jid:c.jid.length<100000000
 email:c.email.length<100000000
 tel:c.tel.length<100000000
 note:c.note.length<100000000
 uid:c.uid.length<100000000
 gl:c.groups.length<1000000000
 gs:∀ s∈c.groups,s.length<100000000
 ol:c.other.length<1000000000
 ow:wtC c.other
def nA (s:List UInt8):Bool:=decide (s=[])||(decide ((lN s).2=0)&&decide ((lN s).1=s))
def lC (s:List UInt8):Bool:=aW bR s 0 && !s.contains 13&&decide ((rs s).length≤500)
def sB (c:CT):Bool:=[c.name,c.family,c.given,c.nick,c.email,c.tel,c.uid].all fA
def cV (c:CT):Bool := !decide (c.name=[])&&nA c.jid&&decide (c.other.length≤40)&&lC c.note&&decide ((iL [c.other]).2=0)&&dU c.groups&&sB c
theorem AH (s:List UInt8)(hs:s.length<1000000000):aY 65 [.str s,.str [13]] (.bool (s.contains 13)):=by
 refine aA c65 (by simp [f65]) ?_
 simp only [f65,↓gos,gop,qA,qB,qC,qD,qE,qF,qG,qH,qI]
 refine aB (DY s [13] hs) rfl rfl ?_
 rw [Lib.index_one]
 simp only [↓gos,gop,qA,qB,qC,qD,qE,qF,qG,qH,qI]
 have h:=Lib.indexByte_ge s 13
 rcases jP 13 s with ⟨h1,h2⟩|⟨n,h1,h2,h3⟩
 ·refine ⟨fun q=>absurd q (by omega),fun q=>aJ ?_⟩
  have hno:13∉s:=fun hm=>by
   obtain ⟨x,r,rfl,hx⟩:=List.eq_append_cons_of_mem hm
   rw [mX 13 r x hx] at h1
   omega
  simp [hno]
 ·refine ⟨fun q=>aJ ?_,fun q=>absurd h1 (by omega)⟩
  have:=(DC 13 s (by rw [h3])).1
  rw [this]; simp
theorem DA (c:CT)(hc:okS c):aY 35 [.agg (ctv c)] (.bool (cV c)):=by
 refine aA c35 (by simp [f35]) ?_
 simp only [f35,ctv,↓gos,gop,qA,qB,qC,qD,qE,qF,qG,qH,qI]
 refine aB (OU c.jid hc.jid) rfl rfl ?_
 have no:∀ h,cV c=false→dY 0 (fun h d=>h=[]∧d=DV.bool (cV c)) (some [DV.bool false]) h:=fun h e=>by rw [e]; exact aC rfl ⟨rfl,rfl⟩
 have hnote:=hc.note
 simp only [↓gos,gop,qA,qB,qC,qD,qE,qF,qG,qH,qI]
 refine ⟨fun q=>no _ (by unfold cV; simp [q]),fun q1=>⟨fun q2=>⟨fun q3=>no _ (by unfold cV nA; simp [q2,q3]),fun q3=>⟨fun q4=>no _ (by unfold cV nA; simp [q2,q4]),fun q4=>
  have hJ:nA c.jid=true:=by unfold nA; simp [q3,q4]
  ⟨fun q5=>no _ (by unfold cV; rw [decide_eq_false (show ¬ c.other.length≤40 by omega)]; simp),fun q5=>?_⟩⟩⟩,
  fun q2=>have hJ:nA c.jid=true:=by unfold nA; simp [q2]
  ⟨fun q5=>no _ (by unfold cV; rw [decide_eq_false (show ¬ c.other.length≤40 by omega)]; simp),fun q5=>?_⟩⟩⟩
 all_goals
  have hR:cV c=(lC c.note&&decide ((iL [c.other]).2=0)&&dU c.groups&&sB c):=by
   unfold cV; rw [decide_eq_false q1,hJ,decide_eq_true (show c.other.length≤40 by omega)]; simp
  refine aB (vM c.note (by omega)) rfl rfl ?_
  cases hv:aW bR c.note 0
  ·simp only [↓gos,gop,qA,qB,qC,qD,qE,qF,qG,qH,qI]
   exact no _ (by rw [hR]; unfold lC; simp [hv])
  ·simp only [↓gos,gop,qA,qB,qC,qD,qE,qF,qG,qH,qI]
   refine aB (AH c.note (by omega)) rfl rfl ?_
   cases h13:c.note.contains 13
   ·simp only [↓gos,gop,qA,qB,qC,qD,qE,qF,qG,qH,qI]
    refine aB (FJ rfl vED c.note (by omega)) rfl rfl ?_
    simp only [↓gos,gop,qA,qB,qC,qD,qE,qF,qG,qH,qI]
    refine ⟨fun q=>no _ (by rw [hR]; unfold lC; rw [decide_eq_false (show ¬ (rs c.note).length≤500 by omega)]; simp),fun q=>?_⟩
    have hN:lC c.note=true:=by unfold lC; rw [hv,h13,decide_eq_true (show (rs c.note).length≤500 by omega)]; rfl
    refine aB (RO [c.other] (by simp) (by simpa using ⟨hc.ol,hc.ow⟩)) rfl rfl ?_
    simp only [↓gos,gop,qA,qB,qC,qD,qE,qF,qG,qH,qI]
    refine ⟨fun q6=>?_,fun q6=>?_⟩
    ·refine aB (PY c.groups hc.gl hc.gs) rfl rfl ?_
     cases hg:dU c.groups
     ·simp only [↓gos,gop,qA,qB,qC,qD,qE,qF,qG,qH,qI]
      exact no _ (by rw [hR,hg]; simp)
     ·simp only [↓gos,gop,qA,qB,qC,qD,qE,qF,qG,qH,qI]
      refine aB (EZ [c.name,c.family,c.given,c.nick,c.email,c.tel,c.uid] (by simp) (by simpa using ⟨hc.name,hc.family,hc.given,hc.nick,hc.email,hc.tel,hc.uid⟩)) rfl rfl ?_
      simp only [↓gos,gop,qA,qB,qC,qD,qE,qF,qG,qH,qI]
      rw [hR,hN,hg,decide_eq_true (by simpa using q6)]
      exact aC rfl ⟨rfl,by unfold sB; simp [rvd]⟩
    ·exact no _ (by rw [hR,decide_eq_false (by simpa using q6)]; simp)
   ·simp only [↓gos,gop,qA,qB,qC,qD,qE,qF,qG,qH,qI]
    exact no _ (by rw [hR]; unfold lC; rw [h13]; simp)
end Go.Proofs.Ut
