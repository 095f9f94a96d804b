/- What play.Contact hands back is right: plain law. -/
import Derived.Test.YtgamnnfndidclaaGreatDoorCYY3
import Derived.Test.YtgamnnfndidclaaGreatDoorCYX11
import Derived.Test.YtgamnnfndidclaaGreatDoorCYK
import Derived.Test.YtgamnnfndidclaaGreatDoorCAiUn
open Nat renaming reduceBEq → qA,reduceAdd → qB,reduceSub → qC,reduceLeDiff → qD,reduceMul → qE
open Int renaming reduceLE → qF,reduceLT → qG,reduceNe → qH,reduceToNat → qI
set_option linter.all false
namespace Go.Proofs.Ut
open Go.Ai
set_option maxRecDepth 100000
def jidD:List (List UInt8):=[[97,64,104],[98,64,104],[99,64,104],[100,64,120,46,121],[104]]
def tC (s:List UInt8)(k:Nat):List UInt8:=if (dM s).2=0 then (dM s).1 else jidD.getD (k % 5) []
def bL (c:CT):CT:=
  { name:=if aP c.name 100=[] then [110] else aP c.name 100,family:=aP c.family 50,given:=aP c.given 50,nick:=aP c.nick 50,
    jid:=if c.jid=[] then [] else tC c.jid c.jid.length,email:=aP c.email 50,tel:=aP c.tel 50,note:=aP c.note 200,uid:=aP c.uid 50,
    groups:=dD ((c.groups.take 4).map fun s=>aP s 30),other:=[] }
theorem aBH:∀ k:Fin 5,dM (jidD.getD k.val [])=(jidD.getD k.val [],0)∧(jidD.getD k.val []).length≤200:=by decide +kernel
theorem IR (s:List UInt8)(k:Nat):dM (tC s k)=(tC s k,0)∧(tC s k).length≤200:=by
 unfold tC
 split
 ·rename_i h; exact LX s h
 ·exact aBH ⟨k % 5,Nat.mod_lt _ (by decide)⟩
theorem yW (s:List UInt8)(m:Nat)(hm:m≤100):fM (aP s m)=true:=by
 have h:=mF s m
 unfold fM
 rw [h.1,Bool.true_and]
 exact decide_eq_true (by have:=h.2; omega)
theorem aAj (s:List UInt8):mL (aP s 200)=true:=by
 have h:=mF s 200
 have h1:=h.1
 rw [pU,Bool.and_eq_true] at h1
 unfold mL
 rw [h1.1,decide_eq_true (by have:=h.2; omega)]
 have:(aP s 200).contains 13=false:=by
  cases q:(aP s 200).contains 13
  ·rfl
  ·exact absurd rfl (vU h.1 13 (by simpa using q))
 rw [this]; rfl
theorem rP (c:CT):lN (bL c).jid=true∧(bL c).jid.length≤200:=by
 show lN (if c.jid=[] then [] else tC c.jid c.jid.length)=true∧(if c.jid=[] then [] else tC c.jid c.jid.length).length≤200
 split
 ·exact ⟨rfl,by simp⟩
 ·have h:=IR c.jid c.jid.length
  refine ⟨?_,h.2⟩
  unfold lN
  rw [h.1]; simp
theorem iE (c:CT):eB (bL c).groups=true∧(bL c).groups.length≤4∧St2 Op.bytesLess (bL c).groups∧∀ s∈(bL c).groups,s≠[]∧s.length≤120∧∃ t,s=aP t 30:=by
 show eB (dD ((c.groups.take 4).map fun s=>aP s 30))=true∧(dD ((c.groups.take 4).map fun s=>aP s 30)).length≤4∧St2 Op.bytesLess (dD ((c.groups.take 4).map fun s=>aP s 30)) ∧
  ∀ s∈dD ((c.groups.take 4).map fun s=>aP s 30),s≠[]∧s.length≤120∧∃ t,s=aP t 30
 obtain ⟨h1,h2,h3⟩:=tF ((c.groups.take 4).map fun s=>aP s 30)
 have h4:((c.groups.take 4).map fun s=>aP s 30).length≤4:=by rw [List.length_map,List.length_take]; omega
 have h5:∀ s∈dD ((c.groups.take 4).map fun s=>aP s 30),s≠[]∧∃ t,s=aP t 30:=fun s hs=>by
  obtain ⟨q1,q2⟩:=h3 s hs
  obtain ⟨t,_,e⟩:=List.mem_map.1 q1
  exact ⟨q2,t,e.symm⟩
 refine ⟨GB h1 (by omega) fun x hx=>?_,by omega,h1,fun s hs=>?_⟩
 ·obtain ⟨q1,t,rfl⟩:=h5 x hx
  exact ⟨q1,yW t 30 (by omega)⟩
 ·obtain ⟨q1,t,rfl⟩:=h5 s hs
  have:=oD t 30
  exact ⟨q1,by omega,t,rfl⟩
theorem kI (c:CT):(bL c).name≠[]∧fM (bL c).name=true∧(bL c).name.length≤400:=by
 show (if aP c.name 100=[] then [110] else aP c.name 100)≠[]∧fM (if aP c.name 100=[] then [110] else aP c.name 100)=true∧(if aP c.name 100=[] then [110] else aP c.name 100).length≤400
 split
 ·exact ⟨by simp,by decide +kernel,by simp⟩
 ·rename_i h
  have:=oD c.name 100
  exact ⟨h,yW c.name 100 (by omega),by omega⟩
theorem WW {c:CT}(h1:c.name≠[])(h2:lN c.jid=true)(h3:c.other=[])(h4:mL c.note=true)(h5:eB c.groups=true)(h6:zK c=true):dC c=true:=by
 have hw:(lH [([]:List PR)]).2=0:=by decide +kernel
 unfold dC
 rw [decide_eq_false h1,h2,h3,h4,h5,h6,hw]; rfl
theorem wJ (c:CT):dC (bL c)=true:=by
 refine WW (kI c).1 (rP c).1 rfl (aAj c.note) (iE c).1 ?_
 have h1:=(kI c).2.1
 have h2:∀ s:List UInt8,fM (aP s 50)=true:=fun s=>yW s 50 (by omega)
 show [(bL c).name,aP c.family 50,aP c.given 50,aP c.nick 50,aP c.email 50,aP c.tel 50,aP c.uid 50].all fM=true
 simp only [List.all_cons,List.all_nil,h1,h2]; rfl
theorem FF (c:CT):okS (bL c):=by
 have h50:=fun s=>oD s 50
 have h200:=oD c.note 200
 have h1:=(kI c).2.2
 have h2:=(rP c).2
 have h3:=iE c
 refine ⟨by omega,?_,?_,?_,by omega,?_,?_,?_,?_,by omega,fun s hs=>by have:=(h3.2.2.2 s hs).2.1; omega,by show (0:Nat)<1000000000; omega,fun p hp=>by cases hp⟩
 ·have:=h50 c.family; show (aP c.family 50).length<100000000; omega
 ·have:=h50 c.given; show (aP c.given 50).length<100000000; omega
 ·have:=h50 c.nick; show (aP c.nick 50).length<100000000; omega
 ·have:=h50 c.email; show (aP c.email 50).length<100000000; omega
 ·have:=h50 c.tel; show (aP c.tel 50).length<100000000; omega
 ·show (aP c.note 200).length<100000000; omega
 ·have:=h50 c.uid; show (aP c.uid 50).length<100000000; omega
def gI (l:List (List UInt8))(i:Nat):List (List UInt8):=(l.take i).foldl gin []
theorem aFF (l:List (List UInt8))(i:Nat):(gI l i).length≤i:=by
 have h:=(tF (l.take i)).2.1
 rw [List.length_take] at h
 have:(gI l i).length≤min i l.length:=h
 omega
theorem aAc {l:List (List UInt8)}{i:Nat}(h:i<l.length):gI l (i+1)=gin (gI l i) (l.getD i []):=by
 unfold gI
 rw [CD h [],List.foldl_append]; rfl
theorem aKo {out:List (List UInt8)}{k:Nat}(h:k<out.length):(out.map sv)[k]?=some (sv (out.getD k [])):=by
 rw [List.getElem?_map,List.getD_eq_getElem?_getD,List.getElem?_eq_getElem h]; rfl
set_option maxHeartbeats 4000000 in
theorem xK (l:List (List UInt8))(hl:l.length<1000000):aU 30 [.sl 1 (l.map sv)] (.sl 1 ((dD l).map sv)):=by
  refine bB c30 (by simp [f30]) ?_
  simp only [f30,aE,aC,↓gos,gop,qA,qB,qC,qD,qE,qF,qG,qH,qI]
  refine aJ (γ:=Nat) (fun i=>[(4,.int .i64 i),(3,.osl 1 1 0 (gI l i).length none),(2,.osl 1 0 0 0 none),(0,.sl 1 (l.map sv))]) (fun i=>[.arr 1 [],.arr 1 ((gI l i).map sv)])
    (fun i=>i≤l.length) (fun i=>l.length - i) 0
    (wks rfl (by simp) ⟨rfl,rfl,rfl,rfl,trivial⟩) (by omega) fun i hi=>?_
  have hgl:=aFF l i
  have hone:IntKind.i64.wrap ((i:Int)+1)=((i+1:Nat):Int):=by rw [wrap_i64 (by omega) (by omega)]; rfl
  simp only [f30l1,hone,forall_eq,aE,aC,↓gos,gop,qA,qB,qC,qD,qE,qF,qG,qH,qI]
  refine ⟨fun h=>?_,fun h=>?_⟩
  · have h2:i<l.length:=by omega
    have hnx:=aAc h2
    have hat:(l.map sv)[i]?=some (sv (l.getD i [])):=aKo h2
    have hge:=QB (l.getD i []) (gI l i)
    generalize hxx:l.getD i []=x at *
    generalize hoo:gI l i=out at *
    refine aJ (γ:=Nat) (fun k=>[(5,.int .i64 k),(4,.int .i64 i),(3,.osl 1 1 0 out.length none),(2,.osl 1 0 0 0 none),(0,.sl 1 (l.map sv))]) (fun k=>[.arr 1 [],.arr 1 (out.map sv)])
      (fun k=>k≤out.length∧∀ j,j<k→Op.bytesLess (out.getD j []) x=true) (fun k=>out.length - k) 0
      (wks rfl (by simp) ⟨rfl,rfl,rfl,rfl,rfl,trivial⟩) ⟨by omega,fun j hj=>by omega⟩ fun k ⟨hk,hlt⟩=>?_
    have honek:IntKind.i64.wrap ((k:Int)+1)=((k+1:Nat):Int):=by rw [wrap_i64 (by omega) (by omega)]; rfl
    have hlx:l[i]?=some x:=by rw [← hxx,List.getD_eq_getElem?_getD,List.getElem?_eq_getElem h2]; rfl
    have kx:k=out.length∨Op.bytesLess (out.getD k []) x=false→gK x out=k:=fun q=>aDz x out k hlt hk q
    have same:(x=[]∨(gK x out<out.length∧out.getD (gK x out) []=x))→gI l (i+1)=out:=fun q=>by
      rw [hnx,gin]
      rcases q with q|q
      · rw [if_pos q]
      · by_cases hx:x=[]
        · rw [if_pos hx]
        · rw [if_neg hx,hge,if_pos q]
    have ins:x≠[]→¬ (gK x out<out.length∧out.getD (gK x out) []=x)→gI l (i+1)=out.take (gK x out)++x::out.drop (gK x out):=fun q1 q2=>by
      rw [hnx,gin,if_neg q1,hge,if_neg q2]
    simp only [f30l0,honek,hone,hlx,sv,forall_eq,aE,aC,↓gos,gop,qA,qB,qC,qD,qE,qF,qG,qH,qI]
    refine ⟨fun h3=>?_,fun h3=>?_⟩
    · have h4:k<out.length:=by omega
      have hok:out[k]?=some (out.getD k []):=by rw [List.getD_eq_getElem?_getD,List.getElem?_eq_getElem h4]; rfl
      simp only [hok,hone,sv,forall_eq,aE,aC,↓gos,gop,qA,qB,qC,qD,qE,qF,qG,qH,qI]
      refine aK (by omega) ⟨fun h5=>?_,fun h5=>?_⟩
      · refine aN (k+1) rfl (by simp) ⟨rfl,rfl,rfl,rfl,rfl,trivial⟩ ⟨h4,fun j hj=>?_⟩ (by omega)
        rcases Nat.lt_or_ge j k with q|q
        · exact hlt j q
        · rw [show j=k by omega]; exact h5
      · have hk2:=kx (.inr h5)
        rw [hk2] at same ins
        refine ⟨fun q1=>?_,fun q1=>⟨fun q2=>aK (by omega) ⟨fun q3=>?_,fun q3=>?_⟩,fun q2=>absurd h3 q2⟩⟩
        · rw [← same (.inl q1)]
          exact aN (i+1) rfl (by simp) ⟨rfl,rfl,rfl,rfl,trivial⟩ h2 (by omega)
        · rw [← same (.inr ⟨h4,q3⟩)]
          exact aN (i+1) rfl (by simp) ⟨rfl,rfl,rfl,rfl,trivial⟩ h2 (by omega)
        · have hins:=ins q1 (fun q=>q3 q.2)
          have hlen:(List.take k (List.map sv out)).length+1+(List.take (out.length - k) (List.drop k (List.map sv out))).length=(gI l (i+1)).length:=by
            rw [hins]; simp only [List.length_take,List.length_map,List.length_append,List.length_cons,List.length_drop]; omega
          have hrow:List.take ((List.take k (List.map sv out)).length+1) (List.take k (List.map sv out)++[[DV.str x]])++List.take (out.length - k) (List.drop k (List.map sv out))=(gI l (i+1)).map sv:=by
            rw [hins,List.take_of_length_le (by simp),List.take_of_length_le (l:=List.drop k (List.map sv out)) (by simp),← List.map_take,← List.map_drop]
            simp [sv]
          refine sJ [(4,.int .i64 i),(3,.osl 1 1 0 (gI l (i+1)).length none),(2,.osl 1 0 0 0 none),(0,.sl 1 (l.map sv))] [.arr 1 [],.arr 1 ((gI l (i+1)).map sv)] ?_ (fun hkk=>?_) (fun hkk=>?_)
          · simp only [hone,forall_eq,aE,aC,↓gos,gop,qA,qB,qC,qD,qE,qF,qG,qH,qI]
            exact aN (i+1) rfl (by simp) ⟨rfl,rfl,rfl,rfl,trivial⟩ h2 (by omega)
          · rw [jY]
            simp only [hlx,sv,aE,aC,↓gos,gop,qA,qB,qC,qD,qE,qF,qG,qH,qI]
            repeat (refine aK (by first | omega | (simp only [List.length_take,List.length_map,List.length_append,List.length_cons,List.length_nil,List.length_drop]; omega)) ?_)
            refine jF ?_ hkk
            first
              | exact wkp [0,2] (by decide) (by simp) (fun i h=>by omega) (by simp) (congrArg (fun e=>[AObj.arr 1 [],.arr 1 e]) hrow) (by
                  intro l hl
                  simp only [List.mem_cons,List.not_mem_nil,or_false] at hl
                  rcases hl with rfl|rfl <;> rfl) ⟨rfl,rfl,congrArg (fun n=>DV.osl 1 1 0 n none) hlen,rfl,rfl,rfl,rfl,rfl,trivial⟩
              | exact wkp [0,3] (by decide) (by simp) (fun i h=>by omega) (by simp) (congrArg (fun e=>[AObj.arr 1 [],.arr 1 e]) hrow) (by
                  intro l hl
                  simp only [List.mem_cons,List.not_mem_nil,or_false] at hl
                  rcases hl with rfl|rfl <;> rfl) ⟨rfl,rfl,congrArg (fun n=>DV.osl 1 1 0 n none) hlen,rfl,rfl,rfl,rfl,rfl,trivial⟩
          · repeat' refine nS ?_ ?_
            all_goals
              rw [jY]
              simp only [hlx,sv,aE,aC,↓gos,gop,qA,qB,qC,qD,qE,qF,qG,qH,qI]
              repeat (refine aK (by first | omega | (simp only [List.length_take,List.length_map,List.length_append,List.length_cons,List.length_nil,List.length_drop]; omega)) ?_)
              refine jF ?_ hkk
              first
                | exact wkp [0,2] (by decide) (by simp) (fun i h=>by omega) (by simp) (congrArg (fun e=>[AObj.arr 1 [],.arr 1 e]) hrow) (by
                    intro l hl
                    simp only [List.mem_cons,List.not_mem_nil,or_false] at hl
                    rcases hl with rfl|rfl <;> rfl) ⟨rfl,rfl,congrArg (fun n=>DV.osl 1 1 0 n none) hlen,rfl,rfl,rfl,rfl,rfl,trivial⟩
                | exact wkp [0,3] (by decide) (by simp) (fun i h=>by omega) (by simp) (congrArg (fun e=>[AObj.arr 1 [],.arr 1 e]) hrow) (by
                    intro l hl
                    simp only [List.mem_cons,List.not_mem_nil,or_false] at hl
                    rcases hl with rfl|rfl <;> rfl) ⟨rfl,rfl,congrArg (fun n=>DV.osl 1 1 0 n none) hlen,rfl,rfl,rfl,rfl,rfl,trivial⟩
    · have hk2:=kx (.inl (by omega))
      rw [hk2] at same ins
      refine ⟨fun q1=>?_,fun q1=>⟨fun q2=>absurd q2 h3,fun q2=>?_⟩⟩
      · rw [← same (.inl q1)]
        exact aN (i+1) rfl (by simp) ⟨rfl,rfl,rfl,rfl,trivial⟩ h2 (by omega)
      · have hins:=ins q1 (fun q=>h3 (by have:=q.1; omega))
        have hlen:(List.take k (List.map sv out)).length+1+(List.take (out.length - k) (List.drop k (List.map sv out))).length=(gI l (i+1)).length:=by
          rw [hins]; simp only [List.length_take,List.length_map,List.length_append,List.length_cons,List.length_drop]; omega
        have hrow:List.take ((List.take k (List.map sv out)).length+1) (List.take k (List.map sv out)++[[DV.str x]])++List.take (out.length - k) (List.drop k (List.map sv out))=(gI l (i+1)).map sv:=by
          rw [hins,List.take_of_length_le (by simp),List.take_of_length_le (l:=List.drop k (List.map sv out)) (by simp),← List.map_take,← List.map_drop]
          simp [sv]
        refine sJ [(4,.int .i64 i),(3,.osl 1 1 0 (gI l (i+1)).length none),(2,.osl 1 0 0 0 none),(0,.sl 1 (l.map sv))] [.arr 1 [],.arr 1 ((gI l (i+1)).map sv)] ?_ (fun hkk=>?_) (fun hkk=>?_)
        · simp only [hone,forall_eq,aE,aC,↓gos,gop,qA,qB,qC,qD,qE,qF,qG,qH,qI]
          exact aN (i+1) rfl (by simp) ⟨rfl,rfl,rfl,rfl,trivial⟩ h2 (by omega)
        · rw [jY]
          simp only [hlx,sv,aE,aC,↓gos,gop,qA,qB,qC,qD,qE,qF,qG,qH,qI]
          repeat (refine aK (by first | omega | (simp only [List.length_take,List.length_map,List.length_append,List.length_cons,List.length_nil,List.length_drop]; omega)) ?_)
          refine jF ?_ hkk
          first
            | exact wkp [0,2] (by decide) (by simp) (fun i h=>by omega) (by simp) (congrArg (fun e=>[AObj.arr 1 [],.arr 1 e]) hrow) (by
                intro l hl
                simp only [List.mem_cons,List.not_mem_nil,or_false] at hl
                rcases hl with rfl|rfl <;> rfl) ⟨rfl,rfl,congrArg (fun n=>DV.osl 1 1 0 n none) hlen,rfl,rfl,rfl,rfl,rfl,trivial⟩
            | exact wkp [0,3] (by decide) (by simp) (fun i h=>by omega) (by simp) (congrArg (fun e=>[AObj.arr 1 [],.arr 1 e]) hrow) (by
                intro l hl
                simp only [List.mem_cons,List.not_mem_nil,or_false] at hl
                rcases hl with rfl|rfl <;> rfl) ⟨rfl,rfl,congrArg (fun n=>DV.osl 1 1 0 n none) hlen,rfl,rfl,rfl,rfl,rfl,trivial⟩
        · repeat' refine nS ?_ ?_
          all_goals
            rw [jY]
            simp only [hlx,sv,aE,aC,↓gos,gop,qA,qB,qC,qD,qE,qF,qG,qH,qI]
            repeat (refine aK (by first | omega | (simp only [List.length_take,List.length_map,List.length_append,List.length_cons,List.length_nil,List.length_drop]; omega)) ?_)
            refine jF ?_ hkk
            first
              | exact wkp [0,2] (by decide) (by simp) (fun i h=>by omega) (by simp) (congrArg (fun e=>[AObj.arr 1 [],.arr 1 e]) hrow) (by
                  intro l hl
                  simp only [List.mem_cons,List.not_mem_nil,or_false] at hl
                  rcases hl with rfl|rfl <;> rfl) ⟨rfl,rfl,congrArg (fun n=>DV.osl 1 1 0 n none) hlen,rfl,rfl,rfl,rfl,rfl,trivial⟩
              | exact wkp [0,3] (by decide) (by simp) (fun i h=>by omega) (by simp) (congrArg (fun e=>[AObj.arr 1 [],.arr 1 e]) hrow) (by
                  intro l hl
                  simp only [List.mem_cons,List.not_mem_nil,or_false] at hl
                  rcases hl with rfl|rfl <;> rfl) ⟨rfl,rfl,congrArg (fun n=>DV.osl 1 1 0 n none) hlen,rfl,rfl,rfl,rfl,rfl,trivial⟩
  · have h2:i=l.length:=by omega
    subst h2
    have e:gI l l.length=dD l:=by unfold gI dD; rw [List.take_length]
    rw [← e]
    exact bH [1] (sU rfl (by simp) rfl) (by rfl) ⟨rfl,rfl⟩
end Go.Proofs.Ut

namespace Go.Proofs.Ut
open Go.Ai Go.Shelf Go.RowKit
set_option linter.unusedSimpArgs false
set_option linter.unusedVariables false
set_option maxHeartbeats 1000000
set_option maxRecDepth 100000
theorem aGV (a b:List UInt8×List UInt8):aU 142 [.agg (av a),.agg (av b)] (.bool (decide (a=b))):=by
 refine aA c142 (by simp [f142]) ?_
 obtain ⟨a1,a2⟩:=a
 obtain ⟨b1,b2⟩:=b
 simp only [f142,av,↓gos,gop,qA,qB,qC,qD,qE,qF,qG,qH,qI]
 refine ⟨fun h=>aG ?_,fun h=>aG ?_⟩
 ·rw [decide_eq_true (by rw [h.1,h.2])]
 ·rw [decide_eq_false]
  intro e
  obtain ⟨rfl,rfl⟩:=Prod.mk.inj e
  simp at h
theorem aHm (a b:List (List UInt8×List UInt8))(ha:a.length<1000000000)(hb:b.length<1000000000):aU 141 [.sl 2 (a.map av),.sl 2 (b.map av),.fn 142 []] (.bool (decide (a=b))):=by
 refine aA c141 (by simp [f141]) ?_
 simp only [f141,↓gos,gop,qA,qB,qC,qD,qE,qF,qG,qH,qI]
 refine ⟨fun h=>aG ?_,fun h=>?_⟩
 ·rw [decide_eq_false]
  intro e; apply h; rw [e]
 ·have hl:a.length=b.length:=by omega
  refine aJ (γ:=Nat) (fun i=>[(7,.int .i64 i),(0,.sl 2 (a.map av)),(1,.sl 2 (b.map av)),(2,.fn 142 [])]) (fun _=>[]) (fun i=>i≤a.length∧a.take i=b.take i) (fun i=>a.length - i) 0
   (wks rfl (by simp) ⟨rfl,rfl,rfl,rfl,trivial⟩) ⟨by omega,by simp⟩ fun i hi=>?_
  obtain ⟨hi,ht⟩:=hi
  simp only [f141l0,↓gos,gop,qA,qB,qC,qD,qE,qF,qG,qH,qI]
  refine ⟨fun h1=>?_,fun h1=>?_⟩
  ·have h2:i<a.length:=by omega
   have hd:=uD hl ht h2 default
   refine aL default (by simpa using h2) ?_
   simp only [av,↓gos,gop,qA,qB,qC,qD,qE,qF,qG,qH,qI]
   refine aL default (by omega) ?_
   generalize a.getD i default=x at hd ⊢
   generalize b.getD i default=y at hd ⊢
   refine aB (aGV x y) rfl rfl ?_
   by_cases hxy:x=y
   ·rw [decide_eq_true hxy]
    simp only [↓gos,gop,qA,qB,qC,qD,qE,qF,qG,qH,qI]
    intro v hv
    rw [wrap_i64 (by omega) (by omega)] at hv
    subst hv
    exact aN (i+1) rfl (by simp) ⟨rfl,rfl,rfl,rfl,trivial⟩ ⟨by omega,hd.1 hxy⟩ (by omega)
   ·rw [decide_eq_false hxy]
    simp only [↓gos,gop,qA,qB,qC,qD,qE,qF,qG,qH,qI]
    exact aG (by rw [decide_eq_false (hd.2 hxy)])
  ·refine aG ?_
   have:i=a.length:=by omega
   subst this
   rw [List.take_length,hl,List.take_length] at ht
   rw [decide_eq_true ht]
theorem aAw (a b:List (List UInt8×List UInt8))(ha:a.length<1000000000)(hb:b.length<1000000000):aU 79 [.sl 2 (a.map av),.sl 2 (b.map av)] (.bool (decide (a=b))):=by
 refine aA c79 (by simp [f79]) ?_
 simp only [f79,↓gos,gop,qA,qB,qC,qD,qE,qF,qG,qH,qI]
 refine aB (aHm a b ha hb) rfl rfl ?_
 simp only [↓gos,gop,qA,qB,qC,qD,qE,qF,qG,qH,qI]
 cases decide (a=b)
 ·exact aG rfl
 ·exact aG rfl
theorem aEz (p q:PR)(hp:p.ps.length<1000000000)(hq:q.ps.length<1000000000):aU 39 [.agg (pv p),.agg (pv q)] (.bool (decide (p=q))):=by
 refine aA c39 (by simp [f39]) ?_
 simp only [f39,pv,↓gos,gop,qA,qB,qC,qD,qE,qF,qG,qH,qI]
 refine ⟨fun g1=>⟨fun g2=>⟨fun g3=>?_,fun g3=>aG ?_⟩,fun g2=>aG ?_⟩,fun g1=>aG ?_⟩
 ·refine aB (aAw p.ps q.ps hp hq) rfl rfl ?_
  by_cases g4:p.ps=q.ps
  ·rw [decide_eq_true g4]
   simp only [↓gos,gop,qA,qB,qC,qD,qE,qF,qG,qH,qI]
   refine aG ?_
   rw [decide_eq_true]
   cases p; cases q; simp_all
  ·rw [decide_eq_false g4]
   simp only [↓gos,gop,qA,qB,qC,qD,qE,qF,qG,qH,qI]
   refine aG ?_
   rw [decide_eq_false fun e=>g4 (by rw [e])]
 ·rw [decide_eq_false fun e=>g3 (by rw [e])]
 ·rw [decide_eq_false fun e=>g2 (by rw [e])]
 ·rw [decide_eq_false fun e=>g1 (by rw [e])]
def oJ (c:List PR):Prop:=c.length<1000000000∧∀ p∈c,p.ps.length<1000000000
theorem aGU (a b:List PR)(ha:oJ a)(hb:oJ b):aU 75 [.sl 4 (a.map pv),.sl 4 (b.map pv),.fn 39 []] (.bool (decide (a=b))):=by
 refine aA c75 (by simp [f75]) ?_
 have ha1:=ha.1
 have hb1:=hb.1
 simp only [f75,↓gos,gop,qA,qB,qC,qD,qE,qF,qG,qH,qI]
 refine ⟨fun h=>aG ?_,fun h=>?_⟩
 ·rw [decide_eq_false]
  intro e; apply h; rw [e]
 ·have hl:a.length=b.length:=by omega
  refine aJ (γ:=Nat) (fun i=>[(7,.int .i64 i),(0,.sl 4 (a.map pv)),(1,.sl 4 (b.map pv)),(2,.fn 39 [])]) (fun _=>[]) (fun i=>i≤a.length∧a.take i=b.take i) (fun i=>a.length - i) 0
   (wks rfl (by simp) ⟨rfl,rfl,rfl,rfl,trivial⟩) ⟨by omega,by simp⟩ fun i hi=>?_
  obtain ⟨hi,ht⟩:=hi
  simp only [f75l0,↓gos,gop,qA,qB,qC,qD,qE,qF,qG,qH,qI]
  refine ⟨fun h1=>?_,fun h1=>?_⟩
  ·have h2:i<a.length:=by omega
   have hd:=uD hl ht h2 default
   have hxa:=ha.2 _ (mG h2 default)
   have hyb:=hb.2 _ (mG (show i<b.length by omega) default)
   refine aL default (by simpa using h2) ?_
   simp only [pv,↓gos,gop,qA,qB,qC,qD,qE,qF,qG,qH,qI]
   refine aL default (by omega) ?_
   generalize a.getD i default=x at hd hxa ⊢
   generalize b.getD i default=y at hd hyb ⊢
   refine aB (aEz x y hxa hyb) rfl rfl ?_
   by_cases hxy:x=y
   ·rw [decide_eq_true hxy]
    simp only [↓gos,gop,qA,qB,qC,qD,qE,qF,qG,qH,qI]
    intro v hv
    rw [wrap_i64 (by omega) (by omega)] at hv
    subst hv
    exact aN (i+1) rfl (by simp) ⟨rfl,rfl,rfl,rfl,trivial⟩ ⟨by omega,hd.1 hxy⟩ (by omega)
   ·rw [decide_eq_false hxy]
    simp only [↓gos,gop,qA,qB,qC,qD,qE,qF,qG,qH,qI]
    exact aG (by rw [decide_eq_false (hd.2 hxy)])
  ·refine aG ?_
   have:i=a.length:=by omega
   subst this
   rw [List.take_length,hl,List.take_length] at ht
   rw [decide_eq_true ht]
theorem ZW (a b:List PR)(ha:oJ a)(hb:oJ b):aU 37 [.sl 4 (a.map pv),.sl 4 (b.map pv)] (.bool (decide (a=b))):=by
 refine aA c37 (by simp [f37]) ?_
 simp only [f37,↓gos,gop,qA,qB,qC,qD,qE,qF,qG,qH,qI]
 refine aB (aGU a b ha hb) rfl rfl ?_
 simp only [↓gos,gop,qA,qB,qC,qD,qE,qF,qG,qH,qI]
 cases decide (a=b)
 ·exact aG rfl
 ·exact aG rfl
def jR (c:List PR):Nat:=(c.map wtP).sum
theorem JT {α:Type}(f:α→Nat)(l:List α)(i:Nat):((l.take i).map f).sum≤(l.map f).sum:=by
 have:=congrArg (fun m=>(m.map f).sum) (List.take_append_drop i l)
 simp only [List.map_append,List.sum_append] at this
 omega
theorem ZS (c:List PR)(hc:c.length<1000000000)(hw:jR c<1000000000):aU 31 [.sl 4 (c.map pv)] (.bool (decide (jR c≤8000))):=by
 refine aA c31 (by simp [f31]) ?_
 simp only [f31,↓gos,gop,qA,qB,qC,qD,qE,qF,qG,qH,qI]
 refine aJ (γ:=Nat) (fun i=>[(4,.int .i64 i),(3,.int .i64 ((jR (c.take i):Nat):Int)),(0,.sl 4 (c.map pv))]) (fun _=>[]) (fun i=>i≤c.length) (fun i=>c.length - i) 0
  (wks rfl (by simp) ⟨rfl,rfl,rfl,trivial⟩) (by omega) fun i hi=>?_
 simp only [f31l1,↓gos,gop,qA,qB,qC,qD,qE,qF,qG,qH,qI]
 refine ⟨fun h1=>?_,fun h1=>?_⟩
 ·have h2:i<c.length:=by omega
  have htk:=eA h2 default
  have hle:jR (c.take (i+1))≤jR c:=JT wtP c (i+1)
  have hget:c[i]?=some (c.getD i default):=by rw [List.getD_eq_getElem?_getD,List.getElem?_eq_getElem h2]; rfl
  generalize c.getD i default=p at htk hget
  have hs:jR (c.take (i+1))=jR (c.take i)+wtP p:=by rw [htk]; simp [jR]
  have hp:wtP p=p.g.length+p.n.length+p.v.length+5+wtA p.ps:=rfl
  simp only [hget,pv,↓gos,gop,qA,qB,qC,qD,qE,qF,qG,qH,qI]
  intro v1 hv1 v2 hv2 v3 hv3 v4 hv4
  rw [wrap_i64 (by omega) (by omega)] at hv1
  rw [wrap_i64 (by omega) (by omega)] at hv2
  rw [wrap_i64 (by omega) (by omega)] at hv3
  rw [wrap_i64 (by omega) (by omega)] at hv4
  have hv:v4=((jR (c.take i)+5+p.g.length+p.n.length+p.v.length:Nat):Int):=by omega
  clear hv4
  subst hv
  have hps:=iO p.ps
  refine aJ (γ:=Nat) (fun j=>[(5,.int .i64 j),(4,.int .i64 i),(3,.int .i64 ((jR (c.take i)+5+p.g.length+p.n.length+p.v.length+wtA (p.ps.take j):Nat):Int)),(0,.sl 4 (c.map pv))]) (fun _=>[]) (fun j=>j≤p.ps.length) (fun j=>p.ps.length - j) 0
   (wks rfl (by simp) ⟨rfl,rfl,rfl,rfl,trivial⟩) (by omega) fun j hj=>?_
  have hle2:wtA (p.ps.take (j+1))≤wtA p.ps:=JT _ p.ps (j+1)
  simp only [f31l0,hget,pv,↓gos,gop,qA,qB,qC,qD,qE,qF,qG,qH,qI]
  refine ⟨fun q1=>?_,fun q1=>?_⟩
  ·have q2:j<p.ps.length:=by omega
   have jtk:=eA q2 default
   have jget:p.ps[j]?=some (p.ps.getD j default):=by rw [List.getD_eq_getElem?_getD,List.getElem?_eq_getElem q2]; rfl
   generalize p.ps.getD j default=a at jtk jget
   have js:wtA (p.ps.take (j+1))=wtA (p.ps.take j)+(a.1.length+a.2.length+5):=by rw [jtk,sT]; simp [wtA]
   simp only [hget,pv,jget,av,↓gos,gop,qA,qB,qC,qD,qE,qF,qG,qH,qI]
   intro u1 hu1 u2 hu2 u3 hu3 u4 hu4
   rw [wrap_i64 (by omega) (by omega)] at hu1
   rw [wrap_i64 (by omega) (by omega)] at hu2
   rw [wrap_i64 (by omega) (by omega)] at hu3
   rw [wrap_i64 (by omega) (by omega)] at hu4
   subst hu4
   have hu:u3=((jR (c.take i)+5+p.g.length+p.n.length+p.v.length+wtA (p.ps.take (j+1)):Nat):Int):=by omega
   clear hu3
   subst hu
   exact aN (j+1) rfl (by simp) ⟨rfl,rfl,rfl,rfl,trivial⟩ (by omega) (by omega)
  ·have q2:j=p.ps.length:=by omega
   subst q2
   rw [List.take_length]
   intro w hw
   rw [wrap_i64 (by omega) (by omega)] at hw
   subst hw
   have e:((jR (c.take i)+5+p.g.length+p.n.length+p.v.length+wtA p.ps:Nat):Int)=((jR (c.take (i+1)):Nat):Int):=by omega
   rw [e]
   exact aN (i+1) rfl (by simp) ⟨rfl,rfl,rfl,trivial⟩ (by omega) (by omega)
 ·have h2:i=c.length:=by omega
  subst h2
  rw [List.take_length]
  refine ⟨fun q=>aG ?_,fun q=>aG ?_⟩
  ·rw [decide_eq_true (by omega)]
  ·rw [decide_eq_false (by omega)]
end Go.Proofs.Ut

namespace Go.Proofs.Ut
open Go.Ai
set_option maxRecDepth 100000
def bU (l:List (List UInt8)):Nat:=(l.map fun s=>1+s.length).sum
theorem rL (l:List (List UInt8))(s:List UInt8):bU (l++[s])=bU l+(1+s.length):=by simp [bU]
theorem rU (l:List (List UInt8))(i:Nat):bU (l.take i)≤bU l:=by
 unfold bU
 conv=>rhs; rw [← List.take_append_drop i l]
 rw [List.map_append,List.sum_append]; omega
theorem FH {l:List (List UInt8)}{s:List UInt8}(h:s∈l):s.length≤bU l:=by
 induction l with
 | nil=>cases h
 | cons x l ih=>
  have e:bU (x::l)=1+x.length+bU l:=by simp [bU]
  rw [e]
  rcases List.mem_cons.1 h with rfl|h
  ·omega
  ·have:=ih h; omega
theorem mW (l:List (List UInt8)):l.length≤bU l:=by
 induction l with
 | nil=>simp
 | cons x l ih=>
  have e:bU (x::l)=1+x.length+bU l:=by simp [bU]
  rw [e,List.length_cons]; omega
theorem YY (l:List (List UInt8))(hl:bU l<1000000000):aU 16 [.sl 1 (l.map sv)] (.int .i64 (bU l)):=by
 have hll:=mW l
 refine bB c16 (by simp [f16]) ?_
 simp only [f16,aE,aC,↓gos,gop,qA,qB,qC,qD,qE,qF,qG,qH,qI]
 refine aJ (γ:=Nat) (fun i=>[(4,.int .i64 i),(3,.int .i64 (bU (l.take i))),(0,.sl 1 (l.map sv))]) (fun i=>[])
  (fun i=>i≤l.length) (fun i=>l.length - i) 0
  (wks rfl (by simp) ⟨rfl,rfl,rfl,trivial⟩) (by omega) fun i hi=>?_
 have hone:IntKind.i64.wrap ((i:Int)+1)=((i+1:Nat):Int):=by rw [wrap_i64 (by omega) (by omega)]; rfl
 have hw1:=rU l i
 simp only [f16l0,aE,aC,↓gos,gop,qA,qB,qC,qD,qE,qF,qG,qH,qI]
 refine ⟨fun h=>?_,fun h=>?_⟩
 ·have h2:i<l.length:=by omega
  have htk:=CD h2 []
  have hb:=rU l (i+1)
  rw [htk,rL] at hb
  have hli:l[i]?=some (l.getD i []):=by rw [List.getD_eq_getElem?_getD,List.getElem?_eq_getElem h2]; rfl
  generalize l.getD i []=s at *
  have w1:IntKind.i64.wrap ((bU (l.take i):Int)+1)=((bU (l.take i)+1:Nat):Int):=by rw [wrap_i64 (by omega) (by omega)]; rfl
  have w2:IntKind.i64.wrap (((bU (l.take i)+1:Nat):Int)+(s.length:Int))=((bU (l.take i)+(1+s.length):Nat):Int):=by rw [wrap_i64 (by omega) (by omega)]; omega
  simp only [hli,sv,w1,w2,hone,forall_eq,aE,aC,↓gos,gop,qA,qB,qC,qD,qE,qF,qG,qH,qI]
  refine aN (i+1) rfl (by simp) ⟨rfl,?_,rfl,trivial⟩ (by omega) (by omega)
  rw [htk,rL]; rfl
 ·have h2:i=l.length:=by omega
  subst h2
  rw [List.take_length]
  exact bH [] rfl rfl ⟨rfl,rfl⟩
def EW (c:CT):Bool:=decide (c.name.length+c.family.length+c.given.length+c.nick.length+c.jid.length+c.email.length+c.tel.length+c.note.length+c.uid.length+bU c.groups≤5000)&&decide (jR c.other≤8000)
structure smS (c:CT):Prop where
 t:c.name.length+c.family.length+c.given.length+c.nick.length+c.jid.length+c.email.length+c.tel.length+c.note.length+c.uid.length+bU c.groups<100000000
 l:c.other.length<100000000
 w:jR c.other<100000000
theorem aCh (c:CT)(hs:smS c):aU 17 [.agg (ctv c)] (.bool (EW c)):=by
 refine bB c17 (by simp [f17]) ?_
 have ht:=hs.t
 have hw:=hs.w
 have h16:=YY c.groups (by omega)
 have h31:=ZS c.other (by have:=hs.l; omega) (by omega)
 simp only [f17,ctv,aE,aC,↓gos,gop,qA,qB,qC,qD,qE,qF,qG,qH,qI]
 intro v1 e1 v2 e2 v3 e3 v4 e4 v5 e5 v6 e6 v7 e7 v8 e8
 rw [wrap_i64 (by omega) (by omega)] at e1
 rw [wrap_i64 (by omega) (by omega)] at e2
 rw [wrap_i64 (by omega) (by omega)] at e3
 rw [wrap_i64 (by omega) (by omega)] at e4
 rw [wrap_i64 (by omega) (by omega)] at e5
 rw [wrap_i64 (by omega) (by omega)] at e6
 rw [wrap_i64 (by omega) (by omega)] at e7
 rw [wrap_i64 (by omega) (by omega)] at e8
 refine aB h16 rfl rfl ?_
 simp only [aE,aC,↓gos,gop,qA,qB,qC,qD,qE,qF,qG,qH,qI]
 intro v9 e9
 rw [wrap_i64 (by omega) (by omega)] at e9
 have e10:v9=((c.name.length+c.family.length+c.given.length+c.nick.length+c.jid.length+c.email.length+c.tel.length+c.note.length+c.uid.length+bU c.groups:Nat):Int):=by omega
 clear e9
 subst e10
 unfold EW
 refine ⟨fun q=>?_,fun q=>?_⟩
 ·refine aB h31 rfl rfl ?_
  rw [decide_eq_true (by omega),Bool.true_and]
  simp only [aE,aC,↓gos,gop,qA,qB,qC,qD,qE,qF,qG,qH,qI]
  exact bH [] rfl rfl ⟨rfl,rfl⟩
 ·rw [decide_eq_false (by omega)]
  exact bH [] rfl rfl ⟨rfl,rfl⟩
end Go.Proofs.Ut
