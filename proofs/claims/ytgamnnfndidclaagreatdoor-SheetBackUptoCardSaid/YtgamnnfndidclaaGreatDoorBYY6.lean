/- What play.Contact hands back is right: plain law. -/
import Derived.Test.YtgamnnfndidclaaGreatDoorBYY3
import Derived.Test.YtgamnnfndidclaaGreatDoorBYX11
import Derived.Test.YtgamnnfndidclaaGreatDoorBYK
import Derived.Test.YtgamnnfndidclaaGreatDoorBAiUn
open Nat renaming reduceBEq → qA,reduceAdd → qB,reduceSub → qC,reduceLeDiff → qD,reduceMul → qE
open Int renaming reduceLE → qF,reduceLT → qG,reduceNe → qH,reduceToNat → qI
set_option linter.all false
namespace Go.Proofs.Ut
open Go.Ai
set_option maxRecDepth 100000
def jidD:List (List UInt8):=[[97,64,104],[98,64,104],[99,64,104],[100,64,120,46,121],[104]]
def bG (s:List UInt8)(k:Nat):List UInt8:=if (bareR s).2=0 then (bareR s).1 else jidD.getD (k % 5) []
def aB (c:CT):CT:=
  { name:=if aA c.name 100=[] then [110] else aA c.name 100,family:=aA c.family 50,given:=aA c.given 50,nick:=aA c.nick 50,
    jid:=if c.jid=[] then [] else bG c.jid c.jid.length,email:=aA c.email 50,tel:=aA c.tel 50,note:=aA c.note 200,uid:=aA c.uid 50,
    groups:=groupsF ((c.groups.take 4).map fun s=>aA s 30),other:=[] }
theorem dW:∀ k:Fin 5,bareR (jidD.getD k.val [])=(jidD.getD k.val [],0)∧(jidD.getD k.val []).length≤200:=by decide +kernel
theorem cU (s:List UInt8)(k:Nat):bareR (bG s k)=(bG s k,0)∧(bG s k).length≤200:=by
 unfold bG
 split
 ·rename_i h; exact bare_stay s h
 ·exact dW ⟨k % 5,Nat.mod_lt _ (by decide)⟩
theorem bU (s:List UInt8)(m:Nat)(hm:m≤100):lineB (aA s m)=true:=by
 have h:=aM s m
 unfold lineB
 rw [h.1,Bool.true_and]
 exact decide_eq_true (by have:=h.2; omega)
theorem dZ (s:List UInt8):noteB (aA s 200)=true:=by
 have h:=aM s 200
 have h1:=h.1
 rw [run_shown,Bool.and_eq_true] at h1
 unfold noteB
 rw [h1.1,decide_eq_true (by have:=h.2; omega)]
 have:(aA s 200).contains 13=false:=by
  cases q:(aA s 200).contains 13
  ·rfl
  ·exact absurd rfl (bH h.1 13 (by simpa using q))
 rw [this]; rfl
theorem aU (c:CT):jidOk (aB c).jid=true∧(aB c).jid.length≤200:=by
 show jidOk (if c.jid=[] then [] else bG c.jid c.jid.length)=true∧(if c.jid=[] then [] else bG c.jid c.jid.length).length≤200
 split
 ·exact ⟨rfl,by simp⟩
 ·have h:=cU c.jid c.jid.length
  refine ⟨?_,h.2⟩
  unfold jidOk
  rw [h.1]; simp
theorem aG (c:CT):groupsB (aB c).groups=true∧(aB c).groups.length≤4∧St2 Op.bytesLess (aB c).groups∧∀ s∈(aB c).groups,s≠[]∧s.length≤120∧∃ t,s=aA t 30:=by
 show groupsB (groupsF ((c.groups.take 4).map fun s=>aA s 30))=true∧(groupsF ((c.groups.take 4).map fun s=>aA s 30)).length≤4∧St2 Op.bytesLess (groupsF ((c.groups.take 4).map fun s=>aA s 30)) ∧
  ∀ s∈groupsF ((c.groups.take 4).map fun s=>aA s 30),s≠[]∧s.length≤120∧∃ t,s=aA t 30
 obtain ⟨h1,h2,h3⟩:=groupsF_ok ((c.groups.take 4).map fun s=>aA s 30)
 have h4:((c.groups.take 4).map fun s=>aA s 30).length≤4:=by rw [List.length_map,List.length_take]; omega
 have h5:∀ s∈groupsF ((c.groups.take 4).map fun s=>aA s 30),s≠[]∧∃ t,s=aA t 30:=fun s hs=>by
  obtain ⟨q1,q2⟩:=h3 s hs
  obtain ⟨t,_,e⟩:=List.mem_map.1 q1
  exact ⟨q2,t,e.symm⟩
 refine ⟨groupsB_of h1 (by omega) fun x hx=>?_,by omega,h1,fun s hs=>?_⟩
 ·obtain ⟨q1,t,rfl⟩:=h5 x hx
  exact ⟨q1,bU t 30 (by omega)⟩
 ·obtain ⟨q1,t,rfl⟩:=h5 s hs
  have:=aR t 30
  exact ⟨q1,by omega,t,rfl⟩
theorem aK (c:CT):(aB c).name≠[]∧lineB (aB c).name=true∧(aB c).name.length≤400:=by
 show (if aA c.name 100=[] then [110] else aA c.name 100)≠[]∧lineB (if aA c.name 100=[] then [110] else aA c.name 100)=true∧(if aA c.name 100=[] then [110] else aA c.name 100).length≤400
 split
 ·exact ⟨by simp,by decide +kernel,by simp⟩
 ·rename_i h
  have:=aR c.name 100
  exact ⟨h,bU c.name 100 (by omega),by omega⟩
theorem dJ {c:CT}(h1:c.name≠[])(h2:jidOk c.jid=true)(h3:c.other=[])(h4:noteB c.note=true)(h5:groupsB c.groups=true)(h6:shortB c=true):rightC c=true:=by
 have hw:(writeL [([]:List PR)]).2=0:=by decide +kernel
 unfold rightC
 rw [decide_eq_false h1,h2,h3,h4,h5,h6,hw]; rfl
theorem bM (c:CT):rightC (aB c)=true:=by
 refine dJ (aK c).1 (aU c).1 rfl (dZ c.note) (aG c).1 ?_
 have h1:=(aK c).2.1
 have h2:∀ s:List UInt8,lineB (aA s 50)=true:=fun s=>bU s 50 (by omega)
 show [(aB c).name,aA c.family 50,aA c.given 50,aA c.nick 50,aA c.email 50,aA c.tel 50,aA c.uid 50].all lineB=true
 simp only [List.all_cons,List.all_nil,h1,h2]; rfl
theorem cK (c:CT):okS (aB c):=by
 have h50:=fun s=>aR s 50
 have h200:=aR c.note 200
 have h1:=(aK c).2.2
 have h2:=(aU c).2
 have h3:=aG c
 refine ⟨by omega,?_,?_,?_,by omega,?_,?_,?_,?_,by omega,fun s hs=>by have:=(h3.2.2.2 s hs).2.1; omega,by show (0:Nat)<1000000000; omega,fun p hp=>by cases hp⟩
 ·have:=h50 c.family; show (aA c.family 50).length<100000000; omega
 ·have:=h50 c.given; show (aA c.given 50).length<100000000; omega
 ·have:=h50 c.nick; show (aA c.nick 50).length<100000000; omega
 ·have:=h50 c.email; show (aA c.email 50).length<100000000; omega
 ·have:=h50 c.tel; show (aA c.tel 50).length<100000000; omega
 ·show (aA c.note 200).length<100000000; omega
 ·have:=h50 c.uid; show (aA c.uid 50).length<100000000; omega
def gI (l:List (List UInt8))(i:Nat):List (List UInt8):=(l.take i).foldl gin []
theorem fG (l:List (List UInt8))(i:Nat):(gI l i).length≤i:=by
 have h:=(groupsF_ok (l.take i)).2.1
 rw [List.length_take] at h
 have:(gI l i).length≤min i l.length:=h
 omega
theorem eC {l:List (List UInt8)}{i:Nat}(h:i<l.length):gI l (i+1)=gin (gI l i) (l.getD i []):=by
 unfold gI
 rw [takeC h [],List.foldl_append]; rfl
theorem fQ {out:List (List UInt8)}{k:Nat}(h:k<out.length):(out.map sv)[k]?=some (sv (out.getD k [])):=by
 rw [List.getElem?_map,List.getD_eq_getElem?_getD,List.getElem?_eq_getElem h]; rfl
set_option maxHeartbeats 4000000 in
theorem bR (l:List (List UInt8))(hl:l.length<1000000):DRet 30 [.sl 1 (l.map sv)] (.sl 1 ((groupsF l).map sv)):=by
  refine acalls_goF c30 (by simp [f30]) ?_
  simp only [f30,finF_e,finF_en,↓gos,gop,qA,qB,qC,qD,qE,qF,qG,qH,qI]
  refine goN_lp (γ:=Nat) (fun i=>[(4,.int .i64 i),(3,.osl 1 1 0 (gI l i).length none),(2,.osl 1 0 0 0 none),(0,.sl 1 (l.map sv))]) (fun i=>[.arr 1 [],.arr 1 ((gI l i).map sv)])
    (fun i=>i≤l.length) (fun i=>l.length - i) 0
    (wks rfl (by simp) ⟨rfl,rfl,rfl,rfl,trivial⟩) (by omega) fun i hi=>?_
  have hgl:=fG l i
  have hone:IntKind.i64.wrap ((i:Int)+1)=((i+1:Nat):Int):=by rw [wrap_i64 (by omega) (by omega)]; rfl
  simp only [f30l1,hone,forall_eq,finF_e,finF_en,↓gos,gop,qA,qB,qC,qD,qE,qF,qG,qH,qI]
  refine ⟨fun h=>?_,fun h=>?_⟩
  · have h2:i<l.length:=by omega
    have hnx:=eC h2
    have hat:(l.map sv)[i]?=some (sv (l.getD i [])):=fQ h2
    have hge:=gin_eq (l.getD i []) (gI l i)
    generalize hxx:l.getD i []=x at *
    generalize hoo:gI l i=out at *
    refine goN_lp (γ:=Nat) (fun k=>[(5,.int .i64 k),(4,.int .i64 i),(3,.osl 1 1 0 out.length none),(2,.osl 1 0 0 0 none),(0,.sl 1 (l.map sv))]) (fun k=>[.arr 1 [],.arr 1 (out.map sv)])
      (fun k=>k≤out.length∧∀ j,j<k→Op.bytesLess (out.getD j []) x=true) (fun k=>out.length - k) 0
      (wks rfl (by simp) ⟨rfl,rfl,rfl,rfl,rfl,trivial⟩) ⟨by omega,fun j hj=>by omega⟩ fun k ⟨hk,hlt⟩=>?_
    have honek:IntKind.i64.wrap ((k:Int)+1)=((k+1:Nat):Int):=by rw [wrap_i64 (by omega) (by omega)]; rfl
    have hlx:l[i]?=some x:=by rw [← hxx,List.getD_eq_getElem?_getD,List.getElem?_eq_getElem h2]; rfl
    have kx:k=out.length∨Op.bytesLess (out.getD k []) x=false→gK x out=k:=fun q=>gK_of x out k hlt hk q
    have same:(x=[]∨(gK x out<out.length∧out.getD (gK x out) []=x))→gI l (i+1)=out:=fun q=>by
      rw [hnx,gin]
      rcases q with q|q
      · rw [if_pos q]
      · by_cases hx:x=[]
        · rw [if_pos hx]
        · rw [if_neg hx,hge,if_pos q]
    have ins:x≠[]→¬ (gK x out<out.length∧out.getD (gK x out) []=x)→gI l (i+1)=out.take (gK x out)++x::out.drop (gK x out):=fun q1 q2=>by
      rw [hnx,gin,if_neg q1,hge,if_neg q2]
    simp only [f30l0,honek,hone,hlx,sv,forall_eq,finF_e,finF_en,↓gos,gop,qA,qB,qC,qD,qE,qF,qG,qH,qI]
    refine ⟨fun h3=>?_,fun h3=>?_⟩
    · have h4:k<out.length:=by omega
      have hok:out[k]?=some (out.getD k []):=by rw [List.getD_eq_getElem?_getD,List.getElem?_eq_getElem h4]; rfl
      simp only [hok,hone,sv,forall_eq,finF_e,finF_en,↓gos,gop,qA,qB,qC,qD,qE,qF,qG,qH,qI]
      refine chk_i (by omega) ⟨fun h5=>?_,fun h5=>?_⟩
      · refine rnd_s (k+1) rfl (by simp) ⟨rfl,rfl,rfl,rfl,rfl,trivial⟩ ⟨h4,fun j hj=>?_⟩ (by omega)
        rcases Nat.lt_or_ge j k with q|q
        · exact hlt j q
        · rw [show j=k by omega]; exact h5
      · have hk2:=kx (.inr h5)
        rw [hk2] at same ins
        refine ⟨fun q1=>?_,fun q1=>⟨fun q2=>chk_i (by omega) ⟨fun q3=>?_,fun q3=>?_⟩,fun q2=>absurd h3 q2⟩⟩
        · rw [← same (.inl q1)]
          exact rnd_s (i+1) rfl (by simp) ⟨rfl,rfl,rfl,rfl,trivial⟩ h2 (by omega)
        · rw [← same (.inr ⟨h4,q3⟩)]
          exact rnd_s (i+1) rfl (by simp) ⟨rfl,rfl,rfl,rfl,trivial⟩ h2 (by omega)
        · have hins:=ins q1 (fun q=>q3 q.2)
          have hlen:(List.take k (List.map sv out)).length+1+(List.take (out.length - k) (List.drop k (List.map sv out))).length=(gI l (i+1)).length:=by
            rw [hins]; simp only [List.length_take,List.length_map,List.length_append,List.length_cons,List.length_drop]; omega
          have hrow:List.take ((List.take k (List.map sv out)).length+1) (List.take k (List.map sv out)++[[DV.str x]])++List.take (out.length - k) (List.drop k (List.map sv out))=(gI l (i+1)).map sv:=by
            rw [hins,List.take_of_length_le (by simp),List.take_of_length_le (l:=List.drop k (List.map sv out)) (by simp),← List.map_take,← List.map_drop]
            simp [sv]
          refine goN_two [(4,.int .i64 i),(3,.osl 1 1 0 (gI l (i+1)).length none),(2,.osl 1 0 0 0 none),(0,.sl 1 (l.map sv))] [.arr 1 [],.arr 1 ((gI l (i+1)).map sv)] ?_ (fun hkk=>?_) (fun hkk=>?_)
          · simp only [hone,forall_eq,finF_e,finF_en,↓gos,gop,qA,qB,qC,qD,qE,qF,qG,qH,qI]
            exact rnd_s (i+1) rfl (by simp) ⟨rfl,rfl,rfl,rfl,trivial⟩ h2 (by omega)
          · rw [goN_wk]
            simp only [hlx,sv,finF_e,finF_en,↓gos,gop,qA,qB,qC,qD,qE,qF,qG,qH,qI]
            repeat (refine chk_i (by first | omega | (simp only [List.length_take,List.length_map,List.length_append,List.length_cons,List.length_nil,List.length_drop]; omega)) ?_)
            refine goK_wkf ?_ hkk
            first
              | exact wkp [0,2] (by decide) (by simp) (fun i h=>by omega) (by simp) (congrArg (fun e=>[AObj.arr 1 [],.arr 1 e]) hrow) (by
                  intro l hl
                  simp only [List.mem_cons,List.not_mem_nil,or_false] at hl
                  rcases hl with rfl|rfl <;> rfl) ⟨rfl,rfl,congrArg (fun n=>DV.osl 1 1 0 n none) hlen,rfl,rfl,rfl,rfl,rfl,trivial⟩
              | exact wkp [0,3] (by decide) (by simp) (fun i h=>by omega) (by simp) (congrArg (fun e=>[AObj.arr 1 [],.arr 1 e]) hrow) (by
                  intro l hl
                  simp only [List.mem_cons,List.not_mem_nil,or_false] at hl
                  rcases hl with rfl|rfl <;> rfl) ⟨rfl,rfl,congrArg (fun n=>DV.osl 1 1 0 n none) hlen,rfl,rfl,rfl,rfl,rfl,trivial⟩
          · repeat' refine goN_both ?_ ?_
            all_goals
              rw [goN_wk]
              simp only [hlx,sv,finF_e,finF_en,↓gos,gop,qA,qB,qC,qD,qE,qF,qG,qH,qI]
              repeat (refine chk_i (by first | omega | (simp only [List.length_take,List.length_map,List.length_append,List.length_cons,List.length_nil,List.length_drop]; omega)) ?_)
              refine goK_wkf ?_ hkk
              first
                | exact wkp [0,2] (by decide) (by simp) (fun i h=>by omega) (by simp) (congrArg (fun e=>[AObj.arr 1 [],.arr 1 e]) hrow) (by
                    intro l hl
                    simp only [List.mem_cons,List.not_mem_nil,or_false] at hl
                    rcases hl with rfl|rfl <;> rfl) ⟨rfl,rfl,congrArg (fun n=>DV.osl 1 1 0 n none) hlen,rfl,rfl,rfl,rfl,rfl,trivial⟩
                | exact wkp [0,3] (by decide) (by simp) (fun i h=>by omega) (by simp) (congrArg (fun e=>[AObj.arr 1 [],.arr 1 e]) hrow) (by
                    intro l hl
                    simp only [List.mem_cons,List.not_mem_nil,or_false] at hl
                    rcases hl with rfl|rfl <;> rfl) ⟨rfl,rfl,congrArg (fun n=>DV.osl 1 1 0 n none) hlen,rfl,rfl,rfl,rfl,rfl,trivial⟩
    · have hk2:=kx (.inl (by omega))
      rw [hk2] at same ins
      refine ⟨fun q1=>?_,fun q1=>⟨fun q2=>absurd q2 h3,fun q2=>?_⟩⟩
      · rw [← same (.inl q1)]
        exact rnd_s (i+1) rfl (by simp) ⟨rfl,rfl,rfl,rfl,trivial⟩ h2 (by omega)
      · have hins:=ins q1 (fun q=>h3 (by have:=q.1; omega))
        have hlen:(List.take k (List.map sv out)).length+1+(List.take (out.length - k) (List.drop k (List.map sv out))).length=(gI l (i+1)).length:=by
          rw [hins]; simp only [List.length_take,List.length_map,List.length_append,List.length_cons,List.length_drop]; omega
        have hrow:List.take ((List.take k (List.map sv out)).length+1) (List.take k (List.map sv out)++[[DV.str x]])++List.take (out.length - k) (List.drop k (List.map sv out))=(gI l (i+1)).map sv:=by
          rw [hins,List.take_of_length_le (by simp),List.take_of_length_le (l:=List.drop k (List.map sv out)) (by simp),← List.map_take,← List.map_drop]
          simp [sv]
        refine goN_two [(4,.int .i64 i),(3,.osl 1 1 0 (gI l (i+1)).length none),(2,.osl 1 0 0 0 none),(0,.sl 1 (l.map sv))] [.arr 1 [],.arr 1 ((gI l (i+1)).map sv)] ?_ (fun hkk=>?_) (fun hkk=>?_)
        · simp only [hone,forall_eq,finF_e,finF_en,↓gos,gop,qA,qB,qC,qD,qE,qF,qG,qH,qI]
          exact rnd_s (i+1) rfl (by simp) ⟨rfl,rfl,rfl,rfl,trivial⟩ h2 (by omega)
        · rw [goN_wk]
          simp only [hlx,sv,finF_e,finF_en,↓gos,gop,qA,qB,qC,qD,qE,qF,qG,qH,qI]
          repeat (refine chk_i (by first | omega | (simp only [List.length_take,List.length_map,List.length_append,List.length_cons,List.length_nil,List.length_drop]; omega)) ?_)
          refine goK_wkf ?_ hkk
          first
            | exact wkp [0,2] (by decide) (by simp) (fun i h=>by omega) (by simp) (congrArg (fun e=>[AObj.arr 1 [],.arr 1 e]) hrow) (by
                intro l hl
                simp only [List.mem_cons,List.not_mem_nil,or_false] at hl
                rcases hl with rfl|rfl <;> rfl) ⟨rfl,rfl,congrArg (fun n=>DV.osl 1 1 0 n none) hlen,rfl,rfl,rfl,rfl,rfl,trivial⟩
            | exact wkp [0,3] (by decide) (by simp) (fun i h=>by omega) (by simp) (congrArg (fun e=>[AObj.arr 1 [],.arr 1 e]) hrow) (by
                intro l hl
                simp only [List.mem_cons,List.not_mem_nil,or_false] at hl
                rcases hl with rfl|rfl <;> rfl) ⟨rfl,rfl,congrArg (fun n=>DV.osl 1 1 0 n none) hlen,rfl,rfl,rfl,rfl,rfl,trivial⟩
        · repeat' refine goN_both ?_ ?_
          all_goals
            rw [goN_wk]
            simp only [hlx,sv,finF_e,finF_en,↓gos,gop,qA,qB,qC,qD,qE,qF,qG,qH,qI]
            repeat (refine chk_i (by first | omega | (simp only [List.length_take,List.length_map,List.length_append,List.length_cons,List.length_nil,List.length_drop]; omega)) ?_)
            refine goK_wkf ?_ hkk
            first
              | exact wkp [0,2] (by decide) (by simp) (fun i h=>by omega) (by simp) (congrArg (fun e=>[AObj.arr 1 [],.arr 1 e]) hrow) (by
                  intro l hl
                  simp only [List.mem_cons,List.not_mem_nil,or_false] at hl
                  rcases hl with rfl|rfl <;> rfl) ⟨rfl,rfl,congrArg (fun n=>DV.osl 1 1 0 n none) hlen,rfl,rfl,rfl,rfl,rfl,trivial⟩
              | exact wkp [0,3] (by decide) (by simp) (fun i h=>by omega) (by simp) (congrArg (fun e=>[AObj.arr 1 [],.arr 1 e]) hrow) (by
                  intro l hl
                  simp only [List.mem_cons,List.not_mem_nil,or_false] at hl
                  rcases hl with rfl|rfl <;> rfl) ⟨rfl,rfl,congrArg (fun n=>DV.osl 1 1 0 n none) hlen,rfl,rfl,rfl,rfl,rfl,trivial⟩
  · have h2:i=l.length:=by omega
    subst h2
    have e:gI l l.length=groupsF l:=by unfold gI groupsF; rw [List.take_length]
    rw [← e]
    exact end_fc [1] (frz_row rfl (by simp) rfl) (by rfl) ⟨rfl,rfl⟩
end Go.Proofs.Ut

namespace Go.Proofs.Ut
open Go.Ai Go.Shelf Go.RowKit
set_option linter.unusedSimpArgs false
set_option linter.unusedVariables false
set_option maxHeartbeats 1000000
set_option maxRecDepth 100000
theorem fF (a b:List UInt8×List UInt8):DRet 142 [.agg (av a),.agg (av b)] (.bool (decide (a=b))):=by
 refine acalls_go c142 (by simp [f142]) ?_
 obtain ⟨a1,a2⟩:=a
 obtain ⟨b1,b2⟩:=b
 simp only [f142,av,↓gos,gop,qA,qB,qC,qD,qE,qF,qG,qH,qI]
 refine ⟨fun h=>endb ?_,fun h=>endb ?_⟩
 ·rw [decide_eq_true (by rw [h.1,h.2])]
 ·rw [decide_eq_false]
  intro e
  obtain ⟨rfl,rfl⟩:=Prod.mk.inj e
  simp at h
theorem fL (a b:List (List UInt8×List UInt8))(ha:a.length<1000000000)(hb:b.length<1000000000):DRet 141 [.sl 2 (a.map av),.sl 2 (b.map av),.fn 142 []] (.bool (decide (a=b))):=by
 refine acalls_go c141 (by simp [f141]) ?_
 simp only [f141,↓gos,gop,qA,qB,qC,qD,qE,qF,qG,qH,qI]
 refine ⟨fun h=>endb ?_,fun h=>?_⟩
 ·rw [decide_eq_false]
  intro e; apply h; rw [e]
 ·have hl:a.length=b.length:=by omega
  refine goN_lp (γ:=Nat) (fun i=>[(7,.int .i64 i),(0,.sl 2 (a.map av)),(1,.sl 2 (b.map av)),(2,.fn 142 [])]) (fun _=>[]) (fun i=>i≤a.length∧a.take i=b.take i) (fun i=>a.length - i) 0
   (wks rfl (by simp) ⟨rfl,rfl,rfl,rfl,trivial⟩) ⟨by omega,by simp⟩ fun i hi=>?_
  obtain ⟨hi,ht⟩:=hi
  simp only [f141l0,↓gos,gop,qA,qB,qC,qD,qE,qF,qG,qH,qI]
  refine ⟨fun h1=>?_,fun h1=>?_⟩
  ·have h2:i<a.length:=by omega
   have hd:=take_dec hl ht h2 default
   refine optP_at default (by simpa using h2) ?_
   simp only [av,↓gos,gop,qA,qB,qC,qD,qE,qF,qG,qH,qI]
   refine optP_at default (by omega) ?_
   generalize a.getD i default=x at hd ⊢
   generalize b.getD i default=y at hd ⊢
   refine call_ret (fF x y) rfl rfl ?_
   by_cases hxy:x=y
   ·rw [decide_eq_true hxy]
    simp only [↓gos,gop,qA,qB,qC,qD,qE,qF,qG,qH,qI]
    intro v hv
    rw [wrap_i64 (by omega) (by omega)] at hv
    subst hv
    exact rnd_s (i+1) rfl (by simp) ⟨rfl,rfl,rfl,rfl,trivial⟩ ⟨by omega,hd.1 hxy⟩ (by omega)
   ·rw [decide_eq_false hxy]
    simp only [↓gos,gop,qA,qB,qC,qD,qE,qF,qG,qH,qI]
    exact endb (by rw [decide_eq_false (hd.2 hxy)])
  ·refine endb ?_
   have:i=a.length:=by omega
   subst this
   rw [List.take_length,hl,List.take_length] at ht
   rw [decide_eq_true ht]
theorem dX (a b:List (List UInt8×List UInt8))(ha:a.length<1000000000)(hb:b.length<1000000000):DRet 79 [.sl 2 (a.map av),.sl 2 (b.map av)] (.bool (decide (a=b))):=by
 refine acalls_go c79 (by simp [f79]) ?_
 simp only [f79,↓gos,gop,qA,qB,qC,qD,qE,qF,qG,qH,qI]
 refine call_ret (fL a b ha hb) rfl rfl ?_
 simp only [↓gos,gop,qA,qB,qC,qD,qE,qF,qG,qH,qI]
 cases decide (a=b)
 ·exact endb rfl
 ·exact endb rfl
theorem fM (p q:PR)(hp:p.ps.length<1000000000)(hq:q.ps.length<1000000000):DRet 39 [.agg (pv p),.agg (pv q)] (.bool (decide (p=q))):=by
 refine acalls_go c39 (by simp [f39]) ?_
 simp only [f39,pv,↓gos,gop,qA,qB,qC,qD,qE,qF,qG,qH,qI]
 refine ⟨fun g1=>⟨fun g2=>⟨fun g3=>?_,fun g3=>endb ?_⟩,fun g2=>endb ?_⟩,fun g1=>endb ?_⟩
 ·refine call_ret (dX p.ps q.ps hp hq) rfl rfl ?_
  by_cases g4:p.ps=q.ps
  ·rw [decide_eq_true g4]
   simp only [↓gos,gop,qA,qB,qC,qD,qE,qF,qG,qH,qI]
   refine endb ?_
   rw [decide_eq_true]
   cases p; cases q; simp_all
  ·rw [decide_eq_false g4]
   simp only [↓gos,gop,qA,qB,qC,qD,qE,qF,qG,qH,qI]
   refine endb ?_
   rw [decide_eq_false fun e=>g4 (by rw [e])]
 ·rw [decide_eq_false fun e=>g3 (by rw [e])]
 ·rw [decide_eq_false fun e=>g2 (by rw [e])]
 ·rw [decide_eq_false fun e=>g1 (by rw [e])]
def small (c:List PR):Prop:=c.length<1000000000∧∀ p∈c,p.ps.length<1000000000
theorem fJ (a b:List PR)(ha:small a)(hb:small b):DRet 75 [.sl 4 (a.map pv),.sl 4 (b.map pv),.fn 39 []] (.bool (decide (a=b))):=by
 refine acalls_go c75 (by simp [f75]) ?_
 have ha1:=ha.1
 have hb1:=hb.1
 simp only [f75,↓gos,gop,qA,qB,qC,qD,qE,qF,qG,qH,qI]
 refine ⟨fun h=>endb ?_,fun h=>?_⟩
 ·rw [decide_eq_false]
  intro e; apply h; rw [e]
 ·have hl:a.length=b.length:=by omega
  refine goN_lp (γ:=Nat) (fun i=>[(7,.int .i64 i),(0,.sl 4 (a.map pv)),(1,.sl 4 (b.map pv)),(2,.fn 39 [])]) (fun _=>[]) (fun i=>i≤a.length∧a.take i=b.take i) (fun i=>a.length - i) 0
   (wks rfl (by simp) ⟨rfl,rfl,rfl,rfl,trivial⟩) ⟨by omega,by simp⟩ fun i hi=>?_
  obtain ⟨hi,ht⟩:=hi
  simp only [f75l0,↓gos,gop,qA,qB,qC,qD,qE,qF,qG,qH,qI]
  refine ⟨fun h1=>?_,fun h1=>?_⟩
  ·have h2:i<a.length:=by omega
   have hd:=take_dec hl ht h2 default
   have hxa:=ha.2 _ (get_mem h2 default)
   have hyb:=hb.2 _ (get_mem (show i<b.length by omega) default)
   refine optP_at default (by simpa using h2) ?_
   simp only [pv,↓gos,gop,qA,qB,qC,qD,qE,qF,qG,qH,qI]
   refine optP_at default (by omega) ?_
   generalize a.getD i default=x at hd hxa ⊢
   generalize b.getD i default=y at hd hyb ⊢
   refine call_ret (fM x y hxa hyb) rfl rfl ?_
   by_cases hxy:x=y
   ·rw [decide_eq_true hxy]
    simp only [↓gos,gop,qA,qB,qC,qD,qE,qF,qG,qH,qI]
    intro v hv
    rw [wrap_i64 (by omega) (by omega)] at hv
    subst hv
    exact rnd_s (i+1) rfl (by simp) ⟨rfl,rfl,rfl,rfl,trivial⟩ ⟨by omega,hd.1 hxy⟩ (by omega)
   ·rw [decide_eq_false hxy]
    simp only [↓gos,gop,qA,qB,qC,qD,qE,qF,qG,qH,qI]
    exact endb (by rw [decide_eq_false (hd.2 hxy)])
  ·refine endb ?_
   have:i=a.length:=by omega
   subst this
   rw [List.take_length,hl,List.take_length] at ht
   rw [decide_eq_true ht]
theorem eP (a b:List PR)(ha:small a)(hb:small b):DRet 37 [.sl 4 (a.map pv),.sl 4 (b.map pv)] (.bool (decide (a=b))):=by
 refine acalls_go c37 (by simp [f37]) ?_
 simp only [f37,↓gos,gop,qA,qB,qC,qD,qE,qF,qG,qH,qI]
 refine call_ret (fJ a b ha hb) rfl rfl ?_
 simp only [↓gos,gop,qA,qB,qC,qD,qE,qF,qG,qH,qI]
 cases decide (a=b)
 ·exact endb rfl
 ·exact endb rfl
def aJ (c:List PR):Nat:=(c.map wtP).sum
theorem cS {α:Type}(f:α→Nat)(l:List α)(i:Nat):((l.take i).map f).sum≤(l.map f).sum:=by
 have:=congrArg (fun m=>(m.map f).sum) (List.take_append_drop i l)
 simp only [List.map_append,List.sum_append] at this
 omega
theorem dR (c:List PR)(hc:c.length<1000000000)(hw:aJ c<1000000000):DRet 31 [.sl 4 (c.map pv)] (.bool (decide (aJ c≤8000))):=by
 refine acalls_go c31 (by simp [f31]) ?_
 simp only [f31,↓gos,gop,qA,qB,qC,qD,qE,qF,qG,qH,qI]
 refine goN_lp (γ:=Nat) (fun i=>[(4,.int .i64 i),(3,.int .i64 ((aJ (c.take i):Nat):Int)),(0,.sl 4 (c.map pv))]) (fun _=>[]) (fun i=>i≤c.length) (fun i=>c.length - i) 0
  (wks rfl (by simp) ⟨rfl,rfl,rfl,trivial⟩) (by omega) fun i hi=>?_
 simp only [f31l1,↓gos,gop,qA,qB,qC,qD,qE,qF,qG,qH,qI]
 refine ⟨fun h1=>?_,fun h1=>?_⟩
 ·have h2:i<c.length:=by omega
  have htk:=take_getD h2 default
  have hle:aJ (c.take (i+1))≤aJ c:=cS wtP c (i+1)
  have hget:c[i]?=some (c.getD i default):=by rw [List.getD_eq_getElem?_getD,List.getElem?_eq_getElem h2]; rfl
  generalize c.getD i default=p at htk hget
  have hs:aJ (c.take (i+1))=aJ (c.take i)+wtP p:=by rw [htk]; simp [aJ]
  have hp:wtP p=p.g.length+p.n.length+p.v.length+5+wtA p.ps:=rfl
  simp only [hget,pv,↓gos,gop,qA,qB,qC,qD,qE,qF,qG,qH,qI]
  intro v1 hv1 v2 hv2 v3 hv3 v4 hv4
  rw [wrap_i64 (by omega) (by omega)] at hv1
  rw [wrap_i64 (by omega) (by omega)] at hv2
  rw [wrap_i64 (by omega) (by omega)] at hv3
  rw [wrap_i64 (by omega) (by omega)] at hv4
  have hv:v4=((aJ (c.take i)+5+p.g.length+p.n.length+p.v.length:Nat):Int):=by omega
  clear hv4
  subst hv
  have hps:=atts_len p.ps
  refine goN_lp (γ:=Nat) (fun j=>[(5,.int .i64 j),(4,.int .i64 i),(3,.int .i64 ((aJ (c.take i)+5+p.g.length+p.n.length+p.v.length+wtA (p.ps.take j):Nat):Int)),(0,.sl 4 (c.map pv))]) (fun _=>[]) (fun j=>j≤p.ps.length) (fun j=>p.ps.length - j) 0
   (wks rfl (by simp) ⟨rfl,rfl,rfl,rfl,trivial⟩) (by omega) fun j hj=>?_
  have hle2:wtA (p.ps.take (j+1))≤wtA p.ps:=cS _ p.ps (j+1)
  simp only [f31l0,hget,pv,↓gos,gop,qA,qB,qC,qD,qE,qF,qG,qH,qI]
  refine ⟨fun q1=>?_,fun q1=>?_⟩
  ·have q2:j<p.ps.length:=by omega
   have jtk:=take_getD q2 default
   have jget:p.ps[j]?=some (p.ps.getD j default):=by rw [List.getD_eq_getElem?_getD,List.getElem?_eq_getElem q2]; rfl
   generalize p.ps.getD j default=a at jtk jget
   have js:wtA (p.ps.take (j+1))=wtA (p.ps.take j)+(a.1.length+a.2.length+5):=by rw [jtk,wtA_app]; simp [wtA]
   simp only [hget,pv,jget,av,↓gos,gop,qA,qB,qC,qD,qE,qF,qG,qH,qI]
   intro u1 hu1 u2 hu2 u3 hu3 u4 hu4
   rw [wrap_i64 (by omega) (by omega)] at hu1
   rw [wrap_i64 (by omega) (by omega)] at hu2
   rw [wrap_i64 (by omega) (by omega)] at hu3
   rw [wrap_i64 (by omega) (by omega)] at hu4
   subst hu4
   have hu:u3=((aJ (c.take i)+5+p.g.length+p.n.length+p.v.length+wtA (p.ps.take (j+1)):Nat):Int):=by omega
   clear hu3
   subst hu
   exact rnd_s (j+1) rfl (by simp) ⟨rfl,rfl,rfl,rfl,trivial⟩ (by omega) (by omega)
  ·have q2:j=p.ps.length:=by omega
   subst q2
   rw [List.take_length]
   intro w hw
   rw [wrap_i64 (by omega) (by omega)] at hw
   subst hw
   have e:((aJ (c.take i)+5+p.g.length+p.n.length+p.v.length+wtA p.ps:Nat):Int)=((aJ (c.take (i+1)):Nat):Int):=by omega
   rw [e]
   exact rnd_s (i+1) rfl (by simp) ⟨rfl,rfl,rfl,trivial⟩ (by omega) (by omega)
 ·have h2:i=c.length:=by omega
  subst h2
  rw [List.take_length]
  refine ⟨fun q=>endb ?_,fun q=>endb ?_⟩
  ·rw [decide_eq_true (by omega)]
  ·rw [decide_eq_false (by omega)]
end Go.Proofs.Ut

namespace Go.Proofs.Ut
open Go.Ai
set_option maxRecDepth 100000
def aD (l:List (List UInt8)):Nat:=(l.map fun s=>1+s.length).sum
theorem aV (l:List (List UInt8))(s:List UInt8):aD (l++[s])=aD l+(1+s.length):=by simp [aD]
theorem aW (l:List (List UInt8))(i:Nat):aD (l.take i)≤aD l:=by
 unfold aD
 conv=>rhs; rw [← List.take_append_drop i l]
 rw [List.map_append,List.sum_append]; omega
theorem cO {l:List (List UInt8)}{s:List UInt8}(h:s∈l):s.length≤aD l:=by
 induction l with
 | nil=>cases h
 | cons x l ih=>
  have e:aD (x::l)=1+x.length+aD l:=by simp [aD]
  rw [e]
  rcases List.mem_cons.1 h with rfl|h
  ·omega
  ·have:=ih h; omega
theorem aN (l:List (List UInt8)):l.length≤aD l:=by
 induction l with
 | nil=>simp
 | cons x l ih=>
  have e:aD (x::l)=1+x.length+aD l:=by simp [aD]
  rw [e,List.length_cons]; omega
theorem dU (l:List (List UInt8))(hl:aD l<1000000000):DRet 16 [.sl 1 (l.map sv)] (.int .i64 (aD l)):=by
 have hll:=aN l
 refine acalls_goF c16 (by simp [f16]) ?_
 simp only [f16,finF_e,finF_en,↓gos,gop,qA,qB,qC,qD,qE,qF,qG,qH,qI]
 refine goN_lp (γ:=Nat) (fun i=>[(4,.int .i64 i),(3,.int .i64 (aD (l.take i))),(0,.sl 1 (l.map sv))]) (fun i=>[])
  (fun i=>i≤l.length) (fun i=>l.length - i) 0
  (wks rfl (by simp) ⟨rfl,rfl,rfl,trivial⟩) (by omega) fun i hi=>?_
 have hone:IntKind.i64.wrap ((i:Int)+1)=((i+1:Nat):Int):=by rw [wrap_i64 (by omega) (by omega)]; rfl
 have hw1:=aW l i
 simp only [f16l0,finF_e,finF_en,↓gos,gop,qA,qB,qC,qD,qE,qF,qG,qH,qI]
 refine ⟨fun h=>?_,fun h=>?_⟩
 ·have h2:i<l.length:=by omega
  have htk:=takeC h2 []
  have hb:=aW l (i+1)
  rw [htk,aV] at hb
  have hli:l[i]?=some (l.getD i []):=by rw [List.getD_eq_getElem?_getD,List.getElem?_eq_getElem h2]; rfl
  generalize l.getD i []=s at *
  have w1:IntKind.i64.wrap ((aD (l.take i):Int)+1)=((aD (l.take i)+1:Nat):Int):=by rw [wrap_i64 (by omega) (by omega)]; rfl
  have w2:IntKind.i64.wrap (((aD (l.take i)+1:Nat):Int)+(s.length:Int))=((aD (l.take i)+(1+s.length):Nat):Int):=by rw [wrap_i64 (by omega) (by omega)]; omega
  simp only [hli,sv,w1,w2,hone,forall_eq,finF_e,finF_en,↓gos,gop,qA,qB,qC,qD,qE,qF,qG,qH,qI]
  refine rnd_s (i+1) rfl (by simp) ⟨rfl,?_,rfl,trivial⟩ (by omega) (by omega)
  rw [htk,aV]; rfl
 ·have h2:i=l.length:=by omega
  subst h2
  rw [List.take_length]
  exact end_fc [] rfl rfl ⟨rfl,rfl⟩
def cI (c:CT):Bool:=decide (c.name.length+c.family.length+c.given.length+c.nick.length+c.jid.length+c.email.length+c.tel.length+c.note.length+c.uid.length+aD c.groups≤5000)&&decide (aJ c.other≤8000)
structure smS (c:CT):Prop where
 t:c.name.length+c.family.length+c.given.length+c.nick.length+c.jid.length+c.email.length+c.tel.length+c.note.length+c.uid.length+aD c.groups<100000000
 l:c.other.length<100000000
 w:aJ c.other<100000000
theorem dT (c:CT)(hs:smS c):DRet 17 [.agg (ctv c)] (.bool (cI c)):=by
 refine acalls_goF c17 (by simp [f17]) ?_
 have ht:=hs.t
 have hw:=hs.w
 have h16:=dU c.groups (by omega)
 have h31:=dR c.other (by have:=hs.l; omega) (by omega)
 simp only [f17,ctv,finF_e,finF_en,↓gos,gop,qA,qB,qC,qD,qE,qF,qG,qH,qI]
 intro v1 e1 v2 e2 v3 e3 v4 e4 v5 e5 v6 e6 v7 e7 v8 e8
 rw [wrap_i64 (by omega) (by omega)] at e1
 rw [wrap_i64 (by omega) (by omega)] at e2
 rw [wrap_i64 (by omega) (by omega)] at e3
 rw [wrap_i64 (by omega) (by omega)] at e4
 rw [wrap_i64 (by omega) (by omega)] at e5
 rw [wrap_i64 (by omega) (by omega)] at e6
 rw [wrap_i64 (by omega) (by omega)] at e7
 rw [wrap_i64 (by omega) (by omega)] at e8
 refine call_ret h16 rfl rfl ?_
 simp only [finF_e,finF_en,↓gos,gop,qA,qB,qC,qD,qE,qF,qG,qH,qI]
 intro v9 e9
 rw [wrap_i64 (by omega) (by omega)] at e9
 have e10:v9=((c.name.length+c.family.length+c.given.length+c.nick.length+c.jid.length+c.email.length+c.tel.length+c.note.length+c.uid.length+aD c.groups:Nat):Int):=by omega
 clear e9
 subst e10
 unfold cI
 refine ⟨fun q=>?_,fun q=>?_⟩
 ·refine call_ret h31 rfl rfl ?_
  rw [decide_eq_true (by omega),Bool.true_and]
  simp only [finF_e,finF_en,↓gos,gop,qA,qB,qC,qD,qE,qF,qG,qH,qI]
  exact end_fc [] rfl rfl ⟨rfl,rfl⟩
 ·rw [decide_eq_false (by omega)]
  exact end_fc [] rfl rfl ⟨rfl,rfl⟩
end Go.Proofs.Ut
