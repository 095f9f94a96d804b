/- The document's Fold. -/
import Derived.Test.YtgamnnfndidclaaGreatDoorGYA
import Derived.Test.YtgamnnfndidclaaGreatDoorGYFoB
import Derived.Test.YtgamnnfndidclaaGreatDoorGYW7
import Derived.Test.YtgamnnfndidclaaGreatDoorGYFoUtD
import Derived.Test.YtgamnnfndidclaaGreatDoorGYFoJ
import Derived.Test.YtgamnnfndidclaaGreatDoorGYY1
open Nat renaming reduceBEq → qA,reduceAdd → qB,reduceSub → qC,reduceLeDiff → qD,reduceMul → qE
open Int renaming reduceLE → qF,reduceLT → qG,reduceNe → qH,reduceToNat → qI
set_option linter.all false
namespace Go.Proofs.Ut
open Go.Ai Go.Shelf Go.RowKit
set_option linter.unusedSimpArgs false
set_option linter.unusedVariables false
set_option maxHeartbeats 1000000
set_option maxRecDepth 100000
end Go.Proofs.Ut

namespace Go.Proofs.Ut
open Go.Ai
set_option maxRecDepth 100000
theorem YD (s:List UInt8)(j:Nat)(h:j<s.length):(s.drop j).take (j+1 - j)=[s.getD j 0]:=by
 rw [tU s j h,Nat.add_sub_cancel_left]; rfl
theorem EL (s:List UInt8)(hs:s.length<1000000000):aY 26 [.str s] (.str (bN s)):=by
 refine aA c26 (by simp [f26]) ?_
 simp only [f26,↓gos,gop,qA,qB,qC,qD,qE,qF,qG,qH,qI]
 have hvl:=yF s
 refine aM (γ:=Nat) (fun j=>[(4,.int .i64 j),(3,.str (bN (s.take j))),(0,.str s)]) (fun _=>[]) (fun j=>j≤s.length) (fun j=>s.length - j) 0
  (wks rfl (by decide) ⟨rfl,rfl,rfl,trivial⟩) (by omega) fun j hj=>?_
 simp only [f26l0,↓gos,gop,qA,qB,qC,qD,qE,qF,qG,qH,qI]
 refine ⟨fun a2=>?_,fun a2=>?_⟩
 ·have hj:j<s.length:=by omega
  have hv:=BA s j hj
  have hp:=rO s (j+1)
  have hp0:=rO s j
  have hb:bt s j=((s.getD j 0).toNat:Int):=rfl
  have hone:=YD s j hj
  have hw:IntKind.i64.wrap ((j:Int)+1)=((j+1:Nat):Int):=by rw [wrap_i64 (by omega) (by omega)]; rfl
  have hpl:=congrArg List.length hv
  rw [List.length_append] at hpl
  rcases mK (s.getD j 0) with hc|⟨n1,n2,k1,k2,k3,k4,k5⟩
  ·rcases hc with hc|hc|hc|hc|hc
   all_goals
    rw [hc] at hb hv hone
    simp only [hb,a2,u92,u44,u59,u10,u13,hw,hone,forall_eq,Int.reduceEq,reduceIte,↓gos,gop,qA,qB,qC,qD,qE,qF,qG,qH,qI]
    repeat (refine aO (by first | omega | (simp only [List.length_append,List.length_cons,List.length_nil]; omega)) ?_)
    exact aQ (j+1) rfl (by decide) ⟨rfl,by show DV.str _=DV.str _; rw [hv]; simp [lE],rfl,trivial⟩ hj (by omega)
  ·rw [n2] at hv
   have q1:¬ (((s.getD j 0).toNat:Nat):Int)=92:=by omega
   have q2:¬ (((s.getD j 0).toNat:Nat):Int)=44:=by omega
   have q3:¬ (((s.getD j 0).toNat:Nat):Int)=59:=by omega
   have q4:¬ (((s.getD j 0).toNat:Nat):Int)=10:=by omega
   have q5:¬ (((s.getD j 0).toNat:Nat):Int)=13:=by omega
   simp only [hb,a2,q1,q2,q3,q4,q5,hw,hone,forall_eq,Int.reduceEq,reduceIte,↓gos,gop,qA,qB,qC,qD,qE,qF,qG,qH,qI]
   repeat (refine aO (by first | omega | (simp only [List.length_append,List.length_cons,List.length_nil]; omega)) ?_)
   exact aQ (j+1) rfl (by decide) ⟨rfl,by show DV.str _=DV.str _; rw [hv],rfl,trivial⟩ hj (by omega)
 ·have hj:j=s.length:=by omega
  subst hj
  exact kV (by rw [List.take_length])
def gI (l:List (List UInt8))(i:Nat):List (List UInt8):=(l.take i).foldl gin []
theorem aCW (l:List (List UInt8))(i:Nat):(gI l i).length≤i:=by
 have h:=(eE (l.take i)).2.1
 rw [List.length_take] at h
 have:(gI l i).length≤min i l.length:=h
 omega
theorem XN {l:List (List UInt8)}{i:Nat}(h:i<l.length):gI l (i+1)=gin (gI l i) (l.getD i []):=by
 unfold gI
 rw [aFT h [],List.foldl_append]; rfl
theorem aEN {out:List (List UInt8)}{k:Nat}(h:k<out.length):(out.map sv)[k]?=some (sv (out.getD k [])):=by
 rw [List.getElem?_map,List.getD_eq_getElem?_getD,List.getElem?_eq_getElem h]; rfl
set_option maxHeartbeats 4000000 in
theorem GX (l:List (List UInt8))(hl:l.length<1000000):aY 30 [.sl 1 (l.map sv)] (.sl 1 ((bG l).map sv)):=by
  refine bQ c30 (by simp [f30]) ?_
  simp only [f30,aG,aD,↓gos,gop,qA,qB,qC,qD,qE,qF,qG,qH,qI]
  refine aM (γ:=Nat) (fun i=>[(4,.int .i64 i),(3,.osl 1 1 0 (gI l i).length none),(2,.osl 1 0 0 0 none),(0,.sl 1 (l.map sv))]) (fun i=>[.arr 1 [],.arr 1 ((gI l i).map sv)])
    (fun i=>i≤l.length) (fun i=>l.length - i) 0
    (wks rfl (by simp) ⟨rfl,rfl,rfl,rfl,trivial⟩) (by omega) fun i hi=>?_
  have hgl:=aCW l i
  have hone:IntKind.i64.wrap ((i:Int)+1)=((i+1:Nat):Int):=by rw [wrap_i64 (by omega) (by omega)]; rfl
  simp only [f30l1,hone,forall_eq,aG,aD,↓gos,gop,qA,qB,qC,qD,qE,qF,qG,qH,qI]
  refine ⟨fun h=>?_,fun h=>?_⟩
  · have h2:i<l.length:=by omega
    have hnx:=XN h2
    have hat:(l.map sv)[i]?=some (sv (l.getD i [])):=aEN h2
    have hge:=JQ (l.getD i []) (gI l i)
    generalize hxx:l.getD i []=x at *
    generalize hoo:gI l i=out at *
    refine aM (γ:=Nat) (fun k=>[(5,.int .i64 k),(4,.int .i64 i),(3,.osl 1 1 0 out.length none),(2,.osl 1 0 0 0 none),(0,.sl 1 (l.map sv))]) (fun k=>[.arr 1 [],.arr 1 (out.map sv)])
      (fun k=>k≤out.length∧∀ j,j<k→Op.bytesLess (out.getD j []) x=true) (fun k=>out.length - k) 0
      (wks rfl (by simp) ⟨rfl,rfl,rfl,rfl,rfl,trivial⟩) ⟨by omega,fun j hj=>by omega⟩ fun k ⟨hk,hlt⟩=>?_
    have honek:IntKind.i64.wrap ((k:Int)+1)=((k+1:Nat):Int):=by rw [wrap_i64 (by omega) (by omega)]; rfl
    have hlx:l[i]?=some x:=by rw [← hxx,List.getD_eq_getElem?_getD,List.getElem?_eq_getElem h2]; rfl
    have kx:k=out.length∨Op.bytesLess (out.getD k []) x=false→gK x out=k:=fun q=>YN x out k hlt hk q
    have same:(x=[]∨(gK x out<out.length∧out.getD (gK x out) []=x))→gI l (i+1)=out:=fun q=>by
      rw [hnx,gin]
      rcases q with q|q
      · rw [if_pos q]
      · by_cases hx:x=[]
        · rw [if_pos hx]
        · rw [if_neg hx,hge,if_pos q]
    have ins:x≠[]→¬ (gK x out<out.length∧out.getD (gK x out) []=x)→gI l (i+1)=out.take (gK x out)++x::out.drop (gK x out):=fun q1 q2=>by
      rw [hnx,gin,if_neg q1,hge,if_neg q2]
    simp only [f30l0,honek,hone,hlx,sv,forall_eq,aG,aD,↓gos,gop,qA,qB,qC,qD,qE,qF,qG,qH,qI]
    refine ⟨fun h3=>?_,fun h3=>?_⟩
    · have h4:k<out.length:=by omega
      have hok:out[k]?=some (out.getD k []):=by rw [List.getD_eq_getElem?_getD,List.getElem?_eq_getElem h4]; rfl
      simp only [hok,hone,sv,forall_eq,aG,aD,↓gos,gop,qA,qB,qC,qD,qE,qF,qG,qH,qI]
      refine aO (by omega) ⟨fun h5=>?_,fun h5=>?_⟩
      · refine aQ (k+1) rfl (by simp) ⟨rfl,rfl,rfl,rfl,rfl,trivial⟩ ⟨h4,fun j hj=>?_⟩ (by omega)
        rcases Nat.lt_or_ge j k with q|q
        · exact hlt j q
        · rw [show j=k by omega]; exact h5
      · have hk2:=kx (.inr h5)
        rw [hk2] at same ins
        refine ⟨fun q1=>?_,fun q1=>⟨fun q2=>aO (by omega) ⟨fun q3=>?_,fun q3=>?_⟩,fun q2=>absurd h3 q2⟩⟩
        · rw [← same (.inl q1)]
          exact aQ (i+1) rfl (by simp) ⟨rfl,rfl,rfl,rfl,trivial⟩ h2 (by omega)
        · rw [← same (.inr ⟨h4,q3⟩)]
          exact aQ (i+1) rfl (by simp) ⟨rfl,rfl,rfl,rfl,trivial⟩ h2 (by omega)
        · have hins:=ins q1 (fun q=>q3 q.2)
          have hlen:(List.take k (List.map sv out)).length+1+(List.take (out.length - k) (List.drop k (List.map sv out))).length=(gI l (i+1)).length:=by
            rw [hins]; simp only [List.length_take,List.length_map,List.length_append,List.length_cons,List.length_drop]; omega
          have hrow:List.take ((List.take k (List.map sv out)).length+1) (List.take k (List.map sv out)++[[DV.str x]])++List.take (out.length - k) (List.drop k (List.map sv out))=(gI l (i+1)).map sv:=by
            rw [hins,List.take_of_length_le (by simp),List.take_of_length_le (l:=List.drop k (List.map sv out)) (by simp),← List.map_take,← List.map_drop]
            simp [sv]
          refine vI [(4,.int .i64 i),(3,.osl 1 1 0 (gI l (i+1)).length none),(2,.osl 1 0 0 0 none),(0,.sl 1 (l.map sv))] [.arr 1 [],.arr 1 ((gI l (i+1)).map sv)] ?_ (fun hkk=>?_) (fun hkk=>?_)
          · simp only [hone,forall_eq,aG,aD,↓gos,gop,qA,qB,qC,qD,qE,qF,qG,qH,qI]
            exact aQ (i+1) rfl (by simp) ⟨rfl,rfl,rfl,rfl,trivial⟩ h2 (by omega)
          · rw [kO]
            simp only [hlx,sv,aG,aD,↓gos,gop,qA,qB,qC,qD,qE,qF,qG,qH,qI]
            repeat (refine aO (by first | omega | (simp only [List.length_take,List.length_map,List.length_append,List.length_cons,List.length_nil,List.length_drop]; omega)) ?_)
            refine jH ?_ hkk
            first
              | exact wkp [0,2] (by decide) (by simp) (fun i h=>by omega) (by simp) (congrArg (fun e=>[AObj.arr 1 [],.arr 1 e]) hrow) (by
                  intro l hl
                  simp only [List.mem_cons,List.not_mem_nil,or_false] at hl
                  rcases hl with rfl|rfl <;> rfl) ⟨rfl,rfl,congrArg (fun n=>DV.osl 1 1 0 n none) hlen,rfl,rfl,rfl,rfl,rfl,trivial⟩
              | exact wkp [0,3] (by decide) (by simp) (fun i h=>by omega) (by simp) (congrArg (fun e=>[AObj.arr 1 [],.arr 1 e]) hrow) (by
                  intro l hl
                  simp only [List.mem_cons,List.not_mem_nil,or_false] at hl
                  rcases hl with rfl|rfl <;> rfl) ⟨rfl,rfl,congrArg (fun n=>DV.osl 1 1 0 n none) hlen,rfl,rfl,rfl,rfl,rfl,trivial⟩
          · repeat' refine sC ?_ ?_
            all_goals
              rw [kO]
              simp only [hlx,sv,aG,aD,↓gos,gop,qA,qB,qC,qD,qE,qF,qG,qH,qI]
              repeat (refine aO (by first | omega | (simp only [List.length_take,List.length_map,List.length_append,List.length_cons,List.length_nil,List.length_drop]; omega)) ?_)
              refine jH ?_ hkk
              first
                | exact wkp [0,2] (by decide) (by simp) (fun i h=>by omega) (by simp) (congrArg (fun e=>[AObj.arr 1 [],.arr 1 e]) hrow) (by
                    intro l hl
                    simp only [List.mem_cons,List.not_mem_nil,or_false] at hl
                    rcases hl with rfl|rfl <;> rfl) ⟨rfl,rfl,congrArg (fun n=>DV.osl 1 1 0 n none) hlen,rfl,rfl,rfl,rfl,rfl,trivial⟩
                | exact wkp [0,3] (by decide) (by simp) (fun i h=>by omega) (by simp) (congrArg (fun e=>[AObj.arr 1 [],.arr 1 e]) hrow) (by
                    intro l hl
                    simp only [List.mem_cons,List.not_mem_nil,or_false] at hl
                    rcases hl with rfl|rfl <;> rfl) ⟨rfl,rfl,congrArg (fun n=>DV.osl 1 1 0 n none) hlen,rfl,rfl,rfl,rfl,rfl,trivial⟩
    · have hk2:=kx (.inl (by omega))
      rw [hk2] at same ins
      refine ⟨fun q1=>?_,fun q1=>⟨fun q2=>absurd q2 h3,fun q2=>?_⟩⟩
      · rw [← same (.inl q1)]
        exact aQ (i+1) rfl (by simp) ⟨rfl,rfl,rfl,rfl,trivial⟩ h2 (by omega)
      · have hins:=ins q1 (fun q=>h3 (by have:=q.1; omega))
        have hlen:(List.take k (List.map sv out)).length+1+(List.take (out.length - k) (List.drop k (List.map sv out))).length=(gI l (i+1)).length:=by
          rw [hins]; simp only [List.length_take,List.length_map,List.length_append,List.length_cons,List.length_drop]; omega
        have hrow:List.take ((List.take k (List.map sv out)).length+1) (List.take k (List.map sv out)++[[DV.str x]])++List.take (out.length - k) (List.drop k (List.map sv out))=(gI l (i+1)).map sv:=by
          rw [hins,List.take_of_length_le (by simp),List.take_of_length_le (l:=List.drop k (List.map sv out)) (by simp),← List.map_take,← List.map_drop]
          simp [sv]
        refine vI [(4,.int .i64 i),(3,.osl 1 1 0 (gI l (i+1)).length none),(2,.osl 1 0 0 0 none),(0,.sl 1 (l.map sv))] [.arr 1 [],.arr 1 ((gI l (i+1)).map sv)] ?_ (fun hkk=>?_) (fun hkk=>?_)
        · simp only [hone,forall_eq,aG,aD,↓gos,gop,qA,qB,qC,qD,qE,qF,qG,qH,qI]
          exact aQ (i+1) rfl (by simp) ⟨rfl,rfl,rfl,rfl,trivial⟩ h2 (by omega)
        · rw [kO]
          simp only [hlx,sv,aG,aD,↓gos,gop,qA,qB,qC,qD,qE,qF,qG,qH,qI]
          repeat (refine aO (by first | omega | (simp only [List.length_take,List.length_map,List.length_append,List.length_cons,List.length_nil,List.length_drop]; omega)) ?_)
          refine jH ?_ hkk
          first
            | exact wkp [0,2] (by decide) (by simp) (fun i h=>by omega) (by simp) (congrArg (fun e=>[AObj.arr 1 [],.arr 1 e]) hrow) (by
                intro l hl
                simp only [List.mem_cons,List.not_mem_nil,or_false] at hl
                rcases hl with rfl|rfl <;> rfl) ⟨rfl,rfl,congrArg (fun n=>DV.osl 1 1 0 n none) hlen,rfl,rfl,rfl,rfl,rfl,trivial⟩
            | exact wkp [0,3] (by decide) (by simp) (fun i h=>by omega) (by simp) (congrArg (fun e=>[AObj.arr 1 [],.arr 1 e]) hrow) (by
                intro l hl
                simp only [List.mem_cons,List.not_mem_nil,or_false] at hl
                rcases hl with rfl|rfl <;> rfl) ⟨rfl,rfl,congrArg (fun n=>DV.osl 1 1 0 n none) hlen,rfl,rfl,rfl,rfl,rfl,trivial⟩
        · repeat' refine sC ?_ ?_
          all_goals
            rw [kO]
            simp only [hlx,sv,aG,aD,↓gos,gop,qA,qB,qC,qD,qE,qF,qG,qH,qI]
            repeat (refine aO (by first | omega | (simp only [List.length_take,List.length_map,List.length_append,List.length_cons,List.length_nil,List.length_drop]; omega)) ?_)
            refine jH ?_ hkk
            first
              | exact wkp [0,2] (by decide) (by simp) (fun i h=>by omega) (by simp) (congrArg (fun e=>[AObj.arr 1 [],.arr 1 e]) hrow) (by
                  intro l hl
                  simp only [List.mem_cons,List.not_mem_nil,or_false] at hl
                  rcases hl with rfl|rfl <;> rfl) ⟨rfl,rfl,congrArg (fun n=>DV.osl 1 1 0 n none) hlen,rfl,rfl,rfl,rfl,rfl,trivial⟩
              | exact wkp [0,3] (by decide) (by simp) (fun i h=>by omega) (by simp) (congrArg (fun e=>[AObj.arr 1 [],.arr 1 e]) hrow) (by
                  intro l hl
                  simp only [List.mem_cons,List.not_mem_nil,or_false] at hl
                  rcases hl with rfl|rfl <;> rfl) ⟨rfl,rfl,congrArg (fun n=>DV.osl 1 1 0 n none) hlen,rfl,rfl,rfl,rfl,rfl,trivial⟩
  · have h2:i=l.length:=by omega
    subst h2
    have e:gI l l.length=bG l:=by unfold gI bG; rw [List.take_length]
    rw [← e]
    exact dF [1] (DQ rfl (by simp) rfl) (by rfl) ⟨rfl,rfl⟩
end Go.Proofs.Ut
