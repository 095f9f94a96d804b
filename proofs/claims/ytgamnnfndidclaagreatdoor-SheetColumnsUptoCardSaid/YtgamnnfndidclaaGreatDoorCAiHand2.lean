/- What is folded is unfolded as it was, in plain words. -/
import Derived.Test.YtgamnnfndidclaaGreatDoorCYFoM
import Derived.Test.YtgamnnfndidclaaGreatDoorCAiBld
import Derived.Test.YtgamnnfndidclaaGreatDoorCAiUn
import Derived.Lib.IndexMore
import Derived.Shelf.Strings.Search2
import Derived.Shelf.Unicode.DecodeAny
open Nat renaming reduceBEq → qA,reduceAdd → qB,reduceSub → qC,reduceLeDiff → qD,reduceMul → qE
open Int renaming reduceLE → qF,reduceLT → qG,reduceNe → qH,reduceToNat → qI
set_option linter.all false
namespace Go.Proofs.Ut
open Go.Ai Classical
set_option linter.unusedSimpArgs false
set_option linter.unusedVariables false
set_option maxHeartbeats 1000000
set_option maxRecDepth 100000
theorem aGg (s:List UInt8)(n:Nat)(hn:n≤s.length):D s n=D (s.drop n) 0:=by
 have:=AB (s.take n) (s.drop n) 0
 rwa [List.take_append_drop,List.length_take,Nat.min_eq_left hn,Nat.add_zero] at this
theorem wR:∀ k (s:List UInt8),s.length≤k→(kP (lO s)).length=s.length+3*(lO s).length
 | k,[],_=>by simp [qM,kP]
 | 0,y::s,h=>by simp at h
 | k+1,y::s,h=>by
  have hf:=kK (y::s) 74 (by simp)
  rw [nC _ (by simp),jU]
  have ih:=wR k ((y::s).drop (fits (y::s) 74)) (by rw [List.length_drop]; simp only [List.length_cons] at h ⊢; omega)
  simp only [List.length_append,List.length_cons,List.length_take,List.length_drop] at ih ⊢
  simp only [List.length_cons] at hf
  omega
theorem CI (s:List UInt8):(kP (qY s)).length+1=s.length+3*(qY s).length:=by
 have h1:=wR _ (s.drop (fits s 75)) (Nat.le_refl _)
 have h2:fits s 75≤s.length:=by
  by_cases hs:s=[]
  ·subst hs; simp [DC]
  ·exact (kK s 75 hs).2
 rw [pC,jU]
 simp only [List.length_append,List.length_cons,List.length_take,List.length_drop] at h1 ⊢
 omega
theorem xN:∀ k (s:List UInt8),s.length≤k→(lO s).length≤s.length
 | k,[],_=>by simp [qM]
 | 0,y::s,h=>by simp at h
 | k+1,y::s,h=>by
  have hf:=kK (y::s) 74 (by simp)
  rw [nC _ (by simp)]
  have ih:=xN k ((y::s).drop (fits (y::s) 74)) (by rw [List.length_drop]; simp only [List.length_cons] at h ⊢; omega)
  simp only [List.length_cons,List.length_drop] at ih hf ⊢
  omega
theorem VE (s:List UInt8):(qY s).length≤s.length+1:=by
 have h1:=xN _ (s.drop (fits s 75)) (Nat.le_refl _)
 rw [pC]
 simp only [List.length_cons,List.length_drop] at h1 ⊢
 omega
theorem xE:∀ l:List (List UInt8),(gZ l).length≤(l.map fun s=>4*s.length+2).sum
 | []=>by simp [gZ]
 | s::l=>by
  have h1:=CI s
  have h2:=VE s
  have ih:=xE l
  rw [gZ] at ih ⊢
  simp only [List.flatMap_cons,List.length_append,List.map_cons,List.sum_cons]
  omega
theorem aDX {c:Nat}(h:okC c)(h3:32≤c):∀ x∈en (c:Int),x≠13∧x≠10:=by
 have hu:∀ n,32≤n→n<256→UInt8.ofNat n≠13∧UInt8.ofNat n≠10:=fun n a b=>by
  have:=cW n b
  refine ⟨fun e=>?_,fun e=>?_⟩ <;> rw [e] at this <;> simp at this <;> omega
 unfold okC at h
 rw [mQ (by unfold okC; exact h)]
 intro x hx
 split at hx
 ·simp only [List.mem_singleton] at hx; subst hx; exact hu _ (by omega) (by omega)
 split at hx
 ·simp only [List.mem_cons,List.not_mem_nil,or_false] at hx
  rcases hx with rfl|rfl <;> exact hu _ (by omega) (by omega)
 split at hx
 ·simp only [List.mem_cons,List.not_mem_nil,or_false] at hx
  rcases hx with rfl|rfl|rfl <;> exact hu _ (by omega) (by omega)
 ·simp only [List.mem_cons,List.not_mem_nil,or_false] at hx
  rcases hx with rfl|rfl|rfl|rfl <;> exact hu _ (by omega) (by omega)
end Go.Proofs.Ut

namespace Go.Ai
theorem wT {p q r:Nat→Bool}(hr:∀ l,r l=(p l||q l)):∀ {d:DV},(d.kill p).kill q=d.kill r:=by
  intro d
  refine DV.rec (motive_1:=fun d=>(d.kill p).kill q=d.kill r) (motive_2:=fun l=>DV.kill.killAll q (DV.kill.killAll p l)=DV.kill.killAll r l) (motive_3:=fun _=>True)
    ?_ ?_ ?_ ?_ ?_ ?_ ?_ ?_ ?_ ?_ ?_ ?_ ?_ ?_ ?_ ?_ ?_ ?_ ?_ ?_ ?_ ?_ ?_ ?_ ?_ ?_ d
  all_goals first
    | (intros; rfl)
    | (intros; simp_all [DV.kill,DV.kill.killAll]; done)
    | (intro l
       intros
       have h3:=hr l
       cases hp:p l <;> cases hq:q l <;> simp [DV.kill,hp,hq,hp▸hq▸h3]; done)
    | (intro l
       intros
       have h3:=hr l
       cases hp:p l <;> cases hq:q l <;> (rw [hp,hq] at h3; simp [DV.kill,hp,hq,h3]); done)
    | (intro _ l
       intros
       have h3:=hr l
       cases hp:p l <;> cases hq:q l <;> (rw [hp,hq] at h3; simp [DV.kill,hp,hq,h3]); done)
    | skip
theorem CQ {p q r:Nat→Bool}(hr:∀ l,r l=(p l||q l))(o:AObj):rS q (rS p o)=rS r o:=by
 cases o with
 | box cs=>
  simp only [rS,List.map_map]
  exact congrArg AObj.box (List.map_congr_left fun d _=>wT hr)
 | _=>rfl
end Go.Ai

namespace Go.Proofs.Ut
open Go.Ai Classical Go.Shelf Go.RowKit
set_option linter.unusedSimpArgs false
set_option linter.unusedVariables false
set_option maxHeartbeats 1000000
set_option maxRecDepth 100000
theorem RZ {f:Nat}{args:List DV}{r:DV}(hent:Ent Tryz.prog f)(h:∀ (w:World)(ok:Nat→Prop)(β:Ai.Loc)(vs:List Value),Laid w→vs.length=args.length→(∀ (i:Nat) v d,vs[i]?=some v→args[i]?=some d→Rep w ok β v d) →
  ∃ v,(∀ w ok β,Rep w ok β v r)∧Calls Tryz.prog f vs.toArray w fun e w' => e=.returned v∧Below w.heap.size w w'):aU f args r:=by
 refine ⟨hent,fun w ok β vs hg hn hh hl hv=>?_⟩
 obtain ⟨v,hr,hc⟩:=h w ok β vs hg hl hv
 refine hc.mono ?_
 rintro e w' ⟨rfl,hb⟩
 exact ⟨_,ok,β,[],_,rfl,⟨rfl,rfl⟩,jV hg hn hb,Ev.below hb,uT hh hb.size,hr _ _ _,fun l cs q=>by simp at q,Nat.le_refl _,fun _ _ _=>rfl⟩
theorem one {vs:List Value}{a:DV}(h:vs.length=[a].length):∃ u,vs=[u]:=by
 match vs,h with
 | [u],_=>exact ⟨u,rfl⟩
theorem ZB (s sub:List UInt8)(hs:s.length<1000000000):aU 166 [.str s,.str sub] (.int .i64 (Lib.index s sub)):=by
 refine RZ ⟨Tryz.f166,Tryz.func166,by kernel_rfl,by kernel_rfl⟩ fun w ok β vs hg hl hv=>?_
 obtain ⟨u,v,rfl⟩:=two hl
 obtain rfl:=dB (hv 0 u _ rfl rfl)
 obtain rfl:=dB (hv 1 v _ rfl rfl)
 obtain ⟨m,hm⟩:=hg.most
 refine ⟨_,fun _ _ _=>.int _ _,(Any.stringslite_Index Tryz.lays219 ⟨s.toArray⟩ ⟨sub.toArray⟩ m w (by simp [ByteArray.size]; omega) hm).mono ?_⟩
 rintro e w' ⟨rfl,rfl⟩
 exact ⟨by simp,Below.refl _ _⟩
theorem AY (s:List UInt8)(hs:s≠[]):aU 220 [.str s] (.tup [.int .i32 (D s 0).1,.int .i64 (D s 0).2]):=by
 refine RZ ⟨Tryz.f220,Tryz.func220,by kernel_rfl,by kernel_rfl⟩ fun w ok β vs hg hl hv=>?_
 obtain ⟨u,rfl⟩:=one hl
 obtain rfl:=dB (hv 0 u _ rfl rfl)
 have hd:Lib.decodeGo ⟨s.toArray⟩=D s 0:=by
  unfold Lib.decodeGo
  rw [if_neg (by simpa [ByteArray.size] using hs)]; rfl
 refine ⟨_,fun _ _ _=>.tup [.int .i32 (D s 0).1,.int .i64 (D s 0).2] _ rfl fun i v d h1 h2=>by
  rcases i with _|_|i
  ·cases h1; cases h2; exact .int _ _
  ·cases h1; cases h2; exact .int _ _
  ·simp at h1,(Any.utf8_DecodeRuneInString Tryz.lays197 ⟨s.toArray⟩ w hg.tabs).mono ?_⟩
 rintro e w' ⟨rfl,hb⟩
 exact ⟨by rw [hd],hb⟩
theorem WX (s:List UInt8)(most:Nat)(hs:s.length<1000000000)(hm:most<1000000000):aU 173 [.str s,.int .i64 most] (.int .i64 (fits s most:Nat)):=by
 refine aA c173 (by simp [f173]) ?_
 simp only [f173,↓gos,gop,qA,qB,qC,qD,qE,qF,qG,qH,qI]
 refine aJ (γ:=Nat) (fun n=>[(0,.str s),(1,.int .i64 (most:Nat)),(5,.int .i64 (n:Nat))]) (fun _=>[]) (fun n=>n≤s.length∧zH s most n=fits s most) (fun n=>s.length - n) 0
  (wks rfl (by simp) ⟨rfl,rfl,rfl,trivial⟩) ⟨by simp,rfl⟩ fun n hg=>?_
 obtain ⟨p1,p2⟩:=hg
 simp only [f173l0,↓gos,gop,qA,qB,qC,qD,qE,qF,qG,qH,qI]
 refine ⟨fun h1=>?_,fun h1=>?_⟩
 ·have hl:=eC s n (by omega)
  refine ⟨by omega,?_⟩
  have ht:List.take (s.length - n) (List.drop n s)=s.drop n:=List.take_of_length_le (by simp)
  rw [ht]
  refine aB (AY (s.drop n) (by intro e; have:=congrArg List.length e; simp at this; omega)) rfl rfl ?_
  rw [← aGg s n p1]
  have hst:=qL s most n (by omega)
  simp only [↓gos,gop,qA,qB,qC,qD,qE,qF,qG,qH,qI]
  refine ⟨fun h2 v hv=>?_,fun h2 v hv=>?_⟩
  ·rw [wrap_i64 (by omega) (by omega)] at hv
   have hv:v=((n+(D s n).2:Nat):Int):=by omega
   subst hv
   refine ⟨fun h3=>mK ?_,fun h3 v hv=>?_⟩
   ·rw [if_pos ⟨by omega,by omega⟩] at hst
    rw [← p2,hst]
   ·rw [wrap_i64 (by omega) (by omega)] at hv
    have hv:v=((n+(D s n).2:Nat):Int):=by omega
    subst hv
    rw [if_neg (by omega)] at hst
    exact aN (n+(D s n).2) rfl (by simp) ⟨rfl,rfl,rfl,trivial⟩ ⟨hl.2.1,by rw [← hst,p2]⟩ (by omega)
  ·rw [wrap_i64 (by omega) (by omega)] at hv
   have hv:v=((n+(D s n).2:Nat):Int):=by omega
   subst hv
   rw [if_neg (by omega)] at hst
   exact aN (n+(D s n).2) rfl (by simp) ⟨rfl,rfl,rfl,trivial⟩ ⟨hl.2.1,by rw [← hst,p2]⟩ (by omega)
 ·refine mK ?_
  rw [← p2,vE s most n (by omega)]
theorem aCu (s:List UInt8):kP (qY s)=s.take (fits s 75)++13::10::kP (lO (s.drop (fits s 75))):=by rw [pC,jU]
theorem aEv (l:List (List UInt8))(hl:l.length<1000000)(hb:(gZ l).length<1000000000):aU 132 [.sl 1 (l.map sv)] (.str (gZ l)):=by
 refine aA c132 (by simp [f132]) ?_
 simp only [f132,↓gos,gop,qA,qB,qC,qD,qE,qF,qG,qH,qI]
 refine aJ (γ:=List UInt8×Nat) (fun g=>[(9,.int .i64 (g.2:Nat)),(8,.int .i64 (l.length:Nat)),(7,.sl 1 (l.map sv)),(3,.ptr 1 0)])
  (fun g=>[.buf 5 g.1,.box [.self 1 169 2,.hdr 0 5 g.1.length]])
  (fun g=>g.2≤l.length∧g.1++gZ (l.drop g.2)=gZ l) (fun g=>l.length - g.2) ([],0)
  (wks rfl (by simp) ⟨rfl,rfl,rfl,rfl,trivial⟩) ⟨by simp,rfl⟩ fun g hg=>?_
 obtain ⟨acc,i⟩:=g
 obtain ⟨p1,p2⟩:=hg
 simp only at p1 p2
 simp only [f132l1,↓gos,gop,qA,qB,qC,qD,qE,qF,qG,qH,qI]
 refine ⟨fun hi=>aL [] (by omega) ?_,fun hi=>?_⟩
 ·have hdr:l.drop i=l.getD i []::l.drop (i+1):=by
   rw [List.getD_eq_getElem?_getD,List.getElem?_eq_getElem (by omega)]
   exact List.drop_eq_getElem_cons (by omega)
  rw [hdr] at p2
  generalize l.getD i []=s at p2
  have p2:acc++kP (qY s)++gZ (l.drop (i+1))=gZ l:=by
   rw [← p2]; simp [gZ]
  have hlen:=congrArg List.length p2
  have hrl:=CI s
  have hfl:fits s 75≤s.length:=by
   by_cases hs:s=[]
   ·subst hs; simp [DC]
   ·exact (kK s 75 hs).2
  rw [aCu] at p2 hlen hrl
  simp only [List.length_append,List.length_cons] at hlen hrl
  have hrl2:=pC s
  have hrl3:=congrArg List.length hrl2
  simp only [List.length_cons] at hrl3
  have hs:s.length<1000000000:=by omega
  simp only [sv,↓gos,gop,qA,qB,qC,qD,qE,qF,qG,qH,qI]
  refine aB (WX s 75 hs (by omega)) rfl rfl ?_
  simp only [↓gos,gop,qA,qB,qC,qD,qE,qF,qG,qH,qI]
  have ht:(List.take (fits s 75) s).length≤s.length:=by simp; omega
  refine ⟨by omega,by omega,?_⟩
  refine gL (gr:=false) (gr' := false) (m:=0) (l:=1) rfl rfl rfl (FA false _ _ (by simp only [List.length_append,List.length_cons,List.length_nil] at *; omega)) ?_
  simp only [Buf,↓gos,gop,qA,qB,qC,qD,qE,qF,qG,qH,qI]
  refine ⟨by omega,?_⟩
  have hd0:List.take (s.length - fits s 75) (List.drop (fits s 75) s)=s.drop (fits s 75):=List.take_of_length_le (by simp)
  rw [hd0]
  refine aJ (γ:=List UInt8×List UInt8) (fun g=>[(5,.str g.2),(9,.int .i64 (i:Nat)),(8,.int .i64 (l.length:Nat)),(7,.sl 1 (l.map sv)),(3,.ptr 1 0)])
   (fun g=>[.buf 5 g.1,.box [.self 1 169 2,.hdr 0 5 g.1.length]])
   (fun g=>g.1++kP (lO g.2)++gZ (l.drop (i+1))=gZ l∧g.2.length≤s.length) (fun g=>g.2.length) (acc++(List.take (fits s 75) s++[13,10]),s.drop (fits s 75))
   (wks rfl (by simp) ⟨rfl,rfl,rfl,rfl,rfl,trivial⟩) ⟨by rw [← p2]; simp,by simp⟩ fun g hg=>?_
  obtain ⟨a2,t⟩:=g
  obtain ⟨q1,q2⟩:=hg
  simp only at q1 q2
  have hql:=congrArg List.length q1
  simp only [List.length_append] at hql
  simp only [f132l0,↓gos,gop,qA,qB,qC,qD,qE,qF,qG,qH,qI]
  refine ⟨fun h0=>?_,fun h0 v hv=>?_⟩
  ·refine aB (WX t 74 (by omega) (by omega)) rfl rfl ?_
   simp only [↓gos,gop,qA,qB,qC,qD,qE,qF,qG,qH,qI]
   have hft:=kK t 74 h0
   have hstep:=nC t h0
   have htt:(List.take (fits t 74) t).length≤t.length:=by simp; omega
   rw [hstep,jU] at q1 hql
   simp only [List.length_append,List.length_cons] at hql
   refine ⟨by omega,by first | omega | (simp only [List.length_append,List.length_cons,List.length_nil]; omega),by first | omega | (simp only [List.length_append,List.length_cons,List.length_nil]; omega),?_⟩
   refine gL (gr:=false) (gr' := false) (m:=0) (l:=1) rfl rfl rfl (FA false _ _ (by simp only [List.length_append,List.length_cons,List.length_nil] at *; omega)) ?_
   simp only [Buf,↓gos,gop,qA,qB,qC,qD,qE,qF,qG,qH,qI]
   refine ⟨by omega,?_⟩
   have hd1:List.take (t.length - fits t 74) (List.drop (fits t 74) t)=t.drop (fits t 74):=List.take_of_length_le (by simp)
   rw [hd1]
   refine aN (a2++([32]++List.take (fits t 74) t++[13,10]),t.drop (fits t 74)) rfl (by simp) ⟨rfl,rfl,rfl,rfl,rfl,trivial⟩ ⟨?_,by simp only [List.length_drop]; omega⟩ (by simp only [List.length_drop]; omega)
   rw [← q1]; simp
  ·rw [wrap_i64 (by omega) (by omega)] at hv
   have hv:v=((i+1:Nat):Int):=by omega
   subst hv
   have h0:t=[]:=by simpa using h0
   subst h0
   refine aN (a2,i+1) rfl (by simp) ⟨rfl,rfl,rfl,rfl,trivial⟩ ⟨by omega,?_⟩ (by omega)
   rw [← q1,qM]; simp [kP]
 ·refine qJ (gr:=false) (m:=0) (l:=1) rfl rfl (WR false _) ?_
  simp only [↓gos,gop,qA,qB,qC,qD,qE,qF,qG,qH,qI]
  refine gS ?_
  rw [← p2,List.drop_of_length_le (by omega)]
  simp [gZ]
end Go.Proofs.Ut

namespace Go.Ai
theorem IG {E:Env}{L:List (Nat×DV)}{h:List AObj}{f sz n n' : Nat}{es es' : List (List DV)}{xs:List DV}{D DR:DV}{K:DV→St→Prop}{m l:Nat}(hm:h[m]?=some (.arr sz es))(hl:h[l]?=some (.box [.osl sz m 0 n none]))
  (hx:xs.all DV.closed=true) (hc:ACalls E f [.arr sz es,.box [.osl sz 0 0 n none]] (.ptr 1 0::xs) (fun h' d=>h' = [.arr sz es',.box [.osl sz 0 0 n' none]]∧d=D)) (hD:D.ren (upL h.length [m,l])=DR)
  (hk:K DR (sta (fB m L) (((eZ m h).set m (.arr sz es')).set l (.box [.osl sz m 0 n' none])))):acall E true f (.ptr l 0::xs) K (sta L h):=by
 have hne:m≠l:=fun e=>by subst e; rw [hm] at hl; cases hl
 have hlt1:m<h.length:=(List.getElem?_eq_some_iff.1 hm).1
 have hlt2:l<h.length:=(List.getElem?_eq_some_iff.1 hl).1
 have g1:h.getD m .dead=.arr sz es:=by simp [hm]
 have g2:h.getD l .dead=.box [.osl sz m 0 n none]:=by simp [hl]
 have i0:[m,l].idxOf? m=some 0:=by simp [List.idxOf?,List.findIdx?_cons]
 have i1:[m,l].idxOf? l=some 1:=by simp [List.idxOf?,List.findIdx?_cons,hne]
 refine .go ?_
 refine .inr (.inr ⟨false,[m,l],fun h' d=>h' = [.arr sz es',.box [.osl sz 0 0 n' none]]∧d=D,.inl rfl,by simpa using hne,fun k hk=>?_,?_,fun h' d hp=>?_⟩)
 ·simp at hk; rcases hk with rfl | rfl
  ·exact hlt1
  ·exact hlt2
 ·have e1:(DV.ptr l 0::xs).map (DV.dn [m,l] (sta L h).h)=.ptr 1 0::xs:=by
   rw [List.map_cons]
   refine congr (congrArg _ ?_) (bM fun d hd=>cK (List.all_eq_true.1 hx d hd))
   simp only [DV.dn,DV.low,i1]
  rw [e1,show (sta L h).h=h from rfl]
  simp only [List.map_cons,List.map_nil,g1,g2,iU,DV.low,i0,i1]
  exact hc
 ·obtain ⟨rfl,rfl⟩:=hp
  refine ⟨.inl ?_,?_⟩
  ·rw [Bool.and_eq_true]
   refine ⟨?_,?_⟩
   ·rw [List.all_cons,Bool.and_eq_true]
    refine ⟨by simp [DV.inL],List.all_eq_true.2 fun d hd=>bA (List.all_eq_true.1 hx d hd)⟩
   ·simp only [show (sta L h).h=h from rfl,List.all_cons,List.all_nil,Bool.and_true,g1,g2,inO,DV.inL]
    simp
  ·rw [show (sta L h).h=h from rfl,hD]
   have e:(sta L h).handed false [m,l] [.arr sz es',.box [.osl sz 0 0 n' none]]=sta (fB m L) (((eZ m h).set m (.arr sz es')).set l (.box [.osl sz m 0 n' none])):=by
    unfold St.handed
    have e1:(List.filter (fun l => !eO (sta L h).h[l]?) [m,l])=[m]:=by simp [show (sta L h).h=h from rfl,hm,hl,eO]
    simp only [e1,List.isEmpty_cons,Bool.or_self,Bool.false_eq_true,if_false]
    have e2:(sta L h).kill [m].contains=sta (fB m L) (eZ m h):=by
     have:([m].contains)=fun l=>l == m:=qN m
     rw [this]; exact lS
    rw [e2]
    simp only [List.map_cons,List.map_nil,aS,DV.ren,List.length_cons,List.length_nil,List.drop_succ_cons,List.drop_zero,List.append_nil,bP]
    rfl
   rw [e]; exact hk
theorem aGB {post:List AObj→DV→Prop}{sz n:Nat}{es:List (List DV)}{tl:List AObj}{ds:List DV}(hds:(rvd ds).closed=true)
  (hp:post [.arr sz es,.box [.osl sz 0 0 n none]] (rvd ds)):eK 2 post (some ds) (.arr sz es::.box [.osl sz 0 0 n none]::tl):=by
 refine ⟨ds,rfl,[0,1],by simp,Nat.le_refl _,fun i h=>?_,fun l hl=>?_,bA hds,fun l hl=>?_,?_⟩
 ·have:i=0∨i=1:=by omega
  rcases this with rfl|rfl <;> rfl
 ·simp at hl; rcases hl with rfl | rfl <;> simp
 ·simp at hl; rcases hl with rfl | rfl
  ·rfl
  ·simp [inO,DV.inL]
 ·rw [aZ hds]
  have e:[0,1].map (fun l=>aS (fun x=>List.idxOf x [0,1]) ((.arr sz es::.box [.osl sz 0 0 n none]::tl).getD l .dead))=[.arr sz es,.box [.osl sz 0 0 n none]]:=by
   simp [aS,DV.ren]
  rw [e]; exact hp
end Go.Ai
