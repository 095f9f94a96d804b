/- Properties held against each other; what may be kept; cards, written. -/
import Derived.Test.YtgamnnfndidclaaGreatDoorCYVcC
import Derived.Test.YtgamnnfndidclaaGreatDoorCYFoM
import Derived.Test.YtgamnnfndidclaaGreatDoorCYFoE
open Nat renaming reduceBEq → qA,reduceAdd → qB,reduceSub → qC,reduceLeDiff → qD,reduceMul → qE
open Int renaming reduceLE → qF,reduceLT → qG,reduceNe → qH,reduceToNat → qI
set_option linter.all false
namespace Go.Proofs.Ut
open Go.Ai Go.Shelf Go.RowKit
set_option linter.unusedSimpArgs false
set_option linter.unusedVariables false
set_option maxHeartbeats 1000000
set_option maxRecDepth 100000
theorem uD {α:Type} [DecidableEq α]{a b:List α}{i:Nat}(hl:a.length=b.length)(h:a.take i=b.take i)(hi:i<a.length)(d:α):(a.getD i d=b.getD i d→a.take (i+1)=b.take (i+1))∧(a.getD i d≠b.getD i d→a≠b):=by
 refine ⟨fun he=>?_,fun hn he=>hn (by rw [he])⟩
 have hb:i<b.length:=by omega
 rw [List.take_add_one,List.take_add_one,h]
 simp only [List.getD_eq_getElem?_getD,List.getElem?_eq_getElem hi,List.getElem?_eq_getElem hb,Option.getD_some] at he
 rw [List.getElem?_eq_getElem hi,List.getElem?_eq_getElem hb,he]
theorem aCK (a b:List (List UInt8×List UInt8))(ha:a.length<1000000000)(hb:b.length<1000000000):aU 169 [.sl 2 (a.map av),.sl 2 (b.map av)] (.bool (decide (a=b))):=by
 refine aA c169 (by simp [f169]) ?_
 simp only [f169,↓gos,gop,qA,qB,qC,qD,qE,qF,qG,qH,qI]
 refine ⟨fun h=>aG ?_,fun h=>?_⟩
 ·rw [decide_eq_false]
  intro e; apply h; rw [e]
 ·have hl:a.length=b.length:=by omega
  refine aJ (γ:=Nat) (fun i=>[(13,.int .i64 i),(12,.int .i64 a.length),(0,.sl 2 (a.map av)),(1,.sl 2 (b.map av))]) (fun _=>[]) (fun i=>i≤a.length∧a.take i=b.take i) (fun i=>a.length - i) 0
   (wks rfl (by simp) ⟨rfl,rfl,rfl,rfl,trivial⟩) ⟨by omega,by simp⟩ fun i hi=>?_
  obtain ⟨hi,ht⟩:=hi
  simp only [f169l0,↓gos,gop,qA,qB,qC,qD,qE,qF,qG,qH,qI]
  refine ⟨fun h1=>?_,fun h1=>?_⟩
  ·have h2:i<a.length:=by omega
   have hd:=uD hl ht h2 default
   refine aL default (by simpa using h2) ?_
   simp only [av,↓gos,gop,qA,qB,qC,qD,qE,qF,qG,qH,qI]
   refine aL default (by omega) ?_
   generalize a.getD i default=x at hd ⊢
   generalize b.getD i default=y at hd ⊢
   obtain ⟨x1,x2⟩:=x
   obtain ⟨y1,y2⟩:=y
   simp only [av,↓gos,gop,qA,qB,qC,qD,qE,qF,qG,qH,qI]
   refine ⟨fun h3=>aG ?_,fun h3 v hv=>?_⟩
   ·have hne:¬ (x1=y1∧x2=y2):=by
     rintro ⟨rfl,rfl⟩
     simp at h3
    rw [decide_eq_false (hd.2 (by simpa using hne))]
   ·obtain ⟨rfl,rfl⟩:=h3
    rw [wrap_i64 (by omega) (by omega)] at hv
    subst hv
    exact aN (i+1) rfl (by simp) ⟨rfl,rfl,rfl,rfl,trivial⟩ ⟨by omega,hd.1 rfl⟩ (by omega)
  ·refine aG ?_
   have:i=a.length:=by omega
   subst this
   rw [List.take_length,hl,List.take_length] at ht
   rw [decide_eq_true ht]
theorem aHQ (p:PR):aU 170 [.agg (pv p)] (.bool (QD p)):=by
 refine aA c170 (by simp [f170]) ?_
 simp only [f170,pv,↓gos,gop,qA,qB,qC,qD,qE,qF,qG,qH,qI]
 have e1:FIR=[66,69,71,73,78]:=rfl
 have e2:VER=[86,69,82,83,73,79,78]:=rfl
 unfold QD
 rw [e1,e2]
 refine ⟨fun h1=>⟨fun h2=>aG ?_,fun h2=>aG ?_⟩,fun h1=>aG ?_⟩
 ·rw [decide_eq_false h1,decide_eq_false h2]; rfl
 ·rw [decide_eq_true h2]; simp
 ·rw [decide_eq_true h1]; simp
theorem DW:∀ n (s:List UInt8) acc,s.length≤n→(fR acc s).1.length≤acc.length+s.length
 | n,s,acc,hn=>by
  by_cases h59:s.head?=some 59
  ·obtain ⟨t,rfl⟩:∃ t,s=59::t:=by
    cases s with
    | nil=>simp at h59
    | cons x t=>simp at h59; exact ⟨t,by rw [h59]⟩
   rw [uP]
   have hl:=mI t
   cases n with
   | zero=>simp at hn
   | succ n=>
    simp only [List.length_cons] at hn
    split
    ·have:=DW n (cQ t).2.1 (acc++[(cQ t).1]) (by omega)
     simp at this ⊢; omega
    ·simp
  ·rw [wS _ _ h59]; simp
theorem PY (s:List UInt8):(tL s).1.ps.length≤s.length:=by
 have h1:(fH s).2.2.length≤s.length:=by
  unfold fH
  have:=iF s
  split
  ·have h2:=iF (cG s).tail
   have h3:(cG s).tail.length≤(cG s).length:=by simp
   show (cG (cG s).tail).length≤_
   omega
  ·exact this
 have h2:=DW _ (fH s).2.2 [] (Nat.le_refl _)
 unfold tL
 split
 ·simp
 ·split
  ·simp at h2 ⊢; omega
  ·simp at h2 ⊢; omega
theorem aFr (p:PR)(hp:wtP p<100000000):aU 130 [.agg (pv p)] (.bool (iX p)):=by
 have hwl:=sA p
 refine aA c130 (by simp [f130]) ?_
 simp only [f130,pv,↓gos,gop,qA,qB,qC,qD,qE,qF,qG,qH,qI]
 refine aB (xQ p (by omega)) rfl rfl ?_
 simp only [↓gos,gop,qA,qB,qC,qD,qE,qF,qG,qH,qI]
 refine iS (aEM (aT p) (by omega)) (by simp [DV.closed]) ?_
 generalize hx:tL (aT p)=x
 obtain ⟨q,b⟩:=x
 have hk:iX p=(b&&decide (q=p)&&QD p && !ef (aT p) END&&bC bQ (aT p) 0 && !WD (aT p)):=by
  unfold iX; rw [hx]
 have no:q≠p→false=iX p:=fun h=>by rw [hk,decide_eq_false h]; simp
 have hqb:=PY (aT p)
 rw [hx] at hqb
 simp only at hqb
 have hpb:=(iO p.ps).2
 have hpw:wtA p.ps≤wtP p:=by unfold wtP; omega
 cases b
 ·simp only [DV.ren,DV.ren.renAll,aS,↓gos,gop,qA,qB,qC,qD,qE,qF,qG,qH,qI]
  exact aG (by rw [hk]; rfl)
 ·simp only [DV.ren,DV.ren.renAll,aS,↓gos,gop,qA,qB,qC,qD,qE,qF,qG,qH,qI]
  refine ⟨fun g1=>⟨fun g2=>⟨fun g3=>?_,fun g3=>aG (no fun e=>g3 (by rw [e]))⟩,fun g2=>aG (no fun e=>g2 (by rw [e]))⟩,fun g1=>aG (no fun e=>g1 (by rw [e]))⟩
  refine aB (aCK q.ps p.ps (by omega) (by omega)) (by simp [DV.dn,DV.low,Go.Ai.tkm]) rfl ?_
  by_cases g4:q.ps=p.ps
  ·have hq:q=p:=by cases q; cases p; simp_all
   subst hq
   rw [decide_eq_true rfl]
   simp only [↓gos,gop,qA,qB,qC,qD,qE,qF,qG,qH,qI]
   refine aB (aHQ q) (by simp [DV.dn,DV.low,DV.low.lowAll,pv,Go.Ai.tkm]) rfl ?_
   cases hm:QD q
   ·simp only [↓gos,gop,qA,qB,qC,qD,qE,qF,qG,qH,qI]
    exact aG (by rw [hk,hm]; simp)
   simp only [↓gos,gop,qA,qB,qC,qD,qE,qF,qG,qH,qI]
   refine aB (aKI (aT q) END (by omega) (by decide) (by unfold RL; decide)) rfl rfl ?_
   cases he:ef (aT q) END
   ·simp only [↓gos,gop,qA,qB,qC,qD,qE,qF,qG,qH,qI]
    refine aB (yQ (aT q) (by omega)) rfl rfl ?_
    cases hv:bC bQ (aT q) 0
    ·simp only [↓gos,gop,qA,qB,qC,qD,qE,qF,qG,qH,qI]
     exact aG (by rw [hk,hm,he,hv]; simp)
    ·simp only [↓gos,gop,qA,qB,qC,qD,qE,qF,qG,qH,qI]
     refine aB (aDd [13,10] sg2 (aT q) (by omega)) rfl rfl ?_
     rw [ZU]
     cases hd:WD (aT q)
     ·simp only [↓gos,gop,qA,qB,qC,qD,qE,qF,qG,qH,qI]
      exact aG (by rw [hk,hm,he,hv,hd]; simp)
     ·simp only [↓gos,gop,qA,qB,qC,qD,qE,qF,qG,qH,qI]
      exact aG (by rw [hk,hm,he,hv,hd]; simp)
   ·simp only [↓gos,gop,qA,qB,qC,qD,qE,qF,qG,qH,qI]
    exact aG (by rw [hk,hm,he]; simp)
  ·rw [decide_eq_false g4]
   simp only [↓gos,gop,qA,qB,qC,qD,qE,qF,qG,qH,qI]
   exact aG (no fun e=>g4 (by rw [e]))
theorem aGm (p:PR)(hp:wtP p<100000000):aU 129 [.agg (pv p)] (.bool (!iX p)):=by
 refine aA c129 (by simp [f129]) ?_
 simp only [f129,pv,↓gos,gop,qA,qB,qC,qD,qE,qF,qG,qH,qI]
 refine aB (aFr p hp) rfl rfl ?_
 cases iX p
 ·simp only [↓gos,gop,qA,qB,qC,qD,qE,qF,qG,qH,qI]
  exact aG rfl
 ·simp only [↓gos,gop,qA,qB,qC,qD,qE,qF,qG,qH,qI]
  exact aG rfl
theorem mG {α:Type}{l:List α}{i:Nat}(h:i<l.length)(d:α):l.getD i d∈l:=by
 rw [List.getD_eq_getElem?_getD,List.getElem?_eq_getElem h]; exact List.getElem_mem _
theorem eA {α:Type}{l:List α}{i:Nat}(h:i<l.length)(d:α):l.take (i+1)=l.take i++[l.getD i d]:=by
 rw [List.take_add_one,List.getD_eq_getElem?_getD,List.getElem?_eq_getElem h]; rfl
theorem WI {α:Type}{l:List α}{i:Nat}(h:i<l.length)(d:α){p:α→Bool}(hp:p (l.getD i d)=false):l.all p=false:=by
 cases hc:l.all p with
 | false=>rfl
 | true=>rw [List.all_eq_true.1 hc _ (mG h d)] at hp; cases hp
instance:Inhabited PR:=⟨⟨[],[],[],[]⟩⟩
def wtC (c:List PR):Prop:=∀ p∈c,wtP p≤50000
theorem aCz (c:List PR)(hc:c.length<1000000000)(hw:wtC c):ACalls ED 167 [] [.sl 4 (c.map pv),.fn 129 []] (fun h d=>h=[]∧∃ n:Int,d=.int .i64 n∧(decide (0≤n)) = !c.all iX):=by
 refine aA c167 (by simp [f167]) ?_
 simp only [f167,↓gos,gop,qA,qB,qC,qD,qE,qF,qG,qH,qI]
 refine aJ (γ:=Nat) (fun i=>[(8,.int .i64 i),(7,.int .i64 c.length),(0,.sl 4 (c.map pv)),(1,.fn 129 [])]) (fun _=>[]) (fun i=>i≤c.length∧(c.take i).all iX=true) (fun i=>c.length - i) 0
  (wks rfl (by simp) ⟨rfl,rfl,rfl,rfl,trivial⟩) ⟨by omega,by simp⟩ fun i hi=>?_
 obtain ⟨hi,ht⟩:=hi
 simp only [f167l0,↓gos,gop,qA,qB,qC,qD,qE,qF,qG,qH,qI]
 refine ⟨fun h=>?_,fun h=>?_⟩
 ·have h2:i<c.length:=by omega
  refine aL default (by simpa using h2) ?_
  have htk:=eA h2 default
  have hm:=mG h2 default
  have hno:=fun (p:PR→Bool)=>WI (p:=p) h2 default
  generalize c.getD i default=p at htk hm hno ⊢
  simp only [pv,↓gos,gop,qA,qB,qC,qD,qE,qF,qG,qH,qI]
  refine aB (aGm p (by have:=hw p hm; omega)) rfl rfl ?_
  cases hk:iX p
  ·simp only [↓gos,gop,qA,qB,qC,qD,qE,qF,qG,qH,qI]
   refine aD rfl ⟨rfl,_,rfl,?_⟩
   rw [hno _ hk]; simp
  ·simp only [↓gos,gop,qA,qB,qC,qD,qE,qF,qG,qH,qI]
   intro v hv
   rw [wrap_i64 (by omega) (by omega)] at hv
   subst hv
   refine aN (i+1) rfl (by simp) ⟨rfl,rfl,rfl,rfl,trivial⟩ ⟨by omega,?_⟩ (by omega)
   rw [htk,List.all_append,ht]; simp [hk]
 ·have h2:i=c.length:=by omega
  subst h2
  rw [List.take_length] at ht
  refine aD rfl ⟨rfl,_,rfl,?_⟩
  rw [ht]; rfl
theorem HX (c:List PR)(hc:c.length<1000000000)(hw:wtC c):aU 128 [.sl 4 (c.map pv),.fn 129 []] (.bool (!c.all iX)):=by
 refine aA c128 (by simp [f128]) ?_
 simp only [f128,↓gos,gop,qA,qB,qC,qD,qE,qF,qG,qH,qI]
 refine kZ (aCz c hc hw) rfl ⟨_,if c.all iX=true then -1 else 0,rfl,by split <;> simp_all⟩ ?_
 rintro d ⟨n,rfl,hn⟩
 refine ⟨rfl,?_⟩
 rw [← hn]
 simp only [↓gos,gop,qA,qB,qC,qD,qE,qF,qG,qH,qI]
 refine ⟨fun h=>aG ?_,fun h=>aG ?_⟩
 ·rw [decide_eq_true h]
 ·rw [decide_eq_false h]
def cv (c:List PR):List DV:=[.sl 4 (c.map pv)]
def okc (c:List PR):Bool:=decide (c.length≤40)&&c.all iX
theorem zI (l:List (List PR)):okW l=(decide (l.length≤60)&&l.all okc):=rfl
def rY (c:List PR):List (List UInt8):=[BEG,VER++58::V40]++c.map aT++[END]
theorem wD (a:List (List PR))(c:List PR):cN (a++[c])=cN a++rY c:=by simp [cN,rY]
theorem OI (c:List PR):(rY c).length=c.length+3:=by simp [rY]
theorem uR (l:List (List PR))(h:l.all okc=true):(cN l).length≤43*l.length:=by
 induction l with
 | nil=>simp [cN]
 | cons c l ih=>
  rw [List.all_cons,Bool.and_eq_true] at h
  have h1:=h.1
  unfold okc at h1
  rw [Bool.and_eq_true,decide_eq_true_eq] at h1
  have:=ih h.2
  have e:cN (c::l)=rY c++cN l:=by simp [cN,rY]
  rw [e,List.length_append,OI,List.length_cons]
  omega
theorem RA (N:Nat)(m:List (List UInt8))(h:∀ x∈m,x.length≤N):(gZ m).length≤m.length*(4*N+2):=by
 refine Nat.le_trans (xE m) ?_
 induction m with
 | nil=>simp
 | cons x m ih=>
  rw [List.map_cons,List.sum_cons,List.length_cons,Nat.add_mul,Nat.one_mul]
  have:=ih fun y hy=>h y (by simp [hy])
  have:=h x (by simp)
  omega
theorem RG (l:List (List PR))(h:∀ c∈l,wtC c):∀ x∈cN l,x.length≤50000:=by
 intro x hx
 obtain ⟨c,hc,hx⟩:=List.mem_flatMap.1 hx
 simp only [List.mem_append,List.mem_cons,List.mem_nil_iff,or_false,List.mem_map] at hx
 rcases hx with ((rfl|rfl)|⟨p,hp,rfl⟩)|rfl
 ·decide
 ·decide
 ·have:=sA p; have:=h c hc p hp; omega
 ·decide
theorem ZE (l:List (List PR))(hl:l.length<1000000000)(hc:∀ c∈l,c.length<1000000000∧wtC c):aU 67 [.sl 1 (l.map cv)] (.tup [.str (lH l).1,.int .i64 (lH l).2]):=by
 refine aA c67 (by simp [f67]) ?_
 simp only [f67,↓gos,gop,qA,qB,qC,qD,qE,qF,qG,qH,qI]
 have bad:okW l=false→lH l=([],12):=fun h=>by unfold lH; rw [if_pos h]
 refine ⟨fun h=>?_,fun h=>?_⟩
 ·rw [bad (by rw [zI,decide_eq_false (by omega)]; rfl)]
  exact aD rfl ⟨rfl,rfl⟩
 ·refine aJ (γ:=Nat) (fun i=>[(15,.int .i64 i),(14,.int .i64 l.length),(13,.sl 1 (l.map cv)),(4,.osl 1 0 0 (cN (l.take i)).length none)]) (fun i=>[.arr 1 ((cN (l.take i)).map sv)])
   (fun i=>i≤l.length∧(l.take i).all okc=true) (fun i=>l.length - i) 0 (wks rfl (by simp) ⟨rfl,rfl,rfl,rfl,trivial⟩) ⟨by omega,by simp⟩ fun i hi=>?_
  obtain ⟨hi,ht⟩:=hi
  have hlw:=uR _ ht
  rw [List.length_take] at hlw
  simp only [f67l1,↓gos,gop,qA,qB,qC,qD,qE,qF,qG,qH,qI]
  refine ⟨fun h1=>?_,fun h1=>?_⟩
  ·have h2:i<l.length:=by omega
   refine aL default (by simpa using h2) ?_
   have htk:=eA h2 default
   have hm:=mG h2 default
   have hno:=fun (p:List PR→Bool)=>WI (p:=p) h2 default
   generalize l.getD i default=c at htk hm hno ⊢
   simp only [cv,↓gos,gop,qA,qB,qC,qD,qE,qF,qG,qH,qI]
   refine ⟨fun h3=>?_,fun h3=>?_⟩
   ·rw [bad (by rw [zI,hno okc (by rw [okc,decide_eq_false (by omega)]; rfl)]; simp)]
    exact aD rfl ⟨rfl,rfl⟩
   ·refine aB (HX c (by omega) (hc c hm).2) rfl rfl ?_
    cases hk:c.all iX
    ·simp only [↓gos,gop,qA,qB,qC,qD,qE,qF,qG,qH,qI]
     rw [bad (by rw [zI,hno okc (by rw [okc,hk]; simp)]; simp)]
     exact aD rfl ⟨rfl,rfl⟩
    ·simp only [↓gos,gop,qA,qB,qC,qD,qE,qF,qG,qH,qI]
     refine ⟨by omega,by omega,?_⟩
     have hck:okc c=true:=by rw [okc,hk,decide_eq_true (by omega)]; rfl
     have hall:(l.take (i+1)).all okc=true:=by rw [htk,List.all_append,ht]; simp [hck]
     have hlw2:=uR _ hall
     rw [List.length_take] at hlw2
     generalize hb:cN (l.take i)++[BEG,VER++58::V40]=base
     have hbl:base.length=(cN (l.take i)).length+2:=by rw [← hb]; simp
     refine aJ (γ:=Nat) (fun j=>[(31,.int .i64 j),(30,.int .i64 c.length),(29,.sl 4 (c.map pv)),(4,.osl 1 0 0 (base++(c.take j).map aT).length none),(15,.int .i64 i),(14,.int .i64 l.length),(13,.sl 1 (l.map cv))]) (fun j=>[.arr 1 ((base++(c.take j).map aT).map sv)])
      (fun j=>j≤c.length) (fun j=>c.length - j) 0 (wkd 1 ?_ (by simp) ⟨rfl,rfl,rfl,rfl,rfl,rfl,?_,rfl,rfl,rfl,rfl,rfl,rfl,rfl,trivial⟩ (by simp [inO])) (by omega) fun j hj=>?_
     ·simp [← hb,sv]; decide
     ·simp [slots,hbl]
     simp only [f67l0,↓gos,gop,qA,qB,qC,qD,qE,qF,qG,qH,qI]
     refine ⟨fun q1=>?_,fun q1=>?_⟩
     ·have q2:j<c.length:=by omega
      refine aL default (by simpa using q2) ?_
      have jtk:=eA q2 default
      have jm:=mG q2 default
      generalize c.getD j default=p at jtk jm ⊢
      simp only [pv,↓gos,gop,qA,qB,qC,qD,qE,qF,qG,qH,qI]
      refine aB (xQ p (by have:=(hc c hm).2 p jm; omega)) rfl rfl ?_
      simp only [↓gos,gop,qA,qB,qC,qD,qE,qF,qG,qH,qI]
      have e1:(base++(c.take j).map aT).length+1=(base++(c.take (j+1)).map aT).length:=by rw [jtk]; simp; omega
      have e2:(base++(c.take j).map aT).map sv++[[DV.str (aT p)]]=(base++(c.take (j+1)).map aT).map sv:=by rw [jtk]; simp [sv]
      have e3:(base++(c.take j).map aT).length≤10000:=by simp [hbl]; omega
      refine ⟨by omega,by omega,?_⟩
      intro v hv
      rw [wrap_i64 (by omega) (by omega)] at hv
      subst hv
      rw [e1,e2]
      exact cI 1 (j+1) rfl (by simp) ⟨rfl,rfl,rfl,rfl,rfl,rfl,rfl,rfl,rfl,rfl,rfl,rfl,rfl,rfl,trivial⟩ rfl (by omega) (by omega)
     ·have q2:j=c.length:=by omega
      subst q2
      rw [List.take_length]
      have e1:(base++c.map aT).length+1=(cN (l.take (i+1))).length:=by rw [htk,wD,rY,← hb]; simp; omega
      have e2:(base++c.map aT).map sv++[[DV.str [69,78,68,58,86,67,65,82,68]]]=(cN (l.take (i+1))).map sv:=by rw [htk,wD,rY,← hb]; simp [sv]; rfl
      have e3:(base++c.map aT).length≤10000:=by simp [hbl]; omega
      refine ⟨by omega,by omega,?_⟩
      intro v hv
      rw [wrap_i64 (by omega) (by omega)] at hv
      subst hv
      rw [e1,e2]
      exact cI 1 (i+1) rfl (by simp) ⟨rfl,rfl,rfl,rfl,rfl,rfl,rfl,rfl,trivial⟩ rfl ⟨by omega,hall⟩ (by omega)
  ·have h2:i=l.length:=by omega
   subst h2
   rw [List.take_length] at ht hlw ⊢
   have hok:okW l=true:=by rw [zI,ht,decide_eq_true (by omega)]; rfl
   have hfl:=RA 50000 (cN l) (RG l fun c hm=>(hc c hm).2)
   have hll:(cN l).length≤2580:=by omega
   have hmul:(cN l).length*(4*50000+2)≤2580*(4*50000+2):=Nat.mul_le_mul_right _ hll
   refine aB (aEv (cN l) (by omega) (by omega)) (by simp [DV.dn,DV.low,Go.Ai.tkm]) rfl ?_
   simp only [↓gos,gop,qA,qB,qC,qD,qE,qF,qG,qH,qI]
   unfold lH
   rw [if_neg (by rw [hok]; simp)]
   refine ⟨fun q=>?_,fun q=>?_⟩
   ·rw [if_pos (by omega)]
    exact aD rfl ⟨rfl,rfl⟩
   ·rw [if_neg (by omega)]
    exact aD rfl ⟨rfl,rfl⟩
end Go.Proofs.Ut

namespace Go.Proofs.Ut
open Go.Ai
set_option maxRecDepth 100000
def fM (s:List UInt8):Bool:=bC cU s 0&&decide (((rs s).length:Int)≤100)
theorem aAL (s:List UInt8)(hs:s.length<100000000):aU 134 [.str s] (.bool (!fM s)):=by
 refine aA c134 (by simp [f134]) ?_
 simp only [f134,↓gos,gop,qA,qB,qC,qD,qE,qF,qG,qH,qI]
 refine aB (aGW rfl vED s 100 (by omega)) rfl rfl ?_
 show _
 unfold fM
 cases (bC cU s 0&&decide (((rs s).length:Int)≤100)) <;> simp only [↓gos,gop,qA,qB,qC,qD,qE,qF,qG,qH,qI] <;> exact aG rfl
theorem RM (l:List (List UInt8))(hl:l.length<1000000000)(hw:∀ s∈l,s.length<100000000):ACalls ED 176 [] [.sl 1 (l.map sv),.fn 134 []] (fun h d=>h=[]∧∃ n:Int,d=.int .i64 n∧(decide (0≤n)) = !l.all fM):=by
 refine aA c176 (by simp [f176]) ?_
 simp only [f176,↓gos,gop,qA,qB,qC,qD,qE,qF,qG,qH,qI]
 refine aJ (γ:=Nat) (fun i=>[(8,.int .i64 i),(7,.int .i64 l.length),(0,.sl 1 (l.map sv)),(1,.fn 134 [])]) (fun _=>[]) (fun i=>i≤l.length∧(l.take i).all fM=true) (fun i=>l.length - i) 0
  (wks rfl (by simp) ⟨rfl,rfl,rfl,rfl,trivial⟩) ⟨by omega,by simp⟩ fun i hi=>?_
 obtain ⟨hi,ht⟩:=hi
 simp only [f176l0,↓gos,gop,qA,qB,qC,qD,qE,qF,qG,qH,qI]
 refine ⟨fun h=>?_,fun h=>?_⟩
 ·have h2:i<l.length:=by omega
  refine aL [] (by simpa using h2) ?_
  have htk:=dW h2 []
  have hm:l.getD i []∈l:=by rw [List.getD_eq_getElem?_getD,List.getElem?_eq_getElem h2]; exact List.getElem_mem h2
  generalize l.getD i []=s at *
  simp only [sv,↓gos,gop,qA,qB,qC,qD,qE,qF,qG,qH,qI]
  refine aB (aAL s (hw s hm)) rfl rfl ?_
  cases hk:fM s
  ·simp only [↓gos,gop,qA,qB,qC,qD,qE,qF,qG,qH,qI]
   refine aD rfl ⟨rfl,_,rfl,?_⟩
   rw [show l.all fM=false by rw [List.all_eq_false]; exact ⟨s,hm,by simp [hk]⟩]; simp
  ·simp only [↓gos,gop,qA,qB,qC,qD,qE,qF,qG,qH,qI]
   intro v hv
   rw [wrap_i64 (by omega) (by omega)] at hv
   subst hv
   refine aN (i+1) rfl (by simp) ⟨rfl,rfl,rfl,rfl,trivial⟩ ⟨by omega,?_⟩ (by omega)
   rw [htk,List.all_append,ht]; simp [hk]
 ·have h2:i=l.length:=by omega
  subst h2
  rw [List.take_length] at ht
  refine aD rfl ⟨rfl,_,rfl,?_⟩
  rw [ht]; rfl
theorem KS (l:List (List UInt8))(hl:l.length<1000000000)(hw:∀ s∈l,s.length<100000000):aU 69 [.sl 1 (l.map sv)] (.bool (l.all fM)):=by
 have c133' : aU 133 [.sl 1 (l.map sv),.fn 134 []] (.bool (!l.all fM)):=by
  refine aA c133 (by simp [f133]) ?_
  simp only [f133,↓gos,gop,qA,qB,qC,qD,qE,qF,qG,qH,qI]
  refine kZ (RM l hl hw) rfl ⟨_,if l.all fM=true then -1 else 0,rfl,by split <;> simp_all⟩ ?_
  rintro d ⟨n,rfl,hn⟩
  refine ⟨rfl,?_⟩
  rw [← hn]
  simp only [↓gos,gop,qA,qB,qC,qD,qE,qF,qG,qH,qI]
  refine ⟨fun h=>aG ?_,fun h=>aG ?_⟩
  ·rw [decide_eq_true h]
  ·rw [decide_eq_false h]
 refine aA c69 (by simp [f69]) ?_
 simp only [f69,↓gos,gop,qA,qB,qC,qD,qE,qF,qG,qH,qI]
 refine aB c133' rfl rfl ?_
 cases l.all fM <;> simp only [Bool.not_true,Bool.not_false,↓gos,gop,qA,qB,qC,qD,qE,qF,qG,qH,qI] <;> exact aG rfl
def BG (l:List (List UInt8))(i:Nat):Bool := !decide (l.getD i []=[])&&(decide (i=0) || !(Op.bytesLess (l.getD i []) (l.getD (i - 1) [])||decide (l.getD i []=l.getD (i - 1) [])))
def aAV (l:List (List UInt8)):Bool:=(List.range l.length).all (BG l)
def eB (l:List (List UInt8)):Bool:=aAV l&&decide (l.length≤8)&&l.all fM
theorem XA (l:List (List UInt8))(hl:l.length<1000000000)(hw:∀ s∈l,s.length<100000000):aU 68 [.sl 1 (l.map sv)] (.bool (eB l)):=by
 refine aA c68 (by simp [f68]) ?_
 simp only [f68,↓gos,gop,qA,qB,qC,qD,qE,qF,qG,qH,qI]
 refine aJ (γ:=Nat) (fun i=>[(7,.int .i64 i),(6,.int .i64 l.length),(5,.sl 1 (l.map sv)),(0,.sl 1 (l.map sv))]) (fun _=>[]) (fun i=>i≤l.length∧(List.range i).all (BG l)=true) (fun i=>l.length - i) 0
  (wks rfl (by simp) ⟨rfl,rfl,rfl,rfl,trivial⟩) ⟨by omega,by simp⟩ fun i hi=>?_
 obtain ⟨hi,ht⟩:=hi
 simp only [f68l0,↓gos,gop,qA,qB,qC,qD,qE,qF,qG,qH,qI]
 refine ⟨fun h=>?_,fun h=>?_⟩
 ·have h2:i<l.length:=by omega
  have hr:(List.range (i+1)).all (BG l)=BG l i:=by rw [List.range_succ,List.all_append,ht]; simp
  have bad:BG l i=false→eB l=false:=fun h=>by
   unfold eB aAV
   rw [show (List.range l.length).all (BG l)=false by rw [List.all_eq_false]; exact ⟨i,by simpa using h2,by simp [h]⟩]; rfl
  refine aL [] (by simpa using h2) ?_
  rw [show BG l i=(!decide (l.getD i []=[])&&(decide (i=0) || !(Op.bytesLess (l.getD i []) (l.getD (i - 1) [])||decide (l.getD i []=l.getD (i - 1) [])))) from rfl] at hr bad
  generalize l.getD i []=s at *
  simp only [sv,↓gos,gop,qA,qB,qC,qD,qE,qF,qG,qH,qI]
  refine ⟨fun q=>?_,fun q=>⟨fun q2 v hv=>?_,fun q2 v hv=>?_⟩⟩
  ·rw [bad (by rw [decide_eq_true q]; rfl)]
   exact aD rfl ⟨rfl,rfl⟩
  ·rw [wrap_i64 (by omega) (by omega)] at hv
   have hv' : v.toNat=i - 1:=by omega
   rw [hv']
   refine aK (by omega) (aL [] (by omega) ?_)
   rw [decide_eq_false q,decide_eq_false (show ¬ i=0 by omega),Bool.false_or,Bool.not_false,Bool.true_and] at hr bad
   refine ⟨fun q3=>?_,fun q3 w hw' => ?_⟩
   ·rw [bad (by rw [q3]; rfl)]
    exact aD rfl ⟨rfl,rfl⟩
   ·rw [q3] at hr
    rw [wrap_i64 (by omega) (by omega)] at hw'
    subst hw'
    exact aN (i+1) rfl (by simp) ⟨rfl,rfl,rfl,rfl,trivial⟩ ⟨by omega,hr⟩ (by omega)
  ·rw [decide_eq_false q,decide_eq_true (show i=0 by omega)] at hr
   rw [wrap_i64 (by omega) (by omega)] at hv
   subst hv
   exact aN (i+1) rfl (by simp) ⟨rfl,rfl,rfl,rfl,trivial⟩ ⟨by omega,hr⟩ (by omega)
 ·have h2:i=l.length:=by omega
  subst h2
  refine ⟨fun q=>?_,fun q=>?_⟩
  ·refine aB (KS l hl hw) rfl rfl ?_
   simp only [↓gos,gop,qA,qB,qC,qD,qE,qF,qG,qH,qI]
   refine aG ?_
   unfold eB aAV
   rw [ht,decide_eq_true (by omega)]; rfl
  ·refine aG ?_
   unfold eB
   rw [decide_eq_false (by omega)]; simp
theorem vL (m:Int→List Int)(p:Int→Bool)(hm:∀ c,(m c).length≤2)(s:List UInt8):(gV m p s).1.length≤8*s.length:=by
 have h1:=DZ s
 have h2:∀ l:List Int,(l.flatMap m).length≤2*l.length:=fun l=>by
  induction l with
  | nil=>simp
  | cons x l ih=>have:=hm x; simp only [List.flatMap_cons,List.length_append,List.length_cons]; omega
 have h3:∀ l:List Int,(l.flatMap en).length≤4*l.length:=fun l=>by
  induction l with
  | nil=>simp
  | cons x l ih=>have:=sZ x; simp only [List.flatMap_cons,List.length_append,List.length_cons]; omega
 have h4:=h2 (rs s)
 have h5:=h3 ((rs s).flatMap m)
 unfold gV
 split
 ·split
  ·simp
  ·split
   ·show (((rs s).flatMap m).flatMap en).length≤_; omega
   ·simp
 ·simp
theorem FT {s:List UInt8}(hs:s.length<100000000):okJ s:=fun x hx=>by
 have h1:=vL bR lT fZ x
 have h2:=vL bR kV fZ x
 have h3:=vL eQ (fun c => !nN c) jS x
 refine ⟨?_,?_,?_⟩
 ·unfold bY; omega
 ·unfold bN; omega
 ·unfold tE; omega
theorem XC (s:List UInt8)(hs:s.length<100000000):SE 63 [.str s] (dM s):=aHe s hs (FT hs)
structure CT where
 name:List UInt8
 family:List UInt8
 given:List UInt8
 nick:List UInt8
 jid:List UInt8
 email:List UInt8
 tel:List UInt8
 note:List UInt8
 uid:List UInt8
 groups:List (List UInt8)
 other:List PR
def ctv (c:CT):List DV:=[.str c.name,.str c.family,.str c.given,.str c.nick,.str c.jid,.str c.email,.str c.tel,.str c.note,.str c.uid,.sl 1 (c.groups.map sv),.sl 4 (c.other.map pv)]
structure okS (c:CT):Prop where
 name:c.name.length<100000000
 family:c.family.length<100000000
 given:c.given.length<100000000
 nick:c.nick.length<100000000
 jid:c.jid.length<100000000
 email:c.email.length<100000000
 tel:c.tel.length<100000000
 note:c.note.length<100000000
 uid:c.uid.length<100000000
 gl:c.groups.length<1000000000
 gs:∀ s∈c.groups,s.length<100000000
 ol:c.other.length<1000000000
 ow:wtC c.other
def lN (s:List UInt8):Bool:=decide (s=[])||(decide ((dM s).2=0)&&decide ((dM s).1=s))
def mL (s:List UInt8):Bool:=bC bQ s 0 && !s.contains 13&&decide ((rs s).length≤500)
def zK (c:CT):Bool:=[c.name,c.family,c.given,c.nick,c.email,c.tel,c.uid].all fM
def dC (c:CT):Bool := !decide (c.name=[])&&lN c.jid&&decide (c.other.length≤40)&&mL c.note&&decide ((lH [c.other]).2=0)&&eB c.groups&&zK c
theorem HD (s:List UInt8)(hs:s.length<1000000000):aU 65 [.str s,.str [13]] (.bool (s.contains 13)):=by
 refine aA c65 (by simp [f65]) ?_
 simp only [f65,↓gos,gop,qA,qB,qC,qD,qE,qF,qG,qH,qI]
 refine aB (KR s [13] hs) rfl rfl ?_
 rw [Lib.index_one]
 simp only [↓gos,gop,qA,qB,qC,qD,qE,qF,qG,qH,qI]
 have h:=Lib.indexByte_ge s 13
 rcases lX 13 s with ⟨h1,h2⟩|⟨n,h1,h2,h3⟩
 ·refine ⟨fun q=>absurd q (by omega),fun q=>aG ?_⟩
  have hno:13∉s:=fun hm=>by
   obtain ⟨x,r,rfl,hx⟩:=List.eq_append_cons_of_mem hm
   rw [pR 13 r x hx] at h1
   omega
  simp [hno]
 ·refine ⟨fun q=>aG ?_,fun q=>absurd h1 (by omega)⟩
  have:=(JH 13 s (by rw [h3])).1
  rw [this]; simp
theorem KL (c:CT)(hc:okS c):aU 35 [.agg (ctv c)] (.bool (dC c)):=by
 refine aA c35 (by simp [f35]) ?_
 simp only [f35,ctv,↓gos,gop,qA,qB,qC,qD,qE,qF,qG,qH,qI]
 refine aB (XC c.jid hc.jid) rfl rfl ?_
 have no:∀ h,dC c=false→eK 0 (fun h d=>h=[]∧d=DV.bool (dC c)) (some [DV.bool false]) h:=fun h e=>by rw [e]; exact aD rfl ⟨rfl,rfl⟩
 have hnote:=hc.note
 simp only [↓gos,gop,qA,qB,qC,qD,qE,qF,qG,qH,qI]
 refine ⟨fun q=>no _ (by unfold dC; simp [q]),fun q1=>⟨fun q2=>⟨fun q3=>no _ (by unfold dC lN; simp [q2,q3]),fun q3=>⟨fun q4=>no _ (by unfold dC lN; simp [q2,q4]),fun q4=>
  have hJ:lN c.jid=true:=by unfold lN; simp [q3,q4]
  ⟨fun q5=>no _ (by unfold dC; rw [decide_eq_false (show ¬ c.other.length≤40 by omega)]; simp),fun q5=>?_⟩⟩⟩,
  fun q2=>have hJ:lN c.jid=true:=by unfold lN; simp [q2]
  ⟨fun q5=>no _ (by unfold dC; rw [decide_eq_false (show ¬ c.other.length≤40 by omega)]; simp),fun q5=>?_⟩⟩⟩
 all_goals
  have hR:dC c=(mL c.note&&decide ((lH [c.other]).2=0)&&eB c.groups&&zK c):=by
   unfold dC; rw [decide_eq_false q1,hJ,decide_eq_true (show c.other.length≤40 by omega)]; simp
  refine aB (yQ c.note (by omega)) rfl rfl ?_
  cases hv:bC bQ c.note 0
  ·simp only [↓gos,gop,qA,qB,qC,qD,qE,qF,qG,qH,qI]
   exact no _ (by rw [hR]; unfold mL; simp [hv])
  ·simp only [↓gos,gop,qA,qB,qC,qD,qE,qF,qG,qH,qI]
   refine aB (HD c.note (by omega)) rfl rfl ?_
   cases h13:c.note.contains 13
   ·simp only [↓gos,gop,qA,qB,qC,qD,qE,qF,qG,qH,qI]
    refine aB (JL rfl vED c.note (by omega)) rfl rfl ?_
    simp only [↓gos,gop,qA,qB,qC,qD,qE,qF,qG,qH,qI]
    refine ⟨fun q=>no _ (by rw [hR]; unfold mL; rw [decide_eq_false (show ¬ (rs c.note).length≤500 by omega)]; simp),fun q=>?_⟩
    have hN:mL c.note=true:=by unfold mL; rw [hv,h13,decide_eq_true (show (rs c.note).length≤500 by omega)]; rfl
    refine aB (ZE [c.other] (by simp) (by simpa using ⟨hc.ol,hc.ow⟩)) rfl rfl ?_
    simp only [↓gos,gop,qA,qB,qC,qD,qE,qF,qG,qH,qI]
    refine ⟨fun q6=>?_,fun q6=>?_⟩
    ·refine aB (XA c.groups hc.gl hc.gs) rfl rfl ?_
     cases hg:eB c.groups
     ·simp only [↓gos,gop,qA,qB,qC,qD,qE,qF,qG,qH,qI]
      exact no _ (by rw [hR,hg]; simp)
     ·simp only [↓gos,gop,qA,qB,qC,qD,qE,qF,qG,qH,qI]
      refine aB (KS [c.name,c.family,c.given,c.nick,c.email,c.tel,c.uid] (by simp) (by simpa using ⟨hc.name,hc.family,hc.given,hc.nick,hc.email,hc.tel,hc.uid⟩)) rfl rfl ?_
      simp only [↓gos,gop,qA,qB,qC,qD,qE,qF,qG,qH,qI]
      rw [hR,hN,hg,decide_eq_true (by simpa using q6)]
      exact aD rfl ⟨rfl,by unfold zK; simp [rvd]⟩
    ·exact no _ (by rw [hR,decide_eq_false (by simpa using q6)]; simp)
   ·simp only [↓gos,gop,qA,qB,qC,qD,qE,qF,qG,qH,qI]
    exact no _ (by rw [hR]; unfold mL; rw [h13]; simp)
end Go.Proofs.Ut
