/- prep.of and what it calls. -/
import Derived.Test.YtgamnnfndidclaaGreatDoorGYPrB
open Nat renaming reduceBEq → qA,reduceAdd → qB,reduceSub → qC,reduceLeDiff → qD,reduceMul → qE
open Int renaming reduceLE → qF,reduceLT → qG,reduceNe → qH,reduceToNat → qI
set_option linter.all false
namespace Go.Proofs.Ut
open Go.Ai Classical
set_option linter.unusedSimpArgs false
set_option maxHeartbeats 1000000
set_option maxRecDepth 100000
abbrev Ts (g:Nat)(p:Int→Bool):Prop:=∀ c,Ret g [.int .i64 c] (.bool (p c))
theorem aDJ {a g:Nat}{p:Int→Bool}(hg:Ts g p)(c:Int):ACalls ED 254 [.box [.fn a [],.fn g []]] [.int .i64 c,.ptr 0 0] fun h d=>h=[.box [.fn a [],.fn g []]]∧d=.bool (!p c):=by
 refine aA c254 (by simp [f254]) ?_
 simp only [f254,↓gos,gop,qA,qB,qC,qD,qE,qF,qG,qH,qI]
 refine aB (hg c) rfl rfl ?_
 cases h1:p c
 ·simp only [↓gos,gop,qA,qB,qC,qD,qE,qF,qG,qH,qI]
  exact cH rfl rfl rfl ⟨rfl,rfl⟩
 ·simp only [↓gos,gop,qA,qB,qC,qD,qE,qF,qG,qH,qI]
  exact cH rfl rfl rfl ⟨rfl,rfl⟩
theorem NC {l:List Int}{p:Int→Bool}{i:Nat}(h1:i<l.length)(h2:p (l.getD i 0)=true):l.any p=true:=by
 rw [List.any_eq_true]
 exact ⟨l.getD i 0,by simp [h1],h2⟩
theorem QG {l:List Int}{p:Int→Bool}{i:Nat}(h1:¬ i<l.length)(hp:∀ j,j<i→p (l.getD j 0)=false):l.any p=false:=by
 rw [List.any_eq_false]
 intro x hx
 obtain ⟨j,hj,rfl⟩:=List.getElem_of_mem hx
 have:=hp j (by omega)
 simp [hj] at this
 simp [this]
theorem NI {a g:Nat}{p:Int→Bool}(hg:Ts g p)(l:List Int)(hl:l.length<1000000000000):ACalls ED 295 [.box [.fn a [],.fn g []]] [.sl 1 (l.map num),.fn 254 [.ptr 0 0]] fun h d=>h=[.box [.fn a [],.fn g []]]∧∃ n:Int,d=.int .i64 n∧(0≤n↔l.any (fun c => !p c)=true):=by
 refine aA c295 (by simp [f295]) ?_
 simp only [f295,↓gos,gop,qA,qB,qC,qD,qE,qF,qG,qH,qI]
 refine aM (γ:=Nat) (fun i=>[(0,.sl 1 (l.map num)),(1,.fn 254 [.ptr 0 0]),(7,.int .i64 l.length),(8,.int .i64 i)]) (fun _=>[.box [.fn a [],.fn g []]]) (fun i=>i≤l.length∧∀ j,j<i→(!p (l.getD j 0))=false) (fun i=>l.length - i) 0
  (wks rfl (by simp) ⟨rfl,rfl,rfl,rfl,trivial⟩) (by simp) fun i hi=>?_
 obtain ⟨hi,hp⟩:=hi
 simp only [f295l0,num,↓gos,gop,qA,qB,qC,qD,qE,qF,qG,qH,qI]
 refine ⟨fun h1=>aU 0 (by omega) (fF (i:=0) rfl rfl (aDJ hg (l.getD i 0)) rfl rfl fun h' d hq=>?_),fun h1=>cH rfl rfl rfl ⟨rfl,_,rfl,?_⟩⟩
 ·obtain ⟨rfl,rfl⟩:=hq
  refine ⟨_,rfl,rfl,rfl,?_⟩
  cases h2:p (l.getD i 0)
  ·simp only [↓gos,gop,qA,qB,qC,qD,qE,qF,qG,qH,qI]
   refine cH rfl rfl rfl ⟨rfl,_,rfl,?_⟩
   exact ⟨fun _=>NC (i:=i) (by omega) (by rw [h2]; rfl),fun _=>by omega⟩
  ·simp only [↓gos,gop,qA,qB,qC,qD,qE,qF,qG,qH,qI]
   intro v hv
   rw [wrap_i64 (by omega) (by omega)] at hv
   refine aQ (i+1) rfl (by simp) ⟨rfl,rfl,rfl,by show DV.int .i64 v=_; rw [hv]; rfl,trivial⟩ ⟨by omega,fun j hj=>?_⟩ (by omega)
   by_cases hji:j=i
   ·subst hji; exact h2
   ·simpa using hp j (by omega)
 ·refine ⟨fun h=>by omega,fun h=>?_⟩
  rw [QG (i:=i) (by omega) hp] at h
  cases h
theorem SZ {g:Nat}{p:Int→Bool}(hg:Ts g p)(l:List Int)(hl:l.length<1000000000000):ACalls ED 295 [] [.sl 1 (l.map num),.fn g []] fun h d=>h=[]∧∃ n:Int,d=.int .i64 n∧(0≤n↔l.any p=true):=by
 refine aA c295 (by simp [f295]) ?_
 simp only [f295,↓gos,gop,qA,qB,qC,qD,qE,qF,qG,qH,qI]
 refine aM (γ:=Nat) (fun i=>[(0,.sl 1 (l.map num)),(1,.fn g []),(7,.int .i64 l.length),(8,.int .i64 i)]) (fun _=>[]) (fun i=>i≤l.length∧∀ j,j<i→p (l.getD j 0)=false) (fun i=>l.length - i) 0
  (wks rfl (by simp) ⟨rfl,rfl,rfl,rfl,trivial⟩) (by simp) fun i hi=>?_
 obtain ⟨hi,hp⟩:=hi
 simp only [f295l0,num,↓gos,gop,qA,qB,qC,qD,qE,qF,qG,qH,qI]
 refine ⟨fun h1=>aU 0 (by omega) (aB (hg (l.getD i 0)) rfl rfl ?_),fun h1=>aC rfl ⟨rfl,_,rfl,?_⟩⟩
 ·cases h2:p (l.getD i 0)
  ·simp only [↓gos,gop,qA,qB,qC,qD,qE,qF,qG,qH,qI]
   intro v hv
   rw [wrap_i64 (by omega) (by omega)] at hv
   refine aQ (i+1) rfl (by simp) ⟨rfl,rfl,rfl,by show DV.int .i64 v=_; rw [hv]; rfl,trivial⟩ ⟨by omega,fun j hj=>?_⟩ (by omega)
   by_cases hji:j=i
   ·subst hji; exact h2
   ·exact hp j (by omega)
  ·simp only [↓gos,gop,qA,qB,qC,qD,qE,qF,qG,qH,qI]
   exact aC rfl ⟨rfl,_,rfl,fun _=>NC (i:=i) (by omega) h2,fun _=>by omega⟩
 ·refine ⟨fun h=>by omega,fun h=>?_⟩
  rw [QG (i:=i) (by omega) hp] at h
  cases h
theorem aCF {a g:Nat}{p:Int→Bool}(hg:Ts g p)(l:List Int)(hl:l.length<1000000000000):ACalls ED 253 [.box [.fn a [],.fn g []]] [.sl 1 (l.map num),.fn 254 [.ptr 0 0]] fun h d=>h=[.box [.fn a [],.fn g []]]∧d=.bool (l.any fun c => !p c):=by
 refine aA c253 (by simp [f253]) ?_
 simp only [f253,↓gos,gop,qA,qB,qC,qD,qE,qF,qG,qH,qI]
 refine fF (i:=0) rfl rfl (NI hg l hl) rfl rfl fun h' d hq=>?_
 obtain ⟨rfl,n,rfl,hn⟩:=hq
 refine ⟨_,rfl,rfl,rfl,?_⟩
 simp only [↓gos,gop,qA,qB,qC,qD,qE,qF,qG,qH,qI]
 refine ⟨fun h=>cH rfl rfl rfl ⟨rfl,?_⟩,fun h=>cH rfl rfl rfl ⟨rfl,?_⟩⟩
 ·rw [hn.1 h]; rfl
 ·cases h2:l.any fun c => !p c
  ·rfl
  ·exact absurd (hn.2 h2) h
theorem YJ {g:Nat}{p:Int→Bool}(hg:Ts g p)(l:List Int)(hl:l.length<1000000000000):Ret 253 [.sl 1 (l.map num),.fn g []] (.bool (l.any p)):=by
 refine aA c253 (by simp [f253]) ?_
 simp only [f253,↓gos,gop,qA,qB,qC,qD,qE,qF,qG,qH,qI]
 refine fO (SZ hg l hl) rfl ?_ fun d hd=>?_
 ·cases hc:l.any p
  ·exact ⟨_,-1,rfl,by omega,fun h=>by cases h⟩
  ·exact ⟨_,0,rfl,fun _=>rfl,by omega⟩
 ·obtain ⟨n,rfl,hn⟩:=hd
  refine ⟨rfl,?_⟩
  simp only [↓gos,gop,qA,qB,qC,qD,qE,qF,qG,qH,qI]
  refine ⟨fun h=>aJ ?_,fun h=>aJ ?_⟩
  ·rw [hn.1 h]
  ·cases hc:l.any p
   ·rfl
   ·exact absurd (hn.2 hc) h
theorem KR {g:Nat}{m:Int→List Int}(hg:∀ c,NR g [.int .i64 c] (m c))(hm:∀ c,(m c).length≤2)(l:List Int)(hl:l.length<10000000000):NR 252 [.sl 1 (l.map num),.fn g []] (l.flatMap m):=by
 refine aA c252 (by simp [f252]) ?_
 simp only [f252,↓gos,gop,qA,qB,qC,qD,qE,qF,qG,qH,qI]
 refine aM (γ:=Nat×List Int) (fun g' => [(0,.sl 1 (l.map num)),(1,.fn g []),(5,.osl 1 1 0 g'.2.length none),(8,.sl 1 (l.map num)),(9,.int .i64 l.length),(10,.int .i64 (g'.1:Nat))]) (fun g' => [.arr 1 [],.arr 1 (g'.2.map num)])
  (fun g' => g'.1≤l.length∧g'.2=(l.take g'.1).flatMap m∧g'.2.length≤2*g'.1) (fun g' => l.length - g'.1) (0,[]) (wks rfl (Nat.zero_le _) ⟨rfl,rfl,rfl,rfl,rfl,rfl,trivial⟩) ⟨by simp,by simp,by simp⟩ fun g' hg' => ?_
 obtain ⟨i,acc⟩:=g'
 obtain ⟨hi,hacc,hlen⟩:=hg'
 simp only at hi hacc hlen
 simp only [f252l0,num,↓gos,gop,qA,qB,qC,qD,qE,qF,qG,qH,qI]
 refine ⟨fun h1=>aU 0 (by omega) (bH (hg (l.getD i 0)) rfl (gL _) ?_),fun h1=>?_⟩
 ·have hm2:=hm (l.getD i 0)
  simp only [DV.ren,aR,num,↓gos,gop,qA,qB,qC,qD,qE,qF,qG,qH,qI]
  refine ⟨by omega,by omega,fun v hv=>?_⟩
  rw [wrap_i64 (by omega) (by omega)] at hv
  refine dO 2 (i+1,acc++m (l.getD i 0)) ?_ (Nat.zero_le _) ⟨rfl,rfl,rfl,rfl,?_,rfl,rfl,rfl,rfl,rfl,?_,rfl,trivial⟩ rfl ⟨by omega,?_,by simp only [List.length_append]; omega⟩ (by simp only; omega)
  ·simp [num]
  ·simp [slots]
  ·show DV.int .i64 v=_
   rw [hv]; rfl
  ·simp only
   rw [List.take_succ_eq_append_getElem (by omega),List.flatMap_append,hacc]
   simp [show i<l.length by omega]
 ·obtain rfl:i=l.length:=by omega
  rw [List.take_length] at hacc
  rw [← hacc]
  exact bO rfl rfl rfl
def jQ (l:List Int):Bool:=if l.any kA then kA (l.getD 0 0)&&kA (l.getD (l.length - 1) 0) && !l.any IF else true
theorem zW (l:List Int)(hl:l.length<1000000000000):Ret 255 [.sl 1 (l.map num)] (.bool (jQ l)):=by
 refine aA c255 (by simp [f255]) ?_
 simp only [f255,num,↓gos,gop,qA,qB,qC,qD,qE,qF,qG,qH,qI]
 refine aB (YJ AE l hl) rfl rfl ?_
 unfold jQ
 cases h1:l.any kA
 ·simp only [↓gos,gop,qA,qB,qC,qD,qE,qF,qG,qH,qI]
  exact aJ (by simp)
 ·have hne:0<l.length:=by
   rcases l with _|⟨x,l⟩
   ·simp at h1
   ·simp
  simp only [num,↓gos,gop,qA,qB,qC,qD,qE,qF,qG,qH,qI]
  refine aU 0 (by omega) (aB (AE (l.getD 0 0)) rfl rfl ?_)
  cases h2:kA (l.getD 0 0)
  ·simp only [↓gos,gop,qA,qB,qC,qD,qE,qF,qG,qH,qI]
   exact aJ (by simp)
  ·simp only [num,↓gos,gop,qA,qB,qC,qD,qE,qF,qG,qH,qI]
   intro v hv
   rw [wrap_i64 (by omega) (by omega)] at hv
   refine ⟨by omega,?_⟩
   rw [show v.toNat=l.length - 1 by omega]
   refine aU (l:=l) (i:=l.length - 1) 0 (by omega) ?_
   refine aB (AE (l.getD (l.length - 1) 0)) rfl rfl ?_
   cases h3:kA (l.getD (l.length - 1) 0)
   ·simp only [↓gos,gop,qA,qB,qC,qD,qE,qF,qG,qH,qI]
    exact aJ (by simp)
   ·simp only [↓gos,gop,qA,qB,qC,qD,qE,qF,qG,qH,qI]
    refine aB (YJ NT l hl) rfl rfl ?_
    cases h4:l.any IF
    ·simp only [↓gos,gop,qA,qB,qC,qD,qE,qF,qG,qH,qI]
     exact aJ (by simp)
    ·simp only [↓gos,gop,qA,qB,qC,qD,qE,qF,qG,qH,qI]
     exact aJ (by simp)
def nC (m:Int→List Int)(p:Int→Bool)(s:List UInt8):List UInt8×Int:=
 if aW bR s 0 then
  (if ((rs s).flatMap m).any (fun c => !p c) then ([],15) else if jQ ((rs s).flatMap m) then (((rs s).flatMap m).flatMap en,0) else ([],16))
 else ([],3)
abbrev SE (f:Nat)(args:List DV)(r:List UInt8×Int):Prop:=Ret f args (.tup [.str r.1,.int .i64 r.2])
theorem SM {sz i n:Nat}{es:List (List DV)}{h:List AObj}{c:Option Nat}{ls:List Nat}(hi:h[i]?=some (.arr sz es))(hn:n=es.length)(hl:ls.idxOf? i=none):DV.dn ls h (.osl sz i 0 n c)=.sl sz es:=by
 subst hn
 simp [DV.dn,DV.low,hi,hl]
theorem aFk (s:List UInt8):∀ n i,s.length - i≤n→∀ x∈gH s i,∃ c:Nat,x=c∧okC c:=fun n=>by
 induction n with
 | zero=>intro i h x hx; rw [cK _ _ (by omega)] at hx; cases hx
 | succ n ih=>
  intro i h x hx
  by_cases hi:i<s.length
  ·have:=dE s i hi
   rw [eH s i hi] at hx
   rcases List.mem_cons.1 hx with rfl|hx
   ·exact ⟨_,rfl,this.2.2⟩
   ·exact ih _ (by omega) x hx
  ·rw [cK _ _ hi] at hx; cases hx
theorem aEo (s:List UInt8):∀ x∈rs s,∃ c:Nat,x=c∧okC c:=fun x hx=>by
 unfold rs at hx
 split at hx
 ·exact aFk s _ 0 (Nat.le_refl _) x hx
 ·cases hx
theorem vV (c:Int):(en c).length≤4:=by
 unfold en Utf8.encode
 simp only
 repeat' split
 all_goals simp
def Chr (m:Int→List Int):Prop:=∀ c:Nat,okC c→∀ x∈m c,∃ n:Nat,x=n∧okC n
theorem rX {k:IntKind}{a a' : List UInt8}{b b' : Int}{h:List AObj}(e1:a=a')(e2:b=b'):dY 0 (fun h d=>h=[]∧d=.tup [.str a',.int k b']) (some [.str a,.int k b]) h:=aC rfl ⟨rfl,by rw [e1,e2]; rfl⟩
theorem aBP {g g2:Nat}{m:Int→List Int}{p:Int→Bool}(hg:∀ c,NR g [.int .i64 c] (m c))(hm:∀ c,(m c).length≤2)(hp:Ts g2 p)(hch:Chr m)(s:List UInt8)(hs:s.length<100000000):SE 201 [.str s,.agg [.fn g [],.fn g2 []]] (nC m p s):=by
 refine aA c201 (by simp [f201]) ?_
 obtain ⟨r,hr⟩:∃ r,r=nC m p s:=⟨_,rfl⟩
 rw [← hr]
 unfold nC at hr
 simp only [f201,↓gos,gop,qA,qB,qC,qD,qE,qF,qG,qH,qI]
 refine aB (vM s (by omega)) rfl rfl ?_
 cases h1:aW bR s 0
 ·rw [h1,if_neg (by simp)] at hr
  subst hr
  simp only [↓gos,gop,qA,qB,qC,qD,qE,qF,qG,qH,qI]
  exact rX rfl rfl
 ·rw [h1,if_pos rfl] at hr
  simp only [num,↓gos,gop,qA,qB,qC,qD,qE,qF,qG,qH,qI]
  refine xV (DT rfl vED s (by omega)) rfl (gL _) ?_
  simp only [DV.ren,aR,num,↓gos,gop,qA,qB,qC,qD,qE,qF,qG,qH,qI]
  have hrl:=OL s
  have hl2:((rs s).flatMap m).length≤2*(rs s).length:=by
   generalize rs s=l
   induction l with
   | nil=>simp
   | cons x l ih=>
    have:=hm x
    rw [List.flatMap_cons,List.length_append,List.length_cons]; omega
  refine xV (KR hg hm (rs s) (by omega)) (by rw [List.map_cons,aAb (i:=1) rfl rfl]; rfl) (gL _) ?_
  generalize hL:(rs s).flatMap m=L at hr hl2
  simp only [DV.ren,aR,num,↓gos,gop,qA,qB,qC,qD,qE,qF,qG,qH,qI]
  refine AS (i:=0) rfl rfl (aCF hp L (by omega)) (by rw [List.map_cons]; erw [SM (es:=L.map num) (i:=2) rfl (by simp) rfl]; rfl) (fun h' d hq=>?_) fun h' d hq=>?_
  ·obtain ⟨rfl,rfl⟩:=hq
   rfl
  obtain ⟨rfl,rfl⟩:=hq
  refine ⟨_,rfl,rfl,rfl,?_⟩
  cases h2:L.any fun c => !p c
  ·rw [h2,if_neg (by simp)] at hr
   simp only [↓gos,gop,qA,qB,qC,qD,qE,qF,qG,qH,qI]
   refine aB (zW L (by omega)) (by rw [List.map_cons]; erw [pZ (es:=L.map num) (i:=2) rfl (by simp)]; rfl) rfl ?_
   cases h3:jQ L
   ·rw [h3,if_neg (by simp)] at hr
    subst hr
    simp only [↓gos,gop,qA,qB,qC,qD,qE,qF,qG,qH,qI]
    exact rX rfl rfl
   ·rw [h3,if_pos rfl] at hr
    subst hr
    simp only [↓gos,gop,qA,qB,qC,qD,qE,qF,qG,qH,qI]
    have hLo:∀ x∈L,∃ c:Nat,x=c∧okC c:=fun x hx=>by
     rw [← hL] at hx
     obtain ⟨y,hy,hx⟩:=List.mem_flatMap.1 hx
     obtain ⟨c,rfl,hc⟩:=aEo s y hy
     exact hch c hc x hx
    refine aM (γ:=Nat) (fun i=>[(7,.str ((L.take i).flatMap en)),(26,.osl 1 2 0 L.length none),(27,.int .i64 L.length),(28,.int .i64 i)]) (fun _=>[.box [.fn g [],.fn g2 []],.arr 1 ((rs s).map num),.arr 1 (L.map num)])
     (fun i=>i≤L.length∧((L.take i).flatMap en).length≤4*i) (fun i=>L.length - i) 0 (wks rfl (by simp) ⟨rfl,rfl,rfl,rfl,trivial⟩) ⟨by simp,by simp⟩ fun i hi=>?_
    obtain ⟨hi,hil⟩:=hi
    simp only [f201l0,num,↓gos,gop,qA,qB,qC,qD,qE,qF,qG,qH,qI]
    refine ⟨fun k1=>⟨by omega,aU 0 (by omega) fun v hv=>?_⟩,fun k1=>rX ?_ rfl⟩
    ·obtain ⟨c,hc,hco⟩:=hLo (L.getD i 0) (by rw [List.getD_eq_getElem?_getD,List.getElem?_eq_getElem (by omega)]; exact List.getElem_mem _)
     have he4:=vV v
     have hee:(Utf8.encode v).data.toList=en v:=rfl
     unfold okC at hco
     rw [NN (by omega) (by omega)] at hv
     rw [hee]
     refine ⟨by omega,fun u hu=>?_⟩
     rw [wrap_i64 (by omega) (by omega)] at hu
     have ht:(L.take (i+1)).flatMap en=(L.take i).flatMap en++en v:=by
      rw [List.take_succ_eq_append_getElem (by omega),List.flatMap_append,hv]
      simp [show i<L.length by omega]
     refine aQ (i+1) rfl (by simp) ⟨?_,rfl,rfl,by show DV.int .i64 u=_; rw [hu]; rfl,trivial⟩ ⟨by omega,by rw [ht,List.length_append]; omega⟩ (by omega)
     show DV.str _=DV.str _
     rw [ht]
    ·rw [List.take_of_length_le (by omega)]
  ·rw [h2,if_pos rfl] at hr
   subst hr
   simp only [↓gos,gop,qA,qB,qC,qD,qE,qF,qG,qH,qI]
   exact rX rfl rfl
theorem rA (c:Int):(jY c).length≤2:=by unfold jY; split <;> simp
theorem jK (c:Int):(cS c).length≤2:=by
 unfold cS
 split
 ·simp
 split
 ·simp
 ·exact rA c
theorem zF:Chr jY:=fun c hc x hx=>by
 unfold jY at hx
 split at hx
 ·cases hx
 ·simp at hx; exact ⟨c,hx,hc⟩
theorem tC:Chr cS:=fun c hc x hx=>by
 unfold cS at hx
 split at hx
 ·rename_i h
  rw [lA] at h
  simp at hx
  exact ⟨c+32,by omega,by unfold okC; omega⟩
 split at hx
 ·simp at hx
  exact ⟨115,hx,by unfold okC; omega⟩
 ·exact zF c hc x hx
def nH (s:List UInt8):=nC cS DZ s
def jZ (s:List UInt8):=nC cS FG s
def BD (s:List UInt8):=nC jY (fun c => !CF c) s
theorem aCy (s:List UInt8)(hs:s.length<100000000):SE 161 [.str s] (nH s):=by
 refine aA c161 (by simp [f161]) ?_
 simp only [f161,↓gos,gop,qA,qB,qC,qD,qE,qF,qG,qH,qI]
 refine aB (aBP EX jK aCQ tC s hs) rfl rfl ?_
 simp only [↓gos,gop,qA,qB,qC,qD,qE,qF,qG,qH,qI]
 exact rX rfl rfl
theorem aBg (s:List UInt8)(hs:s.length<100000000):SE 198 [.str s] (jZ s):=by
 refine aA c198 (by simp [f198]) ?_
 simp only [f198,↓gos,gop,qA,qB,qC,qD,qE,qF,qG,qH,qI]
 refine aB (aBP EX jK aCN tC s hs) rfl rfl ?_
 simp only [↓gos,gop,qA,qB,qC,qD,qE,qF,qG,qH,qI]
 exact rX rfl rfl
theorem aDA (s:List UInt8)(hs:s.length<100000000):SE 162 [.str s] (BD s):=by
 refine aA c162 (by simp [f162]) ?_
 simp only [f162,↓gos,gop,qA,qB,qC,qD,qE,qF,qG,qH,qI]
 refine aB (aBP MY rA aEY zF s hs) rfl rfl ?_
 simp only [↓gos,gop,qA,qB,qC,qD,qE,qF,qG,qH,qI]
 exact rX rfl rfl
end Go.Proofs.Ut
