/- prep.of and what it calls. -/
import Derived.Test.YtgamnnfndidclaaGreatDoorCYPrB
open Nat renaming reduceBEq → qA,reduceAdd → qB,reduceSub → qC,reduceLeDiff → qD,reduceMul → qE
open Int renaming reduceLE → qF,reduceLT → qG,reduceNe → qH,reduceToNat → qI
set_option linter.all false
namespace Go.Proofs.Ut
open Go.Ai Classical
set_option linter.unusedSimpArgs false
set_option maxHeartbeats 1000000
set_option maxRecDepth 100000
abbrev Ts (g:Nat)(p:Int→Bool):Prop:=∀ c,Ret g [.int .i64 c] (.bool (p c))
theorem aIt {a g:Nat}{p:Int→Bool}(hg:Ts g p)(c:Int):ACalls ED 254 [.box [.fn a [],.fn g []]] [.int .i64 c,.ptr 0 0] fun h d=>h=[.box [.fn a [],.fn g []]]∧d=.bool (!p c):=by
 refine aA c254 (by simp [f254]) ?_
 simp only [f254,↓gos,gop,qA,qB,qC,qD,qE,qF,qG,qH,qI]
 refine aB (hg c) rfl rfl ?_
 cases h1:p c
 ·simp only [↓gos,gop,qA,qB,qC,qD,qE,qF,qG,qH,qI]
  exact dH rfl rfl rfl ⟨rfl,rfl⟩
 ·simp only [↓gos,gop,qA,qB,qC,qD,qE,qF,qG,qH,qI]
  exact dH rfl rfl rfl ⟨rfl,rfl⟩
theorem zG {l:List Int}{p:Int→Bool}{i:Nat}(h1:i<l.length)(h2:p (l.getD i 0)=true):l.any p=true:=by
 rw [List.any_eq_true]
 exact ⟨l.getD i 0,by simp [h1],h2⟩
theorem yX {l:List Int}{p:Int→Bool}{i:Nat}(h1:¬ i<l.length)(hp:∀ j,j<i→p (l.getD j 0)=false):l.any p=false:=by
 rw [List.any_eq_false]
 intro x hx
 obtain ⟨j,hj,rfl⟩:=List.getElem_of_mem hx
 have:=hp j (by omega)
 simp [hj] at this
 simp [this]
theorem WH {a g:Nat}{p:Int→Bool}(hg:Ts g p)(l:List Int)(hl:l.length<1000000000000):ACalls ED 295 [.box [.fn a [],.fn g []]] [.sl 1 (l.map num),.fn 254 [.ptr 0 0]] fun h d=>h=[.box [.fn a [],.fn g []]]∧∃ n:Int,d=.int .i64 n∧(0≤n↔l.any (fun c => !p c)=true):=by
 refine aA c295 (by simp [f295]) ?_
 simp only [f295,↓gos,gop,qA,qB,qC,qD,qE,qF,qG,qH,qI]
 refine aJ (γ:=Nat) (fun i=>[(0,.sl 1 (l.map num)),(1,.fn 254 [.ptr 0 0]),(7,.int .i64 l.length),(8,.int .i64 i)]) (fun _=>[.box [.fn a [],.fn g []]]) (fun i=>i≤l.length∧∀ j,j<i→(!p (l.getD j 0))=false) (fun i=>l.length - i) 0
  (wks rfl (by simp) ⟨rfl,rfl,rfl,rfl,trivial⟩) (by simp) fun i hi=>?_
 obtain ⟨hi,hp⟩:=hi
 simp only [f295l0,num,↓gos,gop,qA,qB,qC,qD,qE,qF,qG,qH,qI]
 refine ⟨fun h1=>aL 0 (by omega) (iC (i:=0) rfl rfl (aIt hg (l.getD i 0)) rfl rfl fun h' d hq=>?_),fun h1=>dH rfl rfl rfl ⟨rfl,_,rfl,?_⟩⟩
 ·obtain ⟨rfl,rfl⟩:=hq
  refine ⟨_,rfl,rfl,rfl,?_⟩
  cases h2:p (l.getD i 0)
  ·simp only [↓gos,gop,qA,qB,qC,qD,qE,qF,qG,qH,qI]
   refine dH rfl rfl rfl ⟨rfl,_,rfl,?_⟩
   exact ⟨fun _=>zG (i:=i) (by omega) (by rw [h2]; rfl),fun _=>by omega⟩
  ·simp only [↓gos,gop,qA,qB,qC,qD,qE,qF,qG,qH,qI]
   intro v hv
   rw [wrap_i64 (by omega) (by omega)] at hv
   refine aN (i+1) rfl (by simp) ⟨rfl,rfl,rfl,by show DV.int .i64 v=_; rw [hv]; rfl,trivial⟩ ⟨by omega,fun j hj=>?_⟩ (by omega)
   by_cases hji:j=i
   ·subst hji; exact h2
   ·simpa using hp j (by omega)
 ·refine ⟨fun h=>by omega,fun h=>?_⟩
  rw [yX (i:=i) (by omega) hp] at h
  cases h
theorem aCM {g:Nat}{p:Int→Bool}(hg:Ts g p)(l:List Int)(hl:l.length<1000000000000):ACalls ED 295 [] [.sl 1 (l.map num),.fn g []] fun h d=>h=[]∧∃ n:Int,d=.int .i64 n∧(0≤n↔l.any p=true):=by
 refine aA c295 (by simp [f295]) ?_
 simp only [f295,↓gos,gop,qA,qB,qC,qD,qE,qF,qG,qH,qI]
 refine aJ (γ:=Nat) (fun i=>[(0,.sl 1 (l.map num)),(1,.fn g []),(7,.int .i64 l.length),(8,.int .i64 i)]) (fun _=>[]) (fun i=>i≤l.length∧∀ j,j<i→p (l.getD j 0)=false) (fun i=>l.length - i) 0
  (wks rfl (by simp) ⟨rfl,rfl,rfl,rfl,trivial⟩) (by simp) fun i hi=>?_
 obtain ⟨hi,hp⟩:=hi
 simp only [f295l0,num,↓gos,gop,qA,qB,qC,qD,qE,qF,qG,qH,qI]
 refine ⟨fun h1=>aL 0 (by omega) (aB (hg (l.getD i 0)) rfl rfl ?_),fun h1=>aD rfl ⟨rfl,_,rfl,?_⟩⟩
 ·cases h2:p (l.getD i 0)
  ·simp only [↓gos,gop,qA,qB,qC,qD,qE,qF,qG,qH,qI]
   intro v hv
   rw [wrap_i64 (by omega) (by omega)] at hv
   refine aN (i+1) rfl (by simp) ⟨rfl,rfl,rfl,by show DV.int .i64 v=_; rw [hv]; rfl,trivial⟩ ⟨by omega,fun j hj=>?_⟩ (by omega)
   by_cases hji:j=i
   ·subst hji; exact h2
   ·exact hp j (by omega)
  ·simp only [↓gos,gop,qA,qB,qC,qD,qE,qF,qG,qH,qI]
   exact aD rfl ⟨rfl,_,rfl,fun _=>zG (i:=i) (by omega) h2,fun _=>by omega⟩
 ·refine ⟨fun h=>by omega,fun h=>?_⟩
  rw [yX (i:=i) (by omega) hp] at h
  cases h
theorem aFW {a g:Nat}{p:Int→Bool}(hg:Ts g p)(l:List Int)(hl:l.length<1000000000000):ACalls ED 253 [.box [.fn a [],.fn g []]] [.sl 1 (l.map num),.fn 254 [.ptr 0 0]] fun h d=>h=[.box [.fn a [],.fn g []]]∧d=.bool (l.any fun c => !p c):=by
 refine aA c253 (by simp [f253]) ?_
 simp only [f253,↓gos,gop,qA,qB,qC,qD,qE,qF,qG,qH,qI]
 refine iC (i:=0) rfl rfl (WH hg l hl) rfl rfl fun h' d hq=>?_
 obtain ⟨rfl,n,rfl,hn⟩:=hq
 refine ⟨_,rfl,rfl,rfl,?_⟩
 simp only [↓gos,gop,qA,qB,qC,qD,qE,qF,qG,qH,qI]
 refine ⟨fun h=>dH rfl rfl rfl ⟨rfl,?_⟩,fun h=>dH rfl rfl rfl ⟨rfl,?_⟩⟩
 ·rw [hn.1 h]; rfl
 ·cases h2:l.any fun c => !p c
  ·rfl
  ·exact absurd (hn.2 h2) h
theorem aDg {g:Nat}{p:Int→Bool}(hg:Ts g p)(l:List Int)(hl:l.length<1000000000000):Ret 253 [.sl 1 (l.map num),.fn g []] (.bool (l.any p)):=by
 refine aA c253 (by simp [f253]) ?_
 simp only [f253,↓gos,gop,qA,qB,qC,qD,qE,qF,qG,qH,qI]
 refine kZ (aCM hg l hl) rfl ?_ fun d hd=>?_
 ·cases hc:l.any p
  ·exact ⟨_,-1,rfl,by omega,fun h=>by cases h⟩
  ·exact ⟨_,0,rfl,fun _=>rfl,by omega⟩
 ·obtain ⟨n,rfl,hn⟩:=hd
  refine ⟨rfl,?_⟩
  simp only [↓gos,gop,qA,qB,qC,qD,qE,qF,qG,qH,qI]
  refine ⟨fun h=>aG ?_,fun h=>aG ?_⟩
  ·rw [hn.1 h]
  ·cases hc:l.any p
   ·rfl
   ·exact absurd (hn.2 hc) h
theorem WU {g:Nat}{m:Int→List Int}(hg:∀ c,NR g [.int .i64 c] (m c))(hm:∀ c,(m c).length≤2)(l:List Int)(hl:l.length<10000000000):NR 252 [.sl 1 (l.map num),.fn g []] (l.flatMap m):=by
 refine aA c252 (by simp [f252]) ?_
 simp only [f252,↓gos,gop,qA,qB,qC,qD,qE,qF,qG,qH,qI]
 refine aJ (γ:=Nat×List Int) (fun g' => [(0,.sl 1 (l.map num)),(1,.fn g []),(5,.osl 1 1 0 g'.2.length none),(8,.sl 1 (l.map num)),(9,.int .i64 l.length),(10,.int .i64 (g'.1:Nat))]) (fun g' => [.arr 1 [],.arr 1 (g'.2.map num)])
  (fun g' => g'.1≤l.length∧g'.2=(l.take g'.1).flatMap m∧g'.2.length≤2*g'.1) (fun g' => l.length - g'.1) (0,[]) (wks rfl (Nat.zero_le _) ⟨rfl,rfl,rfl,rfl,rfl,rfl,trivial⟩) ⟨by simp,by simp,by simp⟩ fun g' hg' => ?_
 obtain ⟨i,acc⟩:=g'
 obtain ⟨hi,hacc,hlen⟩:=hg'
 simp only at hi hacc hlen
 simp only [f252l0,num,↓gos,gop,qA,qB,qC,qD,qE,qF,qG,qH,qI]
 refine ⟨fun h1=>aL 0 (by omega) (aX (hg (l.getD i 0)) rfl (fG _) ?_),fun h1=>?_⟩
 ·have hm2:=hm (l.getD i 0)
  simp only [DV.ren,aS,num,↓gos,gop,qA,qB,qC,qD,qE,qF,qG,qH,qI]
  refine ⟨by omega,by omega,fun v hv=>?_⟩
  rw [wrap_i64 (by omega) (by omega)] at hv
  refine cI 2 (i+1,acc++m (l.getD i 0)) ?_ (Nat.zero_le _) ⟨rfl,rfl,rfl,rfl,?_,rfl,rfl,rfl,rfl,rfl,?_,rfl,trivial⟩ rfl ⟨by omega,?_,by simp only [List.length_append]; omega⟩ (by simp only; omega)
  ·simp [num]
  ·simp [slots]
  ·show DV.int .i64 v=_
   rw [hv]; rfl
  ·simp only
   rw [List.take_succ_eq_append_getElem (by omega),List.flatMap_append,hacc]
   simp [show i<l.length by omega]
 ·obtain rfl:i=l.length:=by omega
  rw [List.take_length] at hacc
  rw [← hacc]
  exact bJ rfl rfl rfl
def cH (l:List Int):Bool:=if l.any eG then eG (l.getD 0 0)&&eG (l.getD (l.length - 1) 0) && !l.any pW else true
theorem GN (l:List Int)(hl:l.length<1000000000000):Ret 255 [.sl 1 (l.map num)] (.bool (cH l)):=by
 refine aA c255 (by simp [f255]) ?_
 simp only [f255,num,↓gos,gop,qA,qB,qC,qD,qE,qF,qG,qH,qI]
 refine aB (aDg HJ l hl) rfl rfl ?_
 unfold cH
 cases h1:l.any eG
 ·simp only [↓gos,gop,qA,qB,qC,qD,qE,qF,qG,qH,qI]
  exact aG (by simp)
 ·have hne:0<l.length:=by
   rcases l with _|⟨x,l⟩
   ·simp at h1
   ·simp
  simp only [num,↓gos,gop,qA,qB,qC,qD,qE,qF,qG,qH,qI]
  refine aL 0 (by omega) (aB (HJ (l.getD 0 0)) rfl rfl ?_)
  cases h2:eG (l.getD 0 0)
  ·simp only [↓gos,gop,qA,qB,qC,qD,qE,qF,qG,qH,qI]
   exact aG (by simp)
  ·simp only [num,↓gos,gop,qA,qB,qC,qD,qE,qF,qG,qH,qI]
   intro v hv
   rw [wrap_i64 (by omega) (by omega)] at hv
   refine ⟨by omega,?_⟩
   rw [show v.toNat=l.length - 1 by omega]
   refine aL (l:=l) (i:=l.length - 1) 0 (by omega) ?_
   refine aB (HJ (l.getD (l.length - 1) 0)) rfl rfl ?_
   cases h3:eG (l.getD (l.length - 1) 0)
   ·simp only [↓gos,gop,qA,qB,qC,qD,qE,qF,qG,qH,qI]
    exact aG (by simp)
   ·simp only [↓gos,gop,qA,qB,qC,qD,qE,qF,qG,qH,qI]
    refine aB (aDg RH l hl) rfl rfl ?_
    cases h4:l.any pW
    ·simp only [↓gos,gop,qA,qB,qC,qD,qE,qF,qG,qH,qI]
     exact aG (by simp)
    ·simp only [↓gos,gop,qA,qB,qC,qD,qE,qF,qG,qH,qI]
     exact aG (by simp)
def gV (m:Int→List Int)(p:Int→Bool)(s:List UInt8):List UInt8×Int:=
 if bC bQ s 0 then
  (if ((rs s).flatMap m).any (fun c => !p c) then ([],15) else if cH ((rs s).flatMap m) then (((rs s).flatMap m).flatMap en,0) else ([],16))
 else ([],3)
abbrev SE (f:Nat)(args:List DV)(r:List UInt8×Int):Prop:=Ret f args (.tup [.str r.1,.int .i64 r.2])
theorem aBx {sz i n:Nat}{es:List (List DV)}{h:List AObj}{c:Option Nat}{ls:List Nat}(hi:h[i]?=some (.arr sz es))(hn:n=es.length)(hl:ls.idxOf? i=none):DV.dn ls h (.osl sz i 0 n c)=.sl sz es:=by
 subst hn
 simp [DV.dn,DV.low,hi,hl]
theorem aJL (s:List UInt8):∀ n i,s.length - i≤n→∀ x∈jP s i,∃ c:Nat,x=c∧okC c:=fun n=>by
 induction n with
 | zero=>intro i h x hx; rw [dG _ _ (by omega)] at hx; cases hx
 | succ n ih=>
  intro i h x hx
  by_cases hi:i<s.length
  ·have:=eC s i hi
   rw [fY s i hi] at hx
   rcases List.mem_cons.1 hx with rfl|hx
   ·exact ⟨_,rfl,this.2.2⟩
   ·exact ih _ (by omega) x hx
  ·rw [dG _ _ hi] at hx; cases hx
theorem JA (s:List UInt8):∀ x∈rs s,∃ c:Nat,x=c∧okC c:=fun x hx=>by
 unfold rs at hx
 split at hx
 ·exact aJL s _ 0 (Nat.le_refl _) x hx
 ·cases hx
theorem sZ (c:Int):(en c).length≤4:=by
 unfold en Utf8.encode
 simp only
 repeat' split
 all_goals simp
def Chr (m:Int→List Int):Prop:=∀ c:Nat,okC c→∀ x∈m c,∃ n:Nat,x=n∧okC n
theorem gN {k:IntKind}{a a' : List UInt8}{b b' : Int}{h:List AObj}(e1:a=a')(e2:b=b'):eK 0 (fun h d=>h=[]∧d=.tup [.str a',.int k b']) (some [.str a,.int k b]) h:=aD rfl ⟨rfl,by rw [e1,e2]; rfl⟩
theorem aEq {g g2:Nat}{m:Int→List Int}{p:Int→Bool}(hg:∀ c,NR g [.int .i64 c] (m c))(hm:∀ c,(m c).length≤2)(hp:Ts g2 p)(hch:Chr m)(s:List UInt8)(hs:s.length<100000000):SE 201 [.str s,.agg [.fn g [],.fn g2 []]] (gV m p s):=by
 refine aA c201 (by simp [f201]) ?_
 obtain ⟨r,hr⟩:∃ r,r=gV m p s:=⟨_,rfl⟩
 rw [← hr]
 unfold gV at hr
 simp only [f201,↓gos,gop,qA,qB,qC,qD,qE,qF,qG,qH,qI]
 refine aB (yQ s (by omega)) rfl rfl ?_
 cases h1:bC bQ s 0
 ·rw [h1,if_neg (by simp)] at hr
  subst hr
  simp only [↓gos,gop,qA,qB,qC,qD,qE,qF,qG,qH,qI]
  exact gN rfl rfl
 ·rw [h1,if_pos rfl] at hr
  simp only [num,↓gos,gop,qA,qB,qC,qD,qE,qF,qG,qH,qI]
  refine iR (JB rfl vED s (by omega)) rfl (fG _) ?_
  simp only [DV.ren,aS,num,↓gos,gop,qA,qB,qC,qD,qE,qF,qG,qH,qI]
  have hrl:=DZ s
  have hl2:((rs s).flatMap m).length≤2*(rs s).length:=by
   generalize rs s=l
   induction l with
   | nil=>simp
   | cons x l ih=>
    have:=hm x
    rw [List.flatMap_cons,List.length_append,List.length_cons]; omega
  refine iR (WU hg hm (rs s) (by omega)) (by rw [List.map_cons,aGf (i:=1) rfl rfl]; rfl) (fG _) ?_
  generalize hL:(rs s).flatMap m=L at hr hl2
  simp only [DV.ren,aS,num,↓gos,gop,qA,qB,qC,qD,qE,qF,qG,qH,qI]
  refine EA (i:=0) rfl rfl (aFW hp L (by omega)) (by rw [List.map_cons]; erw [aBx (es:=L.map num) (i:=2) rfl (by simp) rfl]; rfl) (fun h' d hq=>?_) fun h' d hq=>?_
  ·obtain ⟨rfl,rfl⟩:=hq
   rfl
  obtain ⟨rfl,rfl⟩:=hq
  refine ⟨_,rfl,rfl,rfl,?_⟩
  cases h2:L.any fun c => !p c
  ·rw [h2,if_neg (by simp)] at hr
   simp only [↓gos,gop,qA,qB,qC,qD,qE,qF,qG,qH,qI]
   refine aB (GN L (by omega)) (by rw [List.map_cons]; erw [iQ (es:=L.map num) (i:=2) rfl (by simp)]; rfl) rfl ?_
   cases h3:cH L
   ·rw [h3,if_neg (by simp)] at hr
    subst hr
    simp only [↓gos,gop,qA,qB,qC,qD,qE,qF,qG,qH,qI]
    exact gN rfl rfl
   ·rw [h3,if_pos rfl] at hr
    subst hr
    simp only [↓gos,gop,qA,qB,qC,qD,qE,qF,qG,qH,qI]
    have hLo:∀ x∈L,∃ c:Nat,x=c∧okC c:=fun x hx=>by
     rw [← hL] at hx
     obtain ⟨y,hy,hx⟩:=List.mem_flatMap.1 hx
     obtain ⟨c,rfl,hc⟩:=JA s y hy
     exact hch c hc x hx
    refine aJ (γ:=Nat) (fun i=>[(7,.str ((L.take i).flatMap en)),(26,.osl 1 2 0 L.length none),(27,.int .i64 L.length),(28,.int .i64 i)]) (fun _=>[.box [.fn g [],.fn g2 []],.arr 1 ((rs s).map num),.arr 1 (L.map num)])
     (fun i=>i≤L.length∧((L.take i).flatMap en).length≤4*i) (fun i=>L.length - i) 0 (wks rfl (by simp) ⟨rfl,rfl,rfl,rfl,trivial⟩) ⟨by simp,by simp⟩ fun i hi=>?_
    obtain ⟨hi,hil⟩:=hi
    simp only [f201l0,num,↓gos,gop,qA,qB,qC,qD,qE,qF,qG,qH,qI]
    refine ⟨fun k1=>⟨by omega,aL 0 (by omega) fun v hv=>?_⟩,fun k1=>gN ?_ rfl⟩
    ·obtain ⟨c,hc,hco⟩:=hLo (L.getD i 0) (by rw [List.getD_eq_getElem?_getD,List.getElem?_eq_getElem (by omega)]; exact List.getElem_mem _)
     have he4:=sZ v
     have hee:(Utf8.encode v).data.toList=en v:=rfl
     unfold okC at hco
     rw [CH (by omega) (by omega)] at hv
     rw [hee]
     refine ⟨by omega,fun u hu=>?_⟩
     rw [wrap_i64 (by omega) (by omega)] at hu
     have ht:(L.take (i+1)).flatMap en=(L.take i).flatMap en++en v:=by
      rw [List.take_succ_eq_append_getElem (by omega),List.flatMap_append,hv]
      simp [show i<L.length by omega]
     refine aN (i+1) rfl (by simp) ⟨?_,rfl,rfl,by show DV.int .i64 u=_; rw [hu]; rfl,trivial⟩ ⟨by omega,by rw [ht,List.length_append]; omega⟩ (by omega)
     show DV.str _=DV.str _
     rw [ht]
    ·rw [List.take_of_length_le (by omega)]
  ·rw [h2,if_pos rfl] at hr
   subst hr
   simp only [↓gos,gop,qA,qB,qC,qD,qE,qF,qG,qH,qI]
   exact gN rfl rfl
theorem jS (c:Int):(eQ c).length≤2:=by unfold eQ; split <;> simp
theorem fZ (c:Int):(bR c).length≤2:=by
 unfold bR
 split
 ·simp
 split
 ·simp
 ·exact jS c
theorem pB:Chr eQ:=fun c hc x hx=>by
 unfold eQ at hx
 split at hx
 ·cases hx
 ·simp at hx; exact ⟨c,hx,hc⟩
theorem mA:Chr bR:=fun c hc x hx=>by
 unfold bR at hx
 split at hx
 ·rename_i h
  rw [dE] at h
  simp at hx
  exact ⟨c+32,by omega,by unfold okC; omega⟩
 split at hx
 ·simp at hx
  exact ⟨115,hx,by unfold okC; omega⟩
 ·exact pB c hc x hx
def bY (s:List UInt8):=gV bR lT s
def bN (s:List UInt8):=gV bR kV s
def tE (s:List UInt8):=gV eQ (fun c => !nN c) s
theorem aEs (s:List UInt8)(hs:s.length<100000000):SE 161 [.str s] (bY s):=by
 refine aA c161 (by simp [f161]) ?_
 simp only [f161,↓gos,gop,qA,qB,qC,qD,qE,qF,qG,qH,qI]
 refine aB (aEq KF fZ aFB mA s hs) rfl rfl ?_
 simp only [↓gos,gop,qA,qB,qC,qD,qE,qF,qG,qH,qI]
 exact gN rfl rfl
theorem aEo (s:List UInt8)(hs:s.length<100000000):SE 198 [.str s] (bN s):=by
 refine aA c198 (by simp [f198]) ?_
 simp only [f198,↓gos,gop,qA,qB,qC,qD,qE,qF,qG,qH,qI]
 refine aB (aEq KF fZ aFC mA s hs) rfl rfl ?_
 simp only [↓gos,gop,qA,qB,qC,qD,qE,qF,qG,qH,qI]
 exact gN rfl rfl
theorem aId (s:List UInt8)(hs:s.length<100000000):SE 162 [.str s] (tE s):=by
 refine aA c162 (by simp [f162]) ?_
 simp only [f162,↓gos,gop,qA,qB,qC,qD,qE,qF,qG,qH,qI]
 refine aB (aEq VS jS aKp pB s hs) rfl rfl ?_
 simp only [↓gos,gop,qA,qB,qC,qD,qE,qF,qG,qH,qI]
 exact gN rfl rfl
theorem aKs (l:List Int)(c:Int)(hl:l.length<1000000000000):Ret 318 [.sl 1 (l.map num),.int .i64 c] (.bool (l.contains c)):=by
 refine aA c318 (by simp [f318]) ?_
 simp only [f318,↓gos,gop,qA,qB,qC,qD,qE,qF,qG,qH,qI]
 refine aJ (γ:=Nat) (fun i=>[(0,.sl 1 (l.map num)),(1,.int .i64 c),(5,.int .i64 i)]) (fun _=>[]) (fun i=>i≤l.length∧∀ j,j<i→l.getD j 0≠c) (fun i=>l.length - i) 0
  (wks rfl (Nat.zero_le _) ⟨rfl,rfl,rfl,trivial⟩) (by simp) fun i hi=>?_
 obtain ⟨hi,hp⟩:=hi
 simp only [f318l0,num,↓gos,gop,qA,qB,qC,qD,qE,qF,qG,qH,qI]
 refine ⟨fun h1=>aL 0 (by omega) ⟨fun h2=>aG ?_,fun h2 v hv=>?_⟩,fun h1=>aG ?_⟩
 ·symm
  rw [List.contains_iff_mem,← h2]
  simp [show i<l.length by omega]
 ·rw [wrap_i64 (by omega) (by omega)] at hv
  refine aN (i+1) rfl (Nat.zero_le _) ⟨rfl,rfl,by show DV.int .i64 v=_; rw [hv]; rfl,trivial⟩ ⟨by omega,fun j hj=>?_⟩ (by omega)
  by_cases hji:j=i
  ·subst hji; exact h2
  ·exact hp j (by omega)
 ·symm
  rw [← Bool.not_eq_true,List.contains_iff_mem]
  intro h
  obtain ⟨j,hj,rfl⟩:=List.getElem_of_mem h
  have:=hp j (by omega)
  simp [hj] at this
theorem aFN (c:Int):Ret 321 [.int .i64 c] (.str (en (IntKind.i32.wrap c))):=by
 refine aA c321 (by simp [f321]) ?_
 simp only [f321,↓gos,gop,qA,qB,qC,qD,qE,qF,qG,qH,qI]
 intro v hv
 refine .inr ⟨_,rfl,by simp,[v],rfl,?_⟩
 refine gS ?_
 subst hv
 simp [en]
theorem JC (l:List Int)(hl:l.length<1000000000)(hc:∀ x∈l,∃ c:Nat,x=c∧okC c):Ret 283 [.sl 1 (l.map num)] (.str (l.flatMap en)):=by
 refine aA c283 (by simp [f283]) ?_
 simp only [f283,↓gos,gop,qA,qB,qC,qD,qE,qF,qG,qH,qI]
 refine aJ (γ:=Nat) (fun i=>[(0,.sl 1 (l.map num)),(3,.str ((l.take i).flatMap en)),(4,.int .i64 i)]) (fun _=>[]) (fun i=>i≤l.length∧((l.take i).flatMap en).length≤4*i) (fun i=>l.length - i) 0
  (wks rfl (Nat.zero_le _) ⟨rfl,rfl,rfl,trivial⟩) (by simp) fun i hi=>?_
 obtain ⟨hi,hil⟩:=hi
 simp only [f283l0,num,↓gos,gop,qA,qB,qC,qD,qE,qF,qG,qH,qI]
 refine ⟨fun h1=>aL 0 (by omega) (aB (aFN (l.getD i 0)) rfl rfl ?_),fun h1=>gS ?_⟩
 ·obtain ⟨c,hc,hco⟩:=hc (l.getD i 0) (by rw [List.getD_eq_getElem?_getD,List.getElem?_eq_getElem (by omega)]; exact List.getElem_mem _)
  unfold okC at hco
  rw [CH (by omega) (by omega)]
  have he4:=sZ (l.getD i 0)
  simp only [↓gos,gop,qA,qB,qC,qD,qE,qF,qG,qH,qI]
  refine ⟨by omega,fun v hv=>?_⟩
  rw [wrap_i64 (by omega) (by omega)] at hv
  have ht:(l.take (i+1)).flatMap en=(l.take i).flatMap en++en (l.getD i 0):=by
   rw [List.take_succ_eq_append_getElem (by omega),List.flatMap_append]
   simp [show i<l.length by omega]
  refine aN (i+1) rfl (Nat.zero_le _) ⟨rfl,?_,by show DV.int .i64 v=_; rw [hv]; rfl,trivial⟩ ⟨by omega,by rw [ht,List.length_append]; omega⟩ (by omega)
  show DV.str _=DV.str _
  rw [ht]
 ·rw [List.take_of_length_le (by omega)]
theorem SA {c:Int}(h:ZI c=true∨c=223):inR gY c=false:=by
 rw [dE] at h
 simp only [inR,gY,prs,fQ,List.any_cons,List.any_nil,Bool.or_false,Bool.or_eq_false_iff,Bool.and_eq_false_iff,decide_eq_false_iff_not]
 omega
def fT (all:Bool)(c:Int):List Int:=if all then bR c else eQ c
theorem RP (l:List Int)(all:Bool)(hl:l.length<1000000000):NR 280 [.sl 1 (l.map num),.bool all] (l.flatMap (fT all)):=by
  refine aA c280 (by simp [f280]) ?_
  simp only [f280,↓gos,gop,qA,qB,qC,qD,qE,qF,qG,qH,qI]
  refine aJ (γ:=Nat×List Int) (fun g' => [(0,.sl 1 (l.map num)),(1,.bool all),(5,.osl 1 1 0 g'.2.length none),(6,.int .i64 (g'.1:Nat))]) (fun g' => [.arr 1 [],.arr 1 (g'.2.map num)])
    (fun g' => g'.1≤l.length∧g'.2=(l.take g'.1).flatMap (fT all)∧g'.2.length≤2*g'.1) (fun g' => l.length - g'.1) (0,[]) (wks rfl (Nat.zero_le _) ⟨rfl,rfl,rfl,rfl,trivial⟩) ⟨by simp,by simp,by simp⟩ fun g' hg' => ?_
  obtain ⟨i,acc⟩:=g'
  obtain ⟨hi,hacc,hlen⟩:=hg'
  simp only at hi hacc hlen
  simp only [f280l0,num,↓gos,gop,qA,qB,qC,qD,qE,qF,qG,qH,qI]
  have ht:i<l.length→acc++fT all (l.getD i 0)=(l.take (i+1)).flatMap (fT all):=fun h=>by
    rw [List.take_succ_eq_append_getElem h,List.flatMap_append,hacc]
    simp [h]
  have hrl:(fT all (l.getD i 0)).length≤2:=by
    unfold fT; split
    · exact fZ _
    · exact jS _
  refine ⟨fun h1=>aL 0 (by omega) (aX AD rfl (cO _) ?_),fun h1=>?_⟩
  · have ht:=ht (by omega)
    simp only [DV.ren,aS,num,↓gos,gop,qA,qB,qC,qD,qE,qF,qG,qH,qI]
    refine aB (dJ (prs gY) (l.getD i 0) (by decide)) (by rw [List.map_cons]; erw [gX (l:=prs gY) (i:=2) rfl rfl]; rfl) rfl ?_
    rw [show ((prs gY).any fun x=>fQ x (l.getD i 0))=inR gY (l.getD i 0) from rfl]
    have hcg:=@SA (l.getD i 0)
    generalize hx:l.getD i 0=c at ht hrl hcg ⊢
    cases hg:inR gY c
    · simp only [num,↓gos,gop,qA,qB,qC,qD,qE,qF,qG,qH,qI]
      cases all
      · have er:fT false c=[c]:=by simp [fT,eQ,hg]
        rw [er] at ht hrl
        simp only [num,↓gos,gop,qA,qB,qC,qD,qE,qF,qG,qH,qI]
        refine ⟨by omega,by omega,fun v hv=>?_⟩
        rw [wrap_i64 (by omega) (by omega)] at hv
        refine cI 2 (i+1,acc++[c]) (by simp [num]) (Nat.zero_le _) ⟨rfl,rfl,rfl,rfl,by simp [slots],rfl,by show DV.int .i64 v=_; rw [hv]; rfl,rfl,trivial⟩ rfl ⟨by omega,ht,by simp only [List.length_append,List.length_cons,List.length_nil]; omega⟩ (by simp only; omega)
      · simp only [num,↓gos,gop,qA,qB,qC,qD,qE,qF,qG,qH,qI]
        repeat' (first | refine And.intro ?_ ?_ | intro _)
        all_goals first
          | omega
          | (have hw:=‹_=IntKind.i64.wrap ((i:Int)+1)›
             have er:fT true c=[c+32]:=by
               simp only [fT,if_true,bR]
               rw [if_pos ((dE c).2 (by omega))]
             rw [er] at ht hrl
             rw [wrap_i64 (by omega) (by omega)] at hw
             have hv:=‹_=IntKind.i64.wrap (c+32)›
             rw [wrap_i64 (by omega) (by omega)] at hv
             subst hv
             refine cI 2 (i+1,acc++[c+32]) (by simp [num]) (Nat.zero_le _) ⟨rfl,rfl,rfl,rfl,by simp [slots],rfl,by show DV.int .i64 _=_; rw [hw]; rfl,rfl,trivial⟩ rfl ⟨by omega,ht,by simp only [List.length_append,List.length_cons,List.length_nil]; omega⟩ (by simp only; omega))
          | (have hw:=‹_=IntKind.i64.wrap ((i:Int)+1)›
             have er:fT true c=[115,115]:=by
               simp only [fT,if_true,bR]
               rw [if_neg (fun q=>by have:=(dE c).1 q; omega),if_pos (by omega)]
             rw [er] at ht hrl
             rw [wrap_i64 (by omega) (by omega)] at hw
             refine cI 2 (i+1,acc++[115,115]) (by simp [num]) (Nat.zero_le _) ⟨rfl,rfl,rfl,rfl,by simp [slots],rfl,by show DV.int .i64 _=_; rw [hw]; rfl,rfl,trivial⟩ rfl ⟨by omega,ht,by simp only [List.length_append,List.length_cons,List.length_nil]; omega⟩ (by simp only; omega))
          | (have hw:=‹_=IntKind.i64.wrap ((i:Int)+1)›
             have er:fT true c=[c]:=by
               simp only [fT,if_true,bR]
               rw [if_neg (fun q=>by have:=(dE c).1 q; omega),if_neg (by omega)]
               simp [eQ,hg]
             rw [er] at ht hrl
             rw [wrap_i64 (by omega) (by omega)] at hw
             refine cI 2 (i+1,acc++[c]) (by simp [num]) (Nat.zero_le _) ⟨rfl,rfl,rfl,rfl,by simp [slots],rfl,by show DV.int .i64 _=_; rw [hw]; rfl,rfl,trivial⟩ rfl ⟨by omega,ht,by simp only [List.length_append,List.length_cons,List.length_nil]; omega⟩ (by simp only; omega))
    · have er:fT all c=[]:=by
        unfold fT
        split
        · unfold bR
          rw [hg] at hcg
          rw [if_neg (fun q=>by have:=hcg (.inl q); cases this),if_neg (fun q=>by have:=hcg (.inr q); cases this)]
          simp [eQ,hg]
        · simp [eQ,hg]
      rw [er] at ht hrl
      simp only [num,↓gos,gop,qA,qB,qC,qD,qE,qF,qG,qH,qI]
      intro v hv
      rw [wrap_i64 (by omega) (by omega)] at hv
      refine cI 2 (i+1,acc) (by simp [num]) (Nat.zero_le _) ⟨rfl,rfl,rfl,rfl,by simp [slots],rfl,by show DV.int .i64 v=_; rw [hv]; rfl,rfl,trivial⟩ rfl ⟨by omega,by simpa using ht,by simp only; omega⟩ (by simp only; omega)
  · obtain rfl:i=l.length:=by omega
    rw [List.take_length] at hacc
    rw [← hacc]
    exact bJ rfl rfl rfl
theorem wX (k c:Int):Ret 281 [.int .i64 k,.int .i64 c] (.bool (if k=1 then lT c else if k=2 then kV c else !nN c)):=by
  refine aA c281 (by simp [f281]) ?_
  simp only [f281,↓gos,gop,qA,qB,qC,qD,qE,qF,qG,qH,qI]
  refine ⟨fun h1=>?_,fun h1=>⟨fun h2=>?_,fun h2=>?_⟩⟩
  · rw [if_pos h1]
    refine aX lI rfl (cO _) ?_
    simp only [DV.ren,aS,↓gos,gop,qA,qB,qC,qD,qE,qF,qG,qH,qI]
    refine aB (dJ (prs gB) c (by decide)) (by rw [List.map_cons,gX (i:=0) rfl rfl]; rfl) rfl ?_
    rw [show ((prs gB).any fun x=>fQ x c)=nN c from rfl]
    unfold lT
    cases h:nN c
    · simp only [↓gos,gop,qA,qB,qC,qD,qE,qF,qG,qH,qI]
      refine aB (aKs signs c (by decide)) rfl rfl ?_
      cases h2:signs.contains c
      · simp only [↓gos,gop,qA,qB,qC,qD,qE,qF,qG,qH,qI]
        exact aG rfl
      · simp only [↓gos,gop,qA,qB,qC,qD,qE,qF,qG,qH,qI]
        exact aG rfl
    · simp only [↓gos,gop,qA,qB,qC,qD,qE,qF,qG,qH,qI]
      exact aG rfl
  · rw [if_neg h1,if_pos h2]
    unfold kV
    repeat' (first | refine And.intro ?_ ?_ | intro _)
    all_goals first
      | (refine aG ?_; simp [*]; done)
      | (refine aX fV rfl (cO _) ?_
         simp only [DV.ren,aS,↓gos,gop,qA,qB,qC,qD,qE,qF,qG,qH,qI]
         refine aB (dJ (prs cB) c (by decide)) (by rw [List.map_cons,gX (i:=0) rfl rfl]; rfl) rfl ?_
         rw [show ((prs cB).any fun x=>fQ x c)=pW c from rfl]
         cases h1:pW c
         · simp only [↓gos,gop,qA,qB,qC,qD,qE,qF,qG,qH,qI]
           refine aX dA rfl (cO _) ?_
           simp only [DV.ren,aS,↓gos,gop,qA,qB,qC,qD,qE,qF,qG,qH,qI]
           refine aB (dJ (prs bE) c (by decide)) (by rw [List.map_cons,gX (i:=1) rfl rfl]; rfl) rfl ?_
           rw [show ((prs bE).any fun x=>fQ x c)=eG c from rfl]
           cases h2:eG c
           · simp only [↓gos,gop,qA,qB,qC,qD,qE,qF,qG,qH,qI]
             refine aG ?_
             simp [*]
           · simp only [↓gos,gop,qA,qB,qC,qD,qE,qF,qG,qH,qI]
             refine aG ?_
             simp [*]
         · simp only [↓gos,gop,qA,qB,qC,qD,qE,qF,qG,qH,qI]
           refine aG ?_
           simp [*])
  · rw [if_neg h1,if_neg h2]
    refine aX lI rfl (cO _) ?_
    simp only [DV.ren,aS,↓gos,gop,qA,qB,qC,qD,qE,qF,qG,qH,qI]
    refine aB (dJ (prs gB) c (by decide)) (by rw [List.map_cons,gX (i:=0) rfl rfl]; rfl) rfl ?_
    rw [show ((prs gB).any fun x=>fQ x c)=nN c from rfl]
    cases h:nN c
    · simp only [↓gos,gop,qA,qB,qC,qD,qE,qF,qG,qH,qI]
      exact aG rfl
    · simp only [↓gos,gop,qA,qB,qC,qD,qE,qF,qG,qH,qI]
      exact aG rfl
theorem aDC (l:List Int)(hl:l.length<1000000000):Ret 282 [.sl 1 (l.map num)] (.bool (cH l)):=by
 refine aA c282 (by simp [f282]) ?_
 simp only [f282,↓gos,gop,qA,qB,qC,qD,qE,qF,qG,qH,qI]
 refine aJ (γ:=Nat) (fun i=>[(0,.sl 1 (l.map num)),(3,.bool ((l.take i).any eG)),(4,.bool ((l.take i).any pW)),(5,.int .i64 i)]) (fun _=>[]) (fun i=>i≤l.length) (fun i=>l.length - i) 0
  (wks rfl (Nat.zero_le _) ⟨rfl,rfl,rfl,rfl,trivial⟩) (Nat.zero_le _) fun i hi=>?_
 simp only [f282l0,num,↓gos,gop,qA,qB,qC,qD,qE,qF,qG,qH,qI]
 refine ⟨fun h1=>?_,fun h1=>?_⟩
 ·have ts:∀ p:Int→Bool,(l.take (i+1)).any p=((l.take i).any p||p (l.getD i 0)):=fun p=>by
   rw [List.take_succ_eq_append_getElem (by omega),List.any_append]
   simp [show i<l.length by omega]
  have t1:=ts eG
  have t2:=ts pW
  generalize (l.take i).any eG=r at t1 ⊢
  generalize (l.take i).any pW=q at t2 ⊢
  have fin:∀ v:Int,v=IntKind.i64.wrap ((i:Int)+1)→v=((i+1:Nat):Int):=fun v hv=>by
   rw [wrap_i64 (by omega) (by omega)] at hv
   rw [hv]; rfl
  cases r
  ·simp only [num,↓gos,gop,qA,qB,qC,qD,qE,qF,qG,qH,qI]
   refine iR dA rfl (cO _) ?_
   simp only [DV.ren,aS,num,↓gos,gop,qA,qB,qC,qD,qE,qF,qG,qH,qI]
   refine aL 0 (by omega) ?_
   refine aB (dJ (prs bE) (l.getD i 0) (by decide)) (by rw [List.map_cons]; erw [gX (l:=prs bE) (i:=0) rfl rfl]; rfl) rfl ?_
   rw [show ((prs bE).any fun x=>fQ x (l.getD i 0))=eG (l.getD i 0) from rfl]
   simp only [num,↓gos,gop,qA,qB,qC,qD,qE,qF,qG,qH,qI]
   cases q
   ·simp only [num,↓gos,gop,qA,qB,qC,qD,qE,qF,qG,qH,qI]
    refine iR fV rfl (cO _) ?_
    simp only [DV.ren,aS,num,↓gos,gop,qA,qB,qC,qD,qE,qF,qG,qH,qI]
    refine aL 0 (by omega) ?_
    refine aB (dJ (prs cB) (l.getD i 0) (by decide)) (by rw [List.map_cons]; erw [gX (l:=prs cB) (i:=1) rfl rfl]; rfl) rfl ?_
    rw [show ((prs cB).any fun x=>fQ x (l.getD i 0))=pW (l.getD i 0) from rfl]
    simp only [num,↓gos,gop,qA,qB,qC,qD,qE,qF,qG,qH,qI]
    intro v hv
    exact cI 0 (i+1) rfl (Nat.zero_le _) ⟨rfl,rfl,by show DV.bool _=DV.bool _; rw [t1]; simp,rfl,by show DV.bool _=DV.bool _; rw [t2]; simp,rfl,by show DV.int .i64 v=_; rw [fin v hv],rfl,trivial⟩ rfl (by omega) (by omega)
   ·simp only [num,↓gos,gop,qA,qB,qC,qD,qE,qF,qG,qH,qI]
    intro v hv
    exact cI 0 (i+1) rfl (Nat.zero_le _) ⟨rfl,rfl,by show DV.bool _=DV.bool _; rw [t1]; simp,rfl,by show DV.bool _=DV.bool _; rw [t2]; simp,rfl,by show DV.int .i64 v=_; rw [fin v hv],rfl,trivial⟩ rfl (by omega) (by omega)
  ·simp only [num,↓gos,gop,qA,qB,qC,qD,qE,qF,qG,qH,qI]
   cases q
   ·simp only [num,↓gos,gop,qA,qB,qC,qD,qE,qF,qG,qH,qI]
    refine iR fV rfl (cO _) ?_
    simp only [DV.ren,aS,num,↓gos,gop,qA,qB,qC,qD,qE,qF,qG,qH,qI]
    refine aL 0 (by omega) ?_
    refine aB (dJ (prs cB) (l.getD i 0) (by decide)) (by rw [List.map_cons]; erw [gX (l:=prs cB) (i:=0) rfl rfl]; rfl) rfl ?_
    rw [show ((prs cB).any fun x=>fQ x (l.getD i 0))=pW (l.getD i 0) from rfl]
    simp only [num,↓gos,gop,qA,qB,qC,qD,qE,qF,qG,qH,qI]
    intro v hv
    exact cI 0 (i+1) rfl (Nat.zero_le _) ⟨rfl,rfl,by show DV.bool _=DV.bool _; rw [t1]; simp,rfl,by show DV.bool _=DV.bool _; rw [t2]; simp,rfl,by show DV.int .i64 v=_; rw [fin v hv],rfl,trivial⟩ rfl (by omega) (by omega)
   ·simp only [num,↓gos,gop,qA,qB,qC,qD,qE,qF,qG,qH,qI]
    intro v hv
    exact cI 0 (i+1) rfl (Nat.zero_le _) ⟨rfl,rfl,by show DV.bool _=DV.bool _; rw [t1]; simp,rfl,by show DV.bool _=DV.bool _; rw [t2]; simp,rfl,by show DV.int .i64 v=_; rw [fin v hv],rfl,trivial⟩ rfl (by omega) (by omega)
 ·obtain rfl:i=l.length:=by omega
  rw [List.take_length]
  unfold cH
  refine ⟨fun h2=>aG (by rw [h2]; rfl),fun h2=>?_⟩
  have hne:0<l.length:=by
   rcases l with _|⟨x,l⟩
   ·simp at h2
   ·simp
  rw [h2,if_pos rfl]
  refine ⟨fun h3=>?_,fun h3=>aG (by rw [h3]; simp)⟩
  rw [h3]
  refine iR dA rfl (cO _) ?_
  simp only [DV.ren,aS,num,↓gos,gop,qA,qB,qC,qD,qE,qF,qG,qH,qI]
  refine aL 0 (by omega) ?_
  refine aB (dJ (prs bE) (l.getD 0 0) (by decide)) (by rw [List.map_cons]; erw [gX (l:=prs bE) (i:=0) rfl rfl]; rfl) rfl ?_
  rw [show ((prs bE).any fun x=>fQ x (l.getD 0 0))=eG (l.getD 0 0) from rfl]
  cases h4:eG (l.getD 0 0)
  ·simp only [num,↓gos,gop,qA,qB,qC,qD,qE,qF,qG,qH,qI]
   exact aG rfl
  ·simp only [num,↓gos,gop,qA,qB,qC,qD,qE,qF,qG,qH,qI]
   refine iR dA rfl (cO _) ?_
   simp only [DV.ren,aS,num,↓gos,gop,qA,qB,qC,qD,qE,qF,qG,qH,qI]
   intro v hv
   rw [wrap_i64 (by omega) (by omega)] at hv
   refine ⟨by omega,?_⟩
   rw [show v.toNat=l.length - 1 by omega]
   refine aL (l:=l) (i:=l.length - 1) 0 (by omega) ?_
   refine aB (dJ (prs bE) (l.getD (l.length - 1) 0) (by decide)) (by rw [List.map_cons]; erw [gX (l:=prs bE) (i:=1) rfl rfl]; rfl) rfl ?_
   rw [show ((prs bE).any fun x=>fQ x (l.getD (l.length - 1) 0))=eG (l.getD (l.length - 1) 0) from rfl]
   cases h5:eG (l.getD (l.length - 1) 0)
   ·simp only [num,↓gos,gop,qA,qB,qC,qD,qE,qF,qG,qH,qI]
    exact aG rfl
   ·simp only [num,↓gos,gop,qA,qB,qC,qD,qE,qF,qG,qH,qI]
    exact aG rfl
end Go.Proofs.Ut
