/- prep.of and what it calls. -/
import Derived.Test.YtgamnnfndidclaaGreatDoorBYPrB
open Nat renaming reduceBEq → qA,reduceAdd → qB,reduceSub → qC,reduceLeDiff → qD,reduceMul → qE
open Int renaming reduceLE → qF,reduceLT → qG,reduceNe → qH,reduceToNat → qI
set_option linter.all false
namespace Go.Proofs.Ut
open Go.Ai Classical
set_option linter.unusedSimpArgs false
set_option maxHeartbeats 1000000
set_option maxRecDepth 100000
abbrev Ts (g:Nat)(p:Int→Bool):Prop:=∀ c,Ret g [.int .i64 c] (.bool (p c))
theorem not69 {a g:Nat}{p:Int→Bool}(hg:Ts g p)(c:Int):ACalls ED 254 [.box [.fn a [],.fn g []]] [.int .i64 c,.ptr 0 0] fun h d=>h=[.box [.fn a [],.fn g []]]∧d=.bool (!p c):=by
 refine acalls_go c254 (by simp [f254]) ?_
 simp only [f254,↓gos,gop,qA,qB,qC,qD,qE,qF,qG,qH,qI]
 refine call_ret (hg c) rfl rfl ?_
 cases h1:p c
 ·simp only [↓gos,gop,qA,qB,qC,qD,qE,qF,qG,qH,qI]
  exact end_box1 rfl rfl rfl ⟨rfl,rfl⟩
 ·simp only [↓gos,gop,qA,qB,qC,qD,qE,qF,qG,qH,qI]
  exact end_box1 rfl rfl rfl ⟨rfl,rfl⟩
theorem any_ge {l:List Int}{p:Int→Bool}{i:Nat}(h1:i<l.length)(h2:p (l.getD i 0)=true):l.any p=true:=by
 rw [List.any_eq_true]
 exact ⟨l.getD i 0,by simp [h1],h2⟩
theorem any_lt {l:List Int}{p:Int→Bool}{i:Nat}(h1:¬ i<l.length)(hp:∀ j,j<i→p (l.getD j 0)=false):l.any p=false:=by
 rw [List.any_eq_false]
 intro x hx
 obtain ⟨j,hj,rfl⟩:=List.getElem_of_mem hx
 have:=hp j (by omega)
 simp [hj] at this
 simp [this]
theorem index93b {a g:Nat}{p:Int→Bool}(hg:Ts g p)(l:List Int)(hl:l.length<1000000000000):ACalls ED 295 [.box [.fn a [],.fn g []]] [.sl 1 (l.map num),.fn 254 [.ptr 0 0]] fun h d=>h=[.box [.fn a [],.fn g []]]∧∃ n:Int,d=.int .i64 n∧(0≤n↔l.any (fun c => !p c)=true):=by
 refine acalls_go c295 (by simp [f295]) ?_
 simp only [f295,↓gos,gop,qA,qB,qC,qD,qE,qF,qG,qH,qI]
 refine goN_lp (γ:=Nat) (fun i=>[(0,.sl 1 (l.map num)),(1,.fn 254 [.ptr 0 0]),(7,.int .i64 l.length),(8,.int .i64 i)]) (fun _=>[.box [.fn a [],.fn g []]]) (fun i=>i≤l.length∧∀ j,j<i→(!p (l.getD j 0))=false) (fun i=>l.length - i) 0
  (wks rfl (by simp) ⟨rfl,rfl,rfl,rfl,trivial⟩) (by simp) fun i hi=>?_
 obtain ⟨hi,hp⟩:=hi
 simp only [f295l0,num,↓gos,gop,qA,qB,qC,qD,qE,qF,qG,qH,qI]
 refine ⟨fun h1=>optP_at 0 (by omega) (call_box1 (i:=0) rfl rfl (not69 hg (l.getD i 0)) rfl rfl fun h' d hq=>?_),fun h1=>end_box1 rfl rfl rfl ⟨rfl,_,rfl,?_⟩⟩
 ·obtain ⟨rfl,rfl⟩:=hq
  refine ⟨_,rfl,rfl,rfl,?_⟩
  cases h2:p (l.getD i 0)
  ·simp only [↓gos,gop,qA,qB,qC,qD,qE,qF,qG,qH,qI]
   refine end_box1 rfl rfl rfl ⟨rfl,_,rfl,?_⟩
   exact ⟨fun _=>any_ge (i:=i) (by omega) (by rw [h2]; rfl),fun _=>by omega⟩
  ·simp only [↓gos,gop,qA,qB,qC,qD,qE,qF,qG,qH,qI]
   intro v hv
   rw [wrap_i64 (by omega) (by omega)] at hv
   refine rnd_s (i+1) rfl (by simp) ⟨rfl,rfl,rfl,by show DV.int .i64 v=_; rw [hv]; rfl,trivial⟩ ⟨by omega,fun j hj=>?_⟩ (by omega)
   by_cases hji:j=i
   ·subst hji; exact h2
   ·simpa using hp j (by omega)
 ·refine ⟨fun h=>by omega,fun h=>?_⟩
  rw [any_lt (i:=i) (by omega) hp] at h
  cases h
theorem index93 {g:Nat}{p:Int→Bool}(hg:Ts g p)(l:List Int)(hl:l.length<1000000000000):ACalls ED 295 [] [.sl 1 (l.map num),.fn g []] fun h d=>h=[]∧∃ n:Int,d=.int .i64 n∧(0≤n↔l.any p=true):=by
 refine acalls_go c295 (by simp [f295]) ?_
 simp only [f295,↓gos,gop,qA,qB,qC,qD,qE,qF,qG,qH,qI]
 refine goN_lp (γ:=Nat) (fun i=>[(0,.sl 1 (l.map num)),(1,.fn g []),(7,.int .i64 l.length),(8,.int .i64 i)]) (fun _=>[]) (fun i=>i≤l.length∧∀ j,j<i→p (l.getD j 0)=false) (fun i=>l.length - i) 0
  (wks rfl (by simp) ⟨rfl,rfl,rfl,rfl,trivial⟩) (by simp) fun i hi=>?_
 obtain ⟨hi,hp⟩:=hi
 simp only [f295l0,num,↓gos,gop,qA,qB,qC,qD,qE,qF,qG,qH,qI]
 refine ⟨fun h1=>optP_at 0 (by omega) (call_ret (hg (l.getD i 0)) rfl rfl ?_),fun h1=>finE_closed rfl ⟨rfl,_,rfl,?_⟩⟩
 ·cases h2:p (l.getD i 0)
  ·simp only [↓gos,gop,qA,qB,qC,qD,qE,qF,qG,qH,qI]
   intro v hv
   rw [wrap_i64 (by omega) (by omega)] at hv
   refine rnd_s (i+1) rfl (by simp) ⟨rfl,rfl,rfl,by show DV.int .i64 v=_; rw [hv]; rfl,trivial⟩ ⟨by omega,fun j hj=>?_⟩ (by omega)
   by_cases hji:j=i
   ·subst hji; exact h2
   ·exact hp j (by omega)
  ·simp only [↓gos,gop,qA,qB,qC,qD,qE,qF,qG,qH,qI]
   exact finE_closed rfl ⟨rfl,_,rfl,fun _=>any_ge (i:=i) (by omega) h2,fun _=>by omega⟩
 ·refine ⟨fun h=>by omega,fun h=>?_⟩
  rw [any_lt (i:=i) (by omega) hp] at h
  cases h
theorem has68b {a g:Nat}{p:Int→Bool}(hg:Ts g p)(l:List Int)(hl:l.length<1000000000000):ACalls ED 253 [.box [.fn a [],.fn g []]] [.sl 1 (l.map num),.fn 254 [.ptr 0 0]] fun h d=>h=[.box [.fn a [],.fn g []]]∧d=.bool (l.any fun c => !p c):=by
 refine acalls_go c253 (by simp [f253]) ?_
 simp only [f253,↓gos,gop,qA,qB,qC,qD,qE,qF,qG,qH,qI]
 refine call_box1 (i:=0) rfl rfl (index93b hg l hl) rfl rfl fun h' d hq=>?_
 obtain ⟨rfl,n,rfl,hn⟩:=hq
 refine ⟨_,rfl,rfl,rfl,?_⟩
 simp only [↓gos,gop,qA,qB,qC,qD,qE,qF,qG,qH,qI]
 refine ⟨fun h=>end_box1 rfl rfl rfl ⟨rfl,?_⟩,fun h=>end_box1 rfl rfl rfl ⟨rfl,?_⟩⟩
 ·rw [hn.1 h]; rfl
 ·cases h2:l.any fun c => !p c
  ·rfl
  ·exact absurd (hn.2 h2) h
theorem has68 {g:Nat}{p:Int→Bool}(hg:Ts g p)(l:List Int)(hl:l.length<1000000000000):Ret 253 [.sl 1 (l.map num),.fn g []] (.bool (l.any p)):=by
 refine acalls_go c253 (by simp [f253]) ?_
 simp only [f253,↓gos,gop,qA,qB,qC,qD,qE,qF,qG,qH,qI]
 refine call_any (index93 hg l hl) rfl ?_ fun d hd=>?_
 ·cases hc:l.any p
  ·exact ⟨_,-1,rfl,by omega,fun h=>by cases h⟩
  ·exact ⟨_,0,rfl,fun _=>rfl,by omega⟩
 ·obtain ⟨n,rfl,hn⟩:=hd
  refine ⟨rfl,?_⟩
  simp only [↓gos,gop,qA,qB,qC,qD,qE,qF,qG,qH,qI]
  refine ⟨fun h=>endb ?_,fun h=>endb ?_⟩
  ·rw [hn.1 h]
  ·cases hc:l.any p
   ·rfl
   ·exact absurd (hn.2 hc) h
theorem mapped67 {g:Nat}{m:Int→List Int}(hg:∀ c,NR g [.int .i64 c] (m c))(hm:∀ c,(m c).length≤2)(l:List Int)(hl:l.length<10000000000):NR 252 [.sl 1 (l.map num),.fn g []] (l.flatMap m):=by
 refine acalls_go c252 (by simp [f252]) ?_
 simp only [f252,↓gos,gop,qA,qB,qC,qD,qE,qF,qG,qH,qI]
 refine goN_lp (γ:=Nat×List Int) (fun g' => [(0,.sl 1 (l.map num)),(1,.fn g []),(5,.osl 1 1 0 g'.2.length none),(8,.sl 1 (l.map num)),(9,.int .i64 l.length),(10,.int .i64 (g'.1:Nat))]) (fun g' => [.arr 1 [],.arr 1 (g'.2.map num)])
  (fun g' => g'.1≤l.length∧g'.2=(l.take g'.1).flatMap m∧g'.2.length≤2*g'.1) (fun g' => l.length - g'.1) (0,[]) (wks rfl (Nat.zero_le _) ⟨rfl,rfl,rfl,rfl,rfl,rfl,trivial⟩) ⟨by simp,by simp,by simp⟩ fun g' hg' => ?_
 obtain ⟨i,acc⟩:=g'
 obtain ⟨hi,hacc,hlen⟩:=hg'
 simp only at hi hacc hlen
 simp only [f252l0,num,↓gos,gop,qA,qB,qC,qD,qE,qF,qG,qH,qI]
 refine ⟨fun h1=>optP_at 0 (by omega) (call_lend (hg (l.getD i 0)) rfl (free_num _) ?_),fun h1=>?_⟩
 ·have hm2:=hm (l.getD i 0)
  simp only [DV.ren,renO,num,↓gos,gop,qA,qB,qC,qD,qE,qF,qG,qH,qI]
  refine ⟨by omega,by omega,fun v hv=>?_⟩
  rw [wrap_i64 (by omega) (by omega)] at hv
  refine rnd_d 2 (i+1,acc++m (l.getD i 0)) ?_ (Nat.zero_le _) ⟨rfl,rfl,rfl,rfl,?_,rfl,rfl,rfl,rfl,rfl,?_,rfl,trivial⟩ rfl ⟨by omega,?_,by simp only [List.length_append]; omega⟩ (by simp only; omega)
  ·simp [num]
  ·simp [slots]
  ·show DV.int .i64 v=_
   rw [hv]; rfl
  ·simp only
   rw [List.take_succ_eq_append_getElem (by omega),List.flatMap_append,hacc]
   simp [show i<l.length by omega]
 ·obtain rfl:i=l.length:=by omega
  rw [List.take_length] at hacc
  rw [← hacc]
  exact end_row rfl rfl rfl
def straightB (l:List Int):Bool:=if l.any leftB then leftB (l.getD 0 0)&&leftB (l.getD (l.length - 1) 0) && !l.any letB else true
theorem straight70 (l:List Int)(hl:l.length<1000000000000):Ret 255 [.sl 1 (l.map num)] (.bool (straightB l)):=by
 refine acalls_go c255 (by simp [f255]) ?_
 simp only [f255,num,↓gos,gop,qA,qB,qC,qD,qE,qF,qG,qH,qI]
 refine call_ret (has68 left94 l hl) rfl rfl ?_
 unfold straightB
 cases h1:l.any leftB
 ·simp only [↓gos,gop,qA,qB,qC,qD,qE,qF,qG,qH,qI]
  exact endb (by simp)
 ·have hne:0<l.length:=by
   rcases l with _|⟨x,l⟩
   ·simp at h1
   ·simp
  simp only [num,↓gos,gop,qA,qB,qC,qD,qE,qF,qG,qH,qI]
  refine optP_at 0 (by omega) (call_ret (left94 (l.getD 0 0)) rfl rfl ?_)
  cases h2:leftB (l.getD 0 0)
  ·simp only [↓gos,gop,qA,qB,qC,qD,qE,qF,qG,qH,qI]
   exact endb (by simp)
  ·simp only [num,↓gos,gop,qA,qB,qC,qD,qE,qF,qG,qH,qI]
   intro v hv
   rw [wrap_i64 (by omega) (by omega)] at hv
   refine ⟨by omega,?_⟩
   rw [show v.toNat=l.length - 1 by omega]
   refine optP_at (l:=l) (i:=l.length - 1) 0 (by omega) ?_
   refine call_ret (left94 (l.getD (l.length - 1) 0)) rfl rfl ?_
   cases h3:leftB (l.getD (l.length - 1) 0)
   ·simp only [↓gos,gop,qA,qB,qC,qD,qE,qF,qG,qH,qI]
    exact endb (by simp)
   ·simp only [↓gos,gop,qA,qB,qC,qD,qE,qF,qG,qH,qI]
    refine call_ret (has68 letter95 l hl) rfl rfl ?_
    cases h4:l.any letB
    ·simp only [↓gos,gop,qA,qB,qC,qD,qE,qF,qG,qH,qI]
     exact endb (by simp)
    ·simp only [↓gos,gop,qA,qB,qC,qD,qE,qF,qG,qH,qI]
     exact endb (by simp)
def prepR (m:Int→List Int)(p:Int→Bool)(s:List UInt8):List UInt8×Int:=
 if runAt mayB s 0 then
  (if ((rs s).flatMap m).any (fun c => !p c) then ([],15) else if straightB ((rs s).flatMap m) then (((rs s).flatMap m).flatMap en,0) else ([],16))
 else ([],3)
abbrev SE (f:Nat)(args:List DV)(r:List UInt8×Int):Prop:=Ret f args (.tup [.str r.1,.int .i64 r.2])
theorem dn_oslL {sz i n:Nat}{es:List (List DV)}{h:List AObj}{c:Option Nat}{ls:List Nat}(hi:h[i]?=some (.arr sz es))(hn:n=es.length)(hl:ls.idxOf? i=none):DV.dn ls h (.osl sz i 0 n c)=.sl sz es:=by
 subst hn
 simp [DV.dn,DV.low,hi,hl]
theorem rl_ok (s:List UInt8):∀ n i,s.length - i≤n→∀ x∈rlAt s i,∃ c:Nat,x=c∧okC c:=fun n=>by
 induction n with
 | zero=>intro i h x hx; rw [rlAt_end _ _ (by omega)] at hx; cases hx
 | succ n ih=>
  intro i h x hx
  by_cases hi:i<s.length
  ·have:=D_len s i hi
   rw [rlAt_step s i hi] at hx
   rcases List.mem_cons.1 hx with rfl|hx
   ·exact ⟨_,rfl,this.2.2⟩
   ·exact ih _ (by omega) x hx
  ·rw [rlAt_end _ _ hi] at hx; cases hx
theorem rs_ok (s:List UInt8):∀ x∈rs s,∃ c:Nat,x=c∧okC c:=fun x hx=>by
 unfold rs at hx
 split at hx
 ·exact rl_ok s _ 0 (Nat.le_refl _) x hx
 ·cases hx
theorem en_len4 (c:Int):(en c).length≤4:=by
 unfold en Utf8.encode
 simp only
 repeat' split
 all_goals simp
def Chr (m:Int→List Int):Prop:=∀ c:Nat,okC c→∀ x∈m c,∃ n:Nat,x=n∧okC n
theorem endSI {k:IntKind}{a a' : List UInt8}{b b' : Int}{h:List AObj}(e1:a=a')(e2:b=b'):finE 0 (fun h d=>h=[]∧d=.tup [.str a',.int k b']) (some [.str a,.int k b]) h:=finE_closed rfl ⟨rfl,by rw [e1,e2]; rfl⟩
theorem of43 {g g2:Nat}{m:Int→List Int}{p:Int→Bool}(hg:∀ c,NR g [.int .i64 c] (m c))(hm:∀ c,(m c).length≤2)(hp:Ts g2 p)(hch:Chr m)(s:List UInt8)(hs:s.length<100000000):SE 201 [.str s,.agg [.fn g [],.fn g2 []]] (prepR m p s):=by
 refine acalls_go c201 (by simp [f201]) ?_
 obtain ⟨r,hr⟩:∃ r,r=prepR m p s:=⟨_,rfl⟩
 rw [← hr]
 unfold prepR at hr
 simp only [f201,↓gos,gop,qA,qB,qC,qD,qE,qF,qG,qH,qI]
 refine call_ret (valid_c s (by omega)) rfl rfl ?_
 cases h1:runAt mayB s 0
 ·rw [h1,if_neg (by simp)] at hr
  subst hr
  simp only [↓gos,gop,qA,qB,qC,qD,qE,qF,qG,qH,qI]
  exact endSI rfl rfl
 ·rw [h1,if_pos rfl] at hr
  simp only [num,↓gos,gop,qA,qB,qC,qD,qE,qF,qG,qH,qI]
  refine call_mix (runes19 rfl vED s (by omega)) rfl (free_num _) ?_
  simp only [DV.ren,renO,num,↓gos,gop,qA,qB,qC,qD,qE,qF,qG,qH,qI]
  have hrl:=rs_len s
  have hl2:((rs s).flatMap m).length≤2*(rs s).length:=by
   generalize rs s=l
   induction l with
   | nil=>simp
   | cons x l ih=>
    have:=hm x
    rw [List.flatMap_cons,List.length_append,List.length_cons]; omega
  refine call_mix (mapped67 hg hm (rs s) (by omega)) (by rw [List.map_cons,dn_row (i:=1) rfl rfl]; rfl) (free_num _) ?_
  generalize hL:(rs s).flatMap m=L at hr hl2
  simp only [DV.ren,renO,num,↓gos,gop,qA,qB,qC,qD,qE,qF,qG,qH,qI]
  refine call_box1f (i:=0) rfl rfl (has68b hp L (by omega)) (by rw [List.map_cons]; erw [dn_oslL (es:=L.map num) (i:=2) rfl (by simp) rfl]; rfl) (fun h' d hq=>?_) fun h' d hq=>?_
  ·obtain ⟨rfl,rfl⟩:=hq
   rfl
  obtain ⟨rfl,rfl⟩:=hq
  refine ⟨_,rfl,rfl,rfl,?_⟩
  cases h2:L.any fun c => !p c
  ·rw [h2,if_neg (by simp)] at hr
   simp only [↓gos,gop,qA,qB,qC,qD,qE,qF,qG,qH,qI]
   refine call_ret (straight70 L (by omega)) (by rw [List.map_cons]; erw [dn_osl (es:=L.map num) (i:=2) rfl (by simp)]; rfl) rfl ?_
   cases h3:straightB L
   ·rw [h3,if_neg (by simp)] at hr
    subst hr
    simp only [↓gos,gop,qA,qB,qC,qD,qE,qF,qG,qH,qI]
    exact endSI rfl rfl
   ·rw [h3,if_pos rfl] at hr
    subst hr
    simp only [↓gos,gop,qA,qB,qC,qD,qE,qF,qG,qH,qI]
    have hLo:∀ x∈L,∃ c:Nat,x=c∧okC c:=fun x hx=>by
     rw [← hL] at hx
     obtain ⟨y,hy,hx⟩:=List.mem_flatMap.1 hx
     obtain ⟨c,rfl,hc⟩:=rs_ok s y hy
     exact hch c hc x hx
    refine goN_lp (γ:=Nat) (fun i=>[(7,.str ((L.take i).flatMap en)),(26,.osl 1 2 0 L.length none),(27,.int .i64 L.length),(28,.int .i64 i)]) (fun _=>[.box [.fn g [],.fn g2 []],.arr 1 ((rs s).map num),.arr 1 (L.map num)])
     (fun i=>i≤L.length∧((L.take i).flatMap en).length≤4*i) (fun i=>L.length - i) 0 (wks rfl (by simp) ⟨rfl,rfl,rfl,rfl,trivial⟩) ⟨by simp,by simp⟩ fun i hi=>?_
    obtain ⟨hi,hil⟩:=hi
    simp only [f201l0,num,↓gos,gop,qA,qB,qC,qD,qE,qF,qG,qH,qI]
    refine ⟨fun k1=>⟨by omega,optP_at 0 (by omega) fun v hv=>?_⟩,fun k1=>endSI ?_ rfl⟩
    ·obtain ⟨c,hc,hco⟩:=hLo (L.getD i 0) (by rw [List.getD_eq_getElem?_getD,List.getElem?_eq_getElem (by omega)]; exact List.getElem_mem _)
     have he4:=en_len4 v
     have hee:(Utf8.encode v).data.toList=en v:=rfl
     unfold okC at hco
     rw [wrap_i32 (by omega) (by omega)] at hv
     rw [hee]
     refine ⟨by omega,fun u hu=>?_⟩
     rw [wrap_i64 (by omega) (by omega)] at hu
     have ht:(L.take (i+1)).flatMap en=(L.take i).flatMap en++en v:=by
      rw [List.take_succ_eq_append_getElem (by omega),List.flatMap_append,hv]
      simp [show i<L.length by omega]
     refine rnd_s (i+1) rfl (by simp) ⟨?_,rfl,rfl,by show DV.int .i64 u=_; rw [hu]; rfl,trivial⟩ ⟨by omega,by rw [ht,List.length_append]; omega⟩ (by omega)
     show DV.str _=DV.str _
     rw [ht]
    ·rw [List.take_of_length_le (by omega)]
  ·rw [h2,if_pos rfl] at hr
   subst hr
   simp only [↓gos,gop,qA,qB,qC,qD,qE,qF,qG,qH,qI]
   exact endSI rfl rfl
theorem kept_len (c:Int):(keptL c).length≤2:=by unfold keptL; split <;> simp
theorem small_len (c:Int):(smallL c).length≤2:=by
 unfold smallL
 split
 ·simp
 split
 ·simp
 ·exact kept_len c
theorem kept_chr:Chr keptL:=fun c hc x hx=>by
 unfold keptL at hx
 split at hx
 ·cases hx
 ·simp at hx; exact ⟨c,hx,hc⟩
theorem small_chr:Chr smallL:=fun c hc x hx=>by
 unfold smallL at hx
 split at hx
 ·rename_i h
  rw [capB_iff] at h
  simp at hx
  exact ⟨c+32,by omega,by unfold okC; omega⟩
 split at hx
 ·simp at hx
  exact ⟨115,hx,by unfold okC; omega⟩
 ·exact kept_chr c hc x hx
def nodeR (s:List UInt8):=prepR smallL nodeB s
def hostR (s:List UInt8):=prepR smallL hostB s
def resR (s:List UInt8):=prepR keptL (fun c => !banB c) s
theorem node26 (s:List UInt8)(hs:s.length<100000000):SE 161 [.str s] (nodeR s):=by
 refine acalls_go c161 (by simp [f161]) ?_
 simp only [f161,↓gos,gop,qA,qB,qC,qD,qE,qF,qG,qH,qI]
 refine call_ret (of43 small44 small_len node45 small_chr s hs) rfl rfl ?_
 simp only [↓gos,gop,qA,qB,qC,qD,qE,qF,qG,qH,qI]
 exact endSI rfl rfl
theorem host28 (s:List UInt8)(hs:s.length<100000000):SE 198 [.str s] (hostR s):=by
 refine acalls_go c198 (by simp [f198]) ?_
 simp only [f198,↓gos,gop,qA,qB,qC,qD,qE,qF,qG,qH,qI]
 refine call_ret (of43 small44 small_len host49 small_chr s hs) rfl rfl ?_
 simp only [↓gos,gop,qA,qB,qC,qD,qE,qF,qG,qH,qI]
 exact endSI rfl rfl
theorem res30 (s:List UInt8)(hs:s.length<100000000):SE 162 [.str s] (resR s):=by
 refine acalls_go c162 (by simp [f162]) ?_
 simp only [f162,↓gos,gop,qA,qB,qC,qD,qE,qF,qG,qH,qI]
 refine call_ret (of43 kept53 kept_len res54 kept_chr s hs) rfl rfl ?_
 simp only [↓gos,gop,qA,qB,qC,qD,qE,qF,qG,qH,qI]
 exact endSI rfl rfl
theorem in99 (l:List Int)(c:Int)(hl:l.length<1000000000000):Ret 318 [.sl 1 (l.map num),.int .i64 c] (.bool (l.contains c)):=by
 refine acalls_go c318 (by simp [f318]) ?_
 simp only [f318,↓gos,gop,qA,qB,qC,qD,qE,qF,qG,qH,qI]
 refine goN_lp (γ:=Nat) (fun i=>[(0,.sl 1 (l.map num)),(1,.int .i64 c),(5,.int .i64 i)]) (fun _=>[]) (fun i=>i≤l.length∧∀ j,j<i→l.getD j 0≠c) (fun i=>l.length - i) 0
  (wks rfl (Nat.zero_le _) ⟨rfl,rfl,rfl,trivial⟩) (by simp) fun i hi=>?_
 obtain ⟨hi,hp⟩:=hi
 simp only [f318l0,num,↓gos,gop,qA,qB,qC,qD,qE,qF,qG,qH,qI]
 refine ⟨fun h1=>optP_at 0 (by omega) ⟨fun h2=>endb ?_,fun h2 v hv=>?_⟩,fun h1=>endb ?_⟩
 ·symm
  rw [List.contains_iff_mem,← h2]
  simp [show i<l.length by omega]
 ·rw [wrap_i64 (by omega) (by omega)] at hv
  refine rnd_s (i+1) rfl (Nat.zero_le _) ⟨rfl,rfl,by show DV.int .i64 v=_; rw [hv]; rfl,trivial⟩ ⟨by omega,fun j hj=>?_⟩ (by omega)
  by_cases hji:j=i
  ·subst hji; exact h2
  ·exact hp j (by omega)
 ·symm
  rw [← Bool.not_eq_true,List.contains_iff_mem]
  intro h
  obtain ⟨j,hj,rfl⟩:=List.getElem_of_mem h
  have:=hp j (by omega)
  simp [hj] at this
theorem utf102 (c:Int):Ret 321 [.int .i64 c] (.str (en (IntKind.i32.wrap c))):=by
 refine acalls_go c321 (by simp [f321]) ?_
 simp only [f321,↓gos,gop,qA,qB,qC,qD,qE,qF,qG,qH,qI]
 intro v hv
 refine .inr ⟨_,rfl,by simp,[v],rfl,?_⟩
 refine ends ?_
 subst hv
 simp [en]
theorem texts76 (l:List Int)(hl:l.length<1000000000)(hc:∀ x∈l,∃ c:Nat,x=c∧okC c):Ret 283 [.sl 1 (l.map num)] (.str (l.flatMap en)):=by
 refine acalls_go c283 (by simp [f283]) ?_
 simp only [f283,↓gos,gop,qA,qB,qC,qD,qE,qF,qG,qH,qI]
 refine goN_lp (γ:=Nat) (fun i=>[(0,.sl 1 (l.map num)),(3,.str ((l.take i).flatMap en)),(4,.int .i64 i)]) (fun _=>[]) (fun i=>i≤l.length∧((l.take i).flatMap en).length≤4*i) (fun i=>l.length - i) 0
  (wks rfl (Nat.zero_le _) ⟨rfl,rfl,rfl,trivial⟩) (by simp) fun i hi=>?_
 obtain ⟨hi,hil⟩:=hi
 simp only [f283l0,num,↓gos,gop,qA,qB,qC,qD,qE,qF,qG,qH,qI]
 refine ⟨fun h1=>optP_at 0 (by omega) (call_ret (utf102 (l.getD i 0)) rfl rfl ?_),fun h1=>ends ?_⟩
 ·obtain ⟨c,hc,hco⟩:=hc (l.getD i 0) (by rw [List.getD_eq_getElem?_getD,List.getElem?_eq_getElem (by omega)]; exact List.getElem_mem _)
  unfold okC at hco
  rw [wrap_i32 (by omega) (by omega)]
  have he4:=en_len4 (l.getD i 0)
  simp only [↓gos,gop,qA,qB,qC,qD,qE,qF,qG,qH,qI]
  refine ⟨by omega,fun v hv=>?_⟩
  rw [wrap_i64 (by omega) (by omega)] at hv
  have ht:(l.take (i+1)).flatMap en=(l.take i).flatMap en++en (l.getD i 0):=by
   rw [List.take_succ_eq_append_getElem (by omega),List.flatMap_append]
   simp [show i<l.length by omega]
  refine rnd_s (i+1) rfl (Nat.zero_le _) ⟨rfl,?_,by show DV.int .i64 v=_; rw [hv]; rfl,trivial⟩ ⟨by omega,by rw [ht,List.length_append]; omega⟩ (by omega)
  show DV.str _=DV.str _
  rw [ht]
 ·rw [List.take_of_length_le (by omega)]
theorem gone_cap {c:Int}(h:capB c=true∨c=223):inR goneL c=false:=by
 rw [capB_iff] at h
 simp only [inR,goneL,prs,hasB,List.any_cons,List.any_nil,Bool.or_false,Bool.or_eq_false_iff,Bool.and_eq_false_iff,decide_eq_false_iff_not]
 omega
def refL (all:Bool)(c:Int):List Int:=if all then smallL c else keptL c
theorem mapped73 (l:List Int)(all:Bool)(hl:l.length<1000000000):NR 280 [.sl 1 (l.map num),.bool all] (l.flatMap (refL all)):=by
  refine acalls_go c280 (by simp [f280]) ?_
  simp only [f280,↓gos,gop,qA,qB,qC,qD,qE,qF,qG,qH,qI]
  refine goN_lp (γ:=Nat×List Int) (fun g' => [(0,.sl 1 (l.map num)),(1,.bool all),(5,.osl 1 1 0 g'.2.length none),(6,.int .i64 (g'.1:Nat))]) (fun g' => [.arr 1 [],.arr 1 (g'.2.map num)])
    (fun g' => g'.1≤l.length∧g'.2=(l.take g'.1).flatMap (refL all)∧g'.2.length≤2*g'.1) (fun g' => l.length - g'.1) (0,[]) (wks rfl (Nat.zero_le _) ⟨rfl,rfl,rfl,rfl,trivial⟩) ⟨by simp,by simp,by simp⟩ fun g' hg' => ?_
  obtain ⟨i,acc⟩:=g'
  obtain ⟨hi,hacc,hlen⟩:=hg'
  simp only at hi hacc hlen
  simp only [f280l0,num,↓gos,gop,qA,qB,qC,qD,qE,qF,qG,qH,qI]
  have ht:i<l.length→acc++refL all (l.getD i 0)=(l.take (i+1)).flatMap (refL all):=fun h=>by
    rw [List.take_succ_eq_append_getElem h,List.flatMap_append,hacc]
    simp [h]
  have hrl:(refL all (l.getD i 0)).length≤2:=by
    unfold refL; split
    · exact small_len _
    · exact kept_len _
  refine ⟨fun h1=>optP_at 0 (by omega) (call_lend gone97_calls rfl (free_rg _) ?_),fun h1=>?_⟩
  · have ht:=ht (by omega)
    simp only [DV.ren,renO,num,↓gos,gop,qA,qB,qC,qD,qE,qF,qG,qH,qI]
    refine call_ret (in2_calls (prs goneL) (l.getD i 0) (by decide)) (by rw [List.map_cons]; erw [dn_rg (l:=prs goneL) (i:=2) rfl rfl]; rfl) rfl ?_
    rw [show ((prs goneL).any fun x=>hasB x (l.getD i 0))=inR goneL (l.getD i 0) from rfl]
    have hcg:=@gone_cap (l.getD i 0)
    generalize hx:l.getD i 0=c at ht hrl hcg ⊢
    cases hg:inR goneL c
    · simp only [num,↓gos,gop,qA,qB,qC,qD,qE,qF,qG,qH,qI]
      cases all
      · have er:refL false c=[c]:=by simp [refL,keptL,hg]
        rw [er] at ht hrl
        simp only [num,↓gos,gop,qA,qB,qC,qD,qE,qF,qG,qH,qI]
        refine ⟨by omega,by omega,fun v hv=>?_⟩
        rw [wrap_i64 (by omega) (by omega)] at hv
        refine rnd_d 2 (i+1,acc++[c]) (by simp [num]) (Nat.zero_le _) ⟨rfl,rfl,rfl,rfl,by simp [slots],rfl,by show DV.int .i64 v=_; rw [hv]; rfl,rfl,trivial⟩ rfl ⟨by omega,ht,by simp only [List.length_append,List.length_cons,List.length_nil]; omega⟩ (by simp only; omega)
      · simp only [num,↓gos,gop,qA,qB,qC,qD,qE,qF,qG,qH,qI]
        repeat' (first | refine And.intro ?_ ?_ | intro _)
        all_goals first
          | omega
          | (have hw:=‹_=IntKind.i64.wrap ((i:Int)+1)›
             have er:refL true c=[c+32]:=by
               simp only [refL,if_true,smallL]
               rw [if_pos ((capB_iff c).2 (by omega))]
             rw [er] at ht hrl
             rw [wrap_i64 (by omega) (by omega)] at hw
             have hv:=‹_=IntKind.i64.wrap (c+32)›
             rw [wrap_i64 (by omega) (by omega)] at hv
             subst hv
             refine rnd_d 2 (i+1,acc++[c+32]) (by simp [num]) (Nat.zero_le _) ⟨rfl,rfl,rfl,rfl,by simp [slots],rfl,by show DV.int .i64 _=_; rw [hw]; rfl,rfl,trivial⟩ rfl ⟨by omega,ht,by simp only [List.length_append,List.length_cons,List.length_nil]; omega⟩ (by simp only; omega))
          | (have hw:=‹_=IntKind.i64.wrap ((i:Int)+1)›
             have er:refL true c=[115,115]:=by
               simp only [refL,if_true,smallL]
               rw [if_neg (fun q=>by have:=(capB_iff c).1 q; omega),if_pos (by omega)]
             rw [er] at ht hrl
             rw [wrap_i64 (by omega) (by omega)] at hw
             refine rnd_d 2 (i+1,acc++[115,115]) (by simp [num]) (Nat.zero_le _) ⟨rfl,rfl,rfl,rfl,by simp [slots],rfl,by show DV.int .i64 _=_; rw [hw]; rfl,rfl,trivial⟩ rfl ⟨by omega,ht,by simp only [List.length_append,List.length_cons,List.length_nil]; omega⟩ (by simp only; omega))
          | (have hw:=‹_=IntKind.i64.wrap ((i:Int)+1)›
             have er:refL true c=[c]:=by
               simp only [refL,if_true,smallL]
               rw [if_neg (fun q=>by have:=(capB_iff c).1 q; omega),if_neg (by omega)]
               simp [keptL,hg]
             rw [er] at ht hrl
             rw [wrap_i64 (by omega) (by omega)] at hw
             refine rnd_d 2 (i+1,acc++[c]) (by simp [num]) (Nat.zero_le _) ⟨rfl,rfl,rfl,rfl,by simp [slots],rfl,by show DV.int .i64 _=_; rw [hw]; rfl,rfl,trivial⟩ rfl ⟨by omega,ht,by simp only [List.length_append,List.length_cons,List.length_nil]; omega⟩ (by simp only; omega))
    · have er:refL all c=[]:=by
        unfold refL
        split
        · unfold smallL
          rw [hg] at hcg
          rw [if_neg (fun q=>by have:=hcg (.inl q); cases this),if_neg (fun q=>by have:=hcg (.inr q); cases this)]
          simp [keptL,hg]
        · simp [keptL,hg]
      rw [er] at ht hrl
      simp only [num,↓gos,gop,qA,qB,qC,qD,qE,qF,qG,qH,qI]
      intro v hv
      rw [wrap_i64 (by omega) (by omega)] at hv
      refine rnd_d 2 (i+1,acc) (by simp [num]) (Nat.zero_le _) ⟨rfl,rfl,rfl,rfl,by simp [slots],rfl,by show DV.int .i64 v=_; rw [hv]; rfl,rfl,trivial⟩ rfl ⟨by omega,by simpa using ht,by simp only; omega⟩ (by simp only; omega)
  · obtain rfl:i=l.length:=by omega
    rw [List.take_length] at hacc
    rw [← hacc]
    exact end_row rfl rfl rfl
theorem allowed74 (k c:Int):Ret 281 [.int .i64 k,.int .i64 c] (.bool (if k=1 then nodeB c else if k=2 then hostB c else !banB c)):=by
  refine acalls_go c281 (by simp [f281]) ?_
  simp only [f281,↓gos,gop,qA,qB,qC,qD,qE,qF,qG,qH,qI]
  refine ⟨fun h1=>?_,fun h1=>⟨fun h2=>?_,fun h2=>?_⟩⟩
  · rw [if_pos h1]
    refine call_lend banned98_calls rfl (free_rg _) ?_
    simp only [DV.ren,renO,↓gos,gop,qA,qB,qC,qD,qE,qF,qG,qH,qI]
    refine call_ret (in2_calls (prs bannedL) c (by decide)) (by rw [List.map_cons,dn_rg (i:=0) rfl rfl]; rfl) rfl ?_
    rw [show ((prs bannedL).any fun x=>hasB x c)=banB c from rfl]
    unfold nodeB
    cases h:banB c
    · simp only [↓gos,gop,qA,qB,qC,qD,qE,qF,qG,qH,qI]
      refine call_ret (in99 signs c (by decide)) rfl rfl ?_
      cases h2:signs.contains c
      · simp only [↓gos,gop,qA,qB,qC,qD,qE,qF,qG,qH,qI]
        exact endb rfl
      · simp only [↓gos,gop,qA,qB,qC,qD,qE,qF,qG,qH,qI]
        exact endb rfl
    · simp only [↓gos,gop,qA,qB,qC,qD,qE,qF,qG,qH,qI]
      exact endb rfl
  · rw [if_neg h1,if_pos h2]
    unfold hostB
    repeat' (first | refine And.intro ?_ ?_ | intro _)
    all_goals first
      | (refine endb ?_; simp [*]; done)
      | (refine call_lend letters100_calls rfl (free_rg _) ?_
         simp only [DV.ren,renO,↓gos,gop,qA,qB,qC,qD,qE,qF,qG,qH,qI]
         refine call_ret (in2_calls (prs lettersL) c (by decide)) (by rw [List.map_cons,dn_rg (i:=0) rfl rfl]; rfl) rfl ?_
         rw [show ((prs lettersL).any fun x=>hasB x c)=letB c from rfl]
         cases h1:letB c
         · simp only [↓gos,gop,qA,qB,qC,qD,qE,qF,qG,qH,qI]
           refine call_lend rightLeft101_calls rfl (free_rg _) ?_
           simp only [DV.ren,renO,↓gos,gop,qA,qB,qC,qD,qE,qF,qG,qH,qI]
           refine call_ret (in2_calls (prs rightLeftL) c (by decide)) (by rw [List.map_cons,dn_rg (i:=1) rfl rfl]; rfl) rfl ?_
           rw [show ((prs rightLeftL).any fun x=>hasB x c)=leftB c from rfl]
           cases h2:leftB c
           · simp only [↓gos,gop,qA,qB,qC,qD,qE,qF,qG,qH,qI]
             refine endb ?_
             simp [*]
           · simp only [↓gos,gop,qA,qB,qC,qD,qE,qF,qG,qH,qI]
             refine endb ?_
             simp [*]
         · simp only [↓gos,gop,qA,qB,qC,qD,qE,qF,qG,qH,qI]
           refine endb ?_
           simp [*])
  · rw [if_neg h1,if_neg h2]
    refine call_lend banned98_calls rfl (free_rg _) ?_
    simp only [DV.ren,renO,↓gos,gop,qA,qB,qC,qD,qE,qF,qG,qH,qI]
    refine call_ret (in2_calls (prs bannedL) c (by decide)) (by rw [List.map_cons,dn_rg (i:=0) rfl rfl]; rfl) rfl ?_
    rw [show ((prs bannedL).any fun x=>hasB x c)=banB c from rfl]
    cases h:banB c
    · simp only [↓gos,gop,qA,qB,qC,qD,qE,qF,qG,qH,qI]
      exact endb rfl
    · simp only [↓gos,gop,qA,qB,qC,qD,qE,qF,qG,qH,qI]
      exact endb rfl
theorem way75 (l:List Int)(hl:l.length<1000000000):Ret 282 [.sl 1 (l.map num)] (.bool (straightB l)):=by
 refine acalls_go c282 (by simp [f282]) ?_
 simp only [f282,↓gos,gop,qA,qB,qC,qD,qE,qF,qG,qH,qI]
 refine goN_lp (γ:=Nat) (fun i=>[(0,.sl 1 (l.map num)),(3,.bool ((l.take i).any leftB)),(4,.bool ((l.take i).any letB)),(5,.int .i64 i)]) (fun _=>[]) (fun i=>i≤l.length) (fun i=>l.length - i) 0
  (wks rfl (Nat.zero_le _) ⟨rfl,rfl,rfl,rfl,trivial⟩) (Nat.zero_le _) fun i hi=>?_
 simp only [f282l0,num,↓gos,gop,qA,qB,qC,qD,qE,qF,qG,qH,qI]
 refine ⟨fun h1=>?_,fun h1=>?_⟩
 ·have ts:∀ p:Int→Bool,(l.take (i+1)).any p=((l.take i).any p||p (l.getD i 0)):=fun p=>by
   rw [List.take_succ_eq_append_getElem (by omega),List.any_append]
   simp [show i<l.length by omega]
  have t1:=ts leftB
  have t2:=ts letB
  generalize (l.take i).any leftB=r at t1 ⊢
  generalize (l.take i).any letB=q at t2 ⊢
  have fin:∀ v:Int,v=IntKind.i64.wrap ((i:Int)+1)→v=((i+1:Nat):Int):=fun v hv=>by
   rw [wrap_i64 (by omega) (by omega)] at hv
   rw [hv]; rfl
  cases r
  ·simp only [num,↓gos,gop,qA,qB,qC,qD,qE,qF,qG,qH,qI]
   refine call_mix rightLeft101_calls rfl (free_rg _) ?_
   simp only [DV.ren,renO,num,↓gos,gop,qA,qB,qC,qD,qE,qF,qG,qH,qI]
   refine optP_at 0 (by omega) ?_
   refine call_ret (in2_calls (prs rightLeftL) (l.getD i 0) (by decide)) (by rw [List.map_cons]; erw [dn_rg (l:=prs rightLeftL) (i:=0) rfl rfl]; rfl) rfl ?_
   rw [show ((prs rightLeftL).any fun x=>hasB x (l.getD i 0))=leftB (l.getD i 0) from rfl]
   simp only [num,↓gos,gop,qA,qB,qC,qD,qE,qF,qG,qH,qI]
   cases q
   ·simp only [num,↓gos,gop,qA,qB,qC,qD,qE,qF,qG,qH,qI]
    refine call_mix letters100_calls rfl (free_rg _) ?_
    simp only [DV.ren,renO,num,↓gos,gop,qA,qB,qC,qD,qE,qF,qG,qH,qI]
    refine optP_at 0 (by omega) ?_
    refine call_ret (in2_calls (prs lettersL) (l.getD i 0) (by decide)) (by rw [List.map_cons]; erw [dn_rg (l:=prs lettersL) (i:=1) rfl rfl]; rfl) rfl ?_
    rw [show ((prs lettersL).any fun x=>hasB x (l.getD i 0))=letB (l.getD i 0) from rfl]
    simp only [num,↓gos,gop,qA,qB,qC,qD,qE,qF,qG,qH,qI]
    intro v hv
    exact rnd_d 0 (i+1) rfl (Nat.zero_le _) ⟨rfl,rfl,by show DV.bool _=DV.bool _; rw [t1]; simp,rfl,by show DV.bool _=DV.bool _; rw [t2]; simp,rfl,by show DV.int .i64 v=_; rw [fin v hv],rfl,trivial⟩ rfl (by omega) (by omega)
   ·simp only [num,↓gos,gop,qA,qB,qC,qD,qE,qF,qG,qH,qI]
    intro v hv
    exact rnd_d 0 (i+1) rfl (Nat.zero_le _) ⟨rfl,rfl,by show DV.bool _=DV.bool _; rw [t1]; simp,rfl,by show DV.bool _=DV.bool _; rw [t2]; simp,rfl,by show DV.int .i64 v=_; rw [fin v hv],rfl,trivial⟩ rfl (by omega) (by omega)
  ·simp only [num,↓gos,gop,qA,qB,qC,qD,qE,qF,qG,qH,qI]
   cases q
   ·simp only [num,↓gos,gop,qA,qB,qC,qD,qE,qF,qG,qH,qI]
    refine call_mix letters100_calls rfl (free_rg _) ?_
    simp only [DV.ren,renO,num,↓gos,gop,qA,qB,qC,qD,qE,qF,qG,qH,qI]
    refine optP_at 0 (by omega) ?_
    refine call_ret (in2_calls (prs lettersL) (l.getD i 0) (by decide)) (by rw [List.map_cons]; erw [dn_rg (l:=prs lettersL) (i:=0) rfl rfl]; rfl) rfl ?_
    rw [show ((prs lettersL).any fun x=>hasB x (l.getD i 0))=letB (l.getD i 0) from rfl]
    simp only [num,↓gos,gop,qA,qB,qC,qD,qE,qF,qG,qH,qI]
    intro v hv
    exact rnd_d 0 (i+1) rfl (Nat.zero_le _) ⟨rfl,rfl,by show DV.bool _=DV.bool _; rw [t1]; simp,rfl,by show DV.bool _=DV.bool _; rw [t2]; simp,rfl,by show DV.int .i64 v=_; rw [fin v hv],rfl,trivial⟩ rfl (by omega) (by omega)
   ·simp only [num,↓gos,gop,qA,qB,qC,qD,qE,qF,qG,qH,qI]
    intro v hv
    exact rnd_d 0 (i+1) rfl (Nat.zero_le _) ⟨rfl,rfl,by show DV.bool _=DV.bool _; rw [t1]; simp,rfl,by show DV.bool _=DV.bool _; rw [t2]; simp,rfl,by show DV.int .i64 v=_; rw [fin v hv],rfl,trivial⟩ rfl (by omega) (by omega)
 ·obtain rfl:i=l.length:=by omega
  rw [List.take_length]
  unfold straightB
  refine ⟨fun h2=>endb (by rw [h2]; rfl),fun h2=>?_⟩
  have hne:0<l.length:=by
   rcases l with _|⟨x,l⟩
   ·simp at h2
   ·simp
  rw [h2,if_pos rfl]
  refine ⟨fun h3=>?_,fun h3=>endb (by rw [h3]; simp)⟩
  rw [h3]
  refine call_mix rightLeft101_calls rfl (free_rg _) ?_
  simp only [DV.ren,renO,num,↓gos,gop,qA,qB,qC,qD,qE,qF,qG,qH,qI]
  refine optP_at 0 (by omega) ?_
  refine call_ret (in2_calls (prs rightLeftL) (l.getD 0 0) (by decide)) (by rw [List.map_cons]; erw [dn_rg (l:=prs rightLeftL) (i:=0) rfl rfl]; rfl) rfl ?_
  rw [show ((prs rightLeftL).any fun x=>hasB x (l.getD 0 0))=leftB (l.getD 0 0) from rfl]
  cases h4:leftB (l.getD 0 0)
  ·simp only [num,↓gos,gop,qA,qB,qC,qD,qE,qF,qG,qH,qI]
   exact endb rfl
  ·simp only [num,↓gos,gop,qA,qB,qC,qD,qE,qF,qG,qH,qI]
   refine call_mix rightLeft101_calls rfl (free_rg _) ?_
   simp only [DV.ren,renO,num,↓gos,gop,qA,qB,qC,qD,qE,qF,qG,qH,qI]
   intro v hv
   rw [wrap_i64 (by omega) (by omega)] at hv
   refine ⟨by omega,?_⟩
   rw [show v.toNat=l.length - 1 by omega]
   refine optP_at (l:=l) (i:=l.length - 1) 0 (by omega) ?_
   refine call_ret (in2_calls (prs rightLeftL) (l.getD (l.length - 1) 0) (by decide)) (by rw [List.map_cons]; erw [dn_rg (l:=prs rightLeftL) (i:=1) rfl rfl]; rfl) rfl ?_
   rw [show ((prs rightLeftL).any fun x=>hasB x (l.getD (l.length - 1) 0))=leftB (l.getD (l.length - 1) 0) from rfl]
   cases h5:leftB (l.getD (l.length - 1) 0)
   ·simp only [num,↓gos,gop,qA,qB,qC,qD,qE,qF,qG,qH,qI]
    exact endb rfl
   ·simp only [num,↓gos,gop,qA,qB,qC,qD,qE,qF,qG,qH,qI]
    exact endb rfl
end Go.Proofs.Ut
