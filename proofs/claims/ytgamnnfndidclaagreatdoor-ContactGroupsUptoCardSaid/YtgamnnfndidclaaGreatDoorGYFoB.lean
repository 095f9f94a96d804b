/- Rows held against each other; whether they are not too much. -/
import Derived.Test.YtgamnnfndidclaaGreatDoorGYFoAny
import Derived.Test.YtgamnnfndidclaaGreatDoorGAiUn
import Derived.Lib.IndexMore
import Derived.Shelf.Strings.Search2
import Derived.Shelf.Unicode.DecodeAny
import Derived.Test.YtgamnnfndidclaaGreatDoorGAiHand
open Nat renaming reduceBEq → qA,reduceAdd → qB,reduceSub → qC,reduceLeDiff → qD,reduceMul → qE
open Int renaming reduceLE → qF,reduceLT → qG,reduceNe → qH,reduceToNat → qI
set_option linter.all false
namespace Go.Proofs.Ut
open Go.Ai Classical Go.Shelf Go.RowKit
set_option linter.unusedSimpArgs false
set_option linter.unusedVariables false
set_option maxHeartbeats 1000000
set_option maxRecDepth 100000
def sv (s:List UInt8):List DV:=[.str s]
theorem aGD (x y:List UInt8):aY 59 [.str x,.str y] (.bool (decide (x=y))):=by
 refine aA c59 (by simp [f59]) ?_
 simp only [f59,↓gos,gop,qA,qB,qC,qD,qE,qF,qG,qH,qI]
 exact ⟨fun h=>aJ (by simp [h]),fun h=>aJ (by simp [h])⟩
theorem WM {α:Type} [DecidableEq α](a b:List α)(d:α)(hl:a.length=b.length)(h:∀ j,j<a.length→a.getD j d=b.getD j d):a=b:=by
 apply List.ext_getElem hl
 intro i h1 h2
 have:=h i h1
 simpa [List.getD_eq_getElem?_getD,h1,h2] using this
theorem aCp (a b:List (List UInt8))(ha:a.length<100000000)(hb:b.length<100000000):aY 58 [.sl 1 (a.map sv),.sl 1 (b.map sv),.fn 59 []] (.bool (decide (a=b))):=by
 refine aA c58 (by simp [f58]) ?_
 simp only [f58,↓gos,gop,qA,qB,qC,qD,qE,qF,qG,qH,qI]
 refine ⟨fun h=>?_,fun h=>?_⟩
 ·refine aJ ?_
  rw [decide_eq_false (fun e=>h (by rw [e]))]
 ·refine aM (γ:=Nat) (fun i=>[(7,.int .i64 (i:Nat)),(0,.sl 1 (a.map sv)),(1,.sl 1 (b.map sv)),(2,.fn 59 [])]) (fun _=>[]) (fun i=>i≤a.length∧∀ j,j<i→a.getD j []=b.getD j []) (fun i=>a.length - i) 0
   (wks rfl (by simp) ⟨rfl,rfl,rfl,rfl,trivial⟩) ⟨by simp,fun j hj=>by omega⟩ fun i hi=>?_
  obtain ⟨p1,p2⟩:=hi
  simp only [f58l0,↓gos,gop,qA,qB,qC,qD,qE,qF,qG,qH,qI]
  refine ⟨fun h1=>aU [] (by omega) ?_,fun h1=>?_⟩
  ·simp only [sv,↓gos,gop,qA,qB,qC,qD,qE,qF,qG,qH,qI]
   refine aU [] (by omega) ?_
   refine aB (aGD _ _) rfl rfl ?_
   simp only [↓gos,gop,qA,qB,qC,qD,qE,qF,qG,qH,qI]
   refine ⟨fun h2=>aJ ?_,fun h2 v hv=>?_⟩
   ·rw [decide_eq_false (fun e=>h2 (by rw [e]))]
   ·rw [wrap_i64 (by omega) (by omega)] at hv
    have hv:v=((i+1:Nat):Int):=by omega
    subst hv
    refine aQ (i+1) rfl (by simp) ⟨rfl,rfl,rfl,rfl,trivial⟩ ⟨by omega,fun j hj=>?_⟩ (by omega)
    by_cases e:j=i
    ·subst e; exact h2
    ·exact p2 j (by omega)
  ·refine aJ ?_
   rw [decide_eq_true (WM a b [] (by omega) fun j hj=>p2 j (by omega))]
theorem XL (a b:List (List UInt8))(ha:a.length<100000000)(hb:b.length<100000000):aY 29 [.sl 1 (a.map sv),.sl 1 (b.map sv)] (.bool (decide (a=b))):=by
 refine aA c29 (by simp [f29]) ?_
 simp only [f29,↓gos,gop,qA,qB,qC,qD,qE,qF,qG,qH,qI]
 refine aB (aCp a b ha hb) rfl rfl ?_
 simp only [↓gos,gop,qA,qB,qC,qD,qE,qF,qG,qH,qI]
 exact aJ rfl
end Go.Proofs.Ut

namespace Go.Proofs.Ut
open Go.Ai Classical
set_option linter.unusedSimpArgs false
set_option linter.unusedVariables false
set_option maxHeartbeats 1000000
set_option maxRecDepth 100000
theorem ofn (x:UInt8)(n:Nat)(h:x.toNat=n):UInt8.ofNat n=x:=by subst h; simp
theorem ZG (x:UInt8)(h:x.toNat<128):en (x.toNat:Int)=[x]:=by
 rw [lI (by unfold okC; omega),if_pos h]
 exact congrArg (fun b=>[b]) (ofn x _ rfl)
theorem aCw (x y:UInt8)(h1:x.toNat / 32=6)(h2:y.toNat / 64=2)(h:x.toNat % 32*64+y.toNat % 64≥128)(ok:okC (x.toNat % 32*64+y.toNat % 64)):en ((x.toNat % 32*64+y.toNat % 64:Nat):Int)=[x,y]:=by
 rw [lI ok,if_neg (by omega),if_pos (by omega),ofn x _ (by omega),ofn y _ (by omega)]
theorem aBB (x y z:UInt8)(h1:x.toNat / 16=14)(h2:y.toNat / 64=2)(h3:z.toNat / 64=2)(h:x.toNat % 16*4096+y.toNat % 64*64+z.toNat % 64≥2048)(ok:okC (x.toNat % 16*4096+y.toNat % 64*64+z.toNat % 64)) :
  en ((x.toNat % 16*4096+y.toNat % 64*64+z.toNat % 64:Nat):Int)=[x,y,z]:=by
 rw [lI ok,if_neg (by omega),if_neg (by omega),if_pos (by omega),ofn x _ (by omega),ofn y _ (by omega),ofn z _ (by omega)]
theorem aBR (x y z u:UInt8)(h1:x.toNat / 8=30)(h2:y.toNat / 64=2)(h3:z.toNat / 64=2)(h4:u.toNat / 64=2)(h:x.toNat % 8*262144+y.toNat % 64*4096+z.toNat % 64*64+u.toNat % 64≥65536)
  (ok:okC (x.toNat % 8*262144+y.toNat % 64*4096+z.toNat % 64*64+u.toNat % 64)):en ((x.toNat % 8*262144+y.toNat % 64*4096+z.toNat % 64*64+u.toNat % 64:Nat):Int)=[x,y,z,u]:=by
 rw [lI ok,if_neg (by omega),if_neg (by omega),if_neg (by omega),ofn x _ (by omega),ofn y _ (by omega),ofn z _ (by omega),ofn u _ (by omega)]
theorem VY (s:List UInt8)(h:3<s.length):∃ x y z u t,s=x::y::z::u::t:=by
 match s,h with
 | x::y::z::u::t,_=>exact ⟨x,y,z,u,t,rfl⟩
 | [_],h=>simp at h
 | [_,_],h=>simp at h
 | [_,_,_],h=>simp at h
theorem aEz (s:List UInt8)(h0:0<s.length)(hg:D s 0≠(65533,1)):en ((D s 0).1:Nat)=s.take (D s 0).2:=by
 have hok:=(dE s 0 h0).2.2
 revert hg hok
 rw [yJ]
 by_cases b1:by_ s 0<128
 ·rw [if_pos b1]
  intro _ hok
  match s,h0,b1 with
  | x::t,_,b1=>exact ZG x b1
 rw [if_neg b1]
 by_cases c2:by_ s 0 / 32=6∧0+1<s.length∧by_ s (0+1) / 64=2
 ·rw [if_pos c2]
  by_cases h:by_ s 0 % 32*64+by_ s (0+1) % 64≥128
  ·rw [if_pos h]
   intro _ hok
   match s,c2,h,hok with
   | [_],c2,_,_=>simp at c2
   | x::y::t,c2,h,hok=>exact aCw x y c2.1 c2.2.2 h hok
  ·rw [if_neg h]; intro q; exact absurd rfl q
 rw [if_neg c2]
 by_cases c3:by_ s 0 / 16=14∧(0+1<s.length∧by_ s (0+1) / 64=2)∧0+2<s.length∧by_ s (0+2) / 64=2
 ·rw [if_pos c3]
  by_cases h:by_ s 0 % 16*4096+by_ s (0+1) % 64*64+by_ s (0+2) % 64≥2048∧okC (by_ s 0 % 16*4096+by_ s (0+1) % 64*64+by_ s (0+2) % 64)
  ·rw [if_pos h]
   intro _ hok
   match s,c3,h,hok with
   | [_],c3,_,_=>simp at c3
   | [_,_],c3,_,_=>simp at c3
   | x::y::z::t,c3,h,hok=>exact aBB x y z c3.1 c3.2.1.2 c3.2.2.2 h.1 hok
  ·rw [if_neg h]; intro q; exact absurd rfl q
 rw [if_neg c3]
 by_cases c4:by_ s 0 / 8=30∧(0+1<s.length∧by_ s (0+1) / 64=2)∧(0+2<s.length∧by_ s (0+2) / 64=2)∧0+3<s.length∧by_ s (0+3) / 64=2
 ·rw [if_pos c4]
  by_cases h:by_ s 0 % 8*262144+by_ s (0+1) % 64*4096+by_ s (0+2) % 64*64+by_ s (0+3) % 64≥65536∧okC (by_ s 0 % 8*262144+by_ s (0+1) % 64*4096+by_ s (0+2) % 64*64+by_ s (0+3) % 64)
  ·rw [if_pos h]
   intro _ hok
   obtain ⟨x,y,z,u,t,rfl⟩:∃ x y z u t,s=x::y::z::u::t:=VY s (by have:=c4.2.2.2.1; omega)
   have e0:by_ (x::y::z::u::t) 0=x.toNat:=rfl
   have e1:by_ (x::y::z::u::t) (0+1)=y.toNat:=rfl
   have e2:by_ (x::y::z::u::t) (0+2)=z.toNat:=rfl
   have e3:by_ (x::y::z::u::t) (0+3)=u.toNat:=rfl
   simp only [e0,e1,e2,e3] at c4 h hok ⊢
   exact aBR x y z u c4.1 c4.2.1.2 c4.2.2.1.2 c4.2.2.2.2 h.1 hok
  ·rw [if_neg h]; intro q; exact absurd rfl q
 rw [if_neg c4]
 intro q; exact absurd rfl q
def wr (cs:List Nat):List UInt8:=cs.flatMap fun c:Nat=>en c
theorem ET (c:Nat)(b:List Nat):wr (c::b)=en c++wr b:=rfl
theorem PN (p:Int→Bool):∀ n (s:List UInt8),s.length≤n→aW p s 0=true→∃ cs,s=wr cs∧∀ c∈cs,okC c∧p c=true
 | _,[],_,_=>⟨[],rfl,by simp⟩
 | 0,x::t,h,_=>by simp at h
 | n+1,x::t,h,hr=>by
  have hl:=dE (x::t) 0 (by simp)
  rw [cX _ _ _ (by simp)] at hr
  split at hr
  ·cases hr
  rename_i hg
  rw [Bool.and_eq_true] at hr
  have hen:=aEz (x::t) (by simp) hg
  have hsp:=List.take_append_drop (D (x::t) 0).2 (x::t)
  have hlt:((x::t).take (D (x::t) 0).2).length=(D (x::t) 0).2:=by
   rw [List.length_take]; omega
  have hsh:=nI p ((x::t).take (D (x::t) 0).2) ((x::t).drop (D (x::t) 0).2) _ 0 (Nat.le_refl _)
  rw [hsp,hlt,Nat.add_zero] at hsh
  rw [Nat.zero_add,hsh] at hr
  obtain ⟨cs,h1,h2⟩:=PN p n ((x::t).drop (D (x::t) 0).2) (by rw [List.length_drop]; simp only [List.length_cons] at h ⊢; omega) hr.2
  refine ⟨(D (x::t) 0).1::cs,?_,?_⟩
  ·rw [ET,hen,← h1,hsp]
  ·intro c hc
   rcases List.mem_cons.1 hc with rfl|hc
   ·exact ⟨hl.2.2,hr.1⟩
   ·exact h2 c hc
def nX (s:List UInt8)(most:Nat):Nat→Nat→Nat
 | 0,n=>n
 | k+1,n=>if n<s.length then (if 0<n∧most<n+(D s n).2 then n else nX s most k (n+(D s n).2)) else n
def fits (s:List UInt8)(most:Nat):Nat:=nX s most s.length 0
theorem tT (s:List UInt8)(most:Nat):∀ k j n,s.length - n≤k→s.length - n≤j→nX s most k n=nX s most j n
 | 0,0,_,_,_=>rfl
 | 0,j+1,n,h,_=>by rw [nX,nX,if_neg (by omega)]
 | k+1,0,n,_,h=>by rw [nX,nX,if_neg (by omega)]
 | k+1,j+1,n,h1,h2=>by
  rw [nX,nX]
  by_cases hn:n<s.length
  ·have:=dE s n hn
   rw [if_pos hn,if_pos hn,tT s most k j (n+(D s n).2) (by omega) (by omega)]
  ·rw [if_neg hn,if_neg hn]
def uW (s:List UInt8)(most n:Nat):Nat:=nX s most (s.length - n) n
theorem mY (s:List UInt8)(most n:Nat)(hn:n<s.length):uW s most n=if 0<n∧most<n+(D s n).2 then n else uW s most (n+(D s n).2):=by
 have:=dE s n hn
 rw [uW,show s.length - n=(s.length - n - 1)+1 by omega,nX,if_pos hn,tT s most _ (s.length - (n+(D s n).2)) (n+(D s n).2) (by omega) (Nat.le_refl _)]
 rfl
theorem qL (s:List UInt8)(most n:Nat)(hn:¬ n<s.length):uW s most n=n:=by
 rw [uW,show s.length - n=0 by omega]; rfl
theorem DD (s:List UInt8)(most:Nat):∀ k n,s.length - n≤k→n≤s.length→n≤uW s most n∧uW s most n≤s.length
 | 0,n,h,hn=>by rw [qL s most n (by omega)]; omega
 | k+1,n,h,hn=>by
  by_cases c:n<s.length
  ·have:=dE s n c
   have ih:=DD s most k (n+(D s n).2) (by omega) (by omega)
   rw [mY s most n c]
   split <;> omega
  ·rw [qL s most n c]; omega
theorem gQ (s:List UInt8)(most:Nat)(h:s≠[]):0<fits s most∧fits s most≤s.length:=by
 have h0:0<s.length:=List.length_pos_iff.2 h
 have:=dE s 0 h0
 have e:fits s most=uW s most 0:=rfl
 rw [e,mY s most 0 h0,if_neg (by omega)]
 have:=DD s most _ (0+(D s 0).2) (Nat.le_refl _) (by omega)
 omega
theorem xK (most:Nat):fits [] most=0:=rfl
def iG:Nat→List UInt8→List (List UInt8)
 | 0,_=>[]
 | k+1,s=>if s=[] then [] else (32::s.take (fits s 74))::iG k (s.drop (fits s 74))
def nQ (s:List UInt8):List (List UInt8):=s.take (fits s 75)::iG s.length (s.drop (fits s 75))
def iF (l:List (List UInt8)):List UInt8:=l.flatMap fun r=>r++[13,10]
def eY (l:List (List UInt8)):List UInt8:=l.flatMap fun s=>iF (nQ s)
theorem hC (r:List UInt8)(l:List (List UInt8)):iF (r::l)=r++13::10::iF l:=by simp [iF]
theorem kM:∀ k j (s:List UInt8),s.length≤k→s.length≤j→iG k s=iG j s
 | 0,0,_,_,_=>rfl
 | 0,j+1,s,h,_=>by rw [iG,iG,if_pos (List.eq_nil_of_length_eq_zero (by omega))]
 | k+1,0,s,_,h=>by rw [iG,iG,if_pos (List.eq_nil_of_length_eq_zero (by omega))]
 | k+1,j+1,s,h1,h2=>by
  rw [iG,iG]
  by_cases hs:s=[]
  ·rw [if_pos hs,if_pos hs]
  ·have:=gQ s 74 hs
   rw [if_neg hs,if_neg hs,kM k j _ (by rw [List.length_drop]; omega) (by rw [List.length_drop]; omega)]
def iY (s:List UInt8):List (List UInt8):=iG s.length s
theorem kK (s:List UInt8)(hs:s≠[]):iY s=(32::s.take (fits s 74))::iY (s.drop (fits s 74)):=by
 have:=gQ s 74 hs
 have h0:0<s.length:=List.length_pos_iff.2 hs
 rw [iY,show s.length=(s.length - 1)+1 by omega,iG,if_neg hs,kM _ (s.drop (fits s 74)).length _ (by rw [List.length_drop]; omega) (Nat.le_refl _)]
 rfl
theorem mN:iY []=[]:=rfl
theorem lS (s:List UInt8):nQ s=s.take (fits s 75)::iY (s.drop (fits s 75)):=by
 rw [nQ,iY,kM s.length _ _ (by simp) (Nat.le_refl _)]
def OG (r:List UInt8):Bool:=r.any fun x=>decide (x=13)||decide (x=10)
theorem aAB (s:List UInt8)(n:Nat)(hn:n≤s.length):D s n=D (s.drop n) 0:=by
 have:=vB (s.take n) (s.drop n) 0
 rwa [List.take_append_drop,List.length_take,Nat.min_eq_left hn,Nat.add_zero] at this
theorem tJ:∀ k (s:List UInt8),s.length≤k→(iF (iY s)).length=s.length+3*(iY s).length
 | k,[],_=>by simp [mN,iF]
 | 0,y::s,h=>by simp at h
 | k+1,y::s,h=>by
  have hf:=gQ (y::s) 74 (by simp)
  rw [kK _ (by simp),hC]
  have ih:=tJ k ((y::s).drop (fits (y::s) 74)) (by rw [List.length_drop]; simp only [List.length_cons] at h ⊢; omega)
  simp only [List.length_append,List.length_cons,List.length_take,List.length_drop] at ih ⊢
  simp only [List.length_cons] at hf
  omega
theorem wU (s:List UInt8):(iF (nQ s)).length+1=s.length+3*(nQ s).length:=by
 have h1:=tJ _ (s.drop (fits s 75)) (Nat.le_refl _)
 have h2:fits s 75≤s.length:=by
  by_cases hs:s=[]
  ·subst hs; simp [xK]
  ·exact (gQ s 75 hs).2
 rw [lS,hC]
 simp only [List.length_append,List.length_cons,List.length_take,List.length_drop] at h1 ⊢
 omega
theorem tR:∀ k (s:List UInt8),s.length≤k→(iY s).length≤s.length
 | k,[],_=>by simp [mN]
 | 0,y::s,h=>by simp at h
 | k+1,y::s,h=>by
  have hf:=gQ (y::s) 74 (by simp)
  rw [kK _ (by simp)]
  have ih:=tR k ((y::s).drop (fits (y::s) 74)) (by rw [List.length_drop]; simp only [List.length_cons] at h ⊢; omega)
  simp only [List.length_cons,List.length_drop] at ih hf ⊢
  omega
theorem JT (s:List UInt8):(nQ s).length≤s.length+1:=by
 have h1:=tR _ (s.drop (fits s 75)) (Nat.le_refl _)
 rw [lS]
 simp only [List.length_cons,List.length_drop] at h1 ⊢
 omega
theorem sN:∀ l:List (List UInt8),(eY l).length≤(l.map fun s=>4*s.length+2).sum
 | []=>by simp [eY]
 | s::l=>by
  have h1:=wU s
  have h2:=JT s
  have ih:=sN l
  rw [eY] at ih ⊢
  simp only [List.flatMap_cons,List.length_append,List.map_cons,List.sum_cons]
  omega
theorem aCu {c:Nat}(h:okC c)(h3:32≤c):∀ x∈en (c:Int),x≠13∧x≠10:=by
 have hu:∀ n,32≤n→n<256→UInt8.ofNat n≠13∧UInt8.ofNat n≠10:=fun n a b=>by
  have:=bV n b
  refine ⟨fun e=>?_,fun e=>?_⟩ <;> rw [e] at this <;> simp at this <;> omega
 unfold okC at h
 rw [lI (by unfold okC; exact h)]
 intro x hx
 split at hx
 ·simp only [List.mem_singleton] at hx; subst hx; exact hu _ (by omega) (by omega)
 split at hx
 ·simp only [List.mem_cons,List.not_mem_nil,or_false] at hx
  rcases hx with rfl|rfl <;> exact hu _ (by omega) (by omega)
 split at hx
 ·simp only [List.mem_cons,List.not_mem_nil,or_false] at hx
  rcases hx with rfl|rfl|rfl <;> exact hu _ (by omega) (by omega)
 ·simp only [List.mem_cons,List.not_mem_nil,or_false] at hx
  rcases hx with rfl|rfl|rfl|rfl <;> exact hu _ (by omega) (by omega)
end Go.Proofs.Ut

namespace Go.Proofs.Ut
open Go.Ai Classical Go.Shelf Go.RowKit
set_option linter.unusedSimpArgs false
set_option linter.unusedVariables false
set_option maxHeartbeats 1000000
set_option maxRecDepth 100000
theorem PE {f:Nat}{args:List DV}{r:DV}(hent:Ent Tryz.prog f)(h:∀ (w:World)(ok:Nat→Prop)(β:Ai.Loc)(vs:List Value),Laid w→vs.length=args.length→(∀ (i:Nat) v d,vs[i]?=some v→args[i]?=some d→Rep w ok β v d) →
  ∃ v,(∀ w ok β,Rep w ok β v r)∧Calls Tryz.prog f vs.toArray w fun e w' => e=.returned v∧Below w.heap.size w w'):aY f args r:=by
 refine ⟨hent,fun w ok β vs hg hn hh hl hv=>?_⟩
 obtain ⟨v,hr,hc⟩:=h w ok β vs hg hl hv
 refine hc.mono ?_
 rintro e w' ⟨rfl,hb⟩
 exact ⟨_,ok,β,[],_,rfl,⟨rfl,rfl⟩,gX hg hn hb,Ev.below hb,qJ hh hb.size,hr _ _ _,fun l cs q=>by simp at q,Nat.le_refl _,fun _ _ _=>rfl⟩
theorem one {vs:List Value}{a:DV}(h:vs.length=[a].length):∃ u,vs=[u]:=by
 match vs,h with
 | [u],_=>exact ⟨u,rfl⟩
theorem UZ (s sub:List UInt8)(hs:s.length<1000000000):aY 166 [.str s,.str sub] (.int .i64 (Lib.index s sub)):=by
 refine PE ⟨Tryz.f166,Tryz.func166,by kernel_rfl,by kernel_rfl⟩ fun w ok β vs hg hl hv=>?_
 obtain ⟨u,v,rfl⟩:=two hl
 obtain rfl:=cU (hv 0 u _ rfl rfl)
 obtain rfl:=cU (hv 1 v _ rfl rfl)
 obtain ⟨m,hm⟩:=hg.most
 refine ⟨_,fun _ _ _=>.int _ _,(Any.stringslite_Index Tryz.lays219 ⟨s.toArray⟩ ⟨sub.toArray⟩ m w (by simp [ByteArray.size]; omega) hm).mono ?_⟩
 rintro e w' ⟨rfl,rfl⟩
 exact ⟨by simp,Below.refl _ _⟩
theorem yB (s:List UInt8)(hs:s≠[]):aY 220 [.str s] (.tup [.int .i32 (D s 0).1,.int .i64 (D s 0).2]):=by
 refine PE ⟨Tryz.f220,Tryz.func220,by kernel_rfl,by kernel_rfl⟩ fun w ok β vs hg hl hv=>?_
 obtain ⟨u,rfl⟩:=one hl
 obtain rfl:=cU (hv 0 u _ rfl rfl)
 have hd:Lib.decodeGo ⟨s.toArray⟩=D s 0:=by
  unfold Lib.decodeGo
  rw [if_neg (by simpa [ByteArray.size] using hs)]; rfl
 refine ⟨_,fun _ _ _=>.tup [.int .i32 (D s 0).1,.int .i64 (D s 0).2] _ rfl fun i v d h1 h2=>by
  rcases i with _|_|i
  ·cases h1; cases h2; exact .int _ _
  ·cases h1; cases h2; exact .int _ _
  ·simp at h1,(Any.utf8_DecodeRuneInString Tryz.lays197 ⟨s.toArray⟩ w hg.tabs).mono ?_⟩
 rintro e w' ⟨rfl,hb⟩
 exact ⟨by rw [hd],hb⟩
theorem KV (s:List UInt8)(most:Nat)(hs:s.length<1000000000)(hm:most<1000000000):aY 173 [.str s,.int .i64 most] (.int .i64 (fits s most:Nat)):=by
 refine aA c173 (by simp [f173]) ?_
 simp only [f173,↓gos,gop,qA,qB,qC,qD,qE,qF,qG,qH,qI]
 refine aM (γ:=Nat) (fun n=>[(0,.str s),(1,.int .i64 (most:Nat)),(5,.int .i64 (n:Nat))]) (fun _=>[]) (fun n=>n≤s.length∧uW s most n=fits s most) (fun n=>s.length - n) 0
  (wks rfl (by simp) ⟨rfl,rfl,rfl,trivial⟩) ⟨by simp,rfl⟩ fun n hg=>?_
 obtain ⟨p1,p2⟩:=hg
 simp only [f173l0,↓gos,gop,qA,qB,qC,qD,qE,qF,qG,qH,qI]
 refine ⟨fun h1=>?_,fun h1=>?_⟩
 ·have hl:=dE s n (by omega)
  refine ⟨by omega,?_⟩
  have ht:List.take (s.length - n) (List.drop n s)=s.drop n:=List.take_of_length_le (by simp)
  rw [ht]
  refine aB (yB (s.drop n) (by intro e; have:=congrArg List.length e; simp at this; omega)) rfl rfl ?_
  rw [← aAB s n p1]
  have hst:=mY s most n (by omega)
  simp only [↓gos,gop,qA,qB,qC,qD,qE,qF,qG,qH,qI]
  refine ⟨fun h2 v hv=>?_,fun h2 v hv=>?_⟩
  ·rw [wrap_i64 (by omega) (by omega)] at hv
   have hv:v=((n+(D s n).2:Nat):Int):=by omega
   subst hv
   refine ⟨fun h3=>qK ?_,fun h3 v hv=>?_⟩
   ·rw [if_pos ⟨by omega,by omega⟩] at hst
    rw [← p2,hst]
   ·rw [wrap_i64 (by omega) (by omega)] at hv
    have hv:v=((n+(D s n).2:Nat):Int):=by omega
    subst hv
    rw [if_neg (by omega)] at hst
    exact aQ (n+(D s n).2) rfl (by simp) ⟨rfl,rfl,rfl,trivial⟩ ⟨hl.2.1,by rw [← hst,p2]⟩ (by omega)
  ·rw [wrap_i64 (by omega) (by omega)] at hv
   have hv:v=((n+(D s n).2:Nat):Int):=by omega
   subst hv
   rw [if_neg (by omega)] at hst
   exact aQ (n+(D s n).2) rfl (by simp) ⟨rfl,rfl,rfl,trivial⟩ ⟨hl.2.1,by rw [← hst,p2]⟩ (by omega)
 ·refine qK ?_
  rw [← p2,qL s most n (by omega)]
theorem TL (s:List UInt8):iF (nQ s)=s.take (fits s 75)++13::10::iF (iY (s.drop (fits s 75))):=by rw [lS,hC]
theorem aAu (l:List (List UInt8))(hl:l.length<1000000)(hb:(eY l).length<1000000000):aY 132 [.sl 1 (l.map sv)] (.str (eY l)):=by
 refine aA c132 (by simp [f132]) ?_
 simp only [f132,↓gos,gop,qA,qB,qC,qD,qE,qF,qG,qH,qI]
 refine aM (γ:=List UInt8×Nat) (fun g=>[(9,.int .i64 (g.2:Nat)),(8,.int .i64 (l.length:Nat)),(7,.sl 1 (l.map sv)),(3,.ptr 1 0)])
  (fun g=>[.buf 5 g.1,.box [.self 1 169 2,.hdr 0 5 g.1.length]])
  (fun g=>g.2≤l.length∧g.1++eY (l.drop g.2)=eY l) (fun g=>l.length - g.2) ([],0)
  (wks rfl (by simp) ⟨rfl,rfl,rfl,rfl,trivial⟩) ⟨by simp,rfl⟩ fun g hg=>?_
 obtain ⟨acc,i⟩:=g
 obtain ⟨p1,p2⟩:=hg
 simp only at p1 p2
 simp only [f132l1,↓gos,gop,qA,qB,qC,qD,qE,qF,qG,qH,qI]
 refine ⟨fun hi=>aU [] (by omega) ?_,fun hi=>?_⟩
 ·have hdr:l.drop i=l.getD i []::l.drop (i+1):=by
   rw [List.getD_eq_getElem?_getD,List.getElem?_eq_getElem (by omega)]
   exact List.drop_eq_getElem_cons (by omega)
  rw [hdr] at p2
  generalize l.getD i []=s at p2
  have p2:acc++iF (nQ s)++eY (l.drop (i+1))=eY l:=by
   rw [← p2]; simp [eY]
  have hlen:=congrArg List.length p2
  have hrl:=wU s
  have hfl:fits s 75≤s.length:=by
   by_cases hs:s=[]
   ·subst hs; simp [xK]
   ·exact (gQ s 75 hs).2
  rw [TL] at p2 hlen hrl
  simp only [List.length_append,List.length_cons] at hlen hrl
  have hrl2:=lS s
  have hrl3:=congrArg List.length hrl2
  simp only [List.length_cons] at hrl3
  have hs:s.length<1000000000:=by omega
  simp only [sv,↓gos,gop,qA,qB,qC,qD,qE,qF,qG,qH,qI]
  refine aB (KV s 75 hs (by omega)) rfl rfl ?_
  simp only [↓gos,gop,qA,qB,qC,qD,qE,qF,qG,qH,qI]
  have ht:(List.take (fits s 75) s).length≤s.length:=by simp; omega
  refine ⟨by omega,by omega,?_⟩
  refine cI (gr:=false) (gr' := false) (m:=0) (l:=1) rfl rfl rfl (sI false _ _ (by simp only [List.length_append,List.length_cons,List.length_nil] at *; omega)) ?_
  simp only [Buf,↓gos,gop,qA,qB,qC,qD,qE,qF,qG,qH,qI]
  refine ⟨by omega,?_⟩
  have hd0:List.take (s.length - fits s 75) (List.drop (fits s 75) s)=s.drop (fits s 75):=List.take_of_length_le (by simp)
  rw [hd0]
  refine aM (γ:=List UInt8×List UInt8) (fun g=>[(5,.str g.2),(9,.int .i64 (i:Nat)),(8,.int .i64 (l.length:Nat)),(7,.sl 1 (l.map sv)),(3,.ptr 1 0)])
   (fun g=>[.buf 5 g.1,.box [.self 1 169 2,.hdr 0 5 g.1.length]])
   (fun g=>g.1++iF (iY g.2)++eY (l.drop (i+1))=eY l∧g.2.length≤s.length) (fun g=>g.2.length) (acc++(List.take (fits s 75) s++[13,10]),s.drop (fits s 75))
   (wks rfl (by simp) ⟨rfl,rfl,rfl,rfl,rfl,trivial⟩) ⟨by rw [← p2]; simp,by simp⟩ fun g hg=>?_
  obtain ⟨a2,t⟩:=g
  obtain ⟨q1,q2⟩:=hg
  simp only at q1 q2
  have hql:=congrArg List.length q1
  simp only [List.length_append] at hql
  simp only [f132l0,↓gos,gop,qA,qB,qC,qD,qE,qF,qG,qH,qI]
  refine ⟨fun h0=>?_,fun h0 v hv=>?_⟩
  ·refine aB (KV t 74 (by omega) (by omega)) rfl rfl ?_
   simp only [↓gos,gop,qA,qB,qC,qD,qE,qF,qG,qH,qI]
   have hft:=gQ t 74 h0
   have hstep:=kK t h0
   have htt:(List.take (fits t 74) t).length≤t.length:=by simp; omega
   rw [hstep,hC] at q1 hql
   simp only [List.length_append,List.length_cons] at hql
   refine ⟨by omega,by first | omega | (simp only [List.length_append,List.length_cons,List.length_nil]; omega),by first | omega | (simp only [List.length_append,List.length_cons,List.length_nil]; omega),?_⟩
   refine cI (gr:=false) (gr' := false) (m:=0) (l:=1) rfl rfl rfl (sI false _ _ (by simp only [List.length_append,List.length_cons,List.length_nil] at *; omega)) ?_
   simp only [Buf,↓gos,gop,qA,qB,qC,qD,qE,qF,qG,qH,qI]
   refine ⟨by omega,?_⟩
   have hd1:List.take (t.length - fits t 74) (List.drop (fits t 74) t)=t.drop (fits t 74):=List.take_of_length_le (by simp)
   rw [hd1]
   refine aQ (a2++([32]++List.take (fits t 74) t++[13,10]),t.drop (fits t 74)) rfl (by simp) ⟨rfl,rfl,rfl,rfl,rfl,trivial⟩ ⟨?_,by simp only [List.length_drop]; omega⟩ (by simp only [List.length_drop]; omega)
   rw [← q1]; simp
  ·rw [wrap_i64 (by omega) (by omega)] at hv
   have hv:v=((i+1:Nat):Int):=by omega
   subst hv
   have h0:t=[]:=by simpa using h0
   subst h0
   refine aQ (a2,i+1) rfl (by simp) ⟨rfl,rfl,rfl,rfl,trivial⟩ ⟨by omega,?_⟩ (by omega)
   rw [← q1,mN]; simp [iF]
 ·refine jO (gr:=false) (m:=0) (l:=1) rfl rfl (EN false _) ?_
  simp only [↓gos,gop,qA,qB,qC,qD,qE,qF,qG,qH,qI]
  refine kV ?_
  rw [← p2,List.drop_of_length_le (by omega)]
  simp [eY]
end Go.Proofs.Ut
