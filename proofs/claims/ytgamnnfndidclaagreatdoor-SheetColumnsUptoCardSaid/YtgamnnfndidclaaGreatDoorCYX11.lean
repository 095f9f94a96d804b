/- contact.Of itself. -/
import Derived.Test.YtgamnnfndidclaaGreatDoorCYX6
import Derived.Test.YtgamnnfndidclaaGreatDoorCLawJid
open Nat renaming reduceBEq → qA,reduceAdd → qB,reduceSub → qC,reduceLeDiff → qD,reduceMul → qE
open Int renaming reduceLE → qF,reduceLT → qG,reduceNe → qH,reduceToNat → qI
set_option linter.all false
namespace Go.Proofs.Ut
open Go.Ai
set_option maxRecDepth 100000
def cty (c:CT):List DV:=[.str c.name,.str c.family,.str c.given,.str c.nick,.str c.jid,.str c.email,.str c.tel,.str c.note,.str c.uid,.osl 1 7 0 c.groups.length none,.osl 4 8 0 c.other.length none]
def uN (s:List UInt8)(m:Nat):Bool:=(rs s).all (fun c=>decide (32≤c))&&(bC bQ s 0&&decide ((rs s).length≤m))
def fD (m:Nat):List UInt8→List UInt8→List UInt8
 | out,[]=>out
 | out,x::s=>if out.length<m then fD m (if 32≤x.toNat∧x.toNat<127 then out++[x] else out) s else out
theorem nG (m:Nat):∀ (s out:List UInt8)(x:UInt8),fD m out (s++[x])=if (fD m out s).length<m then (if 32≤x.toNat∧x.toNat<127 then fD m out s++[x] else fD m out s) else fD m out s
 | [],out,x=>by simp only [List.nil_append,fD]; rfl
 | y::s,out,x=>by
  simp only [List.cons_append,fD]
  split
  ·exact nG m s _ x
  ·rfl
theorem pJ (m:Nat):∀ (s out:List UInt8),out.length≤m→(fD m out s).length≤m
 | [],out,h=>h
 | y::s,out,h=>by
  unfold fD
  split
  ·refine pJ m s _ ?_
   split
   ·simp; omega
   ·exact h
  ·exact h
theorem uQ (m:Nat){s:List UInt8}{i:Nat}(h:m≤(fD m [] (s.take i)).length):∀ n,fD m [] (s.take (i+n))=fD m [] (s.take i)
 | 0=>rfl
 | n+1=>by
  have ih:=uQ m h n
  rcases Nat.lt_or_ge (i+n) s.length with h2|h2
  ·rw [show i+(n+1)=(i+n)+1 from rfl,eA h2 0,nG,ih,if_neg (by omega)]
  ·rw [List.take_of_length_le (by omega)]
   rwa [List.take_of_length_le h2] at ih
def aP (s:List UInt8)(m:Nat):List UInt8:=if uN s m=true then s else fD m [] s
theorem zO (s:List UInt8)(m:Nat)(hs:s.length<100000000000)(hm:m<1000000):aU 25 [.str s,.int .i64 m] (.str (aP s m)):=by
 have h40:=ZT (E:=ED) rfl s m hs
 refine aA c25 (by simp [f25]) ?_
 simp only [f25,↓gos,gop,qA,qB,qC,qD,qE,qF,qG,qH,qI]
 refine aB h40 rfl rfl ?_
 unfold aP
 have ho:((rs s).all (fun c=>decide (32≤c))&&(bC bQ s 0&&decide (((rs s).length:Int)≤(m:Int))))=uN s m:=by
  unfold uN
  have:decide (((rs s).length:Int)≤(m:Int))=decide ((rs s).length≤m):=by simp
  rw [this]
 rw [ho]
 cases uN s m
 ·simp only [Bool.false_eq_true,reduceIte,↓gos,gop,qA,qB,qC,qD,qE,qF,qG,qH,qI]
  refine aJ (γ:=Nat) (fun i=>[(6,.int .i64 i),(5,.str (fD m [] (s.take i))),(0,.str s),(1,.int .i64 m)]) (fun _=>[]) (fun i=>i≤s.length) (fun i=>s.length - i) 0
   (wks rfl (by simp) ⟨rfl,rfl,rfl,rfl,trivial⟩) (by omega) fun i hi=>?_
  have hk:=pJ m (s.take i) [] (by simp)
  simp only [f25l0,↓gos,gop,qA,qB,qC,qD,qE,qF,qG,qH,qI]
  refine ⟨fun h=>?_,fun h=>?_⟩
  ·have h2:i<s.length:=by omega
   have htk:=eA h2 0
   have hsn:=nG m (s.take i) [] (s.getD i 0)
   have hbt:bt s i=((s.getD i 0).toNat:Int):=rfl
   have hcut:List.take (i+1 - i) (List.drop i s)=[s.getD i 0]:=by
    rw [show i+1 - i=1 by omega,List.getD_eq_getElem?_getD,List.getElem?_eq_getElem h2,List.drop_eq_getElem_cons h2]; rfl
   refine ⟨fun h3=>?_,fun h3=>?_⟩
   ·have h3:(fD m [] (s.take i)).length<m:=by omega
    rw [if_pos h3] at hsn
    refine aK (by omega) ⟨fun h4=>aK (by omega) ⟨fun h5=>?_,fun h5=>?_⟩,fun h4=>?_⟩
    ·rw [hbt] at h4 h5
     rw [if_pos ⟨by omega,by omega⟩] at hsn
     intro v hv
     rw [wrap_i64 (by omega) (by omega)] at hv
     have e:v=((i+1:Nat):Int):=by rw [hv]; rfl
     subst e
     rw [show ((i+1:Nat):Int).toNat=i+1 from rfl,hcut]
     refine aK (by omega) (aK (by omega) (aK (by simp only [List.length_cons,List.length_nil]; omega) ?_))
     intro v hv
     rw [wrap_i64 (by omega) (by omega)] at hv
     have e:v=((i+1:Nat):Int):=by rw [hv]; rfl
     subst e
     refine aN (i+1) rfl (by simp) ⟨rfl,?_,rfl,rfl,trivial⟩ (by omega) (by omega)
     rw [htk,hsn]; rfl
    ·rw [hbt] at h4 h5
     rw [if_neg (by omega)] at hsn
     intro v hv
     rw [wrap_i64 (by omega) (by omega)] at hv
     have e:v=((i+1:Nat):Int):=by rw [hv]; rfl
     subst e
     refine aN (i+1) rfl (by simp) ⟨rfl,?_,rfl,rfl,trivial⟩ (by omega) (by omega)
     rw [htk,hsn]; rfl
    ·rw [hbt] at h4
     rw [if_neg (by omega)] at hsn
     intro v hv
     rw [wrap_i64 (by omega) (by omega)] at hv
     have e:v=((i+1:Nat):Int):=by rw [hv]; rfl
     subst e
     refine aN (i+1) rfl (by simp) ⟨rfl,?_,rfl,rfl,trivial⟩ (by omega) (by omega)
     rw [htk,hsn]; rfl
   ·refine gS ?_
    have hf:=uQ m (s:=s) (i:=i) (by omega) (s.length - i)
    rw [show i+(s.length - i)=s.length by omega,List.take_length] at hf
    exact hf.symm
  ·have h2:i=s.length:=by omega
   subst h2
   rw [List.take_length]
   exact gS rfl
 ·simp only [reduceIte,↓gos,gop,qA,qB,qC,qD,qE,qF,qG,qH,qI]
  exact gS rfl
end Go.Proofs.Ut

namespace Go.Ai
def Le (d' d:DV):Prop:=∀ (w:World)(ok:Nat→Prop)(β:Loc)(v:Value),Rep w ok β v d' → Rep w ok β v d
theorem Le.refl (d:DV):Le d d:=fun _ _ _ _ h=>h
def LeL (a b:List DV):Prop:=a.length=b.length∧∀ (k:Nat) d' d,a[k]?=some d' → b[k]?=some d→Le d' d
theorem LeL.nil:LeL [] []:=⟨rfl,fun k d' d h=>by simp at h⟩
theorem LeL.cons {x y:DV}{a b:List DV}(h:Le x y)(hs:LeL a b):LeL (x::a) (y::b):=⟨by simp [hs.1],fun k d' d h1 h2=>by
 cases k with
 | zero=>simp at h1 h2; subst h1 h2; exact h
 | succ k=>exact hs.2 k _ _ (by simpa using h1) (by simpa using h2)⟩
theorem LeL.refl:∀ a,LeL a a
 | []=>.nil
 | x::a=>.cons (Le.refl x) (.refl a)
theorem LeL.append {a b:List DV}:∀ {c d:List DV},LeL a b→LeL c d→LeL (a++c) (b++d):=by
 induction a generalizing b with
 | nil=>intro c d h h2; obtain rfl:b=[]:=List.eq_nil_of_length_eq_zero h.1.symm; exact h2
 | cons x a ih=>
  intro c d h h2
  match b,h with
  | [],h=>have:=h.1; simp at this
  | y::b,h=>exact .cons (h.2 0 _ _ rfl rfl) (ih ⟨by have:=h.1; simpa using this,fun k d' d q1 q2=>h.2 (k+1) _ _ (by simpa using q1) (by simpa using q2)⟩ h2)
theorem LeL.replicate {a b:List DV}(h:LeL a b):∀ n,LeL (List.replicate n a).flatten (List.replicate n b).flatten
 | 0=>.nil
 | n+1=>by
  simp only [List.replicate_succ,List.flatten_cons]
  exact h.append (.replicate h n)
end Go.Ai

namespace Go.Proofs.Ut
open Go.Ai
set_option maxRecDepth 100000
def mN (x:List UInt8):List UInt8:=x.filter fun b => !decide (b=13)
theorem xT:∀ s:List UInt8,plainF (aO s)=some (mN s)
 | []=>rfl
 | b::s=>by
  have ih:=xT s
  have e:aO (b::s)=gO b++aO s:=by simp [aO]
  rw [e]
  rcases gA b with hb|⟨_,e2,k1,k2,k3,k4,k5⟩
  ·rcases hb with rfl|rfl|rfl|rfl|rfl
   all_goals simp [gO,plainF,GV,ih,mN]
  ·rw [e2]
   have h1:b≠92:=fun e=>k1 (by rw [e]; rfl)
   have h5:b≠13:=fun e=>k5 (by rw [e]; rfl)
   show plainF (b::aO s)=_
   rw [plainF.eq_def]
   simp only
   rw [if_neg h1,ih]
   simp [mN,h5]
theorem pT (sep:UInt8)(hsep:sep=44∨sep=59):∀ (s cur rest:List UInt8),bK sep false cur (aO s++rest)=bK sep false (cur++aO s) rest
 | [],cur,rest=>by simp [aO]
 | b::s,cur,rest=>by
  have ih:=fun c=>pT sep hsep s c rest
  have e:aO (b::s)=gO b++aO s:=by simp [aO]
  rw [e,List.append_assoc]
  rcases gA b with hb|⟨_,e2,k1,k2,k3,k4,k5⟩
  ·rcases hb with rfl|rfl|rfl|rfl|rfl <;> rcases hsep with rfl|rfl
   all_goals simp [gO,bK,uW,ih]
  ·rw [e2]
   have h1:b≠92:=fun e=>k1 (by rw [e]; rfl)
   have h2:b≠sep:=fun e=>by
    rcases hsep with rfl|rfl
    ·exact k2 (by rw [e]; rfl)
    ·exact k3 (by rw [e]; rfl)
   show bK sep false cur (b::(aO s++rest))=_
   rw [bK,if_neg (by simp [h2])]
   have e3:uW false b=false:=by simp [uW,h1]
   rw [e3,ih]
   simp
theorem nY:∀ m:Nat,(List.replicate m ([]:List UInt8)).flatten=[]
 | 0=>rfl
 | m+1=>by rw [List.replicate_succ,List.flatten_cons,nY m]; rfl
def l2 (s:List UInt8):List PR:=[⟨[],[70,78],[],[110]⟩,⟨[],[78],[],s⟩]
theorem xZ (m:Nat):∀ (s out:List UInt8),(∀ x∈out,32≤x.toNat∧x.toNat<127)→∀ x∈fD m out s,32≤x.toNat∧x.toNat<127
 | [],out,h=>h
 | y::s,out,h=>by
  unfold fD
  split
  ·refine xZ m s _ ?_
   split
   ·rename_i hy
    intro x hx
    rcases List.mem_append.1 hx with hx|hx
    ·exact h x hx
    ·obtain rfl:x=y:=by simpa using hx
     exact hy
   ·exact h
  ·exact h
theorem KN (n:Nat)(h1:32≤n)(h2:n<127):bQ (n:Int)=true:=by
 have h3:(32:Int)≤n:=by omega
 have h4:(n:Int)≤65533:=by omega
 simp [bQ,cU,h3,h4]
theorem mF (s:List UInt8)(m:Nat):bC cU (aP s m) 0=true∧(rs (aP s m)).length≤m:=by
 unfold aP
 split
 ·rename_i h
  simp only [uN,Bool.and_eq_true,decide_eq_true_eq] at h
  exact ⟨by rw [pU,h.2.1,Bool.true_and]; exact h.1,h.2.2⟩
 ·have hk:=xZ m s [] (by simp)
  have hl:=pJ m s [] (by simp)
  generalize fD m [] s=t at *
  have ha:∀ b∈t,b.toNat<128:=fun b hb=>by have:=hk b hb; omega
  have hm:t.all (fun b=>bQ b.toNat)=true:=List.all_eq_true.2 fun b hb=>KN _ (hk b hb).1 (hk b hb).2
  refine ⟨?_,?_⟩
  ·rw [(pN cU t ha).1]
   refine List.all_eq_true.2 fun b hb=>?_
   rw [pM,KN _ (hk b hb).1 (hk b hb).2]
   have:=(hk b hb).1
   simp; omega
  ·rw [UD t ha hm]; simpa using hl
theorem vU {s:List UInt8}(h:bC cU s 0=true):∀ x∈s,x≠13:=by
 obtain ⟨cs,rfl,hcs⟩:=SW cU s.length s (Nat.le_refl _) h
 intro x hx
 simp only [wr,List.mem_flatMap] at hx
 obtain ⟨c,hc,hx⟩:=hx
 have h2:=hcs c hc
 rw [pM,Bool.and_eq_true,decide_eq_true_eq] at h2
 exact (aDX h2.1 (by omega) x hx).1
theorem MY (s:List UInt8)(m:Nat):mN (aP s m)=aP s m:=by
 unfold mN
 rw [List.filter_eq_self]
 intro x hx
 have:=vU (mF s m).1 x hx
 simpa using this
theorem oD (s:List UInt8)(m:Nat):(aP s m).length≤4*m:=by
 have h:=mF s m
 generalize aP s m=t at *
 obtain ⟨h1,h2⟩:=h
 have hm:bC bQ t 0=true:=by rw [pU,Bool.and_eq_true] at h1; exact h1.1
 obtain ⟨cs,rfl,hcs⟩:=SW cU _ _ (Nat.le_refl _) h1
 have hr:=zN [] cs fun c hc=>(hcs c hc).1
 rw [List.append_nil] at hr
 have hl:(rs (wr cs)).length=cs.length:=by
  unfold rs
  rw [if_pos hm,show wr cs=cs.flatMap (fun c:Nat=>en c) from rfl,hr]
  simp [HW]
 rw [hl] at h2
 have:∀ l:List Nat,(wr l).length≤4*l.length:=fun l=>by
  induction l with
  | nil=>simp [wr]
  | cons c l ih=>
   rw [JJ,List.length_append,List.length_cons]
   have:=sZ (c:Int)
   omega
 have:=this cs
 omega
theorem VJ (s:List UInt8):(aO s).length≤2*s.length:=by
  induction s with
  | nil=>simp [aO]
  | cons x s ih=>
    have e:aO (x::s)=gO x++aO s:=by simp [aO]
    rw [e,List.length_append,List.length_cons]
    have : (gO x).length ≤ 2 := by
      unfold gO
      repeat' split
      all_goals simp
    omega
end Go.Proofs.Ut
