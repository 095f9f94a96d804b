/- contact.Of itself. -/
import Derived.Test.YtgamnnfndidclaaGreatDoorBYX6
import Derived.Test.YtgamnnfndidclaaGreatDoorBLawJid
open Nat renaming reduceBEq → qA,reduceAdd → qB,reduceSub → qC,reduceLeDiff → qD,reduceMul → qE
open Int renaming reduceLE → qF,reduceLT → qG,reduceNe → qH,reduceToNat → qI
set_option linter.all false
namespace Go.Proofs.Ut
open Go.Ai
set_option maxRecDepth 100000
def cty (c:CT):List DV:=[.str c.name,.str c.family,.str c.given,.str c.nick,.str c.jid,.str c.email,.str c.tel,.str c.note,.str c.uid,.osl 1 7 0 c.groups.length none,.osl 4 8 0 c.other.length none]
def bK (s:List UInt8)(m:Nat):Bool:=(rs s).all (fun c=>decide (32≤c))&&(runAt mayB s 0&&decide ((rs s).length≤m))
def aF (m:Nat):List UInt8→List UInt8→List UInt8
 | out,[]=>out
 | out,x::s=>if out.length<m then aF m (if 32≤x.toNat∧x.toNat<127 then out++[x] else out) s else out
theorem aO (m:Nat):∀ (s out:List UInt8)(x:UInt8),aF m out (s++[x])=if (aF m out s).length<m then (if 32≤x.toNat∧x.toNat<127 then aF m out s++[x] else aF m out s) else aF m out s
 | [],out,x=>by simp only [List.nil_append,aF]; rfl
 | y::s,out,x=>by
  simp only [List.cons_append,aF]
  split
  ·exact aO m s _ x
  ·rfl
theorem aS (m:Nat):∀ (s out:List UInt8),out.length≤m→(aF m out s).length≤m
 | [],out,h=>h
 | y::s,out,h=>by
  unfold aF
  split
  ·refine aS m s _ ?_
   split
   ·simp; omega
   ·exact h
  ·exact h
theorem bF (m:Nat){s:List UInt8}{i:Nat}(h:m≤(aF m [] (s.take i)).length):∀ n,aF m [] (s.take (i+n))=aF m [] (s.take i)
 | 0=>rfl
 | n+1=>by
  have ih:=bF m h n
  rcases Nat.lt_or_ge (i+n) s.length with h2|h2
  ·rw [show i+(n+1)=(i+n)+1 from rfl,take_getD h2 0,aO,ih,if_neg (by omega)]
  ·rw [List.take_of_length_le (by omega)]
   rwa [List.take_of_length_le h2] at ih
def aA (s:List UInt8)(m:Nat):List UInt8:=if bK s m=true then s else aF m [] s
theorem bV (s:List UInt8)(m:Nat)(hs:s.length<100000000000)(hm:m<1000000):DRet 25 [.str s,.int .i64 m] (.str (aA s m)):=by
 have h40:=rline23 (E:=ED) rfl s m hs
 refine acalls_go c25 (by simp [f25]) ?_
 simp only [f25,↓gos,gop,qA,qB,qC,qD,qE,qF,qG,qH,qI]
 refine call_ret h40 rfl rfl ?_
 unfold aA
 have ho:((rs s).all (fun c=>decide (32≤c))&&(runAt mayB s 0&&decide (((rs s).length:Int)≤(m:Int))))=bK s m:=by
  unfold bK
  have:decide (((rs s).length:Int)≤(m:Int))=decide ((rs s).length≤m):=by simp
  rw [this]
 rw [ho]
 cases bK s m
 ·simp only [Bool.false_eq_true,reduceIte,↓gos,gop,qA,qB,qC,qD,qE,qF,qG,qH,qI]
  refine goN_lp (γ:=Nat) (fun i=>[(6,.int .i64 i),(5,.str (aF m [] (s.take i))),(0,.str s),(1,.int .i64 m)]) (fun _=>[]) (fun i=>i≤s.length) (fun i=>s.length - i) 0
   (wks rfl (by simp) ⟨rfl,rfl,rfl,rfl,trivial⟩) (by omega) fun i hi=>?_
  have hk:=aS m (s.take i) [] (by simp)
  simp only [f25l0,↓gos,gop,qA,qB,qC,qD,qE,qF,qG,qH,qI]
  refine ⟨fun h=>?_,fun h=>?_⟩
  ·have h2:i<s.length:=by omega
   have htk:=take_getD h2 0
   have hsn:=aO m (s.take i) [] (s.getD i 0)
   have hbt:bt s i=((s.getD i 0).toNat:Int):=rfl
   have hcut:List.take (i+1 - i) (List.drop i s)=[s.getD i 0]:=by
    rw [show i+1 - i=1 by omega,List.getD_eq_getElem?_getD,List.getElem?_eq_getElem h2,List.drop_eq_getElem_cons h2]; rfl
   refine ⟨fun h3=>?_,fun h3=>?_⟩
   ·have h3:(aF m [] (s.take i)).length<m:=by omega
    rw [if_pos h3] at hsn
    refine chk_i (by omega) ⟨fun h4=>chk_i (by omega) ⟨fun h5=>?_,fun h5=>?_⟩,fun h4=>?_⟩
    ·rw [hbt] at h4 h5
     rw [if_pos ⟨by omega,by omega⟩] at hsn
     intro v hv
     rw [wrap_i64 (by omega) (by omega)] at hv
     have e:v=((i+1:Nat):Int):=by rw [hv]; rfl
     subst e
     rw [show ((i+1:Nat):Int).toNat=i+1 from rfl,hcut]
     refine chk_i (by omega) (chk_i (by omega) (chk_i (by simp only [List.length_cons,List.length_nil]; omega) ?_))
     intro v hv
     rw [wrap_i64 (by omega) (by omega)] at hv
     have e:v=((i+1:Nat):Int):=by rw [hv]; rfl
     subst e
     refine rnd_s (i+1) rfl (by simp) ⟨rfl,?_,rfl,rfl,trivial⟩ (by omega) (by omega)
     rw [htk,hsn]; rfl
    ·rw [hbt] at h4 h5
     rw [if_neg (by omega)] at hsn
     intro v hv
     rw [wrap_i64 (by omega) (by omega)] at hv
     have e:v=((i+1:Nat):Int):=by rw [hv]; rfl
     subst e
     refine rnd_s (i+1) rfl (by simp) ⟨rfl,?_,rfl,rfl,trivial⟩ (by omega) (by omega)
     rw [htk,hsn]; rfl
    ·rw [hbt] at h4
     rw [if_neg (by omega)] at hsn
     intro v hv
     rw [wrap_i64 (by omega) (by omega)] at hv
     have e:v=((i+1:Nat):Int):=by rw [hv]; rfl
     subst e
     refine rnd_s (i+1) rfl (by simp) ⟨rfl,?_,rfl,rfl,trivial⟩ (by omega) (by omega)
     rw [htk,hsn]; rfl
   ·refine ends ?_
    have hf:=bF m (s:=s) (i:=i) (by omega) (s.length - i)
    rw [show i+(s.length - i)=s.length by omega,List.take_length] at hf
    exact hf.symm
  ·have h2:i=s.length:=by omega
   subst h2
   rw [List.take_length]
   exact ends rfl
 ·simp only [reduceIte,↓gos,gop,qA,qB,qC,qD,qE,qF,qG,qH,qI]
  exact ends rfl
end Go.Proofs.Ut

namespace Go.Ai
def Le (d' d:DV):Prop:=∀ (w:World)(ok:Nat→Prop)(β:Loc)(v:Value),Rep w ok β v d' → Rep w ok β v d
theorem Le.refl (d:DV):Le d d:=fun _ _ _ _ h=>h
def LeL (a b:List DV):Prop:=a.length=b.length∧∀ (k:Nat) d' d,a[k]?=some d' → b[k]?=some d→Le d' d
theorem LeL.nil:LeL [] []:=⟨rfl,fun k d' d h=>by simp at h⟩
theorem LeL.cons {x y:DV}{a b:List DV}(h:Le x y)(hs:LeL a b):LeL (x::a) (y::b):=⟨by simp [hs.1],fun k d' d h1 h2=>by
 cases k with
 | zero=>simp at h1 h2; subst h1 h2; exact h
 | succ k=>exact hs.2 k _ _ (by simpa using h1) (by simpa using h2)⟩
theorem LeL.refl:∀ a,LeL a a
 | []=>.nil
 | x::a=>.cons (Le.refl x) (.refl a)
theorem LeL.append {a b:List DV}:∀ {c d:List DV},LeL a b→LeL c d→LeL (a++c) (b++d):=by
 induction a generalizing b with
 | nil=>intro c d h h2; obtain rfl:b=[]:=List.eq_nil_of_length_eq_zero h.1.symm; exact h2
 | cons x a ih=>
  intro c d h h2
  match b,h with
  | [],h=>have:=h.1; simp at this
  | y::b,h=>exact .cons (h.2 0 _ _ rfl rfl) (ih ⟨by have:=h.1; simpa using this,fun k d' d q1 q2=>h.2 (k+1) _ _ (by simpa using q1) (by simpa using q2)⟩ h2)
theorem LeL.replicate {a b:List DV}(h:LeL a b):∀ n,LeL (List.replicate n a).flatten (List.replicate n b).flatten
 | 0=>.nil
 | n+1=>by
  simp only [List.replicate_succ,List.flatten_cons]
  exact h.append (.replicate h n)
end Go.Ai

namespace Go.Proofs.Ut
open Go.Ai
set_option maxRecDepth 100000
def bJ (x:List UInt8):List UInt8:=x.filter fun b => !decide (b=13)
theorem bO:∀ s:List UInt8,plainF (valF s)=some (bJ s)
 | []=>rfl
 | b::s=>by
  have ih:=bO s
  have e:valF (b::s)=escB b++valF s:=by simp [valF]
  rw [e]
  rcases esc_cases b with hb|⟨_,e2,k1,k2,k3,k4,k5⟩
  ·rcases hb with rfl|rfl|rfl|rfl|rfl
   all_goals simp [escB,plainF,escC,ih,bJ]
  ·rw [e2]
   have h1:b≠92:=fun e=>k1 (by rw [e]; rfl)
   have h5:b≠13:=fun e=>k5 (by rw [e]; rfl)
   show plainF (b::valF s)=_
   rw [plainF.eq_def]
   simp only
   rw [if_neg h1,ih]
   simp [bJ,h5]
theorem aT (sep:UInt8)(hsep:sep=44∨sep=59):∀ (s cur rest:List UInt8),splitF sep false cur (valF s++rest)=splitF sep false (cur++valF s) rest
 | [],cur,rest=>by simp [valF]
 | b::s,cur,rest=>by
  have ih:=fun c=>aT sep hsep s c rest
  have e:valF (b::s)=escB b++valF s:=by simp [valF]
  rw [e,List.append_assoc]
  rcases esc_cases b with hb|⟨_,e2,k1,k2,k3,k4,k5⟩
  ·rcases hb with rfl|rfl|rfl|rfl|rfl <;> rcases hsep with rfl|rfl
   all_goals simp [escB,splitF,escN,ih]
  ·rw [e2]
   have h1:b≠92:=fun e=>k1 (by rw [e]; rfl)
   have h2:b≠sep:=fun e=>by
    rcases hsep with rfl|rfl
    ·exact k2 (by rw [e]; rfl)
    ·exact k3 (by rw [e]; rfl)
   show splitF sep false cur (b::(valF s++rest))=_
   rw [splitF,if_neg (by simp [h2])]
   have e3:escN false b=false:=by simp [escN,h1]
   rw [e3,ih]
   simp
theorem flat_rep:∀ m:Nat,(List.replicate m ([]:List UInt8)).flatten=[]
 | 0=>rfl
 | m+1=>by rw [List.replicate_succ,List.flatten_cons,flat_rep m]; rfl
def l2 (s:List UInt8):List PR:=[⟨[],[70,78],[],[110]⟩,⟨[],[78],[],s⟩]
theorem bT (m:Nat):∀ (s out:List UInt8),(∀ x∈out,32≤x.toNat∧x.toNat<127)→∀ x∈aF m out s,32≤x.toNat∧x.toNat<127
 | [],out,h=>h
 | y::s,out,h=>by
  unfold aF
  split
  ·refine bT m s _ ?_
   split
   ·rename_i hy
    intro x hx
    rcases List.mem_append.1 hx with hx|hx
    ·exact h x hx
    ·obtain rfl:x=y:=by simpa using hx
     exact hy
   ·exact h
  ·exact h
theorem cW (n:Nat)(h1:32≤n)(h2:n<127):mayB (n:Int)=true:=by
 have h3:(32:Int)≤n:=by omega
 have h4:(n:Int)≤65533:=by omega
 simp [mayB,shownB,h3,h4]
theorem aM (s:List UInt8)(m:Nat):runAt shownB (aA s m) 0=true∧(rs (aA s m)).length≤m:=by
 unfold aA
 split
 ·rename_i h
  simp only [bK,Bool.and_eq_true,decide_eq_true_eq] at h
  exact ⟨by rw [run_shown,h.2.1,Bool.true_and]; exact h.1,h.2.2⟩
 ·have hk:=bT m s [] (by simp)
  have hl:=aS m s [] (by simp)
  generalize aF m [] s=t at *
  have ha:∀ b∈t,b.toNat<128:=fun b hb=>by have:=hk b hb; omega
  have hm:t.all (fun b=>mayB b.toNat)=true:=List.all_eq_true.2 fun b hb=>cW _ (hk b hb).1 (hk b hb).2
  refine ⟨?_,?_⟩
  ·rw [(run_ascii shownB t ha).1]
   refine List.all_eq_true.2 fun b hb=>?_
   rw [shown_may,cW _ (hk b hb).1 (hk b hb).2]
   have:=(hk b hb).1
   simp; omega
  ·rw [rs_ascii t ha hm]; simpa using hl
theorem bH {s:List UInt8}(h:runAt shownB s 0=true):∀ x∈s,x≠13:=by
 obtain ⟨cs,rfl,hcs⟩:=wr_of shownB s.length s (Nat.le_refl _) h
 intro x hx
 simp only [wr,List.mem_flatMap] at hx
 obtain ⟨c,hc,hx⟩:=hx
 have h2:=hcs c hc
 rw [shown_may,Bool.and_eq_true,decide_eq_true_eq] at h2
 exact (en_low h2.1 (by omega) x hx).1
theorem dB (s:List UInt8)(m:Nat):bJ (aA s m)=aA s m:=by
 unfold bJ
 rw [List.filter_eq_self]
 intro x hx
 have:=bH (aM s m).1 x hx
 simpa using this
theorem aR (s:List UInt8)(m:Nat):(aA s m).length≤4*m:=by
 have h:=aM s m
 generalize aA s m=t at *
 obtain ⟨h1,h2⟩:=h
 have hm:runAt mayB t 0=true:=by rw [run_shown,Bool.and_eq_true] at h1; exact h1.1
 obtain ⟨cs,rfl,hcs⟩:=wr_of shownB _ _ (Nat.le_refl _) h1
 have hr:=rl_ens [] cs fun c hc=>(hcs c hc).1
 rw [List.append_nil] at hr
 have hl:(rs (wr cs)).length=cs.length:=by
  unfold rs
  rw [if_pos hm,show wr cs=cs.flatMap (fun c:Nat=>en c) from rfl,hr]
  simp [rl_nil]
 rw [hl] at h2
 have:∀ l:List Nat,(wr l).length≤4*l.length:=fun l=>by
  induction l with
  | nil=>simp [wr]
  | cons c l ih=>
   rw [wr_cons,List.length_append,List.length_cons]
   have:=en_len4 (c:Int)
   omega
 have:=this cs
 omega
theorem dL (s:List UInt8):(valF s).length≤2*s.length:=by
  induction s with
  | nil=>simp [valF]
  | cons x s ih=>
    have e:valF (x::s)=escB x++valF s:=by simp [valF]
    rw [e,List.length_append,List.length_cons]
    have : (escB x).length ≤ 2 := by unfold escB; repeat' split
                                     all_goals simp
    omega
end Go.Proofs.Ut
