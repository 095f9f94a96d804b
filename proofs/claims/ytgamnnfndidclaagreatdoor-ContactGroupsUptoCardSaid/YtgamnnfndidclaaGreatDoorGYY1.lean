/- play.Line: a text without signs below 32. -/
import Derived.Test.YtgamnnfndidclaaGreatDoorGYX7
import Derived.Test.YtgamnnfndidclaaGreatDoorGLawJid
import Derived.Test.YtgamnnfndidclaaGreatDoorGYM
open Nat renaming reduceBEq → qA,reduceAdd → qB,reduceSub → qC,reduceLeDiff → qD,reduceMul → qE
open Int renaming reduceLE → qF,reduceLT → qG,reduceNe → qH,reduceToNat → qI
set_option linter.all false
namespace Go.Proofs.Ut
open Go.Ai
set_option maxRecDepth 100000
def qY (s:List UInt8)(m:Nat):Bool:=(rs s).all (fun c=>decide (32≤c))&&(aW bR s 0&&decide ((rs s).length≤m))
def dS (m:Nat):List UInt8→List UInt8→List UInt8
 | out,[]=>out
 | out,x::s=>if out.length<m then dS m (if 32≤x.toNat∧x.toNat<127 then out++[x] else out) s else out
theorem kP (m:Nat):∀ (s out:List UInt8)(x:UInt8),dS m out (s++[x])=if (dS m out s).length<m then (if 32≤x.toNat∧x.toNat<127 then dS m out s++[x] else dS m out s) else dS m out s
 | [],out,x=>by simp only [List.nil_append,dS]; rfl
 | y::s,out,x=>by
  simp only [List.cons_append,dS]
  split
  ·exact kP m s _ x
  ·rfl
theorem mD (m:Nat):∀ (s out:List UInt8),out.length≤m→(dS m out s).length≤m
 | [],out,h=>h
 | y::s,out,h=>by
  unfold dS
  split
  ·refine mD m s _ ?_
   split
   ·simp; omega
   ·exact h
  ·exact h
theorem qX (m:Nat){s:List UInt8}{i:Nat}(h:m≤(dS m [] (s.take i)).length):∀ n,dS m [] (s.take (i+n))=dS m [] (s.take i)
 | 0=>rfl
 | n+1=>by
  have ih:=qX m h n
  rcases Nat.lt_or_ge (i+n) s.length with h2|h2
  ·rw [show i+(n+1)=(i+n)+1 from rfl,dB h2 0,kP,ih,if_neg (by omega)]
  ·rw [List.take_of_length_le (by omega)]
   rwa [List.take_of_length_le h2] at ih
def eZ (s:List UInt8)(m:Nat):List UInt8:=if qY s m=true then s else dS m [] s
theorem aAM (s:List UInt8)(m:Nat)(hs:s.length<100000000000)(hm:m<1000000):aY 25 [.str s,.int .i64 m] (.str (eZ s m)):=by
 have h40:=XT (E:=ED) rfl s m hs
 refine aA c25 (by simp [f25]) ?_
 simp only [f25,↓gos,gop,qA,qB,qC,qD,qE,qF,qG,qH,qI]
 refine aB h40 rfl rfl ?_
 unfold eZ
 have ho:((rs s).all (fun c=>decide (32≤c))&&(aW bR s 0&&decide (((rs s).length:Int)≤(m:Int))))=qY s m:=by
  unfold qY
  have:decide (((rs s).length:Int)≤(m:Int))=decide ((rs s).length≤m):=by simp
  rw [this]
 rw [ho]
 cases qY s m
 ·simp only [Bool.false_eq_true,reduceIte,↓gos,gop,qA,qB,qC,qD,qE,qF,qG,qH,qI]
  refine aM (γ:=Nat) (fun i=>[(6,.int .i64 i),(5,.str (dS m [] (s.take i))),(0,.str s),(1,.int .i64 m)]) (fun _=>[]) (fun i=>i≤s.length) (fun i=>s.length - i) 0
   (wks rfl (by simp) ⟨rfl,rfl,rfl,rfl,trivial⟩) (by omega) fun i hi=>?_
  have hk:=mD m (s.take i) [] (by simp)
  simp only [f25l0,↓gos,gop,qA,qB,qC,qD,qE,qF,qG,qH,qI]
  refine ⟨fun h=>?_,fun h=>?_⟩
  ·have h2:i<s.length:=by omega
   have htk:=dB h2 0
   have hsn:=kP m (s.take i) [] (s.getD i 0)
   have hbt:bt s i=((s.getD i 0).toNat:Int):=rfl
   have hcut:List.take (i+1 - i) (List.drop i s)=[s.getD i 0]:=by
    rw [show i+1 - i=1 by omega,List.getD_eq_getElem?_getD,List.getElem?_eq_getElem h2,List.drop_eq_getElem_cons h2]; rfl
   refine ⟨fun h3=>?_,fun h3=>?_⟩
   ·have h3:(dS m [] (s.take i)).length<m:=by omega
    rw [if_pos h3] at hsn
    refine aO (by omega) ⟨fun h4=>aO (by omega) ⟨fun h5=>?_,fun h5=>?_⟩,fun h4=>?_⟩
    ·rw [hbt] at h4 h5
     rw [if_pos ⟨by omega,by omega⟩] at hsn
     intro v hv
     rw [wrap_i64 (by omega) (by omega)] at hv
     have e:v=((i+1:Nat):Int):=by rw [hv]; rfl
     subst e
     rw [show ((i+1:Nat):Int).toNat=i+1 from rfl,hcut]
     refine aO (by omega) (aO (by omega) (aO (by simp only [List.length_cons,List.length_nil]; omega) ?_))
     intro v hv
     rw [wrap_i64 (by omega) (by omega)] at hv
     have e:v=((i+1:Nat):Int):=by rw [hv]; rfl
     subst e
     refine aQ (i+1) rfl (by simp) ⟨rfl,?_,rfl,rfl,trivial⟩ (by omega) (by omega)
     rw [htk,hsn]; rfl
    ·rw [hbt] at h4 h5
     rw [if_neg (by omega)] at hsn
     intro v hv
     rw [wrap_i64 (by omega) (by omega)] at hv
     have e:v=((i+1:Nat):Int):=by rw [hv]; rfl
     subst e
     refine aQ (i+1) rfl (by simp) ⟨rfl,?_,rfl,rfl,trivial⟩ (by omega) (by omega)
     rw [htk,hsn]; rfl
    ·rw [hbt] at h4
     rw [if_neg (by omega)] at hsn
     intro v hv
     rw [wrap_i64 (by omega) (by omega)] at hv
     have e:v=((i+1:Nat):Int):=by rw [hv]; rfl
     subst e
     refine aQ (i+1) rfl (by simp) ⟨rfl,?_,rfl,rfl,trivial⟩ (by omega) (by omega)
     rw [htk,hsn]; rfl
   ·refine kV ?_
    have hf:=qX m (s:=s) (i:=i) (by omega) (s.length - i)
    rw [show i+(s.length - i)=s.length by omega,List.take_length] at hf
    exact hf.symm
  ·have h2:i=s.length:=by omega
   subst h2
   rw [List.take_length]
   exact kV rfl
 ·simp only [reduceIte,↓gos,gop,qA,qB,qC,qD,qE,qF,qG,qH,qI]
  exact kV rfl
end Go.Proofs.Ut

namespace Go.Ai
def Le (d' d:DV):Prop:=∀ (w:World)(ok:Nat→Prop)(β:Loc)(v:Value),Rep w ok β v d' → Rep w ok β v d
theorem Le.refl (d:DV):Le d d:=fun _ _ _ _ h=>h
theorem VQ {sz:Nat}:Le (.nils sz) (.sl sz []):=fun w ok β v h=>by
 cases h with
 | nils sz hz=>exact .sl none 0 0 sz [] 0 0 (fun _=>.int .i64 0) rfl (Nat.le_refl _) hz (by simp) (fun h=>absurd h (Nat.lt_irrefl _)) (fun k h=>by simp at h) (fun k h=>by simp at h) (fun k d h=>by simp at h)
def LeL (a b:List DV):Prop:=a.length=b.length∧∀ (k:Nat) d' d,a[k]?=some d' → b[k]?=some d→Le d' d
theorem LeL.nil:LeL [] []:=⟨rfl,fun k d' d h=>by simp at h⟩
theorem LeL.cons {x y:DV}{a b:List DV}(h:Le x y)(hs:LeL a b):LeL (x::a) (y::b):=⟨by simp [hs.1],fun k d' d h1 h2=>by
 cases k with
 | zero=>simp at h1 h2; subst h1 h2; exact h
 | succ k=>exact hs.2 k _ _ (by simpa using h1) (by simpa using h2)⟩
theorem LeL.refl:∀ a,LeL a a
 | []=>.nil
 | x::a=>.cons (Le.refl x) (.refl a)
theorem LeL.append {a b:List DV}:∀ {c d:List DV},LeL a b→LeL c d→LeL (a++c) (b++d):=by
 induction a generalizing b with
 | nil=>intro c d h h2; obtain rfl:b=[]:=List.eq_nil_of_length_eq_zero h.1.symm; exact h2
 | cons x a ih=>
  intro c d h h2
  match b,h with
  | [],h=>have:=h.1; simp at this
  | y::b,h=>exact .cons (h.2 0 _ _ rfl rfl) (ih ⟨by have:=h.1; simpa using this,fun k d' d q1 q2=>h.2 (k+1) _ _ (by simpa using q1) (by simpa using q2)⟩ h2)
theorem aEh {sz:Nat}{es' es:List (List DV)}(hl:es'.length=es.length)(hs:∀ e∈es,e.length=sz)(hp:LeL es'.flatten es.flatten):Le (.sl sz es') (.sl sz es):=fun w ok β v h=>by
 cases h with
 | sl A n c sz es0 b x vs hn hnc hsz hes hA hc h1 h=>
  refine .sl A n c sz es b x vs (hn.trans hl) hnc hsz hs hA hc h1 fun k d hd=>?_
  have hk:k<es'.flatten.length:=by rw [hp.1]; exact (List.getElem?_eq_some_iff.1 hd).1
  exact hp.2 k _ _ (List.getElem?_eq_getElem hk) hd _ _ _ _ (h k _ (List.getElem?_eq_getElem hk))
theorem LeL.replicate {a b:List DV}(h:LeL a b):∀ n,LeL (List.replicate n a).flatten (List.replicate n b).flatten
 | 0=>.nil
 | n+1=>by
  simp only [List.replicate_succ,List.flatten_cons]
  exact h.append (.replicate h n)
theorem ACalls.le {E:Env}{f:Nat}{h:List AObj}{args' args:List DV}{post:List AObj→DV→Prop}(hc:ACalls E f h args post)(hl:LeL args' args):ACalls E f h args' post:=
 ⟨hc.1,fun w ok β vs hG hN hH hlen hv=>hc.2 w ok β vs hG hN hH (hlen.trans hl.1) fun i v d h1 h2=>by
  have hi:i<args'.length:=by rw [hl.1]; exact (List.getElem?_eq_some_iff.1 h2).1
  exact hl.2 i _ _ (List.getElem?_eq_getElem hi) h2 _ _ _ _ (hv i v _ h1 (List.getElem?_eq_getElem hi))⟩
end Go.Ai

namespace Go.Proofs.Ut
open Go.Ai
set_option maxRecDepth 100000
def aAo (c:CT):Bool:=[c.name,c.family,c.given,c.nick,c.jid,c.email,c.tel,c.note,c.uid].all (fun s=>decide (s.length<10000))&&decide (c.groups.length<10000)&&c.groups.all (fun s=>decide (s.length<10000))&&decide (c.other.length<10000)&&c.other.all fun p=>decide (wtP p≤50000)
theorem DM {c:CT}(h:aAo c=true):okS c:=by
 simp only [aAo,Bool.and_eq_true,List.all_cons,List.all_nil,decide_eq_true_eq,Bool.and_true] at h
 obtain ⟨⟨⟨⟨⟨h1,h2,h3,h4,h5,h6,h7,h8,h9⟩,h10⟩,h11⟩,h12⟩,h13⟩:=h
 refine ⟨by omega,by omega,by omega,by omega,by omega,by omega,by omega,by omega,by omega,by omega,fun s hs=>?_,by omega,fun p hp=>?_⟩
 ·have:=List.all_eq_true.1 h11 s hs
  simp only [decide_eq_true_eq] at this
  omega
 ·have:=List.all_eq_true.1 h13 p hp
  simpa using this
def UV (l:List PR):Bool:=decide (l.length<1000000)&&l.all (fun p=>decide (p.v.length<10000)&&decide (p.ps.length<10000)&&(!decide (p.n=KNS.getD 6 [])||decide ((aS 44 false [] p.v).length≤12)))&&aAo (ofK l l.length).1
theorem YU {l:List PR}(h:UV l=true):aY 27 [.sl 4 (l.map pv)] (.tup [.agg (ctv (ofR l).1),.int .i64 (ofR l).2]):=by
 simp only [UV,Bool.and_eq_true,decide_eq_true_eq] at h
 obtain ⟨⟨h1,h2⟩,h3⟩:=h
 refine aFa l h1 (fun p hp=>?_) (fun p hp hn=>?_) fun _=>DM h3
 ·have:=List.all_eq_true.1 h2 p hp
  simp only [Bool.and_eq_true,decide_eq_true_eq] at this
  exact ⟨by omega,by omega⟩
 ·have:=List.all_eq_true.1 h2 p hp
  simp only [Bool.and_eq_true,decide_eq_true_eq,Bool.not_eq_true',Bool.or_eq_true,decide_eq_false_iff_not] at this
  exact this.2.elim (fun h=>absurd hn h) id
def pvn (p:PR):List DV:=[.str p.g,.str p.n,.nils 2,.str p.v]
theorem MJ:∀ (l:List PR),(∀ p∈l,p.ps=[])→LeL (l.map pvn).flatten (l.map pv).flatten
 | [],_=>.nil
 | p::l,h=>by
  simp only [List.map_cons,List.flatten_cons]
  refine LeL.append ?_ (MJ l fun q hq=>h q (List.mem_cons_of_mem _ hq))
  have hp:=h p (List.mem_cons_self ..)
  unfold pvn pv
  rw [hp]
  exact .cons (.refl _) (.cons (.refl _) (.cons VQ (.cons (.refl _) .nil)))
theorem MN {l:List PR}{D:DV}(hc:aY 27 [.sl 4 (l.map pv)] D)(h:∀ p∈l,p.ps=[]):aY 27 [.sl 4 (l.map pvn)] D:=
 hc.le (.cons (aEh (by simp) (fun e he=>by obtain ⟨p,_,rfl⟩:=List.mem_map.1 he; rfl) (MJ l h)) .nil)
def awP:List PR:=[⟨[],[70,78],[],[97,92,44,98]⟩,⟨[],[73,77,80,80],[],[120,109,112,112,58,65,64,72]⟩,⟨[],[88],[],[121]⟩]
def awC:CT:={ C0 with name:=[97,44,98],jid:=[97,64,104],other:=[⟨[],[88],[],[121]⟩] }
theorem aAC:ofR awP=(awC,0):=by kernel_rfl
theorem aAx:UV awP=true:=by decide +kernel
theorem JJ:cV awC=true:=by decide +kernel
theorem aAj:okS awC:=DM (by decide +kernel)
theorem UY:aY 28 [] (.bool true):=by
 have h27:=YU aAx
 rw [aAC] at h27
 have h27:=MN h27 (by decide)
 have h35:=DA awC aAj
 rw [JJ] at h35
 refine bQ c28 (by simp [f28]) ?_
 simp only [f28,aG,aD,↓gos,gop,qA,qB,qC,qD,qE,qF,qG,qH,qI]
 refine iS [0] rfl ?_
 simp only [aG,aD,↓gos,gop,qA,qB,qC,qD,qE,qF,qG,qH,qI]
 refine aX h27 rfl rfl ?_
 simp only [ctv,awC,C0,List.map_nil,List.map_cons,pv,aG,aD,↓gos,gop,qA,qB,qC,qD,qE,qF,qG,qH,qI]
 refine aX h35 rfl rfl ?_
 simp only [aG,aD,↓gos,gop,qA,qB,qC,qD,qE,qF,qG,qH,qI]
 exact dF [] rfl rfl ⟨rfl,rfl⟩
def lJ (x:List UInt8):List UInt8:=x.filter fun b => !decide (b=13)
theorem tH:∀ s:List UInt8,plainF (bN s)=some (lJ s)
 | []=>rfl
 | b::s=>by
  have ih:=tH s
  have e:bN (b::s)=lE b++bN s:=by simp [bN]
  rw [e]
  rcases mK b with hb|⟨_,e2,k1,k2,k3,k4,k5⟩
  ·rcases hb with rfl|rfl|rfl|rfl|rfl
   all_goals simp [lE,plainF,zL,ih,lJ]
  ·rw [e2]
   have h1:b≠92:=fun e=>k1 (by rw [e]; rfl)
   have h5:b≠13:=fun e=>k5 (by rw [e]; rfl)
   show plainF (b::bN s)=_
   rw [plainF.eq_def]
   simp only
   rw [if_neg h1,ih]
   simp [lJ,h5]
theorem mT (sep:UInt8)(hsep:sep=44∨sep=59):∀ (s cur rest:List UInt8),aS sep false cur (bN s++rest)=aS sep false (cur++bN s) rest
 | [],cur,rest=>by simp [bN]
 | b::s,cur,rest=>by
  have ih:=fun c=>mT sep hsep s c rest
  have e:bN (b::s)=lE b++bN s:=by simp [bN]
  rw [e,List.append_assoc]
  rcases mK b with hb|⟨_,e2,k1,k2,k3,k4,k5⟩
  ·rcases hb with rfl|rfl|rfl|rfl|rfl <;> rcases hsep with rfl|rfl
   all_goals simp [lE,aS,kQ,ih]
  ·rw [e2]
   have h1:b≠92:=fun e=>k1 (by rw [e]; rfl)
   have h2:b≠sep:=fun e=>by
    rcases hsep with rfl|rfl
    ·exact k2 (by rw [e]; rfl)
    ·exact k3 (by rw [e]; rfl)
   show aS sep false cur (b::(bN s++rest))=_
   rw [aS,if_neg (by simp [h2])]
   have e3:kQ false b=false:=by simp [kQ,h1]
   rw [e3,ih]
   simp
theorem lU:∀ m:Nat,(List.replicate m ([]:List UInt8)).flatten=[]
 | 0=>rfl
 | m+1=>by rw [List.replicate_succ,List.flatten_cons,lU m]; rfl
def l2 (s:List UInt8):List PR:=[⟨[],[70,78],[],[110]⟩,⟨[],[78],[],s⟩]
def Cn:CT:={ C0 with name:=[110] }
theorem sO (m:Nat):∀ (s out:List UInt8),(∀ x∈out,32≤x.toNat∧x.toNat<127)→∀ x∈dS m out s,32≤x.toNat∧x.toNat<127
 | [],out,h=>h
 | y::s,out,h=>by
  unfold dS
  split
  ·refine sO m s _ ?_
   split
   ·rename_i hy
    intro x hx
    rcases List.mem_append.1 hx with hx|hx
    ·exact h x hx
    ·obtain rfl:x=y:=by simpa using hx
     exact hy
   ·exact h
  ·exact h
theorem DP (n:Nat)(h1:32≤n)(h2:n<127):bR (n:Int)=true:=by
 have h3:(32:Int)≤n:=by omega
 have h4:(n:Int)≤65533:=by omega
 simp [bR,cG,h3,h4]
theorem mI (s:List UInt8)(m:Nat):aW cG (eZ s m) 0=true∧(rs (eZ s m)).length≤m:=by
 unfold eZ
 split
 ·rename_i h
  simp only [qY,Bool.and_eq_true,decide_eq_true_eq] at h
  exact ⟨by rw [sU,h.2.1,Bool.true_and]; exact h.1,h.2.2⟩
 ·have hk:=sO m s [] (by simp)
  have hl:=mD m s [] (by simp)
  generalize dS m [] s=t at *
  have ha:∀ b∈t,b.toNat<128:=fun b hb=>by have:=hk b hb; omega
  have hm:t.all (fun b=>bR b.toNat)=true:=List.all_eq_true.2 fun b hb=>DP _ (hk b hb).1 (hk b hb).2
  refine ⟨?_,?_⟩
  ·rw [(mO cG t ha).1]
   refine List.all_eq_true.2 fun b hb=>?_
   rw [mG,DP _ (hk b hb).1 (hk b hb).2]
   have:=(hk b hb).1
   simp; omega
  ·rw [PG t ha hm]; simpa using hl
theorem CW {s:List UInt8}(h:aW cG s 0=true):∀ x∈s,x≠13:=by
 obtain ⟨cs,rfl,hcs⟩:=PN cG s.length s (Nat.le_refl _) h
 intro x hx
 simp only [wr,List.mem_flatMap] at hx
 obtain ⟨c,hc,hx⟩:=hx
 have h2:=hcs c hc
 rw [mG,Bool.and_eq_true,decide_eq_true_eq] at h2
 exact (aCu h2.1 (by omega) x hx).1
theorem GD (s:List UInt8)(m:Nat):lJ (eZ s m)=eZ s m:=by
 unfold lJ
 rw [List.filter_eq_self]
 intro x hx
 have:=CW (mI s m).1 x hx
 simpa using this
theorem zC (s:List UInt8)(m:Nat):(eZ s m).length≤4*m:=by
 have h:=mI s m
 generalize eZ s m=t at *
 obtain ⟨h1,h2⟩:=h
 have hm:aW bR t 0=true:=by rw [sU,Bool.and_eq_true] at h1; exact h1.1
 obtain ⟨cs,rfl,hcs⟩:=PN cG _ _ (Nat.le_refl _) h1
 have hr:=CP [] cs fun c hc=>(hcs c hc).1
 rw [List.append_nil] at hr
 have hl:(rs (wr cs)).length=cs.length:=by
  unfold rs
  rw [if_pos hm,show wr cs=cs.flatMap (fun c:Nat=>en c) from rfl,hr]
  simp [LE]
 rw [hl] at h2
 have:∀ l:List Nat,(wr l).length≤4*l.length:=fun l=>by
  induction l with
  | nil=>simp [wr]
  | cons c l ih=>
   rw [ET,List.length_append,List.length_cons]
   have:=vV (c:Int)
   omega
 have:=this cs
 omega
theorem rU (s:List UInt8):(bN s).length≤2*s.length:=by
  induction s with
  | nil=>simp [bN]
  | cons x s ih=>
    have e:bN (x::s)=lE x++bN s:=by simp [bN]
    rw [e,List.length_append,List.length_cons]
    have : (lE x).length ≤ 2 := by
      unfold lE
      repeat' split
      all_goals simp
    omega
theorem aFT {α:Type}{l:List α}{j:Nat}(h:j<l.length)(d:α):l.take (j+1)=l.take j++[l.getD j d]:=by
 rw [List.getD_eq_getElem?_getD,List.getElem?_eq_getElem h]; simp
end Go.Proofs.Ut
