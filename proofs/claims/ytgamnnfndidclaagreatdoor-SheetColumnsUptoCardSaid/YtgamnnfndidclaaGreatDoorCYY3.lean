/- The document's addresses; play.Jid. -/
import Derived.Test.YtgamnnfndidclaaGreatDoorCYK
import Derived.Test.YtgamnnfndidclaaGreatDoorCLawJid
open Nat renaming reduceBEq → qA,reduceAdd → qB,reduceSub → qC,reduceLeDiff → qD,reduceMul → qE
open Int renaming reduceLE → qF,reduceLT → qG,reduceNe → qH,reduceToNat → qI
set_option linter.all false
namespace Go.Proofs.Ut
open Go.Ai
set_option maxRecDepth 100000
theorem oU (c:UInt8):∀ s:List UInt8,c∉s→cut c s=(s,[],false)
 | [],_=>rfl
 | x::s,h=>by rw [cut,if_neg (fun e=>h (by simp [e])),oU c s (fun q=>h (by simp [q]))]
theorem CD {α:Type}{l:List α}{j:Nat}(h:j<l.length)(d:α):l.take (j+1)=l.take j++[l.getD j d]:=by
 rw [List.getD_eq_getElem?_getD,List.getElem?_eq_getElem h]; simp
theorem VI {α:Type}{l:List α}{j:Nat}(h:j<l.length)(d:α):l=l.take j++l.getD j d::l.drop (j+1):=by
 rw [List.getD_eq_getElem?_getD,List.getElem?_eq_getElem h]; simp
theorem IQ (s:List UInt8)(c:UInt8)(k:Int)(hk:k=c.toNat)(hs:s.length<1000000000):aU 191 [.str s,.int .u8 k] (.tup [.str (cut c s).1,.str (cut c s).2.1,.bool (cut c s).2.2]):=by
 refine aA c191 (by simp [f191]) ?_
 simp only [f191,↓gos,gop,qA,qB,qC,qD,qE,qF,qG,qH,qI]
 refine aJ (γ:=Nat) (fun i=>[(7,.int .i64 i),(0,.str s),(1,.int .u8 k)]) (fun _=>[]) (fun i=>i≤s.length∧c∉s.take i) (fun i=>s.length - i) 0
  (wks rfl (by simp) ⟨rfl,rfl,rfl,trivial⟩) ⟨by omega,by simp⟩ fun i hi=>?_
 obtain ⟨hi,hn⟩:=hi
 have hone:IntKind.i64.wrap ((i:Int)+1)=((i+1:Nat):Int):=by rw [wrap_i64 (by omega) (by omega)]; rfl
 simp only [f191l0,hone,forall_eq,↓gos,gop,qA,qB,qC,qD,qE,qF,qG,qH,qI]
 refine ⟨fun h=>?_,fun h=>?_⟩
 ·have h2:i<s.length:=by omega
  have hbt:bt s i=((s.getD i 0).toNat:Int):=rfl
  refine aK (by omega) ⟨fun h3=>?_,fun h3=>?_⟩
  ·have hc:s.getD i 0=c:=by
    rw [hbt,hk] at h3
    exact UInt8.toNat_inj.1 (by omega)
   have hsp:=VI h2 0
   rw [hc] at hsp
   have hcut:cut c s=(s.take i,s.drop (i+1),true):=by
    conv=>lhs; rw [hsp]
    exact yC c _ _ hn
   rw [hcut]
   repeat (refine aK (by omega) ?_)
   have e:List.take (s.length - (i+1)) (List.drop (i+1) s)=List.drop (i+1) s:=List.take_of_length_le (by simp)
   exact aD rfl ⟨rfl,by simp [rvd,e]⟩
  ·refine aN (i+1) rfl (by simp) ⟨rfl,rfl,rfl,trivial⟩ ⟨by omega,?_⟩ (by omega)
   rw [CD h2 0,List.mem_append,not_or]
   refine ⟨hn,fun q=>h3 ?_⟩
   rw [hbt,hk,← List.mem_singleton.1 q]
 ·have h2:i=s.length:=by omega
  subst h2
  rw [List.take_length] at hn
  rw [oU c s hn]
  exact aD rfl ⟨rfl,rfl⟩
theorem IV {s:List UInt8}(h:s≠[]):s.getLast?=some (s.getD (s.length - 1) 0):=by
 have hp:0<s.length:=List.length_pos_iff.2 h
 rw [List.getLast?_eq_getElem?,List.getD_eq_getElem?_getD,List.getElem?_eq_getElem (by omega:s.length - 1<s.length)]; rfl
theorem aCc {s:List UInt8}(h:s≠[]):s.head?=some (s.getD 0 0):=by
 cases s with
 | nil=>exact absurd rfl h
 | cons x s=>rfl
def aKF (d:List UInt8)(g:Nat×Nat):Prop:=
 (g.1≤d.length∧g.2≤g.1∧46∉(d.drop g.2).take (g.1 - g.2)∧(aR 46 d).all cC=(aR 46 (d.drop g.2)).all cC)∨(g.1=d.length+1∧g.2=d.length+1∧(aR 46 d).all cC=true)
def wK (d:List UInt8):List UInt8×Int:=if kS d=false then ([],14) else (d,0)
theorem UE (d:List UInt8)(h:d.length<1):eK 0 (fun h d_1=>h=[]∧d_1=DV.tup [DV.str (wK d).1,.int .i64 (wK d).2]) (some [.str [],.int .i64 14]) []:=by
 obtain rfl:d=[]:=List.eq_nil_of_length_eq_zero (by omega)
 unfold wK
 rw [MN]; exact aD rfl ⟨rfl,rfl⟩
theorem aDm (d:List UInt8)(h:100<d.length):eK 0 (fun h d_1=>h=[]∧d_1=DV.tup [DV.str (wK d).1,.int .i64 (wK d).2]) (some [.str [],.int .i64 14]) []:=by
 unfold wK
 rw [show kS d=false by unfold kS; rw [decide_eq_false (by omega)]; rfl]
 exact aD rfl ⟨rfl,rfl⟩
theorem MR {x:List UInt8}(h:x≠[]):cC x=(!decide (bt x 0=45) && !decide (bt x (x.length - 1)=45)):=by
 have e:∀ a:UInt8,decide (some a=some (45:UInt8))=decide (((a.toNat:Nat):Int)=45):=fun a=>decide_eq_decide.2 ⟨fun h=>by cases h; rfl,fun h=>congrArg some (UInt8.toNat_inj.1 (Int.ofNat_inj.1 h))⟩
 unfold cC
 rw [decide_eq_false h,aCc h,IV h,e,e]; rfl
theorem wZ {x:List UInt8}{A R:Prop}(hl:x.length≤100)(bad:cC x=false→A)(good:cC x=true→R) :
  (x=[]→A)∧(¬ x=[]→chk (0<(x.length:Int)) ((bt x 0=45→A)∧(¬ bt x 0=45→chk (0≤IntKind.i64.wrap ((x.length:Int) - 1)) (chk (IntKind.i64.wrap ((x.length:Int) - 1)<(x.length:Int))
   ((bt x (IntKind.i64.wrap ((x.length:Int) - 1)).toNat=45→A)∧(¬ bt x (IntKind.i64.wrap ((x.length:Int) - 1)).toNat=45→R)))))):=by
 refine ⟨fun h=>bad (by rw [h]; rfl),fun h=>?_⟩
 have hp:0<x.length:=List.length_pos_iff.2 h
 have ho:=MR h
 have hw:IntKind.i64.wrap ((x.length:Int) - 1)=((x.length - 1:Nat):Int):=by rw [wrap_i64 (by omega) (by omega)]; omega
 refine aK (by omega) ⟨fun h0=>bad (by rw [ho,decide_eq_true h0]; rfl),fun h0=>?_⟩
 rw [hw]
 refine aK (by omega) (aK (by omega) ⟨fun h1=>bad ?_,fun h1=>good ?_⟩)
 ·rw [ho,decide_eq_true (show bt x (x.length - 1)=45 from h1)]; simp
 ·rw [ho,decide_eq_false h0,decide_eq_false (show ¬ bt x (x.length - 1)=45 from h1)]; rfl
theorem AF (d:List UInt8)(hd:d.length≤100)(L:List (Nat×DV))(h7:slots L 7=.int .i64 0)(h6:slots L 6=.int .i64 0)(h5:slots L 5=.int .i64 0)(h4:slots L 4=.str d) :
  goN ED 0 (fin 0 [RV.t 2,RV.t 3] fun h d_1=>h=[]∧d_1=DV.tup [DV.str (wK d).1,.int .i64 (wK d).2])
   [Fr.block 0,Fr.seq ((ACode.region false [{ dst:=some 77,op:=AOp.mov (AX.t 4),guard:=none },{ dst:=some 78,op:=AOp.mov (AX.t 5),guard:=none },{ dst:=some 2,op:=AOp.set (AX.t 77),guard:=none },{ dst:=some 3,op:=AOp.set (AX.t 78),guard:=none }]).seq ACode.ret)]
   f192l0.loop L []:=by
 have hok:wK d=if (aR 46 d).all cC=true then (d,0) else ([],14):=by
  unfold wK kS
  rw [decide_eq_true hd,Bool.true_and]
  cases (aR 46 d).all cC <;> rfl
 rw [hok]
 refine aJ (γ:=Nat×Nat) (fun g=>[(7,.int .i64 g.1),(6,.int .i64 g.2),(5,.int .i64 0),(4,.str d)]) (fun _=>[]) (aKF d) (fun g=>d.length+1 - g.1) (0,0)
  (wks rfl (by simp) ⟨h7,h6,h5,h4,trivial⟩) (.inl ⟨Nat.zero_le _,Nat.le_refl _,by simp,rfl⟩) fun g hg=>?_
 obtain ⟨i,f⟩:=g
 have hb:i≤d.length+1:=by rcases hg with hg | hg <;> omega
 have hone:IntKind.i64.wrap ((i:Int)+1)=((i+1:Nat):Int):=by rw [wrap_i64 (by omega) (by omega)]; rfl
 simp only [f192l0,hone,forall_eq,↓gos,gop,qA,qB,qC,qD,qE,qF,qG,qH,qI]
 refine ⟨fun h=>?_,fun h=>?_⟩
 ·have hg' : i≤d.length∧f≤i∧46∉(d.drop f).take (i - f)∧(aR 46 d).all cC=(aR 46 (d.drop f)).all cC:=by
   rcases hg with hg|hg
   ·exact hg
   ·have:=hg.1; simp only at this; omega
  obtain ⟨hi,hf,hn,hall⟩:=hg'
  have hxl:((d.drop f).take (i - f)).length=i - f:=by simp; omega
  have bad:(aR 46 d).all cC=false→eK 0 (fun h d_1=>h=[]∧d_1=DV.tup [DV.str (if (aR 46 d).all cC=true then (d,(0:Int)) else ([],14)).1,.int .i64 (if (aR 46 d).all cC=true then (d,(0:Int)) else ([],14)).2]) (some [.str [],.int .i64 14]) []:=fun e=>by
   rw [e]; exact aD rfl ⟨rfl,rfl⟩
  refine ⟨fun h1=>?_,fun h1=>?_⟩
  ·have h2:i<d.length:=by omega
   have hbt:bt d i=((d.getD i 0).toNat:Int):=rfl
   refine aK (by omega) ⟨fun h3=>?_,fun h3=>?_⟩
   ·refine aN (i+1,f) rfl (by simp) ⟨rfl,rfl,rfl,rfl,trivial⟩ (.inl ⟨h2,by simp only; omega,?_,hall⟩) (by simp only; omega)
    have e:(d.drop f).take (i+1 - f)=(d.drop f).take (i - f)++[d.getD i 0]:=by
     rw [show i+1 - f=(i - f)+1 by omega,CD (l:=d.drop f) (j:=i - f) (by simp; omega) 0]
     congr 2
     rw [List.getD_eq_getElem?_getD,List.getD_eq_getElem?_getD,List.getElem?_drop,show f+(i - f)=i by omega]
    show 46∉(d.drop f).take (i+1 - f)
    rw [e,List.mem_append,not_or]
    refine ⟨hn,fun q=>h3 ?_⟩
    rw [hbt,← List.mem_singleton.1 q]; rfl
   ·have hx:d.getD i 0=46:=UInt8.toNat_inj.1 (by rw [hbt] at h3; exact Int.ofNat_inj.1 h3)
    have hsp:d.drop f=(d.drop f).take (i - f)++46::d.drop (i+1):=by
     have:=VI (l:=d.drop f) (j:=i - f) (by simp; omega) 0
     rw [List.drop_drop,show f+(i - f+1)=i+1 by omega] at this
     have e:(d.drop f).getD (i - f) 0=46:=by
      rw [List.getD_eq_getElem?_getD,List.getElem?_drop,show f+(i - f)=i by omega,← List.getD_eq_getElem?_getD,hx]
     rw [e] at this; exact this
    have hsl:aR 46 (d.drop f)=(d.drop f).take (i - f)::aR 46 (d.drop (i+1)):=by
     conv=>lhs; rw [hsp]
     exact nE 46 _ _ hn
    rw [hsl,List.all_cons] at hall
    refine aK (by omega) (aK (by omega) (wZ (by omega) (fun e=>bad (by rw [hall,e]; rfl)) fun e=>?_))
    refine aN (i+1,i+1) rfl (by simp) ⟨rfl,rfl,rfl,rfl,trivial⟩ (.inl ⟨h2,Nat.le_refl _,by simp,?_⟩) (by simp only; omega)
    rw [hall,e,Bool.true_and]
  ·have h2:i=d.length:=by omega
   have hsl:aR 46 (d.drop f)=[(d.drop f).take (i - f)]:=by
    have e:(d.drop f).take (i - f)=d.drop f:=List.take_of_length_le (by simp; omega)
    rw [e] at hn ⊢
    exact pQ 46 _ hn
   rw [hsl,List.all_cons,List.all_nil,Bool.and_true] at hall
   refine aK (by omega) (aK (by omega) (wZ (by omega) (fun e=>bad (by rw [hall,e])) fun e=>?_))
   exact aN (i+1,i+1) rfl (by simp) ⟨rfl,rfl,rfl,rfl,trivial⟩ (.inr ⟨by simp only; omega,by simp only; omega,by rw [hall,e]⟩) (by simp only; omega)
 ·have hg' : (aR 46 d).all cC=true:=by
   rcases hg with hg|hg
   ·have:=hg.1; simp only at this; omega
   ·exact hg.2.2
  rw [hg']
  exact aD rfl ⟨rfl,rfl⟩
theorem vP (s:List UInt8)(hs:s.length<100000000)(hr:(bN s).1.length<1000000000):SE 192 [.str s] (dF (bN s)):=by
 refine aA c192 (by simp [f192]) ?_
 simp only [f192,↓gos,gop,qA,qB,qC,qD,qE,qF,qG,qH,qI]
 refine aB (aIE s hs) rfl rfl ?_
 unfold dF
 generalize bN s=x at *
 obtain ⟨t,e⟩:=x
 simp only at hr
 simp only [↓gos,gop,qA,qB,qC,qD,qE,qF,qG,qH,qI]
 refine ⟨fun h=>?_,fun h=>?_⟩
 ·rw [if_pos h]; exact aD rfl ⟨rfl,rfl⟩
 ·obtain rfl:e=0:=by simpa using h
  rw [if_neg (by simp)]
  refine ⟨fun hne=>?_,fun hne=>?_⟩
  ·have hp:0<t.length:=List.length_pos_iff.2 hne
   have hla:=IV hne
   have hbt:bt t (t.length - 1)=((t.getD (t.length - 1) 0).toNat:Int):=rfl
   intro v hv
   rw [wrap_i64 (by omega) (by omega)] at hv
   rw [show v.toNat=t.length - 1 by omega]
   refine aK (by omega) (aK (by omega) ⟨fun h46=>?_,fun h46=>?_⟩)
   ·intro v1 hv1
    rw [wrap_i64 (by omega) (by omega)] at hv1
    rw [show v1.toNat=t.length - 1 by omega]
    refine aK (by omega) (aK (by omega) ?_)
    have hx:t.getD (t.length - 1) 0=46:=UInt8.toNat_inj.1 (by rw [hbt] at h46; exact Int.ofNat_inj.1 h46)
    have hdd:bF t=List.take (t.length - 1) t:=by unfold bF; rw [hla,hx,if_pos rfl,List.dropLast_eq_take]
    rw [hdd]
    have hdl:(List.take (t.length - 1) t).length<1000000000:=by simp; omega
    generalize List.take (t.length - 1) t=d at *
    clear hdd hla hbt hx h46 hv hv1
    exact ⟨fun q=>UE d (by omega),fun q=>⟨fun q2=>aDm d (by omega),fun q2=>AF d (by omega) _ rfl rfl rfl rfl⟩⟩
   ·have hx:t.getD (t.length - 1) 0≠46:=fun e=>h46 (by rw [hbt,e]; rfl)
    have hdd:bF t=t:=by unfold bF; rw [hla,if_neg (fun e=>hx (Option.some.inj e))]
    rw [hdd]
    exact ⟨fun q=>UE t (by omega),fun q=>⟨fun q2=>aDm t (by omega),fun q2=>AF t (by omega) _ rfl rfl rfl rfl⟩⟩
  ·obtain rfl:t=[]:=by simpa using hne
   have hdd:bF []=[]:=rfl
   rw [hdd]
   exact ⟨fun q=>UE [] (by simp),fun q=>absurd (by simp) q⟩
theorem WF (l d:List UInt8)(hl:l.length<1000000000)(hd:d.length<1000000000):aU 151 [.agg [.str l,.str d,.str []]] (.str (if l=[] then d else l++64::d)):=by
 refine aA c151 (by simp [f151]) ?_
 simp only [f151,↓gos,gop,qA,qB,qC,qD,qE,qF,qG,qH,qI]
 refine ⟨fun h=>?_,fun h=>?_⟩
 ·rw [if_neg h]
  refine aK (by omega) (aK (by simp; omega) (gS (by simp)))
 ·rw [if_pos (by simpa using h)]
  exact gS rfl
theorem LI (s:List UInt8)(hs:s.length<100000000):aU 150 [.str s] (.tup [.agg [.str (lU s).l,.str (lU s).d,.str (lU s).r],.int .i64 (lU s).e]):=by
 have hl:=kH 47 s
 have hl2:=kH 64 (cut 47 s).1
 have c1:=IQ s 47 47 rfl (by omega)
 have c2:=IQ (cut 47 s).1 64 64 rfl (by omega)
 have hb:=FT hs
 unfold lU
 generalize cut 47 s=x at *
 obtain ⟨head,res,has⟩:=x
 simp only at *
 generalize cut 64 head=x at *
 obtain ⟨l,d,is⟩:=x
 simp only at *
 have hln:(if is=true then l else []).length≤s.length:=by cases is <;> simp; omega
 have hdn:(if is=true then d else head).length≤s.length:=by cases is <;> simp <;> omega
 refine aA c150 (by simp [f150]) ?_
 simp only [f150,↓gos,gop,qA,qB,qC,qD,qE,qF,qG,qH,qI]
 refine aB c1 rfl rfl ?_
 simp only [↓gos,gop,qA,qB,qC,qD,qE,qF,qG,qH,qI]
 refine aB c2 rfl rfl ?_
 have kf:∀ (x:List UInt8×Int) (b:Bool),x.2≠0→bO x b 64=([],x.2):=fun x b h=>if_pos h
 have kb:∀ (x:List UInt8×Int),x.2=0→(x.1.length<1∨64<x.1.length)→bO x true 64=([],14):=fun x h q=>by
  unfold bO
  rw [if_neg (fun e=>e h),if_pos ⟨rfl,q.imp (fun q=>List.eq_nil_of_length_eq_zero (by omega)) id⟩]
 have kg:∀ (x:List UInt8×Int) (b:Bool),x.2=0→(b=true→1≤x.1.length∧x.1.length≤64)→bO x b 64=x:=fun x b h q=>by
  unfold bO
  rw [if_neg (fun e=>e h),if_neg]
  rintro ⟨rfl,e|e⟩
  ·have:=(q rfl).1; rw [e] at this; simp at this
  ·have:=(q rfl).2; omega
 have h94:=aIg res (by omega)
 have hr3:=(hb res (by omega)).2.2
 cases is
 all_goals simp only [Bool.false_eq_true,if_true,if_false,↓gos,gop,qA,qB,qC,qD,qE,qF,qG,qH,qI]
 ·have h92:=vP head (by omega) (hb head (by omega)).2.1
  have h93:=aDl [] (by simp)
  have hr1:=(hb [] (by simp)).1
  refine aB h92 rfl rfl ?_
  generalize dF (bN head)=D at *
  generalize bY []=N at *
  generalize tE res=R at *
  obtain ⟨D,eD⟩:=D
  obtain ⟨N,eN⟩:=N
  obtain ⟨R,eR⟩:=R
  simp only at hr1 hr3
  simp only [↓gos,gop,qA,qB,qC,qD,qE,qF,qG,qH,qI]
  refine ⟨fun h=>?_,fun h=>?_⟩
  ·unfold bV; rw [if_pos h]; exact aD rfl ⟨rfl,rfl⟩
  ·obtain rfl:eD=0:=by simpa using h
   refine aB h93 rfl rfl ?_
   simp only [↓gos,gop,qA,qB,qC,qD,qE,qF,qG,qH,qI]
   refine ⟨fun h=>?_,fun h=>?_⟩
   ·unfold bV; rw [if_neg (by simp),kf _ _ h,if_pos h]; exact aD rfl ⟨rfl,rfl⟩
   ·obtain rfl:eN=0:=by simpa using h
    rw [kg (N,0) false rfl (by simp)]
    refine aB h94 rfl rfl ?_
    cases has
    all_goals simp only [↓gos,gop,qA,qB,qC,qD,qE,qF,qG,qH,qI]
    ·refine ⟨fun h=>?_,fun h=>?_⟩
     ·unfold bV; rw [if_neg (by simp),if_neg (by simp),kf _ _ h,if_pos h]; exact aD rfl ⟨rfl,rfl⟩
     ·obtain rfl:eR=0:=by simpa using h
      rw [kg (R,0) false rfl (by simp)]
      unfold bV; rw [if_neg (by simp),if_neg (by simp),if_neg (by simp)]; exact aD rfl ⟨rfl,rfl⟩
    ·refine ⟨fun h=>?_,fun h=>?_⟩
     ·unfold bV; rw [if_neg (by simp),if_neg (by simp),kf _ _ h,if_pos h]; exact aD rfl ⟨rfl,rfl⟩
     ·obtain rfl:eR=0:=by simpa using h
      refine ⟨fun q=>?_,fun q=>⟨fun q2=>?_,fun q2=>?_⟩⟩
      ·rw [kb (R,0) rfl (.inl (show R.length<1 by omega))]
       unfold bV; rw [if_neg (by simp),if_neg (by simp),if_pos (by simp)]; exact aD rfl ⟨rfl,rfl⟩
      ·rw [kb (R,0) rfl (.inr (show 64<R.length by omega))]
       unfold bV; rw [if_neg (by simp),if_neg (by simp),if_pos (by simp)]; exact aD rfl ⟨rfl,rfl⟩
      ·rw [kg (R,0) true rfl (fun _=>⟨show 1≤R.length by omega,show R.length≤64 by omega⟩)]
       unfold bV; rw [if_neg (by simp),if_neg (by simp),if_neg (by simp)]; exact aD rfl ⟨rfl,rfl⟩
 ·have h92:=vP d (by omega) (hb d (by omega)).2.1
  have h93:=aDl l (by omega)
  have hr1:=(hb l (by omega)).1
  refine aB h92 rfl rfl ?_
  generalize dF (bN d)=D at *
  generalize bY l=N at *
  generalize tE res=R at *
  obtain ⟨D,eD⟩:=D
  obtain ⟨N,eN⟩:=N
  obtain ⟨R,eR⟩:=R
  simp only at hr1 hr3
  simp only [↓gos,gop,qA,qB,qC,qD,qE,qF,qG,qH,qI]
  refine ⟨fun h=>?_,fun h=>?_⟩
  ·unfold bV; rw [if_pos h]; exact aD rfl ⟨rfl,rfl⟩
  ·obtain rfl:eD=0:=by simpa using h
   refine aB h93 rfl rfl ?_
   simp only [↓gos,gop,qA,qB,qC,qD,qE,qF,qG,qH,qI]
   refine ⟨fun h=>?_,fun h=>?_⟩
   ·unfold bV; rw [if_neg (by simp),kf _ _ h,if_pos h]; exact aD rfl ⟨rfl,rfl⟩
   ·obtain rfl:eN=0:=by simpa using h
    have badN:N.length<1∨64<N.length→bV (bO (N,0) true 64) (D,0) (bO (R,eR) has 64)=⟨[],[],[],14⟩:=fun q=>by
     rw [kb (N,0) rfl q]; unfold bV; rw [if_neg (by simp),if_pos (by simp)]
    refine ⟨fun q=>?_,fun q=>⟨fun q2=>?_,fun q2=>?_⟩⟩
    ·rw [badN (.inl (by omega))]; exact aD rfl ⟨rfl,rfl⟩
    ·rw [badN (.inr (by omega))]; exact aD rfl ⟨rfl,rfl⟩
    rw [kg (N,0) true rfl (fun _=>⟨show 1≤N.length by omega,show N.length≤64 by omega⟩)]
    refine aB h94 rfl rfl ?_
    cases has
    all_goals simp only [↓gos,gop,qA,qB,qC,qD,qE,qF,qG,qH,qI]
    ·refine ⟨fun h=>?_,fun h=>?_⟩
     ·unfold bV; rw [if_neg (by simp),if_neg (by simp),kf _ _ h,if_pos h]; exact aD rfl ⟨rfl,rfl⟩
     ·obtain rfl:eR=0:=by simpa using h
      rw [kg (R,0) false rfl (by simp)]
      unfold bV; rw [if_neg (by simp),if_neg (by simp),if_neg (by simp)]; exact aD rfl ⟨rfl,rfl⟩
    ·refine ⟨fun h=>?_,fun h=>?_⟩
     ·unfold bV; rw [if_neg (by simp),if_neg (by simp),kf _ _ h,if_pos h]; exact aD rfl ⟨rfl,rfl⟩
     ·obtain rfl:eR=0:=by simpa using h
      refine ⟨fun q=>?_,fun q=>⟨fun q2=>?_,fun q2=>?_⟩⟩
      ·rw [kb (R,0) rfl (.inl (show R.length<1 by omega))]
       unfold bV; rw [if_neg (by simp),if_neg (by simp),if_pos (by simp)]; exact aD rfl ⟨rfl,rfl⟩
      ·rw [kb (R,0) rfl (.inr (show 64<R.length by omega))]
       unfold bV; rw [if_neg (by simp),if_neg (by simp),if_pos (by simp)]; exact aD rfl ⟨rfl,rfl⟩
      ·rw [kg (R,0) true rfl (fun _=>⟨show 1≤R.length by omega,show R.length≤64 by omega⟩)]
       unfold bV; rw [if_neg (by simp),if_neg (by simp),if_neg (by simp)]; exact aD rfl ⟨rfl,rfl⟩
theorem RD (s:List UInt8)(hs:s.length<100000000):SE 102 [.str s] (dM s):=by
 have hb:=FT hs
 have hj:=QZ s hb
 have hp:=LI s hs
 rw [CP]
 refine aA c102 (by simp [f102]) ?_
 simp only [f102,↓gos,gop,qA,qB,qC,qD,qE,qF,qG,qH,qI]
 generalize lU s=p at *
 obtain ⟨l,d,r,e⟩:=p
 refine aB hp rfl rfl ?_
 unfold yK
 simp only at *
 simp only [↓gos,gop,qA,qB,qC,qD,qE,qF,qG,qH,qI]
 refine ⟨fun h=>?_,fun h=>?_⟩
 ·subst h
  refine ⟨fun h2=>⟨fun _=>?_,fun q=>absurd q (by decide)⟩,fun h2=>⟨fun q=>absurd rfl q,fun _=>?_⟩⟩
  ·rw [if_neg (by simp),if_pos h2]
   exact aD rfl ⟨rfl,rfl⟩
  ·subst h2
   rw [if_neg (by simp),if_neg (by simp)]
   refine aB (WF l d hj.1 hj.2) rfl rfl ?_
   simp only [↓gos,gop,qA,qB,qC,qD,qE,qF,qG,qH,qI]
   exact aD rfl ⟨rfl,rfl⟩
 ·rw [if_pos h]
  exact ⟨fun _=>aD rfl ⟨rfl,rfl⟩,fun q=>absurd q h⟩
theorem aGt (s:List UInt8):∀ x∈rs s,bQ x=true:=fun x hx=>by
 unfold rs at hx
 split at hx
 ·rename_i h
  rw [← iY,Bool.and_eq_true] at h
  exact List.all_eq_true.1 h.2 x hx
 ·cases hx
theorem UA {L:List Int}:(∀ x∈L,∃ c:Nat,x=c∧okC c)→∃ cs:List Nat,L=cs.map (fun c:Nat=>(c:Int))∧∀ c∈cs,okC c:=by
 induction L with
 | nil=>exact fun _=>⟨[],rfl,by simp⟩
 | cons x L ih=>
  intro h
  obtain ⟨c,rfl,hc⟩:=h x (by simp)
  obtain ⟨cs,rfl,hcs⟩:=ih fun y hy=>h y (by simp [hy])
  exact ⟨c::cs,rfl,by simpa using ⟨hc,hcs⟩⟩
theorem HY {L:List Int}(hL:∀ x∈L,∃ c:Nat,x=c∧okC c)(hm:∀ x∈L,bQ x=true):bC bQ (L.flatMap en) 0=true∧rs (L.flatMap en)=L:=by
 obtain ⟨cs,rfl,hcs⟩:=UA hL
 have e:(cs.map (fun c:Nat=>(c:Int))).flatMap en=cs.flatMap (fun c:Nat=>en c)++[]:=by rw [List.flatMap_map,List.append_nil]
 have r:bC bQ ((cs.map (fun c:Nat=>(c:Int))).flatMap en) 0=true:=by
  rw [e,zY _ _ _ hcs,JU,Bool.and_true,List.all_eq_true]
  exact fun c hc=>hm c (List.mem_map.2 ⟨c,hc,rfl⟩)
 refine ⟨r,?_⟩
 unfold rs
 rw [r,if_pos rfl,e,zN _ _ hcs,HW,List.append_nil]
structure Stay (m:Int→List Int):Prop where
 chr:Chr m
 len:∀ c,(m c).length≤2
 may:∀ c,bQ c=true→∀ x∈m c,bQ x=true
 idem:∀ c,∀ x∈m c,m x=[x]
theorem xB {m:Int→List Int}:∀ L:List Int,(∀ x∈L,m x=[x])→L.flatMap m=L
 | [],_=>rfl
 | x::L,h=>by rw [List.flatMap_cons,h x (by simp),xB L fun y hy=>h y (by simp [hy])]; rfl
theorem tP (c:Int):inR gY c=true↔c=173∨c=847∨c=6150∨(8203≤c∧c≤8205)∨c=8288∨(65024≤c∧c≤65039)∨c=65279:=by
 simp only [inR,gY,prs,fQ,List.any_cons,List.any_nil,Bool.or_false,Bool.or_eq_true,Bool.and_eq_true,decide_eq_true_eq]
 omega
theorem KE {c:Int}(h:¬ (c=173∨c=847∨c=6150∨(8203≤c∧c≤8205)∨c=8288∨(65024≤c∧c≤65039)∨c=65279)):eQ c=[c]:=by
 unfold eQ
 rw [if_neg (fun q=>h ((tP c).1 q))]
theorem uY {c:Int}(h:¬ ((65≤c∧c≤90)∨(192≤c∧c≤222∧c≠215)))(h2:c≠223)(h3:¬ (c=173∨c=847∨c=6150∨(8203≤c∧c≤8205)∨c=8288∨(65024≤c∧c≤65039)∨c=65279)):bR c=[c]:=by
 rw [yY h h2,KE h3]
theorem kept_stay:Stay eQ:=⟨pB,jS,fun c hc x hx=>by
 unfold eQ at hx
 split at hx
 ·cases hx
 ·simp at hx; rw [hx]; exact hc,fun c x hx=>by
 unfold eQ at hx
 split at hx
 ·cases hx
 ·rename_i h
  simp at hx
  subst hx
  exact KE fun q=>h ((tP x).2 q)⟩
theorem UG {c:Int}(h:32≤c∧c≤65533):bQ c=true:=by
 unfold bQ cU
 simp only [Bool.or_eq_true,Bool.and_eq_true,decide_eq_true_eq]
 omega
theorem vN:Stay bR:=⟨mA,fZ,fun c hc x hx=>by
 by_cases h:(65≤c∧c≤90)∨(192≤c∧c≤222∧c≠215)
 ·unfold bR at hx
  rw [if_pos ((dE c).2 h)] at hx
  simp at hx
  exact UG (by omega)
 by_cases h2:c=223
 ·unfold bR at hx
  rw [if_neg (fun q=>h ((dE c).1 q)),if_pos h2] at hx
  simp at hx
  exact UG (by omega)
 ·rw [yY h h2] at hx
  exact kept_stay.may c hc x hx,fun c x hx=>by
 by_cases h:(65≤c∧c≤90)∨(192≤c∧c≤222∧c≠215)
 ·unfold bR at hx
  rw [if_pos ((dE c).2 h)] at hx
  simp at hx
  exact uY (by omega) (by omega) (by omega)
 by_cases h2:c=223
 ·unfold bR at hx
  rw [if_neg (fun q=>h ((dE c).1 q)),if_pos h2] at hx
  simp at hx
  exact uY (by omega) (by omega) (by omega)
 ·rw [yY h h2] at hx
  unfold eQ at hx
  split at hx
  ·cases hx
  ·rename_i h3
   simp at hx
   subst hx
   exact uY h h2 fun q=>h3 ((tP x).2 q)⟩
theorem BZ {m:Int→List Int}(hm:Stay m)(p:Int→Bool)(s:List UInt8)(h:(gV m p s).2=0):∃ L:List Int,(gV m p s).1=L.flatMap en∧(∀ x∈L,∃ c:Nat,x=c∧okC c)∧(∀ x∈L,bQ x=true)∧(∀ x∈L,m x=[x])∧(∀ x∈L,p x=true)∧cH L=true:=by
 have hL:∀ x∈(rs s).flatMap m,∃ c:Nat,x=c∧okC c:=fun x hx=>by
  obtain ⟨y,hy,hx⟩:=List.mem_flatMap.1 hx
  obtain ⟨c,rfl,hc⟩:=JA s y hy
  exact hm.chr c hc x hx
 have hM:∀ x∈(rs s).flatMap m,bQ x=true:=fun x hx=>by
  obtain ⟨y,hy,hx⟩:=List.mem_flatMap.1 hx
  exact hm.may y (aGt s y hy) x hx
 have hI:∀ x∈(rs s).flatMap m,m x=[x]:=fun x hx=>by
  obtain ⟨y,hy,hx⟩:=List.mem_flatMap.1 hx
  exact hm.idem y x hx
 have e:gV m p s=if bC bQ s 0 then (if ((rs s).flatMap m).any (fun c => !p c) then ([],15) else if cH ((rs s).flatMap m) then (((rs s).flatMap m).flatMap en,0) else ([],16)) else ([],3):=rfl
 generalize (rs s).flatMap m=L at *
 rw [e] at h ⊢
 split at h
 ·split at h
  ·cases h
  ·split at h
   ·rename_i h1 h2 h3
    rw [if_pos h1,if_neg h2,if_pos h3]
    refine ⟨L,rfl,hL,hM,hI,fun x hx=>?_,h3⟩
    cases hp:p x
    ·exact absurd (List.any_eq_true.2 ⟨x,hx,by simp [hp]⟩) h2
    ·rfl
   ·cases h
 ·cases h
theorem KT {m:Int→List Int}(p:Int→Bool){L:List Int}(hL:∀ x∈L,∃ c:Nat,x=c∧okC c)(hM:∀ x∈L,bQ x=true)(hI:∀ x∈L,m x=[x])(hp:∀ x∈L,p x=true)(hs:cH L=true):gV m p (L.flatMap en)=(L.flatMap en,0):=by
 obtain ⟨w1,w2⟩:=HY hL hM
 unfold gV
 rw [w2,xB L hI,w1,if_pos rfl,if_neg,if_pos hs]
 intro q
 obtain ⟨x,hx,hq⟩:=List.any_eq_true.1 q
 rw [hp x hx] at hq; cases hq
theorem KO {c:Nat}(h:okC c){b:UInt8}(hb:b.toNat<128)(hm:b∈en (c:Int)):c=b.toNat:=by
 rw [mQ h] at hm
 have hu:∀ n,n<256→(UInt8.ofNat n).toNat=n:=fun n hn=>by simp [UInt8.toNat_ofNat',Nat.mod_eq_of_lt hn]
 unfold okC at h
 split at hm
 ·have e:=List.mem_singleton.1 hm
  rw [e,hu c (by omega)]
 ·split at hm
  ·simp only [List.mem_cons,List.not_mem_nil,or_false] at hm
   rcases hm with e|e <;> rw [e,hu _ (by omega)] at hb <;> omega
  ·split at hm
   ·simp only [List.mem_cons,List.not_mem_nil,or_false] at hm
    rcases hm with e|e|e <;> rw [e,hu _ (by omega)] at hb <;> omega
   ·simp only [List.mem_cons,List.not_mem_nil,or_false] at hm
    rcases hm with e|e|e|e <;> rw [e,hu _ (by omega)] at hb <;> omega
theorem sM {L:List Int}(hL:∀ x∈L,∃ c:Nat,x=c∧okC c){b:UInt8}(hb:b.toNat<128)(hm:b∈L.flatMap en):(b.toNat:Int)∈L:=by
 obtain ⟨x,hx,hm⟩:=List.mem_flatMap.1 hm
 obtain ⟨c,rfl,hc⟩:=hL x hx
 rwa [KO hc hb hm] at hx
theorem NB (s:List UInt8)(h:(bN s).2=0):bN (bF (bN s).1)=(bF (bN s).1,0)∧47∉bF (bN s).1∧64∉bF (bN s).1:=by
 obtain ⟨L,e,hL,hM,hI,hp,hs⟩:=BZ vN kV s h
 have e' : (bN s).1=L.flatMap en:=e
 rw [e']
 have key:∀ L:List Int,(∀ x∈L,∃ c:Nat,x=c∧okC c)→(∀ x∈L,bQ x=true)→(∀ x∈L,bR x=[x])→(∀ x∈L,kV x=true)→cH L=true→bN (L.flatMap en)=(L.flatMap en,0)∧47∉L.flatMap en∧64∉L.flatMap en:=fun L hL hM hI hp hs=>by
  refine ⟨KT kV hL hM hI hp hs,fun q=>?_,fun q=>?_⟩
  ·have:=hp _ (sM hL (by decide) q)
   exact absurd this (by decide +kernel)
  ·have:=hp _ (sM hL (by decide) q)
   exact absurd this (by decide +kernel)
 unfold bF
 split
 ·rename_i hd
  rcases List.eq_nil_or_concat L with rfl|⟨L',x,rfl⟩
  ·simp at hd
  rw [List.concat_eq_append] at *
  have hx46:x=46:=by
   obtain ⟨c,rfl,hc⟩:=hL x (by simp)
   have h1:=(yS hc).1
   have hne:en (c:Int)≠[]:=fun q=>by rw [q] at h1; simp at h1
   rw [List.flatMap_append,List.flatMap_cons,List.flatMap_nil,List.append_nil] at hd
   have hd2:(en (c:Int)).getLast?=some 46:=by
    rcases List.eq_nil_or_concat (en (c:Int)) with q|⟨u,y,q⟩
    ·exact absurd q hne
    ·rw [List.concat_eq_append] at q
     rw [q,← List.append_assoc,List.getLast?_concat] at hd
     rw [q,List.getLast?_concat,hd]
   have:=KO hc (b:=46) (by decide) (List.mem_of_getLast? hd2)
   rw [this]; rfl
  subst hx46
  have he:en 46=[46]:=by decide +kernel
  have hdl:((L' ++ [46]).flatMap en).dropLast=L'.flatMap en:=by
   rw [List.flatMap_append,List.flatMap_cons,List.flatMap_nil,List.append_nil,he,List.dropLast_concat]
  rw [hdl]
  refine key L' (fun x hx=>hL x (by simp [hx])) (fun x hx=>hM x (by simp [hx])) (fun x hx=>hI x (by simp [hx])) (fun x hx=>hp x (by simp [hx])) ?_
  have h46:eG 46=false:=by decide +kernel
  unfold cH at hs ⊢
  have hlast:(L' ++ [46]).getD ((L' ++ [46]).length - 1) 0=46:=by simp [List.getD_eq_getElem?_getD]
  rw [hlast,h46] at hs
  cases hq:L'.any eG
  ·simp
  ·rw [List.any_append,hq] at hs; simp at hs
 ·exact key L hL hM hI hp hs
theorem MJ (s:List UInt8)(h:(bY s).2=0):bY (bY s).1=((bY s).1,0)∧47∉(bY s).1∧64∉(bY s).1:=by
 obtain ⟨L,e,hL,hM,hI,hp,hs⟩:=BZ vN lT s h
 have e' : (bY s).1=L.flatMap en:=e
 rw [e']
 refine ⟨KT lT hL hM hI hp hs,fun q=>?_,fun q=>?_⟩
 ·have:=hp _ (sM hL (by decide) q)
  exact absurd this (by decide +kernel)
 ·have:=hp _ (sM hL (by decide) q)
  exact absurd this (by decide +kernel)
theorem tW (c:UInt8):∀ d:List UInt8,2≤(aR c (d++[c])).length∧(aR c (d++[c])).getLast?=some []
 | []=>by simp [aR]
 | z::d=>by
  have ih:=tW c d
  rw [List.cons_append,aR]
  split
  ·refine ⟨by rw [List.length_cons]; omega,?_⟩
   rw [List.getLast?_cons,ih.2]; rfl
  ·split
   ·rename_i e; exact absurd e (nM c _)
   ·rename_i u v e
    rw [e] at ih
    refine ⟨by simpa using ih.1,?_⟩
    cases v with
    | nil=>simp at ih
    | cons w v=>simpa [List.getLast?_cons] using ih.2
theorem NT {d:List UInt8}(h:kS d=true):bF d=d:=by
 unfold bF
 split
 ·rename_i hd
  exfalso
  rcases List.eq_nil_or_concat d with rfl|⟨d',x,rfl⟩
  ·simp at hd
  rw [List.concat_eq_append] at *
  obtain rfl:x=46:=by simpa using hd
  unfold kS at h
  rw [Bool.and_eq_true,List.all_eq_true] at h
  have:=h.2 _ (List.mem_of_getLast? (tW 46 d').2)
  simp [cC] at this
 ·rfl
theorem aBN {l d:List UInt8}(d1:47∉d)(d2:64∉d)(d3:dF (bN d)=(d,0))(hl:l≠[]→47∉l∧64∉l∧l.length≤64∧bY l=(l,0)) :
  dM (if l=[] then d else l++64::d)=(if l=[] then d else l++64::d,0):=by
 have n0:bY []=([],0):=by decide +kernel
 have r0:tE []=([],0):=by decide +kernel
 by_cases h:l=[]
 ·subst h
  rw [if_pos rfl]
  unfold dM
  rw [oU 47 d d1]
  simp only
  rw [oU 64 d d2]
  simp only [Bool.false_eq_true,if_false]
  rw [d3,n0,r0]
  simp [iI,bO]
 ·obtain ⟨l1,l2,l3,l4⟩:=hl h
  rw [if_neg h]
  have h47:47∉l++64::d:=by simp [l1,d1]
  have h64:¬ 64<l.length:=by omega
  unfold dM
  rw [oU 47 _ h47]
  simp only
  rw [yC 64 l d l2]
  simp only [if_true]
  rw [d3,l4,r0]
  simp [iI,bO,h,h64]
theorem LX (s:List UInt8)(h:(dM s).2=0):dM (dM s).1=((dM s).1,0)∧(dM s).1.length≤200:=by
 obtain ⟨y,is,x,R,e,hy⟩:∃ y is x R,dM s=iI (bO (bY y) is 64) (dF (bN x)) R∧(is=false→y=[]):=⟨_,_,_,_,rfl,fun q=>by rw [q]; rfl⟩
 rw [e] at h ⊢
 have hD:(dF (bN x)).2=0:=Classical.byContradiction fun q=>by rw [iI,if_pos q] at h; exact q h
 have hD' : ¬ (dF (bN x)).2≠0:=fun q=>q hD
 have hL:(bO (bY y) is 64).2=0:=Classical.byContradiction fun q=>by rw [iI,if_neg hD',if_pos q] at h; exact q h
 have hL' : ¬ (bO (bY y) is 64).2≠0:=fun q=>q hL
 have hR:R.2=0:=Classical.byContradiction fun q=>by rw [iI,if_neg hD',if_neg hL',if_pos q] at h; exact q h
 have hR' : ¬ R.2≠0:=fun q=>q hR
 have hR1:R.1=[]:=Classical.byContradiction fun q=>by rw [iI,if_neg hD',if_neg hL',if_neg hR',if_pos q] at h; cases h
 have hv:iI (bO (bY y) is 64) (dF (bN x)) R=(if (bO (bY y) is 64).1=[] then (dF (bN x)).1 else (bO (bY y) is 64).1++64::(dF (bN x)).1,0):=by
  rw [iI,if_neg hD',if_neg hL',if_neg hR',if_neg (fun q=>q hR1)]
 rw [hv]
 have hh:(bN x).2=0:=Classical.byContradiction fun q=>by rw [dF,if_pos q] at hD; exact q hD
 have hh' : ¬ (bN x).2≠0:=fun q=>q hh
 have ho:kS (bF (bN x).1)=true:=by
  cases q:kS (bF (bN x).1)
  ·rw [dF,if_neg hh',if_pos q] at hD; cases hD
  ·rfl
 have hd1:dF (bN x)=(bF (bN x).1,0):=by rw [dF,if_neg hh',if_neg (by rw [ho]; decide)]
 obtain ⟨k1,k2,k3⟩:=NB x hh
 have k4:dF (bN (bF (bN x).1))=(bF (bN x).1,0):=by
  rw [k1,dF,if_neg (fun q=>q rfl),NT ho,if_neg (by rw [ho]; decide)]
 have k5:(bF (bN x).1).length≤100:=by
  unfold kS at ho; rw [Bool.and_eq_true,decide_eq_true_eq] at ho; exact ho.1
 rw [hd1]
 generalize bF (bN x).1=d at *
 have hn:(bY y).2=0:=Classical.byContradiction fun q=>by rw [bO,if_pos q] at hL; exact q hL
 have hn' : ¬ (bY y).2≠0:=fun q=>q hn
 have hno:¬ (is=true∧((bY y).1=[]∨64<(bY y).1.length)):=fun q=>by rw [bO,if_neg hn',if_pos q] at hL; cases hL
 have hk:bO (bY y) is 64=bY y:=by rw [bO,if_neg hn',if_neg hno]
 rw [hk]
 have n0:bY []=([],0):=by decide +kernel
 have hlen:(bY y).1.length≤64:=by
  cases is
  ·rw [hy rfl,n0]; simp
  ·rcases Nat.lt_or_ge 64 (bY y).1.length with q|q
   ·exact absurd ⟨rfl,.inr q⟩ hno
   ·exact q
 obtain ⟨m1,m2,m3⟩:=MJ y hn
 refine ⟨aBN k2 k3 k4 fun _=>⟨m2,m3,hlen,m1⟩,?_⟩
 simp only
 split
 ·omega
 ·simp only [List.length_append,List.length_cons]; omega
def nX (x:List UInt8):List (List UInt8)→List (List UInt8)
 | []=>[x]
 | y::r=>if Op.bytesLess y x=true then y::nX x r else if y=x then y::r else x::y::r
def gK (x:List UInt8):List (List UInt8)→Nat
 | []=>0
 | y::r=>if Op.bytesLess y x=true then gK x r+1 else 0
def gin (out:List (List UInt8))(x:List UInt8):List (List UInt8):=if x=[] then out else nX x out
def dD (l:List (List UInt8)):List (List UInt8):=l.foldl gin []
theorem aDz (x:List UInt8):∀ (out:List (List UInt8))(k:Nat),(∀ j,j<k→Op.bytesLess (out.getD j []) x=true)→k≤out.length→(k=out.length∨Op.bytesLess (out.getD k []) x=false)→gK x out=k
 | [],k,_,h2,_=>by simp at h2; subst h2; rfl
 | y::r,k,h1,h2,h3=>by
  unfold gK
  cases k with
  | zero=>
   rcases h3 with h3|h3
   ·simp at h3
   ·have h4:Op.bytesLess y x=false:=h3
    rw [if_neg (by rw [h4]; decide)]
  | succ k=>
   have h4:Op.bytesLess y x=true:=h1 0 (by omega)
   rw [if_pos h4,aDz x r k (fun j hj=>h1 (j+1) (by omega)) (by simpa using h2) (by simpa using h3)]
theorem QB (x:List UInt8):∀ out:List (List UInt8),nX x out=if gK x out<out.length∧out.getD (gK x out) []=x then out else out.take (gK x out)++(x::out.drop (gK x out))
 | []=>by simp [nX,gK]
 | y::r=>by
  have ih:=QB x r
  unfold nX gK
  by_cases h:Op.bytesLess y x=true
  ·rw [if_pos h,if_pos h,ih]
   simp only [List.length_cons,List.getD_cons_succ,List.take_succ_cons,List.drop_succ_cons,Nat.add_lt_add_iff_right]
   split
   ·rfl
   ·rfl
  ·rw [if_neg h,if_neg h]
   by_cases h2:y=x
   ·rw [if_pos h2,if_pos ⟨by simp,h2⟩]
   ·rw [if_neg h2,if_neg (fun q=>h2 q.2)]; rfl
theorem sK (x:List UInt8):∀ (out:List (List UInt8))(z:List UInt8),z∈nX x out→z=x∨z∈out
 | [],z,h=>by simp [nX] at h; exact .inl h
 | y::r,z,h=>by
  unfold nX at h
  split at h
  ·rcases List.mem_cons.1 h with h|h
   ·exact .inr (by simp [h])
   ·rcases sK x r z h with h|h
    ·exact .inl h
    ·exact .inr (by simp [h])
  ·split at h
   ·exact .inr h
   ·rcases List.mem_cons.1 h with h|h
    ·exact .inl h
    ·exact .inr h
theorem IS (x:List UInt8):∀ out:List (List UInt8),(nX x out).length≤out.length+1
 | []=>by simp [nX]
 | y::r=>by
  have:=IS x r
  unfold nX
  split
  ·simp only [List.length_cons]; omega
  ·split <;> simp
theorem TZ (x:List UInt8):∀ {out:List (List UInt8)},St2 Op.bytesLess out→St2 Op.bytesLess (nX x out)
 | [],_=>List.pairwise_singleton _ _
 | y::r,h=>by
  obtain ⟨h1,h2⟩:=List.pairwise_cons.1 h
  unfold nX
  split
  ·rename_i hy
   refine List.pairwise_cons.2 ⟨fun z hz=>?_,TZ x h2⟩
   rcases sK x r z hz with rfl|hz
   ·exact hy
   ·exact h1 z hz
  ·rename_i hy
   split
   ·exact h
   ·rename_i hne
    have hyx:Op.bytesLess y x=false:=by cases q:Op.bytesLess y x <;> simp_all
    have hxy:Op.bytesLess x y=true:=by
     cases q:Op.bytesLess x y
     ·exact absurd (AA x y hyx q).symm hne
     ·rfl
    refine List.pairwise_cons.2 ⟨fun z hz=>?_,h⟩
    rcases List.mem_cons.1 hz with rfl|hz
    ·exact hxy
    ·cases q:Op.bytesLess x z
     ·have:=RO z x y q hyx
      rw [h1 z hz] at this; cases this
     ·rfl
theorem tF (l:List (List UInt8)):St2 Op.bytesLess (dD l)∧(dD l).length≤l.length∧∀ x∈dD l,x∈l∧x≠[]:=by
 have key:∀ (l out:List (List UInt8)),St2 Op.bytesLess out→(∀ x∈out,x≠[])→St2 Op.bytesLess (l.foldl gin out)∧(l.foldl gin out).length≤out.length+l.length∧∀ x∈l.foldl gin out,(x∈out∨x∈l)∧x≠[]:=fun l=>by
  induction l with
  | nil=>exact fun out h1 h2=>⟨h1,by simp,fun x hx=>⟨.inl hx,h2 x hx⟩⟩
  | cons y l ih=>
   intro out h1 h2
   rw [List.foldl_cons]
   unfold gin
   split
   ·obtain ⟨a,b,c⟩:=ih out h1 h2
    exact ⟨a,by simp only [List.length_cons]; unfold gin at b; omega,fun x hx=>⟨(c x hx).1.imp id fun q=>by simp [q],(c x hx).2⟩⟩
   ·rename_i hy
    obtain ⟨a,b,c⟩:=ih (nX y out) (TZ y h1) fun x hx=>(sK y out x hx).elim (fun e=>e▸hy) (h2 x)
    have:=IS y out
    refine ⟨a,by simp only [List.length_cons]; unfold gin at b; omega,fun x hx=>⟨?_,(c x hx).2⟩⟩
    rcases (c x hx).1 with q|q
    ·rcases sK y out x q with e|e
     ·exact .inr (by simp [e])
     ·exact .inl e
    ·exact .inr (by simp [q])
 obtain ⟨a,b,c⟩:=key l [] .nil (by simp)
 exact ⟨a,by have b' : (dD l).length≤0+l.length:=b; omega,fun x hx=>⟨(c x hx).1.resolve_left (by simp),(c x hx).2⟩⟩
theorem GB {l:List (List UInt8)}(h:St2 Op.bytesLess l)(h8:l.length≤8)(hl:∀ x∈l,x≠[]∧fM x=true):eB l=true:=by
 unfold eB
 rw [Bool.and_eq_true,Bool.and_eq_true]
 refine ⟨⟨?_,decide_eq_true h8⟩,List.all_eq_true.2 fun x hx=>(hl x hx).2⟩
 unfold aAV
 refine List.all_eq_true.2 fun i hi=>?_
 have hi:i<l.length:=by simpa using hi
 have hm:l.getD i []∈l:=by rw [List.getD_eq_getElem?_getD,List.getElem?_eq_getElem hi]; exact List.getElem_mem hi
 unfold BG
 rw [decide_eq_false (hl _ hm).1,Bool.not_false,Bool.true_and]
 rcases Nat.eq_zero_or_pos i with h0|h0
 ·rw [decide_eq_true h0]; rfl
 ·have hlt:Op.bytesLess (l.getD (i - 1) []) (l.getD i [])=true:=by
   have:=List.pairwise_iff_getElem.1 h (i - 1) i (by omega) hi (by omega)
   simp only [List.getD_eq_getElem?_getD,List.getElem?_eq_getElem hi,List.getElem?_eq_getElem (show i - 1<l.length by omega)]
   exact this
  have hne:l.getD i []≠l.getD (i - 1) []:=fun e=>by rw [e,bl_tot.irr] at hlt; cases hlt
  rw [zX _ _ hlt,decide_eq_false hne]; simp
end Go.Proofs.Ut
