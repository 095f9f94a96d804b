/- The document's addresses; play.Jid. -/
import Derived.Test.YtgamnnfndidclaaGreatDoorBYK
import Derived.Test.YtgamnnfndidclaaGreatDoorBLawJid
open Nat renaming reduceBEq → qA,reduceAdd → qB,reduceSub → qC,reduceLeDiff → qD,reduceMul → qE
open Int renaming reduceLE → qF,reduceLT → qG,reduceNe → qH,reduceToNat → qI
set_option linter.all false
namespace Go.Proofs.Ut
open Go.Ai
set_option maxRecDepth 100000
theorem cut_non (c:UInt8):∀ s:List UInt8,c∉s→cut c s=(s,[],false)
 | [],_=>rfl
 | x::s,h=>by rw [cut,if_neg (fun e=>h (by simp [e])),cut_non c s (fun q=>h (by simp [q]))]
theorem takeC {α:Type}{l:List α}{j:Nat}(h:j<l.length)(d:α):l.take (j+1)=l.take j++[l.getD j d]:=by
 rw [List.getD_eq_getElem?_getD,List.getElem?_eq_getElem h]; simp
theorem splitC {α:Type}{l:List α}{j:Nat}(h:j<l.length)(d:α):l=l.take j++l.getD j d::l.drop (j+1):=by
 rw [List.getD_eq_getElem?_getD,List.getElem?_eq_getElem h]; simp
theorem rcut191 (s:List UInt8)(c:UInt8)(k:Int)(hk:k=c.toNat)(hs:s.length<1000000000):DRet 191 [.str s,.int .u8 k] (.tup [.str (cut c s).1,.str (cut c s).2.1,.bool (cut c s).2.2]):=by
 refine acalls_go c191 (by simp [f191]) ?_
 simp only [f191,↓gos,gop,qA,qB,qC,qD,qE,qF,qG,qH,qI]
 refine goN_lp (γ:=Nat) (fun i=>[(7,.int .i64 i),(0,.str s),(1,.int .u8 k)]) (fun _=>[]) (fun i=>i≤s.length∧c∉s.take i) (fun i=>s.length - i) 0
  (wks rfl (by simp) ⟨rfl,rfl,rfl,trivial⟩) ⟨by omega,by simp⟩ fun i hi=>?_
 obtain ⟨hi,hn⟩:=hi
 have hone:IntKind.i64.wrap ((i:Int)+1)=((i+1:Nat):Int):=by rw [wrap_i64 (by omega) (by omega)]; rfl
 simp only [f191l0,hone,forall_eq,↓gos,gop,qA,qB,qC,qD,qE,qF,qG,qH,qI]
 refine ⟨fun h=>?_,fun h=>?_⟩
 ·have h2:i<s.length:=by omega
  have hbt:bt s i=((s.getD i 0).toNat:Int):=rfl
  refine chk_i (by omega) ⟨fun h3=>?_,fun h3=>?_⟩
  ·have hc:s.getD i 0=c:=by
    rw [hbt,hk] at h3
    exact UInt8.toNat_inj.1 (by omega)
   have hsp:=splitC h2 0
   rw [hc] at hsp
   have hcut:cut c s=(s.take i,s.drop (i+1),true):=by
    conv=>lhs; rw [hsp]
    exact cut_app c _ _ hn
   rw [hcut]
   repeat (refine chk_i (by omega) ?_)
   have e:List.take (s.length - (i+1)) (List.drop (i+1) s)=List.drop (i+1) s:=List.take_of_length_le (by simp)
   exact finE_closed rfl ⟨rfl,by simp [rvd,e]⟩
  ·refine rnd_s (i+1) rfl (by simp) ⟨rfl,rfl,rfl,trivial⟩ ⟨by omega,?_⟩ (by omega)
   rw [takeC h2 0,List.mem_append,not_or]
   refine ⟨hn,fun q=>h3 ?_⟩
   rw [hbt,hk,← List.mem_singleton.1 q]
 ·have h2:i=s.length:=by omega
  subst h2
  rw [List.take_length] at hn
  rw [cut_non c s hn]
  exact finE_closed rfl ⟨rfl,rfl⟩
theorem last_at {s:List UInt8}(h:s≠[]):s.getLast?=some (s.getD (s.length - 1) 0):=by
 have hp:0<s.length:=List.length_pos_iff.2 h
 rw [List.getLast?_eq_getElem?,List.getD_eq_getElem?_getD,List.getElem?_eq_getElem (by omega:s.length - 1<s.length)]; rfl
theorem head_at {s:List UInt8}(h:s≠[]):s.head?=some (s.getD 0 0):=by
 cases s with
 | nil=>exact absurd rfl h
 | cons x s=>rfl
def domI (d:List UInt8)(g:Nat×Nat):Prop:=
 (g.1≤d.length∧g.2≤g.1∧46∉(d.drop g.2).take (g.1 - g.2)∧(splitL 46 d).all okPart=(splitL 46 (d.drop g.2)).all okPart)∨(g.1=d.length+1∧g.2=d.length+1∧(splitL 46 d).all okPart=true)
def domD (d:List UInt8):List UInt8×Int:=if okDom d=false then ([],14) else (d,0)
theorem dom_0 (d:List UInt8)(h:d.length<1):finE 0 (fun h d_1=>h=[]∧d_1=DV.tup [DV.str (domD d).1,.int .i64 (domD d).2]) (some [.str [],.int .i64 14]) []:=by
 obtain rfl:d=[]:=List.eq_nil_of_length_eq_zero (by omega)
 unfold domD
 rw [okDom_nil]; exact finE_closed rfl ⟨rfl,rfl⟩
theorem dom_1 (d:List UInt8)(h:100<d.length):finE 0 (fun h d_1=>h=[]∧d_1=DV.tup [DV.str (domD d).1,.int .i64 (domD d).2]) (some [.str [],.int .i64 14]) []:=by
 unfold domD
 rw [show okDom d=false by unfold okDom; rw [decide_eq_false (by omega)]; rfl]
 exact finE_closed rfl ⟨rfl,rfl⟩
theorem okPart_at {x:List UInt8}(h:x≠[]):okPart x=(!decide (bt x 0=45) && !decide (bt x (x.length - 1)=45)):=by
 have e:∀ a:UInt8,decide (some a=some (45:UInt8))=decide (((a.toNat:Nat):Int)=45):=fun a=>decide_eq_decide.2 ⟨fun h=>by cases h; rfl,fun h=>congrArg some (UInt8.toNat_inj.1 (Int.ofNat_inj.1 h))⟩
 unfold okPart
 rw [decide_eq_false h,head_at h,last_at h,e,e]; rfl
theorem part_walk {x:List UInt8}{A R:Prop}(hl:x.length≤100)(bad:okPart x=false→A)(good:okPart x=true→R) :
  (x=[]→A)∧(¬ x=[]→chk (0<(x.length:Int)) ((bt x 0=45→A)∧(¬ bt x 0=45→chk (0≤IntKind.i64.wrap ((x.length:Int) - 1)) (chk (IntKind.i64.wrap ((x.length:Int) - 1)<(x.length:Int))
   ((bt x (IntKind.i64.wrap ((x.length:Int) - 1)).toNat=45→A)∧(¬ bt x (IntKind.i64.wrap ((x.length:Int) - 1)).toNat=45→R)))))):=by
 refine ⟨fun h=>bad (by rw [h]; rfl),fun h=>?_⟩
 have hp:0<x.length:=List.length_pos_iff.2 h
 have ho:=okPart_at h
 have hw:IntKind.i64.wrap ((x.length:Int) - 1)=((x.length - 1:Nat):Int):=by rw [wrap_i64 (by omega) (by omega)]; omega
 refine chk_i (by omega) ⟨fun h0=>bad (by rw [ho,decide_eq_true h0]; rfl),fun h0=>?_⟩
 rw [hw]
 refine chk_i (by omega) (chk_i (by omega) ⟨fun h1=>bad ?_,fun h1=>good ?_⟩)
 ·rw [ho,decide_eq_true (show bt x (x.length - 1)=45 from h1)]; simp
 ·rw [ho,decide_eq_false h0,decide_eq_false (show ¬ bt x (x.length - 1)=45 from h1)]; rfl
theorem dom_tail (d:List UInt8)(hd:d.length≤100)(L:List (Nat×DV))(h7:slots L 7=.int .i64 0)(h6:slots L 6=.int .i64 0)(h5:slots L 5=.int .i64 0)(h4:slots L 4=.str d) :
  goN ED 0 (fin 0 [RV.t 2,RV.t 3] fun h d_1=>h=[]∧d_1=DV.tup [DV.str (domD d).1,.int .i64 (domD d).2])
   [Fr.block 0,Fr.seq ((ACode.region false [{ dst:=some 77,op:=AOp.mov (AX.t 4),guard:=none },{ dst:=some 78,op:=AOp.mov (AX.t 5),guard:=none },{ dst:=some 2,op:=AOp.set (AX.t 77),guard:=none },{ dst:=some 3,op:=AOp.set (AX.t 78),guard:=none }]).seq ACode.ret)]
   f192l0.loop L []:=by
 have hok:domD d=if (splitL 46 d).all okPart=true then (d,0) else ([],14):=by
  unfold domD okDom
  rw [decide_eq_true hd,Bool.true_and]
  cases (splitL 46 d).all okPart <;> rfl
 rw [hok]
 refine goN_lp (γ:=Nat×Nat) (fun g=>[(7,.int .i64 g.1),(6,.int .i64 g.2),(5,.int .i64 0),(4,.str d)]) (fun _=>[]) (domI d) (fun g=>d.length+1 - g.1) (0,0)
  (wks rfl (by simp) ⟨h7,h6,h5,h4,trivial⟩) (.inl ⟨Nat.zero_le _,Nat.le_refl _,by simp,rfl⟩) fun g hg=>?_
 obtain ⟨i,f⟩:=g
 have hb:i≤d.length+1:=by rcases hg with hg | hg <;> omega
 have hone:IntKind.i64.wrap ((i:Int)+1)=((i+1:Nat):Int):=by rw [wrap_i64 (by omega) (by omega)]; rfl
 simp only [f192l0,hone,forall_eq,↓gos,gop,qA,qB,qC,qD,qE,qF,qG,qH,qI]
 refine ⟨fun h=>?_,fun h=>?_⟩
 ·have hg' : i≤d.length∧f≤i∧46∉(d.drop f).take (i - f)∧(splitL 46 d).all okPart=(splitL 46 (d.drop f)).all okPart:=by
   rcases hg with hg|hg
   ·exact hg
   ·have:=hg.1; simp only at this; omega
  obtain ⟨hi,hf,hn,hall⟩:=hg'
  have hxl:((d.drop f).take (i - f)).length=i - f:=by simp; omega
  have bad:(splitL 46 d).all okPart=false→finE 0 (fun h d_1=>h=[]∧d_1=DV.tup [DV.str (if (splitL 46 d).all okPart=true then (d,(0:Int)) else ([],14)).1,.int .i64 (if (splitL 46 d).all okPart=true then (d,(0:Int)) else ([],14)).2]) (some [.str [],.int .i64 14]) []:=fun e=>by
   rw [e]; exact finE_closed rfl ⟨rfl,rfl⟩
  refine ⟨fun h1=>?_,fun h1=>?_⟩
  ·have h2:i<d.length:=by omega
   have hbt:bt d i=((d.getD i 0).toNat:Int):=rfl
   refine chk_i (by omega) ⟨fun h3=>?_,fun h3=>?_⟩
   ·refine rnd_s (i+1,f) rfl (by simp) ⟨rfl,rfl,rfl,rfl,trivial⟩ (.inl ⟨h2,by simp only; omega,?_,hall⟩) (by simp only; omega)
    have e:(d.drop f).take (i+1 - f)=(d.drop f).take (i - f)++[d.getD i 0]:=by
     rw [show i+1 - f=(i - f)+1 by omega,takeC (l:=d.drop f) (j:=i - f) (by simp; omega) 0]
     congr 2
     rw [List.getD_eq_getElem?_getD,List.getD_eq_getElem?_getD,List.getElem?_drop,show f+(i - f)=i by omega]
    show 46∉(d.drop f).take (i+1 - f)
    rw [e,List.mem_append,not_or]
    refine ⟨hn,fun q=>h3 ?_⟩
    rw [hbt,← List.mem_singleton.1 q]; rfl
   ·have hx:d.getD i 0=46:=UInt8.toNat_inj.1 (by rw [hbt] at h3; exact Int.ofNat_inj.1 h3)
    have hsp:d.drop f=(d.drop f).take (i - f)++46::d.drop (i+1):=by
     have:=splitC (l:=d.drop f) (j:=i - f) (by simp; omega) 0
     rw [List.drop_drop,show f+(i - f+1)=i+1 by omega] at this
     have e:(d.drop f).getD (i - f) 0=46:=by
      rw [List.getD_eq_getElem?_getD,List.getElem?_drop,show f+(i - f)=i by omega,← List.getD_eq_getElem?_getD,hx]
     rw [e] at this; exact this
    have hsl:splitL 46 (d.drop f)=(d.drop f).take (i - f)::splitL 46 (d.drop (i+1)):=by
     conv=>lhs; rw [hsp]
     exact splitL_app 46 _ _ hn
    rw [hsl,List.all_cons] at hall
    refine chk_i (by omega) (chk_i (by omega) (part_walk (by omega) (fun e=>bad (by rw [hall,e]; rfl)) fun e=>?_))
    refine rnd_s (i+1,i+1) rfl (by simp) ⟨rfl,rfl,rfl,rfl,trivial⟩ (.inl ⟨h2,Nat.le_refl _,by simp,?_⟩) (by simp only; omega)
    rw [hall,e,Bool.true_and]
  ·have h2:i=d.length:=by omega
   have hsl:splitL 46 (d.drop f)=[(d.drop f).take (i - f)]:=by
    have e:(d.drop f).take (i - f)=d.drop f:=List.take_of_length_le (by simp; omega)
    rw [e] at hn ⊢
    exact splitL_no 46 _ hn
   rw [hsl,List.all_cons,List.all_nil,Bool.and_true] at hall
   refine chk_i (by omega) (chk_i (by omega) (part_walk (by omega) (fun e=>bad (by rw [hall,e])) fun e=>?_))
   exact rnd_s (i+1,i+1) rfl (by simp) ⟨rfl,rfl,rfl,rfl,trivial⟩ (.inr ⟨by simp only; omega,by simp only; omega,by rw [hall,e]⟩) (by simp only; omega)
 ·have hg' : (splitL 46 d).all okPart=true:=by
   rcases hg with hg|hg
   ·have:=hg.1; simp only at this; omega
   ·exact hg.2.2
  rw [hg']
  exact finE_closed rfl ⟨rfl,rfl⟩
theorem rdomain192 (s:List UInt8)(hs:s.length<100000000)(hr:(hostR s).1.length<1000000000):SE 192 [.str s] (domOf (hostR s)):=by
 refine acalls_go c192 (by simp [f192]) ?_
 simp only [f192,↓gos,gop,qA,qB,qC,qD,qE,qF,qG,qH,qI]
 refine call_ret (ref29 s hs) rfl rfl ?_
 unfold domOf
 generalize hostR s=x at *
 obtain ⟨t,e⟩:=x
 simp only at hr
 simp only [↓gos,gop,qA,qB,qC,qD,qE,qF,qG,qH,qI]
 refine ⟨fun h=>?_,fun h=>?_⟩
 ·rw [if_pos h]; exact finE_closed rfl ⟨rfl,rfl⟩
 ·obtain rfl:e=0:=by simpa using h
  rw [if_neg (by simp)]
  refine ⟨fun hne=>?_,fun hne=>?_⟩
  ·have hp:0<t.length:=List.length_pos_iff.2 hne
   have hla:=last_at hne
   have hbt:bt t (t.length - 1)=((t.getD (t.length - 1) 0).toNat:Int):=rfl
   intro v hv
   rw [wrap_i64 (by omega) (by omega)] at hv
   rw [show v.toNat=t.length - 1 by omega]
   refine chk_i (by omega) (chk_i (by omega) ⟨fun h46=>?_,fun h46=>?_⟩)
   ·intro v1 hv1
    rw [wrap_i64 (by omega) (by omega)] at hv1
    rw [show v1.toNat=t.length - 1 by omega]
    refine chk_i (by omega) (chk_i (by omega) ?_)
    have hx:t.getD (t.length - 1) 0=46:=UInt8.toNat_inj.1 (by rw [hbt] at h46; exact Int.ofNat_inj.1 h46)
    have hdd:dropDot t=List.take (t.length - 1) t:=by unfold dropDot; rw [hla,hx,if_pos rfl,List.dropLast_eq_take]
    rw [hdd]
    have hdl:(List.take (t.length - 1) t).length<1000000000:=by simp; omega
    generalize List.take (t.length - 1) t=d at *
    clear hdd hla hbt hx h46 hv hv1
    exact ⟨fun q=>dom_0 d (by omega),fun q=>⟨fun q2=>dom_1 d (by omega),fun q2=>dom_tail d (by omega) _ rfl rfl rfl rfl⟩⟩
   ·have hx:t.getD (t.length - 1) 0≠46:=fun e=>h46 (by rw [hbt,e]; rfl)
    have hdd:dropDot t=t:=by unfold dropDot; rw [hla,if_neg (fun e=>hx (Option.some.inj e))]
    rw [hdd]
    exact ⟨fun q=>dom_0 t (by omega),fun q=>⟨fun q2=>dom_1 t (by omega),fun q2=>dom_tail t (by omega) _ rfl rfl rfl rfl⟩⟩
  ·obtain rfl:t=[]:=by simpa using hne
   have hdd:dropDot []=[]:=rfl
   rw [hdd]
   exact ⟨fun q=>dom_0 [] (by simp),fun q=>absurd (by simp) q⟩
theorem rtext151 (l d:List UInt8)(hl:l.length<1000000000)(hd:d.length<1000000000):DRet 151 [.agg [.str l,.str d,.str []]] (.str (if l=[] then d else l++64::d)):=by
 refine acalls_go c151 (by simp [f151]) ?_
 simp only [f151,↓gos,gop,qA,qB,qC,qD,qE,qF,qG,qH,qI]
 refine ⟨fun h=>?_,fun h=>?_⟩
 ·rw [if_neg h]
  refine chk_i (by omega) (chk_i (by simp; omega) (ends (by simp)))
 ·rw [if_pos (by simpa using h)]
  exact ends rfl
theorem rparse150 (s:List UInt8)(hs:s.length<100000000):DRet 150 [.str s] (.tup [.agg [.str (jidR s).l,.str (jidR s).d,.str (jidR s).r],.int .i64 (jidR s).e]):=by
 have hl:=cut_len 47 s
 have hl2:=cut_len 64 (cut 47 s).1
 have c1:=rcut191 s 47 47 rfl (by omega)
 have c2:=rcut191 (cut 47 s).1 64 64 rfl (by omega)
 have hb:=okJ_of hs
 unfold jidR
 generalize cut 47 s=x at *
 obtain ⟨head,res,has⟩:=x
 simp only at *
 generalize cut 64 head=x at *
 obtain ⟨l,d,is⟩:=x
 simp only at *
 have hln:(if is=true then l else []).length≤s.length:=by cases is <;> simp; omega
 have hdn:(if is=true then d else head).length≤s.length:=by cases is <;> simp <;> omega
 refine acalls_go c150 (by simp [f150]) ?_
 simp only [f150,↓gos,gop,qA,qB,qC,qD,qE,qF,qG,qH,qI]
 refine call_ret c1 rfl rfl ?_
 simp only [↓gos,gop,qA,qB,qC,qD,qE,qF,qG,qH,qI]
 refine call_ret c2 rfl rfl ?_
 have kf:∀ (x:List UInt8×Int) (b:Bool),x.2≠0→keptOf x b 64=([],x.2):=fun x b h=>if_pos h
 have kb:∀ (x:List UInt8×Int),x.2=0→(x.1.length<1∨64<x.1.length)→keptOf x true 64=([],14):=fun x h q=>by
  unfold keptOf
  rw [if_neg (fun e=>e h),if_pos ⟨rfl,q.imp (fun q=>List.eq_nil_of_length_eq_zero (by omega)) id⟩]
 have kg:∀ (x:List UInt8×Int) (b:Bool),x.2=0→(b=true→1≤x.1.length∧x.1.length≤64)→keptOf x b 64=x:=fun x b h q=>by
  unfold keptOf
  rw [if_neg (fun e=>e h),if_neg]
  rintro ⟨rfl,e|e⟩
  ·have:=(q rfl).1; rw [e] at this; simp at this
  ·have:=(q rfl).2; omega
 have h94:=ref31 res (by omega)
 have hr3:=(hb res (by omega)).2.2
 cases is
 all_goals simp only [Bool.false_eq_true,if_true,if_false,↓gos,gop,qA,qB,qC,qD,qE,qF,qG,qH,qI]
 ·have h92:=rdomain192 head (by omega) (hb head (by omega)).2.1
  have h93:=ref27 [] (by simp)
  have hr1:=(hb [] (by simp)).1
  refine call_ret h92 rfl rfl ?_
  generalize domOf (hostR head)=D at *
  generalize nodeR []=N at *
  generalize resR res=R at *
  obtain ⟨D,eD⟩:=D
  obtain ⟨N,eN⟩:=N
  obtain ⟨R,eR⟩:=R
  simp only at hr1 hr3
  simp only [↓gos,gop,qA,qB,qC,qD,qE,qF,qG,qH,qI]
  refine ⟨fun h=>?_,fun h=>?_⟩
  ·unfold parseOf; rw [if_pos h]; exact finE_closed rfl ⟨rfl,rfl⟩
  ·obtain rfl:eD=0:=by simpa using h
   refine call_ret h93 rfl rfl ?_
   simp only [↓gos,gop,qA,qB,qC,qD,qE,qF,qG,qH,qI]
   refine ⟨fun h=>?_,fun h=>?_⟩
   ·unfold parseOf; rw [if_neg (by simp),kf _ _ h,if_pos h]; exact finE_closed rfl ⟨rfl,rfl⟩
   ·obtain rfl:eN=0:=by simpa using h
    rw [kg (N,0) false rfl (by simp)]
    refine call_ret h94 rfl rfl ?_
    cases has
    all_goals simp only [↓gos,gop,qA,qB,qC,qD,qE,qF,qG,qH,qI]
    ·refine ⟨fun h=>?_,fun h=>?_⟩
     ·unfold parseOf; rw [if_neg (by simp),if_neg (by simp),kf _ _ h,if_pos h]; exact finE_closed rfl ⟨rfl,rfl⟩
     ·obtain rfl:eR=0:=by simpa using h
      rw [kg (R,0) false rfl (by simp)]
      unfold parseOf; rw [if_neg (by simp),if_neg (by simp),if_neg (by simp)]; exact finE_closed rfl ⟨rfl,rfl⟩
    ·refine ⟨fun h=>?_,fun h=>?_⟩
     ·unfold parseOf; rw [if_neg (by simp),if_neg (by simp),kf _ _ h,if_pos h]; exact finE_closed rfl ⟨rfl,rfl⟩
     ·obtain rfl:eR=0:=by simpa using h
      refine ⟨fun q=>?_,fun q=>⟨fun q2=>?_,fun q2=>?_⟩⟩
      ·rw [kb (R,0) rfl (.inl (show R.length<1 by omega))]
       unfold parseOf; rw [if_neg (by simp),if_neg (by simp),if_pos (by simp)]; exact finE_closed rfl ⟨rfl,rfl⟩
      ·rw [kb (R,0) rfl (.inr (show 64<R.length by omega))]
       unfold parseOf; rw [if_neg (by simp),if_neg (by simp),if_pos (by simp)]; exact finE_closed rfl ⟨rfl,rfl⟩
      ·rw [kg (R,0) true rfl (fun _=>⟨show 1≤R.length by omega,show R.length≤64 by omega⟩)]
       unfold parseOf; rw [if_neg (by simp),if_neg (by simp),if_neg (by simp)]; exact finE_closed rfl ⟨rfl,rfl⟩
 ·have h92:=rdomain192 d (by omega) (hb d (by omega)).2.1
  have h93:=ref27 l (by omega)
  have hr1:=(hb l (by omega)).1
  refine call_ret h92 rfl rfl ?_
  generalize domOf (hostR d)=D at *
  generalize nodeR l=N at *
  generalize resR res=R at *
  obtain ⟨D,eD⟩:=D
  obtain ⟨N,eN⟩:=N
  obtain ⟨R,eR⟩:=R
  simp only at hr1 hr3
  simp only [↓gos,gop,qA,qB,qC,qD,qE,qF,qG,qH,qI]
  refine ⟨fun h=>?_,fun h=>?_⟩
  ·unfold parseOf; rw [if_pos h]; exact finE_closed rfl ⟨rfl,rfl⟩
  ·obtain rfl:eD=0:=by simpa using h
   refine call_ret h93 rfl rfl ?_
   simp only [↓gos,gop,qA,qB,qC,qD,qE,qF,qG,qH,qI]
   refine ⟨fun h=>?_,fun h=>?_⟩
   ·unfold parseOf; rw [if_neg (by simp),kf _ _ h,if_pos h]; exact finE_closed rfl ⟨rfl,rfl⟩
   ·obtain rfl:eN=0:=by simpa using h
    have badN:N.length<1∨64<N.length→parseOf (keptOf (N,0) true 64) (D,0) (keptOf (R,eR) has 64)=⟨[],[],[],14⟩:=fun q=>by
     rw [kb (N,0) rfl q]; unfold parseOf; rw [if_neg (by simp),if_pos (by simp)]
    refine ⟨fun q=>?_,fun q=>⟨fun q2=>?_,fun q2=>?_⟩⟩
    ·rw [badN (.inl (by omega))]; exact finE_closed rfl ⟨rfl,rfl⟩
    ·rw [badN (.inr (by omega))]; exact finE_closed rfl ⟨rfl,rfl⟩
    rw [kg (N,0) true rfl (fun _=>⟨show 1≤N.length by omega,show N.length≤64 by omega⟩)]
    refine call_ret h94 rfl rfl ?_
    cases has
    all_goals simp only [↓gos,gop,qA,qB,qC,qD,qE,qF,qG,qH,qI]
    ·refine ⟨fun h=>?_,fun h=>?_⟩
     ·unfold parseOf; rw [if_neg (by simp),if_neg (by simp),kf _ _ h,if_pos h]; exact finE_closed rfl ⟨rfl,rfl⟩
     ·obtain rfl:eR=0:=by simpa using h
      rw [kg (R,0) false rfl (by simp)]
      unfold parseOf; rw [if_neg (by simp),if_neg (by simp),if_neg (by simp)]; exact finE_closed rfl ⟨rfl,rfl⟩
    ·refine ⟨fun h=>?_,fun h=>?_⟩
     ·unfold parseOf; rw [if_neg (by simp),if_neg (by simp),kf _ _ h,if_pos h]; exact finE_closed rfl ⟨rfl,rfl⟩
     ·obtain rfl:eR=0:=by simpa using h
      refine ⟨fun q=>?_,fun q=>⟨fun q2=>?_,fun q2=>?_⟩⟩
      ·rw [kb (R,0) rfl (.inl (show R.length<1 by omega))]
       unfold parseOf; rw [if_neg (by simp),if_neg (by simp),if_pos (by simp)]; exact finE_closed rfl ⟨rfl,rfl⟩
      ·rw [kb (R,0) rfl (.inr (show 64<R.length by omega))]
       unfold parseOf; rw [if_neg (by simp),if_neg (by simp),if_pos (by simp)]; exact finE_closed rfl ⟨rfl,rfl⟩
      ·rw [kg (R,0) true rfl (fun _=>⟨show 1≤R.length by omega,show R.length≤64 by omega⟩)]
       unfold parseOf; rw [if_neg (by simp),if_neg (by simp),if_neg (by simp)]; exact finE_closed rfl ⟨rfl,rfl⟩
theorem rbare102 (s:List UInt8)(hs:s.length<100000000):SE 102 [.str s] (bareR s):=by
 have hb:=okJ_of hs
 have hj:=jid_le s hb
 have hp:=rparse150 s hs
 rw [bare_jid]
 refine acalls_go c102 (by simp [f102]) ?_
 simp only [f102,↓gos,gop,qA,qB,qC,qD,qE,qF,qG,qH,qI]
 generalize jidR s=p at *
 obtain ⟨l,d,r,e⟩:=p
 refine call_ret hp rfl rfl ?_
 unfold bareR'
 simp only at *
 simp only [↓gos,gop,qA,qB,qC,qD,qE,qF,qG,qH,qI]
 refine ⟨fun h=>?_,fun h=>?_⟩
 ·subst h
  refine ⟨fun h2=>⟨fun _=>?_,fun q=>absurd q (by decide)⟩,fun h2=>⟨fun q=>absurd rfl q,fun _=>?_⟩⟩
  ·rw [if_neg (by simp),if_pos h2]
   exact finE_closed rfl ⟨rfl,rfl⟩
  ·subst h2
   rw [if_neg (by simp),if_neg (by simp)]
   refine call_ret (rtext151 l d hj.1 hj.2) rfl rfl ?_
   simp only [↓gos,gop,qA,qB,qC,qD,qE,qF,qG,qH,qI]
   exact finE_closed rfl ⟨rfl,rfl⟩
 ·rw [if_pos h]
  exact ⟨fun _=>finE_closed rfl ⟨rfl,rfl⟩,fun q=>absurd q h⟩
theorem rs_may (s:List UInt8):∀ x∈rs s,mayB x=true:=fun x hx=>by
 unfold rs at hx
 split at hx
 ·rename_i h
  rw [← valid_runAt,Bool.and_eq_true] at h
  exact List.all_eq_true.1 h.2 x hx
 ·cases hx
theorem chars_of {L:List Int}:(∀ x∈L,∃ c:Nat,x=c∧okC c)→∃ cs:List Nat,L=cs.map (fun c:Nat=>(c:Int))∧∀ c∈cs,okC c:=by
 induction L with
 | nil=>exact fun _=>⟨[],rfl,by simp⟩
 | cons x L ih=>
  intro h
  obtain ⟨c,rfl,hc⟩:=h x (by simp)
  obtain ⟨cs,rfl,hcs⟩:=ih fun y hy=>h y (by simp [hy])
  exact ⟨c::cs,rfl,by simpa using ⟨hc,hcs⟩⟩
theorem rs_written {L:List Int}(hL:∀ x∈L,∃ c:Nat,x=c∧okC c)(hm:∀ x∈L,mayB x=true):runAt mayB (L.flatMap en) 0=true∧rs (L.flatMap en)=L:=by
 obtain ⟨cs,rfl,hcs⟩:=chars_of hL
 have e:(cs.map (fun c:Nat=>(c:Int))).flatMap en=cs.flatMap (fun c:Nat=>en c)++[]:=by rw [List.flatMap_map,List.append_nil]
 have r:runAt mayB ((cs.map (fun c:Nat=>(c:Int))).flatMap en) 0=true:=by
  rw [e,run_ens _ _ _ hcs,run_nil,Bool.and_true,List.all_eq_true]
  exact fun c hc=>hm c (List.mem_map.2 ⟨c,hc,rfl⟩)
 refine ⟨r,?_⟩
 unfold rs
 rw [r,if_pos rfl,e,rl_ens _ _ hcs,rl_nil,List.append_nil]
structure Stay (m:Int→List Int):Prop where
 chr:Chr m
 len:∀ c,(m c).length≤2
 may:∀ c,mayB c=true→∀ x∈m c,mayB x=true
 idem:∀ c,∀ x∈m c,m x=[x]
theorem flat_idem {m:Int→List Int}:∀ L:List Int,(∀ x∈L,m x=[x])→L.flatMap m=L
 | [],_=>rfl
 | x::L,h=>by rw [List.flatMap_cons,h x (by simp),flat_idem L fun y hy=>h y (by simp [hy])]; rfl
theorem gone_iff (c:Int):inR goneL c=true↔c=173∨c=847∨c=6150∨(8203≤c∧c≤8205)∨c=8288∨(65024≤c∧c≤65039)∨c=65279:=by
 simp only [inR,goneL,prs,hasB,List.any_cons,List.any_nil,Bool.or_false,Bool.or_eq_true,Bool.and_eq_true,decide_eq_true_eq]
 omega
theorem kept_eq {c:Int}(h:¬ (c=173∨c=847∨c=6150∨(8203≤c∧c≤8205)∨c=8288∨(65024≤c∧c≤65039)∨c=65279)):keptL c=[c]:=by
 unfold keptL
 rw [if_neg (fun q=>h ((gone_iff c).1 q))]
theorem small_eq {c:Int}(h:¬ ((65≤c∧c≤90)∨(192≤c∧c≤222∧c≠215)))(h2:c≠223)(h3:¬ (c=173∨c=847∨c=6150∨(8203≤c∧c≤8205)∨c=8288∨(65024≤c∧c≤65039)∨c=65279)):smallL c=[c]:=by
 rw [smallK h h2,kept_eq h3]
theorem kept_stay:Stay keptL:=⟨kept_chr,kept_len,fun c hc x hx=>by
 unfold keptL at hx
 split at hx
 ·cases hx
 ·simp at hx; rw [hx]; exact hc,fun c x hx=>by
 unfold keptL at hx
 split at hx
 ·cases hx
 ·rename_i h
  simp at hx
  subst hx
  exact kept_eq fun q=>h ((gone_iff x).2 q)⟩
theorem may_of {c:Int}(h:32≤c∧c≤65533):mayB c=true:=by
 unfold mayB shownB
 simp only [Bool.or_eq_true,Bool.and_eq_true,decide_eq_true_eq]
 omega
theorem small_stay:Stay smallL:=⟨small_chr,small_len,fun c hc x hx=>by
 by_cases h:(65≤c∧c≤90)∨(192≤c∧c≤222∧c≠215)
 ·unfold smallL at hx
  rw [if_pos ((capB_iff c).2 h)] at hx
  simp at hx
  exact may_of (by omega)
 by_cases h2:c=223
 ·unfold smallL at hx
  rw [if_neg (fun q=>h ((capB_iff c).1 q)),if_pos h2] at hx
  simp at hx
  exact may_of (by omega)
 ·rw [smallK h h2] at hx
  exact kept_stay.may c hc x hx,fun c x hx=>by
 by_cases h:(65≤c∧c≤90)∨(192≤c∧c≤222∧c≠215)
 ·unfold smallL at hx
  rw [if_pos ((capB_iff c).2 h)] at hx
  simp at hx
  exact small_eq (by omega) (by omega) (by omega)
 by_cases h2:c=223
 ·unfold smallL at hx
  rw [if_neg (fun q=>h ((capB_iff c).1 q)),if_pos h2] at hx
  simp at hx
  exact small_eq (by omega) (by omega) (by omega)
 ·rw [smallK h h2] at hx
  unfold keptL at hx
  split at hx
  ·cases hx
  ·rename_i h3
   simp at hx
   subst hx
   exact small_eq h h2 fun q=>h3 ((gone_iff x).2 q)⟩
theorem prep_out {m:Int→List Int}(hm:Stay m)(p:Int→Bool)(s:List UInt8)(h:(prepR m p s).2=0):∃ L:List Int,(prepR m p s).1=L.flatMap en∧(∀ x∈L,∃ c:Nat,x=c∧okC c)∧(∀ x∈L,mayB x=true)∧(∀ x∈L,m x=[x])∧(∀ x∈L,p x=true)∧straightB L=true:=by
 have hL:∀ x∈(rs s).flatMap m,∃ c:Nat,x=c∧okC c:=fun x hx=>by
  obtain ⟨y,hy,hx⟩:=List.mem_flatMap.1 hx
  obtain ⟨c,rfl,hc⟩:=rs_ok s y hy
  exact hm.chr c hc x hx
 have hM:∀ x∈(rs s).flatMap m,mayB x=true:=fun x hx=>by
  obtain ⟨y,hy,hx⟩:=List.mem_flatMap.1 hx
  exact hm.may y (rs_may s y hy) x hx
 have hI:∀ x∈(rs s).flatMap m,m x=[x]:=fun x hx=>by
  obtain ⟨y,hy,hx⟩:=List.mem_flatMap.1 hx
  exact hm.idem y x hx
 have e:prepR m p s=if runAt mayB s 0 then (if ((rs s).flatMap m).any (fun c => !p c) then ([],15) else if straightB ((rs s).flatMap m) then (((rs s).flatMap m).flatMap en,0) else ([],16)) else ([],3):=rfl
 generalize (rs s).flatMap m=L at *
 rw [e] at h ⊢
 split at h
 ·split at h
  ·cases h
  ·split at h
   ·rename_i h1 h2 h3
    rw [if_pos h1,if_neg h2,if_pos h3]
    refine ⟨L,rfl,hL,hM,hI,fun x hx=>?_,h3⟩
    cases hp:p x
    ·exact absurd (List.any_eq_true.2 ⟨x,hx,by simp [hp]⟩) h2
    ·rfl
   ·cases h
 ·cases h
theorem prep_in {m:Int→List Int}(p:Int→Bool){L:List Int}(hL:∀ x∈L,∃ c:Nat,x=c∧okC c)(hM:∀ x∈L,mayB x=true)(hI:∀ x∈L,m x=[x])(hp:∀ x∈L,p x=true)(hs:straightB L=true):prepR m p (L.flatMap en)=(L.flatMap en,0):=by
 obtain ⟨w1,w2⟩:=rs_written hL hM
 unfold prepR
 rw [w2,flat_idem L hI,w1,if_pos rfl,if_neg,if_pos hs]
 intro q
 obtain ⟨x,hx,hq⟩:=List.any_eq_true.1 q
 rw [hp x hx] at hq; cases hq
theorem en_byte {c:Nat}(h:okC c){b:UInt8}(hb:b.toNat<128)(hm:b∈en (c:Int)):c=b.toNat:=by
 rw [en_eq h] at hm
 have hu:∀ n,n<256→(UInt8.ofNat n).toNat=n:=fun n hn=>by simp [UInt8.toNat_ofNat',Nat.mod_eq_of_lt hn]
 unfold okC at h
 split at hm
 ·have e:=List.mem_singleton.1 hm
  rw [e,hu c (by omega)]
 ·split at hm
  ·simp only [List.mem_cons,List.not_mem_nil,or_false] at hm
   rcases hm with e|e <;> rw [e,hu _ (by omega)] at hb <;> omega
  ·split at hm
   ·simp only [List.mem_cons,List.not_mem_nil,or_false] at hm
    rcases hm with e|e|e <;> rw [e,hu _ (by omega)] at hb <;> omega
   ·simp only [List.mem_cons,List.not_mem_nil,or_false] at hm
    rcases hm with e|e|e|e <;> rw [e,hu _ (by omega)] at hb <;> omega
theorem byte_in {L:List Int}(hL:∀ x∈L,∃ c:Nat,x=c∧okC c){b:UInt8}(hb:b.toNat<128)(hm:b∈L.flatMap en):(b.toNat:Int)∈L:=by
 obtain ⟨x,hx,hm⟩:=List.mem_flatMap.1 hm
 obtain ⟨c,rfl,hc⟩:=hL x hx
 rwa [en_byte hc hb hm] at hx
theorem host_drop (s:List UInt8)(h:(hostR s).2=0):hostR (dropDot (hostR s).1)=(dropDot (hostR s).1,0)∧47∉dropDot (hostR s).1∧64∉dropDot (hostR s).1:=by
 obtain ⟨L,e,hL,hM,hI,hp,hs⟩:=prep_out small_stay hostB s h
 have e' : (hostR s).1=L.flatMap en:=e
 rw [e']
 have key:∀ L:List Int,(∀ x∈L,∃ c:Nat,x=c∧okC c)→(∀ x∈L,mayB x=true)→(∀ x∈L,smallL x=[x])→(∀ x∈L,hostB x=true)→straightB L=true→hostR (L.flatMap en)=(L.flatMap en,0)∧47∉L.flatMap en∧64∉L.flatMap en:=fun L hL hM hI hp hs=>by
  refine ⟨prep_in hostB hL hM hI hp hs,fun q=>?_,fun q=>?_⟩
  ·have:=hp _ (byte_in hL (by decide) q)
   exact absurd this (by decide +kernel)
  ·have:=hp _ (byte_in hL (by decide) q)
   exact absurd this (by decide +kernel)
 unfold dropDot
 split
 ·rename_i hd
  rcases List.eq_nil_or_concat L with rfl|⟨L',x,rfl⟩
  ·simp at hd
  rw [List.concat_eq_append] at *
  have hx46:x=46:=by
   obtain ⟨c,rfl,hc⟩:=hL x (by simp)
   have h1:=(en_len hc).1
   have hne:en (c:Int)≠[]:=fun q=>by rw [q] at h1; simp at h1
   rw [List.flatMap_append,List.flatMap_cons,List.flatMap_nil,List.append_nil] at hd
   have hd2:(en (c:Int)).getLast?=some 46:=by
    rcases List.eq_nil_or_concat (en (c:Int)) with q|⟨u,y,q⟩
    ·exact absurd q hne
    ·rw [List.concat_eq_append] at q
     rw [q,← List.append_assoc,List.getLast?_concat] at hd
     rw [q,List.getLast?_concat,hd]
   have:=en_byte hc (b:=46) (by decide) (List.mem_of_getLast? hd2)
   rw [this]; rfl
  subst hx46
  have he:en 46=[46]:=by decide +kernel
  have hdl:((L' ++ [46]).flatMap en).dropLast=L'.flatMap en:=by
   rw [List.flatMap_append,List.flatMap_cons,List.flatMap_nil,List.append_nil,he,List.dropLast_concat]
  rw [hdl]
  refine key L' (fun x hx=>hL x (by simp [hx])) (fun x hx=>hM x (by simp [hx])) (fun x hx=>hI x (by simp [hx])) (fun x hx=>hp x (by simp [hx])) ?_
  have h46:leftB 46=false:=by decide +kernel
  unfold straightB at hs ⊢
  have hlast:(L' ++ [46]).getD ((L' ++ [46]).length - 1) 0=46:=by simp [List.getD_eq_getElem?_getD]
  rw [hlast,h46] at hs
  cases hq:L'.any leftB
  ·simp
  ·rw [List.any_append,hq] at hs; simp at hs
 ·exact key L hL hM hI hp hs
theorem node_keep (s:List UInt8)(h:(nodeR s).2=0):nodeR (nodeR s).1=((nodeR s).1,0)∧47∉(nodeR s).1∧64∉(nodeR s).1:=by
 obtain ⟨L,e,hL,hM,hI,hp,hs⟩:=prep_out small_stay nodeB s h
 have e' : (nodeR s).1=L.flatMap en:=e
 rw [e']
 refine ⟨prep_in nodeB hL hM hI hp hs,fun q=>?_,fun q=>?_⟩
 ·have:=hp _ (byte_in hL (by decide) q)
  exact absurd this (by decide +kernel)
 ·have:=hp _ (byte_in hL (by decide) q)
  exact absurd this (by decide +kernel)
theorem split_last (c:UInt8):∀ d:List UInt8,2≤(splitL c (d++[c])).length∧(splitL c (d++[c])).getLast?=some []
 | []=>by simp [splitL]
 | z::d=>by
  have ih:=split_last c d
  rw [List.cons_append,splitL]
  split
  ·refine ⟨by rw [List.length_cons]; omega,?_⟩
   rw [List.getLast?_cons,ih.2]; rfl
  ·split
   ·rename_i e; exact absurd e (splitL_pos c _)
   ·rename_i u v e
    rw [e] at ih
    refine ⟨by simpa using ih.1,?_⟩
    cases v with
    | nil=>simp at ih
    | cons w v=>simpa [List.getLast?_cons] using ih.2
theorem okDom_end {d:List UInt8}(h:okDom d=true):dropDot d=d:=by
 unfold dropDot
 split
 ·rename_i hd
  exfalso
  rcases List.eq_nil_or_concat d with rfl|⟨d',x,rfl⟩
  ·simp at hd
  rw [List.concat_eq_append] at *
  obtain rfl:x=46:=by simpa using hd
  unfold okDom at h
  rw [Bool.and_eq_true,List.all_eq_true] at h
  have:=h.2 _ (List.mem_of_getLast? (split_last 46 d').2)
  simp [okPart] at this
 ·rfl
theorem bare_of {l d:List UInt8}(d1:47∉d)(d2:64∉d)(d3:domOf (hostR d)=(d,0))(hl:l≠[]→47∉l∧64∉l∧l.length≤64∧nodeR l=(l,0)) :
  bareR (if l=[] then d else l++64::d)=(if l=[] then d else l++64::d,0):=by
 have n0:nodeR []=([],0):=by decide +kernel
 have r0:resR []=([],0):=by decide +kernel
 by_cases h:l=[]
 ·subst h
  rw [if_pos rfl]
  unfold bareR
  rw [cut_non 47 d d1]
  simp only
  rw [cut_non 64 d d2]
  simp only [Bool.false_eq_true,if_false]
  rw [d3,n0,r0]
  simp [bareOf,keptOf]
 ·obtain ⟨l1,l2,l3,l4⟩:=hl h
  rw [if_neg h]
  have h47:47∉l++64::d:=by simp [l1,d1]
  have h64:¬ 64<l.length:=by omega
  unfold bareR
  rw [cut_non 47 _ h47]
  simp only
  rw [cut_app 64 l d l2]
  simp only [if_true]
  rw [d3,l4,r0]
  simp [bareOf,keptOf,h,h64]
theorem bare_stay (s:List UInt8)(h:(bareR s).2=0):bareR (bareR s).1=((bareR s).1,0)∧(bareR s).1.length≤200:=by
 obtain ⟨y,is,x,R,e,hy⟩:∃ y is x R,bareR s=bareOf (keptOf (nodeR y) is 64) (domOf (hostR x)) R∧(is=false→y=[]):=⟨_,_,_,_,rfl,fun q=>by rw [q]; rfl⟩
 rw [e] at h ⊢
 have hD:(domOf (hostR x)).2=0:=Classical.byContradiction fun q=>by rw [bareOf,if_pos q] at h; exact q h
 have hD' : ¬ (domOf (hostR x)).2≠0:=fun q=>q hD
 have hL:(keptOf (nodeR y) is 64).2=0:=Classical.byContradiction fun q=>by rw [bareOf,if_neg hD',if_pos q] at h; exact q h
 have hL' : ¬ (keptOf (nodeR y) is 64).2≠0:=fun q=>q hL
 have hR:R.2=0:=Classical.byContradiction fun q=>by rw [bareOf,if_neg hD',if_neg hL',if_pos q] at h; exact q h
 have hR' : ¬ R.2≠0:=fun q=>q hR
 have hR1:R.1=[]:=Classical.byContradiction fun q=>by rw [bareOf,if_neg hD',if_neg hL',if_neg hR',if_pos q] at h; cases h
 have hv:bareOf (keptOf (nodeR y) is 64) (domOf (hostR x)) R=(if (keptOf (nodeR y) is 64).1=[] then (domOf (hostR x)).1 else (keptOf (nodeR y) is 64).1++64::(domOf (hostR x)).1,0):=by
  rw [bareOf,if_neg hD',if_neg hL',if_neg hR',if_neg (fun q=>q hR1)]
 rw [hv]
 have hh:(hostR x).2=0:=Classical.byContradiction fun q=>by rw [domOf,if_pos q] at hD; exact q hD
 have hh' : ¬ (hostR x).2≠0:=fun q=>q hh
 have ho:okDom (dropDot (hostR x).1)=true:=by
  cases q:okDom (dropDot (hostR x).1)
  ·rw [domOf,if_neg hh',if_pos q] at hD; cases hD
  ·rfl
 have hd1:domOf (hostR x)=(dropDot (hostR x).1,0):=by rw [domOf,if_neg hh',if_neg (by rw [ho]; decide)]
 obtain ⟨k1,k2,k3⟩:=host_drop x hh
 have k4:domOf (hostR (dropDot (hostR x).1))=(dropDot (hostR x).1,0):=by
  rw [k1,domOf,if_neg (fun q=>q rfl),okDom_end ho,if_neg (by rw [ho]; decide)]
 have k5:(dropDot (hostR x).1).length≤100:=by
  unfold okDom at ho; rw [Bool.and_eq_true,decide_eq_true_eq] at ho; exact ho.1
 rw [hd1]
 generalize dropDot (hostR x).1=d at *
 have hn:(nodeR y).2=0:=Classical.byContradiction fun q=>by rw [keptOf,if_pos q] at hL; exact q hL
 have hn' : ¬ (nodeR y).2≠0:=fun q=>q hn
 have hno:¬ (is=true∧((nodeR y).1=[]∨64<(nodeR y).1.length)):=fun q=>by rw [keptOf,if_neg hn',if_pos q] at hL; cases hL
 have hk:keptOf (nodeR y) is 64=nodeR y:=by rw [keptOf,if_neg hn',if_neg hno]
 rw [hk]
 have n0:nodeR []=([],0):=by decide +kernel
 have hlen:(nodeR y).1.length≤64:=by
  cases is
  ·rw [hy rfl,n0]; simp
  ·rcases Nat.lt_or_ge 64 (nodeR y).1.length with q|q
   ·exact absurd ⟨rfl,.inr q⟩ hno
   ·exact q
 obtain ⟨m1,m2,m3⟩:=node_keep y hn
 refine ⟨bare_of k2 k3 k4 fun _=>⟨m2,m3,hlen,m1⟩,?_⟩
 simp only
 split
 ·omega
 ·simp only [List.length_append,List.length_cons]; omega
def ginL (x:List UInt8):List (List UInt8)→List (List UInt8)
 | []=>[x]
 | y::r=>if Op.bytesLess y x=true then y::ginL x r else if y=x then y::r else x::y::r
def gK (x:List UInt8):List (List UInt8)→Nat
 | []=>0
 | y::r=>if Op.bytesLess y x=true then gK x r+1 else 0
def gin (out:List (List UInt8))(x:List UInt8):List (List UInt8):=if x=[] then out else ginL x out
def groupsF (l:List (List UInt8)):List (List UInt8):=l.foldl gin []
theorem gK_of (x:List UInt8):∀ (out:List (List UInt8))(k:Nat),(∀ j,j<k→Op.bytesLess (out.getD j []) x=true)→k≤out.length→(k=out.length∨Op.bytesLess (out.getD k []) x=false)→gK x out=k
 | [],k,_,h2,_=>by simp at h2; subst h2; rfl
 | y::r,k,h1,h2,h3=>by
  unfold gK
  cases k with
  | zero=>
   rcases h3 with h3|h3
   ·simp at h3
   ·have h4:Op.bytesLess y x=false:=h3
    rw [if_neg (by rw [h4]; decide)]
  | succ k=>
   have h4:Op.bytesLess y x=true:=h1 0 (by omega)
   rw [if_pos h4,gK_of x r k (fun j hj=>h1 (j+1) (by omega)) (by simpa using h2) (by simpa using h3)]
theorem gin_eq (x:List UInt8):∀ out:List (List UInt8),ginL x out=if gK x out<out.length∧out.getD (gK x out) []=x then out else out.take (gK x out)++(x::out.drop (gK x out))
 | []=>by simp [ginL,gK]
 | y::r=>by
  have ih:=gin_eq x r
  unfold ginL gK
  by_cases h:Op.bytesLess y x=true
  ·rw [if_pos h,if_pos h,ih]
   simp only [List.length_cons,List.getD_cons_succ,List.take_succ_cons,List.drop_succ_cons,Nat.add_lt_add_iff_right]
   split
   ·rfl
   ·rfl
  ·rw [if_neg h,if_neg h]
   by_cases h2:y=x
   ·rw [if_pos h2,if_pos ⟨by simp,h2⟩]
   ·rw [if_neg h2,if_neg (fun q=>h2 q.2)]; rfl
theorem gin_mem (x:List UInt8):∀ (out:List (List UInt8))(z:List UInt8),z∈ginL x out→z=x∨z∈out
 | [],z,h=>by simp [ginL] at h; exact .inl h
 | y::r,z,h=>by
  unfold ginL at h
  split at h
  ·rcases List.mem_cons.1 h with h|h
   ·exact .inr (by simp [h])
   ·rcases gin_mem x r z h with h|h
    ·exact .inl h
    ·exact .inr (by simp [h])
  ·split at h
   ·exact .inr h
   ·rcases List.mem_cons.1 h with h|h
    ·exact .inl h
    ·exact .inr h
theorem gin_len (x:List UInt8):∀ out:List (List UInt8),(ginL x out).length≤out.length+1
 | []=>by simp [ginL]
 | y::r=>by
  have:=gin_len x r
  unfold ginL
  split
  ·simp only [List.length_cons]; omega
  ·split <;> simp
theorem gin_st (x:List UInt8):∀ {out:List (List UInt8)},St2 Op.bytesLess out→St2 Op.bytesLess (ginL x out)
 | [],_=>List.pairwise_singleton _ _
 | y::r,h=>by
  obtain ⟨h1,h2⟩:=List.pairwise_cons.1 h
  unfold ginL
  split
  ·rename_i hy
   refine List.pairwise_cons.2 ⟨fun z hz=>?_,gin_st x h2⟩
   rcases gin_mem x r z hz with rfl|hz
   ·exact hy
   ·exact h1 z hz
  ·rename_i hy
   split
   ·exact h
   ·rename_i hne
    have hyx:Op.bytesLess y x=false:=by cases q:Op.bytesLess y x <;> simp_all
    have hxy:Op.bytesLess x y=true:=by
     cases q:Op.bytesLess x y
     ·exact absurd (bl_anti x y hyx q).symm hne
     ·rfl
    refine List.pairwise_cons.2 ⟨fun z hz=>?_,h⟩
    rcases List.mem_cons.1 hz with rfl|hz
    ·exact hxy
    ·cases q:Op.bytesLess x z
     ·have:=bl_tr z x y q hyx
      rw [h1 z hz] at this; cases this
     ·rfl
theorem groupsF_ok (l:List (List UInt8)):St2 Op.bytesLess (groupsF l)∧(groupsF l).length≤l.length∧∀ x∈groupsF l,x∈l∧x≠[]:=by
 have key:∀ (l out:List (List UInt8)),St2 Op.bytesLess out→(∀ x∈out,x≠[])→St2 Op.bytesLess (l.foldl gin out)∧(l.foldl gin out).length≤out.length+l.length∧∀ x∈l.foldl gin out,(x∈out∨x∈l)∧x≠[]:=fun l=>by
  induction l with
  | nil=>exact fun out h1 h2=>⟨h1,by simp,fun x hx=>⟨.inl hx,h2 x hx⟩⟩
  | cons y l ih=>
   intro out h1 h2
   rw [List.foldl_cons]
   unfold gin
   split
   ·obtain ⟨a,b,c⟩:=ih out h1 h2
    exact ⟨a,by simp only [List.length_cons]; unfold gin at b; omega,fun x hx=>⟨(c x hx).1.imp id fun q=>by simp [q],(c x hx).2⟩⟩
   ·rename_i hy
    obtain ⟨a,b,c⟩:=ih (ginL y out) (gin_st y h1) fun x hx=>(gin_mem y out x hx).elim (fun e=>e▸hy) (h2 x)
    have:=gin_len y out
    refine ⟨a,by simp only [List.length_cons]; unfold gin at b; omega,fun x hx=>⟨?_,(c x hx).2⟩⟩
    rcases (c x hx).1 with q|q
    ·rcases gin_mem y out x q with e|e
     ·exact .inr (by simp [e])
     ·exact .inl e
    ·exact .inr (by simp [q])
 obtain ⟨a,b,c⟩:=key l [] .nil (by simp)
 exact ⟨a,by have b' : (groupsF l).length≤0+l.length:=b; omega,fun x hx=>⟨(c x hx).1.resolve_left (by simp),(c x hx).2⟩⟩
theorem groupsB_of {l:List (List UInt8)}(h:St2 Op.bytesLess l)(h8:l.length≤8)(hl:∀ x∈l,x≠[]∧lineB x=true):groupsB l=true:=by
 unfold groupsB
 rw [Bool.and_eq_true,Bool.and_eq_true]
 refine ⟨⟨?_,decide_eq_true h8⟩,List.all_eq_true.2 fun x hx=>(hl x hx).2⟩
 unfold risB
 refine List.all_eq_true.2 fun i hi=>?_
 have hi:i<l.length:=by simpa using hi
 have hm:l.getD i []∈l:=by rw [List.getD_eq_getElem?_getD,List.getElem?_eq_getElem hi]; exact List.getElem_mem hi
 unfold risI
 rw [decide_eq_false (hl _ hm).1,Bool.not_false,Bool.true_and]
 rcases Nat.eq_zero_or_pos i with h0|h0
 ·rw [decide_eq_true h0]; rfl
 ·have hlt:Op.bytesLess (l.getD (i - 1) []) (l.getD i [])=true:=by
   have:=List.pairwise_iff_getElem.1 h (i - 1) i (by omega) hi (by omega)
   simp only [List.getD_eq_getElem?_getD,List.getElem?_eq_getElem hi,List.getElem?_eq_getElem (show i - 1<l.length by omega)]
   exact this
  have hne:l.getD i []≠l.getD (i - 1) []:=fun e=>by rw [e,bl_tot.irr] at hlt; cases hlt
  rw [bl_asym _ _ hlt,decide_eq_false hne]; simp
end Go.Proofs.Ut
