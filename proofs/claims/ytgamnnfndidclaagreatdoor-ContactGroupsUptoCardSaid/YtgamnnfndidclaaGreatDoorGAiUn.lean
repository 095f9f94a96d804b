/- Characters and their bytes: put cB one another, cut, written. Nothing of any program. -/
import Derived.Test.YtgamnnfndidclaaGreatDoorGYFoUtF
import Derived.Test.YtgamnnfndidclaaGreatDoorGLawJid
set_option linter.all false
namespace Go.Proofs.Ut
open Go.Ai Classical
set_option linter.unusedSimpArgs false
set_option maxHeartbeats 1000000
set_option maxRecDepth 100000
theorem vB (a b:List UInt8)(j:Nat):D (a++b) (a.length+j)=D b j:=by
 rw [← kI,← kI,List.drop_append,List.drop_eq_nil_of_le (by omega),Nat.add_sub_cancel_left,List.nil_append]
theorem nI (p:Int→Bool)(a b:List UInt8):∀ n j,b.length - j≤n→aW p (a++b) (a.length+j)=aW p b j:=fun n=>by
 have hl:(a++b).length=a.length+b.length:=List.length_append
 induction n with
 | zero=>intro j h; rw [dC _ _ _ (by omega),dC _ _ _ (by omega)]
 | succ n ih=>
  intro j h
  by_cases hj:j<b.length
  ·have:=dE b j hj
   rw [cX p (a++b) _ (by omega),cX p b j hj,vB,Nat.add_assoc,ih _ (by omega)]
  ·rw [dC _ _ _ (by omega),dC _ _ _ (by omega)]
theorem AU (a b:List UInt8):∀ n j,b.length - j≤n→gH (a++b) (a.length+j)=gH b j:=fun n=>by
 have hl:(a++b).length=a.length+b.length:=List.length_append
 induction n with
 | zero=>intro j h; rw [cK _ _ (by omega),cK _ _ (by omega)]
 | succ n ih=>
  intro j h
  by_cases hj:j<b.length
  ·have:=dE b j hj
   rw [eH (a++b) _ (by omega),eH b j hj,vB,Nat.add_assoc,ih _ (by omega)]
  ·rw [cK _ _ (by omega),cK _ _ (by omega)]
def en (c:Int):List UInt8:=(Utf8.encode c).data.toList
theorem lI {c:Nat}(h:okC c):en c=if c<128 then [UInt8.ofNat c] else if c<2048 then [UInt8.ofNat (192+c / 64),UInt8.ofNat (128+c % 64)] else if c<65536 then [UInt8.ofNat (224+c / 4096),UInt8.ofNat (128+c / 64 % 64),UInt8.ofNat (128+c % 64)] else [UInt8.ofNat (240+c / 262144),UInt8.ofNat (128+c / 4096 % 64),UInt8.ofNat (128+c / 64 % 64),UInt8.ofNat (128+c % 64)]:=by
 unfold en Utf8.encode
 rw [if_pos ((tM c).2 h)]
 simp only [Int.toNat_natCast]
 split
 ·rfl
 ·split
  ·rfl
  ·split <;> rfl
theorem bV (n:Nat)(h:n<256):(UInt8.ofNat n).toNat=n:=by simp; omega
theorem aAP (c:Nat)(h:okC c)(t:List UInt8):D (en c++t) 0=(c,(en c).length):=by
 have ho:=h
 unfold okC at ho
 rw [lI h]
 split
 ·rename_i h1
  have b0:by_ ([UInt8.ofNat c]++t) 0=c:=bV c (by omega)
  rw [D1 (by rw [b0]; exact h1),b0]; rfl
 split
 ·rename_i h1 h2
  have b0:by_ ([UInt8.ofNat (192+c / 64),UInt8.ofNat (128+c % 64)]++t) 0=192+c / 64:=bV _ (by omega)
  have b1:by_ ([UInt8.ofNat (192+c / 64),UInt8.ofNat (128+c % 64)]++t) (0+1)=128+c % 64:=bV _ (by omega)
  rw [D2 (by rw [b0]; omega),b0,b1,if_pos ⟨by simp,by omega⟩,if_pos (by omega)]
  exact Prod.ext (by simp only; omega) rfl
 split
 ·rename_i h1 h2 h3
  have b0:by_ ([UInt8.ofNat (224+c / 4096),UInt8.ofNat (128+c / 64 % 64),UInt8.ofNat (128+c % 64)]++t) 0=224+c / 4096:=bV _ (by omega)
  have b1:by_ ([UInt8.ofNat (224+c / 4096),UInt8.ofNat (128+c / 64 % 64),UInt8.ofNat (128+c % 64)]++t) (0+1)=128+c / 64 % 64:=bV _ (by omega)
  have b2:by_ ([UInt8.ofNat (224+c / 4096),UInt8.ofNat (128+c / 64 % 64),UInt8.ofNat (128+c % 64)]++t) (0+2)=128+c % 64:=bV _ (by omega)
  have e:(224+c / 4096) % 16*4096+(128+c / 64 % 64) % 64*64+(128+c % 64) % 64=c:=by omega
  rw [D3 (by rw [b0]; omega),b0,b1,b2,if_pos ⟨⟨by simp,by omega⟩,by simp,by omega⟩,e,if_pos ⟨by omega,h⟩]
  rfl
 ·rename_i h1 h2 h3
  have b0:by_ ([UInt8.ofNat (240+c / 262144),UInt8.ofNat (128+c / 4096 % 64),UInt8.ofNat (128+c / 64 % 64),UInt8.ofNat (128+c % 64)]++t) 0=240+c / 262144:=bV _ (by omega)
  have b1:by_ ([UInt8.ofNat (240+c / 262144),UInt8.ofNat (128+c / 4096 % 64),UInt8.ofNat (128+c / 64 % 64),UInt8.ofNat (128+c % 64)]++t) (0+1)=128+c / 4096 % 64:=bV _ (by omega)
  have b2:by_ ([UInt8.ofNat (240+c / 262144),UInt8.ofNat (128+c / 4096 % 64),UInt8.ofNat (128+c / 64 % 64),UInt8.ofNat (128+c % 64)]++t) (0+2)=128+c / 64 % 64:=bV _ (by omega)
  have b3:by_ ([UInt8.ofNat (240+c / 262144),UInt8.ofNat (128+c / 4096 % 64),UInt8.ofNat (128+c / 64 % 64),UInt8.ofNat (128+c % 64)]++t) (0+3)=128+c % 64:=bV _ (by omega)
  have e:(240+c / 262144) % 8*262144+(128+c / 4096 % 64) % 64*4096+(128+c / 64 % 64) % 64*64+(128+c % 64) % 64=c:=by omega
  rw [D4 (by rw [b0]; omega),b0,b1,b2,b3,if_pos ⟨⟨by simp,by omega⟩,⟨by simp,by omega⟩,by simp,by omega⟩,e,if_pos ⟨by omega,h⟩]
  rfl
theorem CU {c:Nat}(h:okC c):1≤(en c).length∧(en c).length≤4∧(2≤(en c).length↔128≤c):=by
 rw [lI h]
 split
 ·simp; omega
 split
 ·simp; omega
 split
 ·simp; omega
 ·simp; omega
theorem TU {c:Nat}(h:okC c)(t:List UInt8):D (en c++t) 0≠(65533,1):=by
 rw [aAP c h t]
 intro q
 obtain ⟨q1,q2⟩:=Prod.mk.inj q
 have:=(CU h).2.2
 omega
theorem aAz (p:Int→Bool){c:Nat}(h:okC c)(t:List UInt8):aW p (en c++t) 0=(p c&&aW p t 0):=by
 have:=CU h
 rw [cX p _ 0 (by simp; omega),if_neg (TU h t),aAP c h t,Nat.zero_add]
 have:=nI p (en c) t _ 0 (Nat.le_refl _)
 rw [Nat.add_zero] at this
 rw [this]
theorem aFS {c:Nat}(h:okC c)(t:List UInt8):gH (en c++t) 0=(c:Int)::gH t 0:=by
 have:=CU h
 rw [eH _ 0 (by simp; omega),aAP c h t,Nat.zero_add]
 have:=AU (en c) t _ 0 (Nat.le_refl _)
 rw [Nat.add_zero] at this
 rw [this]
theorem FH (p:Int→Bool)(t:List UInt8):∀ cs:List Nat,(∀ c∈cs,okC c)→aW p (cs.flatMap (fun c:Nat=>en c)++t) 0=(cs.all (fun c:Nat=>p c)&&aW p t 0)
 | [],_=>by simp
 | c::cs,h=>by
  rw [List.flatMap_cons,List.append_assoc,aAz p (h c (by simp)),FH p t cs (fun x hx=>h x (by simp [hx])),List.all_cons,Bool.and_assoc]
theorem CP (t:List UInt8):∀ cs:List Nat,(∀ c∈cs,okC c)→gH (cs.flatMap (fun c:Nat=>en c)++t) 0=cs.map (fun c:Nat=>(c:Int))++gH t 0
 | [],_=>by simp
 | c::cs,h=>by
  rw [List.flatMap_cons,List.append_assoc,aFS (h c (by simp)),CP t cs (fun x hx=>h x (by simp [hx])),List.map_cons,List.cons_append]
theorem WF (p:Int→Bool):aW p [] 0=true:=rfl
theorem LE:gH [] 0=[]:=rfl
theorem mG (c:Int):cG c=(bR c&&decide (32≤c)):=by
 unfold bR cG
 rw [Bool.eq_iff_iff]
 simp only [Bool.or_eq_true,Bool.and_eq_true,decide_eq_true_eq]
 omega
theorem VP (p q:Int→Bool)(s:List UInt8):∀ n i,s.length - i≤n→aW (fun c=>p c&&q c) s i=(aW p s i&&(gH s i).all q):=fun n=>by
 induction n with
 | zero=>intro i h; rw [dC _ _ _ (by omega),dC _ _ _ (by omega),cK _ _ (by omega)]; rfl
 | succ n ih=>
  intro i h
  by_cases hi:i<s.length
  ·have:=dE s i hi
   rw [cX _ s i hi,cX p s i hi,eH s i hi]
   by_cases hb:D s i=(65533,1)
   ·rw [if_pos hb,if_pos hb]; rfl
   ·rw [if_neg hb,if_neg hb,ih _ (by omega),List.all_cons]
    cases p (D s i).1 <;> cases q (D s i).1 <;> cases aW p s (i+(D s i).2) <;> rfl
  ·rw [dC _ _ _ hi,dC _ _ _ hi,cK _ _ hi]; rfl
theorem sU (s:List UInt8):aW cG s 0=(aW bR s 0&&(rs s).all (fun c=>decide (32≤c))):=by
 rw [show cG=fun c=>bR c&&decide (32≤c) from funext mG,VP _ _ s _ 0 (Nat.le_refl _)]
 unfold rs
 cases aW bR s 0 <;> rfl
abbrev aY (f:Nat)(args:List DV)(D:DV):Prop:=ACalls ED f [] args fun h d=>h=[]∧d=D
theorem vM (s:List UInt8)(hs:s.length<100000000000):aY 64 [.str s] (.bool (aW bR s 0)):=by
 have:=FB rfl vED s (by omega)
 rw [jA] at this
 exact this
theorem nB:∀ s:List UInt8,(∀ b∈s,b.toNat<128)→s=(s.map (·.toNat)).flatMap (fun c:Nat=>en c)
 | [],_=>rfl
 | b::s,h=>by
  have hb:=h b (by simp)
  rw [List.map_cons,List.flatMap_cons,← nB s (fun x hx=>h x (by simp [hx])),lI (by unfold okC; omega),if_pos hb]
  simp
theorem mO (p:Int→Bool)(s:List UInt8)(h:∀ b∈s,b.toNat<128):aW p s 0=s.all (fun b=>p b.toNat)∧gH s 0=s.map (fun b=>(b.toNat:Int)):=by
 have e:=nB s h
 have ho:∀ c∈s.map (·.toNat),okC c:=fun c hc=>by
  obtain ⟨b,hb,rfl⟩:=List.mem_map.1 hc
  have:=h b hb
  unfold okC; omega
 constructor
 ·conv=>lhs; rw [e]
  have:=FH p [] _ ho
  rw [List.append_nil,WF,Bool.and_true] at this
  rw [this,List.all_map]; rfl
 ·conv=>lhs; rw [e]
  have:=CP [] _ ho
  rw [List.append_nil,LE,List.append_nil] at this
  rw [this,List.map_map]; rfl
theorem PG (s:List UInt8)(h:∀ b∈s,b.toNat<128)(hm:s.all (fun b=>bR b.toNat)=true):rs s=s.map (fun b=>(b.toNat:Int)):=by
 unfold rs
 rw [(mO bR s h).1,hm,(mO bR s h).2]; rfl
theorem OL (s:List UInt8):(rs s).length≤s.length:=by
 unfold rs; split
 ·exact jM s _ 0
 ·simp
theorem aAb {h:List AObj}{i n:Nat}{l:List Int}{c:Option Nat}(hi:h[i]?=some (.arr 1 (l.map num)))(hn:n=l.length):DV.dn [] h (.osl 1 i 0 n c)=.sl 1 (l.map num):=pZ hi (by simpa using hn)
end Go.Proofs.Ut

namespace Go.Ai
theorem aO {p q:Prop}(h:p)(k:q):chk p q:=⟨h,k⟩
def Un (E:Env)(m0:Nat)(post:AExit→St→Prop)(ks:List Fr)(b:ACode)(n:Nat)(st' : St):Prop:=
 ∃ g:Nat×St,∃ _:g.1<n,Wk m0 st' g.2∧awp E m0 b (fun e s=>match e with | .normal=>Un E m0 post ks b g.1 s | e=>dG E m0 post ks e s) g.2
termination_by n
section
variable {E:Env} {m0:Nat} {post:AExit→St→Prop} {ks:List Fr} {b:ACode} {n:Nat} {L:List (Nat×DV)} {h:List AObj}
theorem DX:dG E m0 post (.inv (Un E m0 post ks b n)::ks)=fun e s=>match e with | .normal=>Un E m0 post ks b n s | e=>dG E m0 post ks e s:=by
 funext e s; cases e <;> rfl
theorem WW (m0:Nat)(st:St):Wk m0 st st:=
 ⟨.inl ⟨max m0 st.h.length,Nat.le_max_left _ _,(List.take_of_length_le (Nat.le_max_right _ _)).symm,fun _=>.inr ⟨rfl,fun h=>absurd h (Nat.not_lt.2 (Nat.le_max_right _ _))⟩,fun h=>absurd h (Nat.not_lt.2 (Nat.le_max_right _ _))⟩⟩
theorem CD (n:Nat)(h0:goN E m0 post (.inv (Un E m0 post ks b n)::ks) b L h):goN E m0 post ks (.loop b) L h:=by
 refine ⟨Nat×St,fun g=>g.2,fun g=>awp E m0 b (dG E m0 post (.inv (Un E m0 post ks b g.1)::ks)) g.2,fun g=>g.1,⟨(n,sta L h),WW m0 _,h0⟩,fun g hg=>?_⟩
 have e:(fun (e:AExit) (s:St)=>match e with | .normal=>∃ g' : Nat×St,Wk m0 s g'.2∧awp E m0 b (dG E m0 post (.inv (Un E m0 post ks b g'.1)::ks)) g'.2∧g'.1<g.1 | e=>dG E m0 post ks e s)=dG E m0 post (.inv (Un E m0 post ks b g.1)::ks):=by
  funext e s
  cases e <;> first | rfl | skip
  show _=Un E m0 post ks b g.1 s
  rw [Un]
  apply propext
  constructor
  ·rintro ⟨g',h1,h2,h3⟩; exact ⟨g',h3,h1,by rw [← DX]; exact h2⟩
  ·rintro ⟨g',h3,h1,h2⟩; exact ⟨g',h1,by rw [DX]; exact h2,h3⟩
 show awp E m0 b (fun e s=>match e with | .normal=>∃ g' : Nat×St,Wk m0 s g'.2∧awp E m0 b (dG E m0 post (.inv (Un E m0 post ks b g'.1)::ks)) g'.2∧g'.1<g.1 | e=>dG E m0 post ks e s) g.2
 rw [e]
 exact hg
end
theorem XH {E:Env}{L:List (Nat×DV)}{h:List AObj}{sz i off n:Nat}{c:Option Nat}{z:List DV}{es:List (List DV)}{K:DV→St→Prop}(hi:h[i]?=some (.arr sz es))(hb:off+n≤es.length)
  (hk:K (.tup []) (sta L (h.set i (.arr sz (es.take off++List.replicate n z++es.drop (off+n)))))):vO sz z (.osl sz i off n c) K (sta L h):=⟨rfl,es,hi,hb,hk⟩
theorem aX {E:Env}{L:List (Nat×DV)}{h:List AObj}{b:Bool}{f:Nat}{ds:List DV}{D:DV}{K:DV→St→Prop}(hc:ACalls E f [] ds fun h d=>h=[]∧d=D)(hcl:ds.all DV.closed=true)(hD:D.closed=true)(hk:K D (sta L h)):acall E b f ds K (sta L h):=
 .go (.inr (.inl ⟨_,hc,fun d hd=>List.all_eq_true.1 hcl d hd,⟨[],D,rfl,rfl⟩,fun h' d hp=>by
  obtain ⟨rfl,rfl⟩:=hp
  rw [bD hD]
  have e:({ sta L h with h:=(sta L h).h++([]:List AObj).map (aR ((sta L h).h.length + ·)) }:St)=sta L h:=by simp [sta]
  rw [e]; exact hk⟩))
theorem DQ {F:List Nat}{h:List AObj}{sz i n:Nat}{es:List (List DV)}{c:Option Nat}(hi:h[i]?=some (.arr sz es))(hn:n=es.length)(hF:F.contains i=true):rvd (dM F h [.osl sz i 0 n c])=.sl sz es:=by
 subst hn
 have hF' : i∈F:=by simpa using hF
 simp [rvd,dM,bU,DV.low,frz,hF',hi]
def pH (m0:Nat)(post:List AObj→DV→Prop)(o:Option (List DV))(h:List AObj):Prop:=∃ ds,o=some ds∧∃ F:List Nat,(∀ l∈F,m0≤l)∧UB m0 post (dM F h ds) (dR F h 0 h)
@[congr] theorem YK {m0:Nat} {post:List AObj→DV→Prop} {o o' : Option (List DV)} {h:List AObj} (e:o=o'):pH m0 post o h=pH m0 post o' h:=by rw [e]
section
variable {E:Env} {m0:Nat} {res:List RV} {post:List AObj→DV→Prop} {L:List (Nat×DV)} {h:List AObj}
theorem aG:zR m0 res post .ret (sta L h)=pH m0 post (rvl (sta L h) res) h:=by
 unfold zR pH
 simp only [fI]; rfl
theorem aD:zR m0 res post .normal (sta L h)=pH m0 post (rvl (sta L h) res) h:=by
 unfold zR pH
 simp only [fI]; rfl
theorem bQ {f:Nat}{af:AFun}{h:List AObj}{args:List DV}{post:List AObj→DV→Prop}(hc:aF E.P f=some af)(hle:args.length≤af.nt)
  (hk:goN E h.length (zR h.length af.res post) [] af.body (args.zipIdx.map fun p=>(p.2,p.1)) h):ACalls E f h args post:=by
 refine qU hc hle ?_
 have e:(⟨fun s=>args.getD s .undef,h⟩:St)=sta (args.zipIdx.map fun p=>(p.2,p.1)) h:=by
  have e2:(fun s=>args.getD s .undef)=slots (args.zipIdx.map fun p=>(p.2,p.1)):=by
   funext s
   have key:∀ (l:List DV) (k:Nat),slots ((l.zipIdx k).map fun p=>(p.2,p.1)) (k+s)=l.getD s .undef:=by
    intro l
    induction l generalizing s with
    | nil=>intro k; simp [slots]
    | cons d l ih=>
     intro k
     rw [List.zipIdx_cons,List.map_cons]
     simp only [slots]
     cases s with
     | zero=>simp
     | succ s=>
      have:¬ k+(s+1)=k:=by omega
      rw [if_neg this]
      have:=ih s (k+1)
      rw [show k+1+s=k+(s+1) by omega] at this
      rw [this]; simp
   have:=key args 0
   rw [Nat.zero_add] at this
   exact this.symm
  rw [e2]; rfl
 rw [e]
 exact hk
theorem aDa {ds:List DV}(hf:dY m0 post (some ds) h):UB m0 post ds h:=by
 obtain ⟨ds',e,hf⟩:=hf
 cases e
 exact hf
theorem dF (F:List Nat){ds:List DV}{D:DV}(hD:rvd (dM F h ds)=D)(hc:D.closed=true)(hp:post [] D):pH 0 post (some ds) h:=by
 subst hD
 exact ⟨ds,rfl,F,fun _ _=>Nat.zero_le _,aDa (aC hc hp)⟩
end
def wW (m0:Nat)(post:List AObj→DV→Prop)(h0:List AObj)(args:List DV)(o:Option (List DV))(L:List (Nat×DV))(h:List AObj):Prop:=
 dY m0 post o h∧∀ l,l<m0→(∃ cs,h0[l]?=some (.box cs))∨∃ i sz off n c,slots L (1000000+i)=.osl sz l off n c∧0<n∧args[i]?=some (.osl sz l off n c)
@[congr] theorem YX {m0:Nat} {post:List AObj→DV→Prop} {h0:List AObj} {args:List DV} {o o' : Option (List DV)} {L:List (Nat×DV)} {h:List AObj} (e:o=o'):wW m0 post h0 args o L h=wW m0 post h0 args o' L h:=by rw [e]
section
variable {E:Env} {m0:Nat} {res:List RV} {post:List AObj→DV→Prop} {L:List (Nat×DV)} {h h0:List AObj} {args:List DV}
theorem fQ:KP m0 res post h0 args .ret (sta L h)=wW m0 post h0 args (rvl (sta L h) res) L h:=rfl
theorem dT:KP m0 res post h0 args .normal (sta L h)=wW m0 post h0 args (rvl (sta L h) res) L h:=rfl
theorem sW (l:List DV):∀ (k s:Nat),slots ((l.zipIdx k).map fun p=>(p.2,p.1)) (k+s)=l.getD s .undef:=by
 induction l with
 | nil=>intro k s; simp [slots]
 | cons d l ih=>
  intro k s
  rw [List.zipIdx_cons,List.map_cons]
  simp only [slots]
  cases s with
  | zero=>simp
  | succ s=>
   have:¬ k+(s+1)=k:=by omega
   rw [if_neg this]
   have:=ih (k+1) s
   rw [show k+1+s=k+(s+1) by omega] at this
   rw [this]; simp
theorem uB (A B:List (Nat×DV))(s:Nat)(h:∀ p∈A,p.1≠s):slots (A++B) s=slots B s:=by
 induction A with
 | nil=>rfl
 | cons p A ih=>
  obtain ⟨t,d⟩:=p
  simp only [List.cons_append,slots]
  rw [if_neg (fun e=>h (t,d) (by simp) e.symm)]
  exact ih fun q hq=>h q (by simp [hq])
theorem AV (B:List (Nat×DV))(s:Nat)(h:∀ p∈B,p.1≠s):slots B s=.undef:=by
 have:=uB B [] s h
 rw [List.append_nil] at this
 exact this
theorem zM (A B:List (Nat×DV))(s:Nat)(h:∀ p∈B,p.1≠s):slots (A++B) s=slots A s:=by
 induction A with
 | nil=>rw [List.nil_append,AV B s h]; rfl
 | cons p A ih=>
  obtain ⟨t,d⟩:=p
  simp only [List.cons_append,slots]
  rw [ih]
theorem ES {l:List DV}{k:Nat}{p:Nat×DV}(h:p∈(l.zipIdx k).map fun p=>(p.2,p.1)):k≤p.1∧p.1<k+l.length:=by
 obtain ⟨q,hq,rfl⟩:=List.mem_map.1 h
 have:=List.mem_zipIdx hq
 omega
theorem kD {f:Nat}{af:AFun}{h:List AObj}{args:List DV}{post:List AObj→DV→Prop}(hc:aF E.P f=some af)(hle:args.length≤af.nt)(hsm:args.length<1000000)
  (hk:goN E h.length (KP h.length af.res post h args) [] af.body (((args.zipIdx 1000000).map fun p=>(p.2,p.1))++(args.zipIdx.map fun p=>(p.2,p.1))) h):eK E true f h args post:=by
 refine pR hc hle ?_
 have e:(fun s=>if s<1000000 then args.getD s .undef else args.getD (s - 1000000) .undef)=slots (((args.zipIdx 1000000).map fun p=>(p.2,p.1))++(args.zipIdx.map fun p=>(p.2,p.1))):=by
  funext s
  split
  ·rename_i hs
   rw [uB _ _ s (fun p hp=>by have:=ES hp; omega)]
   have:=sW args 0 s
   rw [Nat.zero_add] at this
   exact this.symm
  ·rename_i hs
   rw [zM _ _ s (fun p hp=>by have:=ES hp; omega)]
   have:=sW args 1000000 (s - 1000000)
   rw [show 1000000+(s - 1000000)=s by omega] at this
   exact this.symm
 rw [e]
 exact hk
theorem CG {ds:List DV}{sz n off:Nat}{c:Option Nat}{es:List (List DV)}(hs:(rvd ds).closed=true)(hi:h[0]?=some (.arr sz es))(hp:post [.arr sz es] (rvd ds))(hg:slots L 1000000=.osl sz 0 off n c)(hn:0<n)
  (ha:args[0]?=some (.osl sz 0 off n c)):wW 1 post h0 args (some ds) L h:=
 ⟨WA hs hi hp,fun l hl=>by
  obtain rfl:l=0:=by omega
  exact .inr ⟨0,sz,off,n,c,hg,hn,ha⟩⟩
end
end Go.Ai
