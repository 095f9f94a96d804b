/- A line of a card, taken apart. -/
import Derived.Test.YtgamnnfndidclaaGreatDoorGYVcA
import Derived.Test.YtgamnnfndidclaaGreatDoorGYFoAny
open Nat renaming reduceBEq → qA,reduceAdd → qB,reduceSub → qC,reduceLeDiff → qD,reduceMul → qE
open Int renaming reduceLE → qF,reduceLT → qG,reduceNe → qH,reduceToNat → qI
set_option linter.all false
namespace Go.Proofs.Ut
open Go.Ai Go.Shelf Go.RowKit
set_option linter.unusedSimpArgs false
set_option linter.unusedVariables false
set_option maxHeartbeats 1000000
set_option maxRecDepth 100000
theorem AM (s:List UInt8)(hs:s.length<1000000000):ACalls ED 216 [.box [.str s]] [.ptr 0 0] (fun h' d=>h' = [.box [.str (bP s)]]∧d=.str (dH s)):=by
 refine aA c216 (by simp [f216]) ?_
 simp only [f216,↓gos,gop,qA,qB,qC,qD,qE,qF,qG,qH,qI]
 refine aB (aAW s) rfl rfl ?_
 simp only [↓gos,gop,qA,qB,qC,qD,qE,qF,qG,qH,qI]
 have hl:=fM s
 have hw:=congrArg List.length (uA s)
 rw [List.length_append] at hw
 intro v hv
 rw [wrap_i64 (by omega) (by omega)] at hv
 have hv:v=((dH s).length:Int):=by omega
 subst hv
 refine ⟨by omega,by omega,gT rfl rfl ⟨rfl,?_⟩⟩
 simp only [rvd,Int.toNat_natCast]
 have:=List.take_left (l₁:=dH s) (l₂:=bP s)
 rw [uA] at this
 rw [this]
theorem HH (s p:List UInt8)(hs:s.length<1000000000)(hp:p.length<1000000000):ACalls ED 217 [.box [.str s]] [.ptr 0 0,.str p] (fun h' d=>h' = [.box [.str (cB p s).1]]∧d=.bool (cB p s).2):=by
 refine aA c217 (by simp [f217]) ?_
 simp only [f217,↓gos,gop,qA,qB,qC,qD,qE,qF,qG,qH,qI]
 refine aB (PQ s p (by omega) (by omega)) rfl rfl ?_
 simp only [↓gos,gop,qA,qB,qC,qD,qE,qF,qG,qH,qI]
 exact gT rfl rfl ⟨rfl,rfl⟩
theorem lT (c:UInt8)(s:List UInt8):cB [c] s=if s.head?=some c then (s.tail,true) else (s,false):=by
 unfold cB
 cases s with
 | nil=>simp
 | cons x t=>
  simp only [List.isPrefixOf,Bool.and_true,List.head?_cons,Option.some.injEq]
  by_cases h:c=x
  ·subst h; simp
  ·rw [if_neg (by simpa using h),if_neg (Ne.symm h)]
theorem aGu (s:List UInt8):(Lib.indexAny s A4 = -1∧s.takeWhile (fun c => !A4.contains c)=s∧s.dropWhile (fun c => !A4.contains c)=[]) ∨
  ∃ n:Nat,Lib.indexAny s A4=n∧n≤s.length∧s.takeWhile (fun c => !A4.contains c)=s.take n∧s.dropWhile (fun c => !A4.contains c)=s.drop n:=by
 induction s with
 | nil=>exact .inl ⟨rfl,rfl,rfl⟩
 | cons x s ih=>
  unfold Lib.indexAny
  rw [List.takeWhile_cons,List.dropWhile_cons]
  cases hx:A4.contains x with
  | true=>exact .inr ⟨0,by simp,by simp,by simp,by simp⟩
  | false=>
   simp only [Bool.false_eq_true,if_false,Bool.not_false,if_true]
   rcases ih with ⟨h1,h2,h3⟩|⟨n,h1,h2,h3,h4⟩
   ·rw [h1,h2,h3]
    exact .inl ⟨by simp,rfl,rfl⟩
   ·rw [h1,h3,h4]
    have:((n:Int) == -1)=false:=by simp
    refine .inr ⟨n+1,by rw [this]; simp,by simpa using h2,by simp,by simp⟩
theorem NB (s:List UInt8)(hs:s.length<1000000000):ACalls ED 266 [.box [.str s]] [.ptr 0 0] (fun h' d=>h' = [.box [.str (fZ s).2.1]]∧d=.tup [.str (fZ s).1,.bool (fZ s).2.2]):=by
 refine aA c266 (by simp [f266]) ?_
 simp only [f266,↓gos,gop,qA,qB,qC,qD,qE,qF,qG,qH,qI]
 refine dZ (xs:=[.str [34]]) rfl rfl rfl rfl rfl (HH s [34] hs (by simp)) ?_
 rw [lT]
 simp only [↓gos,gop,qA,qB,qC,qD,qE,qF,qG,qH,qI]
 have hv:fZ s=if s.head?=some 34 then cut 34 s.tail else (s.takeWhile (fun c => !A4.contains c),s.dropWhile (fun c => !A4.contains c),true):=by
  unfold fZ
  cases s with
  | nil=>rfl
  | cons x t=>
   simp only [List.head?_cons,Option.some.injEq,List.tail_cons]
 rw [hv]
 by_cases h:s.head?=some 34
 ·simp only [if_pos h,↓gos,gop,qA,qB,qC,qD,qE,qF,qG,qH,qI]
  refine aB (uD s.tail 34 (by simp; omega)) rfl rfl ?_
  simp only [↓gos,gop,qA,qB,qC,qD,qE,qF,qG,qH,qI]
  exact gT rfl rfl ⟨rfl,rfl⟩
 ·simp only [if_neg h,↓gos,gop,qA,qB,qC,qD,qE,qF,qG,qH,qI]
  refine aB (PX A4 ⟨by decide,by decide,by decide⟩ s hs) rfl rfl ?_
  rcases aGu s with ⟨h1,h2,h3⟩|⟨n,h1,h2,h3,h4⟩
  ·rw [h1]
   simp only [↓gos,gop,qA,qB,qC,qD,qE,qF,qG,qH,qI]
   exact ⟨by omega,by omega,gT rfl rfl ⟨by rw [h3]; simp,by rw [h2]; rfl⟩⟩
  ·rw [h1]
   simp only [↓gos,gop,qA,qB,qC,qD,qE,qF,qG,qH,qI]
   exact ⟨by omega,by omega,gT rfl rfl ⟨by rw [h4,List.take_of_length_le (l:=s.drop n) (by simp)],by rw [h3]; rfl⟩⟩
theorem lR (s:List UInt8):∀ b∈dH s,b.toNat<128:=fun b hb=>(aFN b (KN s b hb)).1
theorem pE (s:List UInt8):(dH s).length≤s.length:=(List.takeWhile_sublist _).length_le
theorem YB (s:List UInt8)(hs:s.length<1000000000):ACalls ED 219 [.box [.str s]] [.ptr 0 0] (fun h' d=>h' = [.box [.str (bW s).2.1]]∧d=.tup [.agg [.str (bW s).1.1,.str (bW s).1.2],.bool (bW s).2.2]):=by
 have hwl:=pE s
 have hrl:=fM s
 refine aA c219 (by simp [f219]) ?_
 simp only [f219,↓gos,gop,qA,qB,qC,qD,qE,qF,qG,qH,qI]
 refine dZ (xs:=[]) rfl rfl rfl rfl rfl (AM s hs) ?_
 simp only [↓gos,gop,qA,qB,qC,qD,qE,qF,qG,qH,qI]
 refine aB (EQ (dH s) (by omega) (lR s)) rfl rfl ?_
 simp only [↓gos,gop,qA,qB,qC,qD,qE,qF,qG,qH,qI]
 unfold bW
 refine ⟨fun h=>?_,fun h=>?_⟩
 ·rw [if_pos h]
  exact gT rfl rfl ⟨rfl,rfl⟩
 ·rw [if_neg h]
  refine dZ (xs:=[.str [61]]) rfl rfl rfl rfl rfl (HH (bP s) [61] (by omega) (by simp)) ?_
  rw [lT]
  cases hr:bP s with
  | nil=>
   simp only [List.head?_nil,reduceCtorEq,if_false,↓gos,gop,qA,qB,qC,qD,qE,qF,qG,qH,qI]
   exact gT rfl rfl ⟨rfl,rfl⟩
  | cons x t=>
   rw [hr] at hrl
   by_cases hx:x=61
   ·subst hx
    simp only [List.head?_cons,if_true,List.tail_cons,↓gos,gop,qA,qB,qC,qD,qE,qF,qG,qH,qI]
    refine dZ (xs:=[]) rfl rfl rfl rfl rfl (NB t (by simp at hrl; omega)) ?_
    simp only [↓gos,gop,qA,qB,qC,qD,qE,qF,qG,qH,qI]
    exact gT rfl rfl ⟨rfl,rfl⟩
   ·simp only [List.head?_cons,Option.some.injEq,hx,if_false,↓gos,gop,qA,qB,qC,qD,qE,qF,qG,qH,qI]
    exact gT rfl rfl ⟨rfl,rfl⟩
def av (a:List UInt8×List UInt8):List DV:=[.str a.1,.str a.2]
def pv (p:PR):List DV:=[.str p.g,.str p.n,.sl 2 (p.ps.map av),.str p.v]
def f168t:ACode:=tl (tl (tl (tl f168.body)))
theorem f168e:f168.body=.seq (hd f168.body) (.seq (hd (tl f168.body)) (.seq (hd (tl (tl f168.body))) (.seq (hd (tl (tl (tl f168.body)))) f168t))):=rfl
def rS (g n r:List UInt8):PR×Bool:=
 if up n=[] then (⟨g,[],[],(iC r).1⟩,false) else
 if (eC [] r).2.2=false then (⟨g,up n,(eC [] r).1,[]⟩,false) else
 (⟨g,up n,(eC [] r).1,(iC (eC [] r).2.1).1⟩,(iC (eC [] r).2.1).2)
theorem CX (s:List UInt8):rP s=rS (dV s).1 (dV s).2.1 (dV s).2.2:=rfl
abbrev QO (x:PR×Bool):List AObj→DV→Prop:=fun h' d=>h' = [.arr 2 (x.1.ps.map av)]∧d=.tup [.agg [.str x.1.g,.str x.1.n,.osl 2 0 0 x.1.ps.length none,.str x.1.v],.bool x.2]
theorem KQ {h:List AObj}{g n v:List UInt8}{ps:List (List UInt8×List UInt8)}{b:Bool}{x:PR×Bool}(hi:h[5]?=some (.arr 2 (ps.map av)))(hx:x=(⟨g,n,ps,v⟩,b)) :
  dY 0 (QO x) (some [.agg [.str g,.str n,.osl 2 5 0 ps.length none,.str v],.bool b]) h:=by
 subst hx
 have hlt:5<h.length:=(List.getElem?_eq_some_iff.1 hi).1
 have hg:h.getD 5 .dead=.arr 2 (ps.map av):=by rw [List.getD_eq_getElem?_getD,hi]; rfl
 refine tV [5] (by simp) (by simp) (fun i h=>by omega) (fun l hl=>by simp at hl; omega) (by simp [rvd,DV.inL,DV.inL.inAll]) (fun l hl=>?_) rfl rfl ⟨?_,?_⟩
 ·simp only [List.mem_singleton] at hl
  subst hl; rw [hg]; rfl
 ·simp only [List.map_cons,List.map_nil,hg,aR]
 ·simp [rvd,DV.ren,DV.ren.renAll]
theorem DU (r:List UInt8):cB [58] r=iC r:=by rw [lT]; rfl
theorem mC (L:List (Nat×DV))(g n r:List UInt8)(hr:r.length<1000000000)(hn:n.length<1000000000)(ha:∀ b∈n,b.toNat<128)(h2:slots L 2=.ptr 1 0)(h4:slots L 4=.ptr 2 0)(h5:slots L 5=.ptr 4 0)(h6:slots L 6=.str n) :
  goN ED 0 (fin 0 f168.res (QO (rS g n r))) [] f168t L [.arr 2 [],.box [.str [],.str [],.osl 2 0 0 0 none,.str []],.box [.str r],.arr 2 [],.box [.str g,.str [],.osl 2 5 0 0 none,.str []],.arr 2 []]:=by
 simp only [f168t,f168,eU,h2,h4,h5,h6,↓gos,gop,qA,qB,qC,qD,qE,qF,qG,qH,qI]
 refine aB (EQ n hn ha) rfl rfl ?_
 simp only [h2,h4,h5,h6,↓gos,gop,qA,qB,qC,qD,qE,qF,qG,qH,qI]
 refine aM (γ:=List (List UInt8×List UInt8)×List UInt8) (fun q=>[(4,.ptr 2 0),(5,.ptr 4 0),(2,.ptr 1 0)]) (fun q=>[.arr 2 [],.box [.str [],.str [],.osl 2 0 0 0 none,.str []],.box [.str q.2],.arr 2 [],.box [.str g,.str (up n),.osl 2 5 0 q.1.length none,.str []],.arr 2 (q.1.map av)])
  (fun q=>eC q.1 q.2=eC [] r∧q.1.length+q.2.length≤r.length∧(up n=[]→q=([],r))) (fun q=>q.2.length) ([],r)
  (wks rfl (by simp) ⟨h4,h5,h2,trivial⟩) ⟨rfl,by simp,fun _=>rfl⟩ fun q hq=>?_
 obtain ⟨acc,t⟩:=q
 obtain ⟨q1,q2,q3⟩:=hq
 simp only at q1 q2 q3
 simp only [f168l0,↓gos,gop,qA,qB,qC,qD,qE,qF,qG,qH,qI]
 refine ⟨fun hne=>?_,fun he=>?_⟩
 ·refine dZ (xs:=[.str [59]]) rfl rfl rfl rfl rfl (HH t [59] (by omega) (by simp)) ?_
  rw [lT]
  by_cases h59:t.head?=some 59
  ·obtain ⟨u,rfl⟩:∃ u,t=59::u:=by
    cases t with
    | nil=>simp at h59
    | cons x u=>simp at h59; exact ⟨u,by rw [h59]⟩
   simp only [List.length_cons] at q2
   simp only [List.head?_cons,if_true,List.tail_cons,↓gos,gop,qA,qB,qC,qD,qE,qF,qG,qH,qI]
   have hlp:=jN u
   refine dZ (xs:=[]) rfl rfl rfl rfl rfl (YB u (by omega)) ?_
   rw [rG] at q1
   generalize bW u=p at q1 hlp ⊢
   obtain ⟨⟨an,avv⟩,rest,ok⟩:=p
   simp only at q1 hlp ⊢
   cases ok
   ·simp only [↓gos,gop,qA,qB,qC,qD,qE,qF,qG,qH,qI]
    rw [if_neg (by simp)] at q1
    refine KQ rfl ?_
    unfold rS
    rw [if_neg hne,← q1]
    rfl
   ·simp only [↓gos,gop,qA,qB,qC,qD,qE,qF,qG,qH,qI]
    rw [if_pos rfl] at q1
    refine ⟨by omega,by omega,?_⟩
    refine dO 6 (acc++[(an,avv)],rest) ?_ (by simp) ⟨rfl,rfl,rfl,rfl,rfl,rfl,trivial⟩ ?_ ⟨q1,by simp; omega,fun h=>absurd h hne⟩ (by simp; omega)
    ·simp [av]
    ·simp [inO,DV.inL]
  ·simp only [if_neg h59,↓gos,gop,qA,qB,qC,qD,qE,qF,qG,qH,qI]
   refine dZ (xs:=[.str [58]]) rfl rfl rfl rfl rfl (HH t [58] (by omega) (by simp)) ?_
   rw [DU]
   simp only [↓gos,gop,qA,qB,qC,qD,qE,qF,qG,qH,qI]
   rw [tE _ _ h59] at q1
   have he:rS g n r=(⟨g,up n,acc,(iC t).1⟩,(iC t).2):=by
    unfold rS
    rw [if_neg hne,← q1]
    rfl
   rw [he]
   generalize iC t=lt
   obtain ⟨v,b⟩:=lt
   simp only [if_pos hne,↓gos,gop,qA,qB,qC,qD,qE,qF,qG,qH,qI]
   exact ⟨fun _=>KQ rfl rfl,fun h=>absurd h hne⟩
 ·obtain ⟨rfl,rfl⟩:=Prod.mk.inj (q3 he)
  refine dZ (xs:=[.str [58]]) rfl rfl rfl rfl rfl (HH t [58] (by omega) (by simp)) ?_
  rw [DU]
  simp only [↓gos,gop,qA,qB,qC,qD,qE,qF,qG,qH,qI]
  have hp:rS g n t=(⟨g,[],[],(iC t).1⟩,false):=by
   unfold rS
   rw [if_pos he]
  rw [hp]
  generalize iC t=lt
  obtain ⟨v,b⟩:=lt
  simp only [he,↓gos,gop,qA,qB,qC,qD,qE,qF,qG,qH,qI]
  exact KQ (ps:=[]) rfl rfl
theorem aDd (s:List UInt8)(hs:s.length<1000000000):ACalls ED 168 [] [.str s] (QO (rP s)):=by
 have hwl:=pE s
 have hrl:=fM s
 refine aA c168 (by simp [f168]) ?_
 rw [f168e]
 simp only [f168,gU,eU,↓gos,gop,qA,qB,qC,qD,qE,qF,qG,qH,qI]
 refine dZ (xs:=[]) rfl rfl rfl rfl rfl (AM s hs) ?_
 simp only [↓gos,gop,qA,qB,qC,qD,qE,qF,qG,qH,qI]
 rw [CX]
 unfold dV
 refine ⟨fun h=>?_,fun h=>?_⟩
 ·refine dZ (xs:=[.str [46]]) rfl rfl rfl rfl rfl (HH (bP s) [46] (by omega) (by simp)) ?_
  rw [lT]
  by_cases h46:(bP s).head?=some 46
  ·simp only [if_pos h46,↓gos,gop,qA,qB,qC,qD,qE,qF,qG,qH,qI]
   have h1:=fM (bP s).tail
   have h2:=pE (bP s).tail
   have h3:(bP s).tail.length≤(bP s).length:=by simp
   refine dZ (xs:=[]) rfl rfl rfl rfl rfl (AM (bP s).tail (by omega)) ?_
   simp only [↓gos,gop,qA,qB,qC,qD,qE,qF,qG,qH,qI]
   rw [if_pos ⟨h,h46⟩]
   exact mC _ (dH s) (dH (bP s).tail) (bP (bP s).tail) (by omega) (by omega) (lR _) rfl rfl rfl rfl
  ·simp only [if_neg h46,↓gos,gop,qA,qB,qC,qD,qE,qF,qG,qH,qI]
   rw [if_neg (fun q=>h46 q.2)]
   exact mC _ [] (dH s) (bP s) (by omega) (by omega) (lR _) rfl rfl rfl rfl
 ·rw [if_neg (fun q=>q.1 h)]
  exact mC _ [] (dH s) (bP s) (by omega) (by omega) (lR _) rfl rfl rfl rfl
def wtA (l:List (List UInt8×List UInt8)):Nat:=(l.map fun a=>a.1.length+a.2.length+5).sum
def wtP (p:PR):Nat:=p.g.length+p.n.length+p.v.length+5+wtA p.ps
theorem UE (v:List UInt8):(HW v).length≤v.length+2:=by unfold HW; split <;> simp
theorem XU (a:List UInt8×List UInt8):(nT a).length≤a.1.length+a.2.length+4:=by
 have:=UE a.2
 unfold nT; simp; omega
theorem yC (a:List UInt8×List UInt8)(l:List (List UInt8×List UInt8)):wtA (a::l)=a.1.length+a.2.length+5+wtA l:=by simp [wtA]
theorem uH (a b:List (List UInt8×List UInt8)):wtA (a++b)=wtA a+wtA b:=by simp [wtA]
theorem gF:∀ l:List (List UInt8×List UInt8),(l.flatMap nT).length≤wtA l∧l.length≤wtA l
 | []=>by simp [wtA]
 | a::l=>by
  have:=gF l
  have h2:=XU a
  rw [List.flatMap_cons,List.length_append,yC,List.length_cons]
  omega
theorem nN (p:PR):(aL p).length≤wtP p:=by
 have:=(gF p.ps).1
 unfold aL mF wtP
 split <;> (simp only [List.length_append,List.length_cons]; omega)
theorem GU (p:PR)(i:Nat)(h:i<p.ps.length):p.ps.take (i+1)=p.ps.take i++[p.ps.getD i default]:=by
 rw [List.take_add_one,List.getD_eq_getElem?_getD,List.getElem?_eq_getElem h]; rfl
def f131t:ACode:=tl (tl (tl f131.body))
theorem f131e:f131.body=.seq (hd f131.body) (.seq (hd (tl f131.body)) (.seq (hd (tl (tl f131.body))) f131t)):=rfl
theorem tD (p:PR)(hp:wtP p<1000000000):aY 131 [.agg (pv p)] (.str (aL p)):=by
  have ha:=gF p.ps
  have hw:p.g.length+p.n.length+p.v.length+5+wtA p.ps<1000000000:=hp
  refine aA c131 (by simp [f131]) ?_
  have key:∀ (L:List (Nat×DV)) (x:List UInt8),x=mF p→slots L 1=.ptr 0 0→slots L 3=.str x→goN ED 0 (fin 0 f131.res fun h d=>h=[]∧d=.str (aL p)) [] f131t L [.box (pv p)]:=fun L x hx h1 h3=>by
    have hxl:x.length≤p.g.length+p.n.length+1:=by rw [hx]; unfold mF; split <;> first | omega | (simp only [List.length_append,List.length_cons]; omega)
    simp only [f131t,f131,eU,pv,h1,h3,↓gos,gop,qA,qB,qC,qD,qE,qF,qG,qH,qI]
    refine aM (γ:=Nat) (fun i=>[(20,.int .i64 i),(19,.int .i64 p.ps.length),(18,.sl 2 (p.ps.map av)),(1,.ptr 0 0),(3,.str (x++(p.ps.take i).flatMap nT))]) (fun _=>[.box (pv p)]) (fun i=>i≤p.ps.length) (fun i=>p.ps.length - i) 0
      (wks rfl (by simp) ⟨rfl,rfl,rfl,h1,(by simp [slots,h3]),trivial⟩) (by omega) fun i hi=>?_
    have hti:((p.ps.take i).flatMap nT).length≤wtA p.ps:=by
      have e:=uH (p.ps.take i) (p.ps.drop i)
      rw [List.take_append_drop] at e
      have:=(gF (p.ps.take i)).1
      omega
    simp only [f131l0,pv,↓gos,gop,qA,qB,qC,qD,qE,qF,qG,qH,qI]
    refine ⟨fun h=>?_,fun h=>?_⟩
    · have hi2:i<p.ps.length:=by omega
      refine aU default (by simpa using hi2) ?_
      have hat:=GU p i hi2
      have hal:p.ps.getD i default∈p.ps:=by
        rw [List.getD_eq_getElem?_getD,List.getElem?_eq_getElem hi2]; exact List.getElem_mem _
      generalize p.ps.getD i default=a at hat hal ⊢
      simp only [av,↓gos,gop,qA,qB,qC,qD,qE,qF,qG,qH,qI]
      have hr:p.ps.take i++[a]=p.ps.take (i+1):=hat.symm
      have haw:a.1.length+a.2.length+5+wtA (p.ps.take i)≤wtA p.ps:=by
        have e:=uH (p.ps.take (i+1)) (p.ps.drop (i+1))
        rw [List.take_append_drop,← hr,uH,yC] at e
        omega
      have hti:=(gF (p.ps.take i)).1
      have fin:∀ (L' : List (Nat×DV)) (y:List UInt8),y=x++(p.ps.take i).flatMap nT++nT a→slots L' 20=.int .i64 ((i+1:Nat):Int)→slots L' 19=.int .i64 p.ps.length→slots L' 18=.sl 2 (p.ps.map av)→slots L' 1=.ptr 0 0→slots L' 3=.str y →
          rnd 0 (fun (i:Nat)=>[(20,.int .i64 i),(19,.int .i64 p.ps.length),(18,.sl 2 (p.ps.map av)),(1,.ptr 0 0),(3,.str (x++(p.ps.take i).flatMap nT))]) (fun _=>[.box [.str p.g,.str p.n,.sl 2 (p.ps.map av),.str p.v]]) (fun (i:Nat)=>i≤p.ps.length) (fun (i:Nat)=>p.ps.length - i) (p.ps.length - i)
            (sta L' [.box [.str p.g,.str p.n,.sl 2 (p.ps.map av),.str p.v],.box [.str a.1,.str a.2]]):=fun L' y hy k1 k2 k3 k4 k5=>by
        refine dO 1 (i+1) rfl (by simp) ⟨k1,rfl,k2,rfl,k3,rfl,k4,rfl,?_,rfl,trivial⟩ (by simp [inO,DV.inL]) (by omega) (by omega)
        rw [k5,hy,hat,List.flatMap_append]
        simp
      refine ⟨fun he=>?_,fun he=>?_⟩
      · repeat (refine ⟨by first | omega | (simp only [List.length_append,List.length_cons,List.length_nil]; omega),?_⟩)
        intro v hv
        rw [wrap_i64 (by omega) (by omega)] at hv
        subst hv
        refine fin _ _ ?_ rfl rfl rfl rfl rfl
        simp [nT,HW,he]
      · refine aB (ZB A3 ⟨by decide,by decide,by decide⟩ a.2 (by omega)) rfl rfl ?_
        cases hc:a.2.any A3.contains
        · simp only [↓gos,gop,qA,qB,qC,qD,qE,qF,qG,qH,qI]
          repeat (refine ⟨by first | omega | (simp only [List.length_append,List.length_cons,List.length_nil]; omega),?_⟩)
          intro v hv
          rw [wrap_i64 (by omega) (by omega)] at hv
          subst hv
          refine fin _ _ ?_ rfl rfl rfl rfl rfl
          rw [nT,HW,if_neg (by rw [hc]; simp [he])]
          simp
        · simp only [↓gos,gop,qA,qB,qC,qD,qE,qF,qG,qH,qI]
          repeat (refine ⟨by first | omega | (simp only [List.length_append,List.length_cons,List.length_nil]; omega),?_⟩)
          intro v hv
          rw [wrap_i64 (by omega) (by omega)] at hv
          subst hv
          refine fin _ _ ?_ rfl rfl rfl rfl rfl
          rw [nT,HW,if_pos (.inr hc)]
          simp
    · have hi2:i=p.ps.length:=by omega
      subst hi2
      rw [List.take_length] at hti ⊢
      repeat (refine ⟨by first | omega | (simp only [List.length_append,List.length_cons,List.length_nil]; omega),?_⟩)
      refine kV ?_
      rw [aL,hx]
      simp
  rw [f131e]
  simp only [f131,gU,eU,pv,↓gos,gop,qA,qB,qC,qD,qE,qF,qG,qH,qI]
  refine ⟨fun hg=>?_,fun hg=>?_⟩
  · refine ⟨by omega,by simp only [List.length_append,List.length_cons,List.length_nil]; omega,?_⟩
    refine key _ _ ?_ rfl rfl
    rw [mF,if_neg hg]; simp
  · refine key _ _ ?_ rfl rfl
    rw [mF,if_pos hg]
theorem LW {α:Type} [DecidableEq α]{a b:List α}{i:Nat}(hl:a.length=b.length)(h:a.take i=b.take i)(hi:i<a.length)(d:α):(a.getD i d=b.getD i d→a.take (i+1)=b.take (i+1))∧(a.getD i d≠b.getD i d→a≠b):=by
 refine ⟨fun he=>?_,fun hn he=>hn (by rw [he])⟩
 have hb:i<b.length:=by omega
 rw [List.take_add_one,List.take_add_one,h]
 simp only [List.getD_eq_getElem?_getD,List.getElem?_eq_getElem hi,List.getElem?_eq_getElem hb,Option.getD_some] at he
 rw [List.getElem?_eq_getElem hi,List.getElem?_eq_getElem hb,he]
theorem SX (a b:List (List UInt8×List UInt8))(ha:a.length<1000000000)(hb:b.length<1000000000):aY 169 [.sl 2 (a.map av),.sl 2 (b.map av)] (.bool (decide (a=b))):=by
 refine aA c169 (by simp [f169]) ?_
 simp only [f169,↓gos,gop,qA,qB,qC,qD,qE,qF,qG,qH,qI]
 refine ⟨fun h=>aJ ?_,fun h=>?_⟩
 ·rw [decide_eq_false]
  intro e; apply h; rw [e]
 ·have hl:a.length=b.length:=by omega
  refine aM (γ:=Nat) (fun i=>[(13,.int .i64 i),(12,.int .i64 a.length),(0,.sl 2 (a.map av)),(1,.sl 2 (b.map av))]) (fun _=>[]) (fun i=>i≤a.length∧a.take i=b.take i) (fun i=>a.length - i) 0
   (wks rfl (by simp) ⟨rfl,rfl,rfl,rfl,trivial⟩) ⟨by omega,by simp⟩ fun i hi=>?_
  obtain ⟨hi,ht⟩:=hi
  simp only [f169l0,↓gos,gop,qA,qB,qC,qD,qE,qF,qG,qH,qI]
  refine ⟨fun h1=>?_,fun h1=>?_⟩
  ·have h2:i<a.length:=by omega
   have hd:=LW hl ht h2 default
   refine aU default (by simpa using h2) ?_
   simp only [av,↓gos,gop,qA,qB,qC,qD,qE,qF,qG,qH,qI]
   refine aU default (by omega) ?_
   generalize a.getD i default=x at hd ⊢
   generalize b.getD i default=y at hd ⊢
   obtain ⟨x1,x2⟩:=x
   obtain ⟨y1,y2⟩:=y
   simp only [av,↓gos,gop,qA,qB,qC,qD,qE,qF,qG,qH,qI]
   refine ⟨fun h3=>aJ ?_,fun h3 v hv=>?_⟩
   ·have hne:¬ (x1=y1∧x2=y2):=by
     rintro ⟨rfl,rfl⟩
     simp at h3
    rw [decide_eq_false (hd.2 (by simpa using hne))]
   ·obtain ⟨rfl,rfl⟩:=h3
    rw [wrap_i64 (by omega) (by omega)] at hv
    subst hv
    exact aQ (i+1) rfl (by simp) ⟨rfl,rfl,rfl,rfl,trivial⟩ ⟨by omega,hd.1 rfl⟩ (by omega)
  ·refine aJ ?_
   have:i=a.length:=by omega
   subst this
   rw [List.take_length,hl,List.take_length] at ht
   rw [decide_eq_true ht]
theorem aET (p:PR):aY 170 [.agg (pv p)] (.bool (MC p)):=by
 refine aA c170 (by simp [f170]) ?_
 simp only [f170,pv,↓gos,gop,qA,qB,qC,qD,qE,qF,qG,qH,qI]
 have e1:FIR=[66,69,71,73,78]:=rfl
 have e2:VER=[86,69,82,83,73,79,78]:=rfl
 unfold MC
 rw [e1,e2]
 refine ⟨fun h1=>⟨fun h2=>aJ ?_,fun h2=>aJ ?_⟩,fun h1=>aJ ?_⟩
 ·rw [decide_eq_false h1,decide_eq_false h2]; rfl
 ·rw [decide_eq_true h2]; simp
 ·rw [decide_eq_true h1]; simp
theorem wY:∀ n (s:List UInt8) acc,s.length≤n→(eC acc s).1.length≤acc.length+s.length
 | n,s,acc,hn=>by
  by_cases h59:s.head?=some 59
  ·obtain ⟨t,rfl⟩:∃ t,s=59::t:=by
    cases s with
    | nil=>simp at h59
    | cons x t=>simp at h59; exact ⟨t,by rw [h59]⟩
   rw [rG]
   have hl:=jN t
   cases n with
   | zero=>simp at hn
   | succ n=>
    simp only [List.length_cons] at hn
    split
    ·have:=wY n (bW t).2.1 (acc++[(bW t).1]) (by omega)
     simp at this ⊢; omega
    ·simp
  ·rw [tE _ _ h59]; simp
theorem PL (s:List UInt8):(rP s).1.ps.length≤s.length:=by
 have h1:(dV s).2.2.length≤s.length:=by
  unfold dV
  have:=fM s
  split
  ·have h2:=fM (bP s).tail
   have h3:(bP s).tail.length≤(bP s).length:=by simp
   show (bP (bP s).tail).length≤_
   omega
  ·exact this
 have h2:=wY _ (dV s).2.2 [] (Nat.le_refl _)
 unfold rP
 split
 ·simp
 ·split
  ·simp at h2 ⊢; omega
  ·simp at h2 ⊢; omega
theorem aDg (p:PR)(hp:wtP p<100000000):aY 130 [.agg (pv p)] (.bool (fT p)):=by
 have hwl:=nN p
 refine aA c130 (by simp [f130]) ?_
 simp only [f130,pv,↓gos,gop,qA,qB,qC,qD,qE,qF,qG,qH,qI]
 refine aB (tD p (by omega)) rfl rfl ?_
 simp only [↓gos,gop,qA,qB,qC,qD,qE,qF,qG,qH,qI]
 refine gC (aDd (aL p) (by omega)) (by simp [DV.closed]) ?_
 generalize hx:rP (aL p)=x
 obtain ⟨q,b⟩:=x
 have hk:fT p=(b&&decide (q=p)&&MC p && !ef (aL p) END&&aW bR (aL p) 0 && !OG (aL p)):=by
  unfold fT; rw [hx]
 have no:q≠p→false=fT p:=fun h=>by rw [hk,decide_eq_false h]; simp
 have hqb:=PL (aL p)
 rw [hx] at hqb
 simp only at hqb
 have hpb:=(gF p.ps).2
 have hpw:wtA p.ps≤wtP p:=by unfold wtP; omega
 cases b
 ·simp only [DV.ren,DV.ren.renAll,aR,↓gos,gop,qA,qB,qC,qD,qE,qF,qG,qH,qI]
  exact aJ (by rw [hk]; rfl)
 ·simp only [DV.ren,DV.ren.renAll,aR,↓gos,gop,qA,qB,qC,qD,qE,qF,qG,qH,qI]
  refine ⟨fun g1=>⟨fun g2=>⟨fun g3=>?_,fun g3=>aJ (no fun e=>g3 (by rw [e]))⟩,fun g2=>aJ (no fun e=>g2 (by rw [e]))⟩,fun g1=>aJ (no fun e=>g1 (by rw [e]))⟩
  refine aB (SX q.ps p.ps (by omega) (by omega)) (by simp [DV.dn,DV.low,Go.Ai.tkm]) rfl ?_
  by_cases g4:q.ps=p.ps
  ·have hq:q=p:=by cases q; cases p; simp_all
   subst hq
   rw [decide_eq_true rfl]
   simp only [↓gos,gop,qA,qB,qC,qD,qE,qF,qG,qH,qI]
   refine aB (aET q) (by simp [DV.dn,DV.low,DV.low.lowAll,pv,Go.Ai.tkm]) rfl ?_
   cases hm:MC q
   ·simp only [↓gos,gop,qA,qB,qC,qD,qE,qF,qG,qH,qI]
    exact aJ (by rw [hk,hm]; simp)
   simp only [↓gos,gop,qA,qB,qC,qD,qE,qF,qG,qH,qI]
   refine aB (aGG (aL q) END (by omega) (by decide) (by unfold QB; decide)) rfl rfl ?_
   cases he:ef (aL q) END
   ·simp only [↓gos,gop,qA,qB,qC,qD,qE,qF,qG,qH,qI]
    refine aB (vM (aL q) (by omega)) rfl rfl ?_
    cases hv:aW bR (aL q) 0
    ·simp only [↓gos,gop,qA,qB,qC,qD,qE,qF,qG,qH,qI]
     exact aJ (by rw [hk,hm,he,hv]; simp)
    ·simp only [↓gos,gop,qA,qB,qC,qD,qE,qF,qG,qH,qI]
     refine aB (ZB [13,10] sg2 (aL q) (by omega)) rfl rfl ?_
     rw [VK]
     cases hd:OG (aL q)
     ·simp only [↓gos,gop,qA,qB,qC,qD,qE,qF,qG,qH,qI]
      exact aJ (by rw [hk,hm,he,hv,hd]; simp)
     ·simp only [↓gos,gop,qA,qB,qC,qD,qE,qF,qG,qH,qI]
      exact aJ (by rw [hk,hm,he,hv,hd]; simp)
   ·simp only [↓gos,gop,qA,qB,qC,qD,qE,qF,qG,qH,qI]
    exact aJ (by rw [hk,hm,he]; simp)
  ·rw [decide_eq_false g4]
   simp only [↓gos,gop,qA,qB,qC,qD,qE,qF,qG,qH,qI]
   exact aJ (no fun e=>g4 (by rw [e]))
theorem aCD (p:PR)(hp:wtP p<100000000):aY 129 [.agg (pv p)] (.bool (!fT p)):=by
 refine aA c129 (by simp [f129]) ?_
 simp only [f129,pv,↓gos,gop,qA,qB,qC,qD,qE,qF,qG,qH,qI]
 refine aB (aDg p hp) rfl rfl ?_
 cases fT p
 ·simp only [↓gos,gop,qA,qB,qC,qD,qE,qF,qG,qH,qI]
  exact aJ rfl
 ·simp only [↓gos,gop,qA,qB,qC,qD,qE,qF,qG,qH,qI]
  exact aJ rfl
theorem pB {α:Type}{l:List α}{i:Nat}(h:i<l.length)(d:α):l.getD i d∈l:=by
 rw [List.getD_eq_getElem?_getD,List.getElem?_eq_getElem h]; exact List.getElem_mem _
theorem dB {α:Type}{l:List α}{i:Nat}(h:i<l.length)(d:α):l.take (i+1)=l.take i++[l.getD i d]:=by
 rw [List.take_add_one,List.getD_eq_getElem?_getD,List.getElem?_eq_getElem h]; rfl
theorem PK {α:Type}{l:List α}{i:Nat}(h:i<l.length)(d:α){p:α→Bool}(hp:p (l.getD i d)=false):l.all p=false:=by
 cases hc:l.all p with
 | false=>rfl
 | true=>rw [List.all_eq_true.1 hc _ (pB h d)] at hp; cases hp
instance:Inhabited PR:=⟨⟨[],[],[],[]⟩⟩
def wtC (c:List PR):Prop:=∀ p∈c,wtP p≤50000
theorem TD (c:List PR)(hc:c.length<1000000000)(hw:wtC c):ACalls ED 167 [] [.sl 4 (c.map pv),.fn 129 []] (fun h d=>h=[]∧∃ n:Int,d=.int .i64 n∧(decide (0≤n)) = !c.all fT):=by
 refine aA c167 (by simp [f167]) ?_
 simp only [f167,↓gos,gop,qA,qB,qC,qD,qE,qF,qG,qH,qI]
 refine aM (γ:=Nat) (fun i=>[(8,.int .i64 i),(7,.int .i64 c.length),(0,.sl 4 (c.map pv)),(1,.fn 129 [])]) (fun _=>[]) (fun i=>i≤c.length∧(c.take i).all fT=true) (fun i=>c.length - i) 0
  (wks rfl (by simp) ⟨rfl,rfl,rfl,rfl,trivial⟩) ⟨by omega,by simp⟩ fun i hi=>?_
 obtain ⟨hi,ht⟩:=hi
 simp only [f167l0,↓gos,gop,qA,qB,qC,qD,qE,qF,qG,qH,qI]
 refine ⟨fun h=>?_,fun h=>?_⟩
 ·have h2:i<c.length:=by omega
  refine aU default (by simpa using h2) ?_
  have htk:=dB h2 default
  have hm:=pB h2 default
  have hno:=fun (p:PR→Bool)=>PK (p:=p) h2 default
  generalize c.getD i default=p at htk hm hno ⊢
  simp only [pv,↓gos,gop,qA,qB,qC,qD,qE,qF,qG,qH,qI]
  refine aB (aCD p (by have:=hw p hm; omega)) rfl rfl ?_
  cases hk:fT p
  ·simp only [↓gos,gop,qA,qB,qC,qD,qE,qF,qG,qH,qI]
   refine aC rfl ⟨rfl,_,rfl,?_⟩
   rw [hno _ hk]; simp
  ·simp only [↓gos,gop,qA,qB,qC,qD,qE,qF,qG,qH,qI]
   intro v hv
   rw [wrap_i64 (by omega) (by omega)] at hv
   subst hv
   refine aQ (i+1) rfl (by simp) ⟨rfl,rfl,rfl,rfl,trivial⟩ ⟨by omega,?_⟩ (by omega)
   rw [htk,List.all_append,ht]; simp [hk]
 ·have h2:i=c.length:=by omega
  subst h2
  rw [List.take_length] at ht
  refine aC rfl ⟨rfl,_,rfl,?_⟩
  rw [ht]; rfl
theorem BK (c:List PR)(hc:c.length<1000000000)(hw:wtC c):aY 128 [.sl 4 (c.map pv),.fn 129 []] (.bool (!c.all fT)):=by
 refine aA c128 (by simp [f128]) ?_
 simp only [f128,↓gos,gop,qA,qB,qC,qD,qE,qF,qG,qH,qI]
 refine fO (TD c hc hw) rfl ⟨_,if c.all fT=true then -1 else 0,rfl,by split <;> simp_all⟩ ?_
 rintro d ⟨n,rfl,hn⟩
 refine ⟨rfl,?_⟩
 rw [← hn]
 simp only [↓gos,gop,qA,qB,qC,qD,qE,qF,qG,qH,qI]
 refine ⟨fun h=>aJ ?_,fun h=>aJ ?_⟩
 ·rw [decide_eq_true h]
 ·rw [decide_eq_false h]
def cv (c:List PR):List DV:=[.sl 4 (c.map pv)]
def okc (c:List PR):Bool:=decide (c.length≤40)&&c.all fT
theorem uC (l:List (List PR)):okW l=(decide (l.length≤60)&&l.all okc):=rfl
def nR (c:List PR):List (List UInt8):=[BEG,VER++58::V40]++c.map aL++[END]
theorem pK (a:List (List PR))(c:List PR):bS (a++[c])=bS a++nR c:=by simp [bS,nR]
theorem HT (c:List PR):(nR c).length=c.length+3:=by simp [nR]
theorem pG (l:List (List PR))(h:l.all okc=true):(bS l).length≤43*l.length:=by
 induction l with
 | nil=>simp [bS]
 | cons c l ih=>
  rw [List.all_cons,Bool.and_eq_true] at h
  have h1:=h.1
  unfold okc at h1
  rw [Bool.and_eq_true,decide_eq_true_eq] at h1
  have:=ih h.2
  have e:bS (c::l)=nR c++bS l:=by simp [bS,nR]
  rw [e,List.length_append,HT,List.length_cons]
  omega
theorem PH (N:Nat)(m:List (List UInt8))(h:∀ x∈m,x.length≤N):(eY m).length≤m.length*(4*N+2):=by
 refine Nat.le_trans (sN m) ?_
 induction m with
 | nil=>simp
 | cons x m ih=>
  rw [List.map_cons,List.sum_cons,List.length_cons,Nat.add_mul,Nat.one_mul]
  have:=ih fun y hy=>h y (by simp [hy])
  have:=h x (by simp)
  omega
theorem NU (l:List (List PR))(h:∀ c∈l,wtC c):∀ x∈bS l,x.length≤50000:=by
 intro x hx
 obtain ⟨c,hc,hx⟩:=List.mem_flatMap.1 hx
 simp only [List.mem_append,List.mem_cons,List.mem_nil_iff,or_false,List.mem_map] at hx
 rcases hx with ((rfl|rfl)|⟨p,hp,rfl⟩)|rfl
 ·decide
 ·decide
 ·have:=nN p; have:=h c hc p hp; omega
 ·decide
theorem RO (l:List (List PR))(hl:l.length<1000000000)(hc:∀ c∈l,c.length<1000000000∧wtC c):aY 67 [.sl 1 (l.map cv)] (.tup [.str (iL l).1,.int .i64 (iL l).2]):=by
 refine aA c67 (by simp [f67]) ?_
 simp only [f67,↓gos,gop,qA,qB,qC,qD,qE,qF,qG,qH,qI]
 have bad:okW l=false→iL l=([],12):=fun h=>by unfold iL; rw [if_pos h]
 refine ⟨fun h=>?_,fun h=>?_⟩
 ·rw [bad (by rw [uC,decide_eq_false (by omega)]; rfl)]
  exact aC rfl ⟨rfl,rfl⟩
 ·refine aM (γ:=Nat) (fun i=>[(15,.int .i64 i),(14,.int .i64 l.length),(13,.sl 1 (l.map cv)),(4,.osl 1 0 0 (bS (l.take i)).length none)]) (fun i=>[.arr 1 ((bS (l.take i)).map sv)])
   (fun i=>i≤l.length∧(l.take i).all okc=true) (fun i=>l.length - i) 0 (wks rfl (by simp) ⟨rfl,rfl,rfl,rfl,trivial⟩) ⟨by omega,by simp⟩ fun i hi=>?_
  obtain ⟨hi,ht⟩:=hi
  have hlw:=pG _ ht
  rw [List.length_take] at hlw
  simp only [f67l1,↓gos,gop,qA,qB,qC,qD,qE,qF,qG,qH,qI]
  refine ⟨fun h1=>?_,fun h1=>?_⟩
  ·have h2:i<l.length:=by omega
   refine aU default (by simpa using h2) ?_
   have htk:=dB h2 default
   have hm:=pB h2 default
   have hno:=fun (p:List PR→Bool)=>PK (p:=p) h2 default
   generalize l.getD i default=c at htk hm hno ⊢
   simp only [cv,↓gos,gop,qA,qB,qC,qD,qE,qF,qG,qH,qI]
   refine ⟨fun h3=>?_,fun h3=>?_⟩
   ·rw [bad (by rw [uC,hno okc (by rw [okc,decide_eq_false (by omega)]; rfl)]; simp)]
    exact aC rfl ⟨rfl,rfl⟩
   ·refine aB (BK c (by omega) (hc c hm).2) rfl rfl ?_
    cases hk:c.all fT
    ·simp only [↓gos,gop,qA,qB,qC,qD,qE,qF,qG,qH,qI]
     rw [bad (by rw [uC,hno okc (by rw [okc,hk]; simp)]; simp)]
     exact aC rfl ⟨rfl,rfl⟩
    ·simp only [↓gos,gop,qA,qB,qC,qD,qE,qF,qG,qH,qI]
     refine ⟨by omega,by omega,?_⟩
     have hck:okc c=true:=by rw [okc,hk,decide_eq_true (by omega)]; rfl
     have hall:(l.take (i+1)).all okc=true:=by rw [htk,List.all_append,ht]; simp [hck]
     have hlw2:=pG _ hall
     rw [List.length_take] at hlw2
     generalize hb:bS (l.take i)++[BEG,VER++58::V40]=base
     have hbl:base.length=(bS (l.take i)).length+2:=by rw [← hb]; simp
     refine aM (γ:=Nat) (fun j=>[(31,.int .i64 j),(30,.int .i64 c.length),(29,.sl 4 (c.map pv)),(4,.osl 1 0 0 (base++(c.take j).map aL).length none),(15,.int .i64 i),(14,.int .i64 l.length),(13,.sl 1 (l.map cv))]) (fun j=>[.arr 1 ((base++(c.take j).map aL).map sv)])
      (fun j=>j≤c.length) (fun j=>c.length - j) 0 (wkd 1 ?_ (by simp) ⟨rfl,rfl,rfl,rfl,rfl,rfl,?_,rfl,rfl,rfl,rfl,rfl,rfl,rfl,trivial⟩ (by simp [inO])) (by omega) fun j hj=>?_
     ·simp [← hb,sv]; decide
     ·simp [slots,hbl]
     simp only [f67l0,↓gos,gop,qA,qB,qC,qD,qE,qF,qG,qH,qI]
     refine ⟨fun q1=>?_,fun q1=>?_⟩
     ·have q2:j<c.length:=by omega
      refine aU default (by simpa using q2) ?_
      have jtk:=dB q2 default
      have jm:=pB q2 default
      generalize c.getD j default=p at jtk jm ⊢
      simp only [pv,↓gos,gop,qA,qB,qC,qD,qE,qF,qG,qH,qI]
      refine aB (tD p (by have:=(hc c hm).2 p jm; omega)) rfl rfl ?_
      simp only [↓gos,gop,qA,qB,qC,qD,qE,qF,qG,qH,qI]
      have e1:(base++(c.take j).map aL).length+1=(base++(c.take (j+1)).map aL).length:=by rw [jtk]; simp; omega
      have e2:(base++(c.take j).map aL).map sv++[[DV.str (aL p)]]=(base++(c.take (j+1)).map aL).map sv:=by rw [jtk]; simp [sv]
      have e3:(base++(c.take j).map aL).length≤10000:=by simp [hbl]; omega
      refine ⟨by omega,by omega,?_⟩
      intro v hv
      rw [wrap_i64 (by omega) (by omega)] at hv
      subst hv
      rw [e1,e2]
      exact dO 1 (j+1) rfl (by simp) ⟨rfl,rfl,rfl,rfl,rfl,rfl,rfl,rfl,rfl,rfl,rfl,rfl,rfl,rfl,trivial⟩ rfl (by omega) (by omega)
     ·have q2:j=c.length:=by omega
      subst q2
      rw [List.take_length]
      have e1:(base++c.map aL).length+1=(bS (l.take (i+1))).length:=by rw [htk,pK,nR,← hb]; simp; omega
      have e2:(base++c.map aL).map sv++[[DV.str [69,78,68,58,86,67,65,82,68]]]=(bS (l.take (i+1))).map sv:=by rw [htk,pK,nR,← hb]; simp [sv]; rfl
      have e3:(base++c.map aL).length≤10000:=by simp [hbl]; omega
      refine ⟨by omega,by omega,?_⟩
      intro v hv
      rw [wrap_i64 (by omega) (by omega)] at hv
      subst hv
      rw [e1,e2]
      exact dO 1 (i+1) rfl (by simp) ⟨rfl,rfl,rfl,rfl,rfl,rfl,rfl,rfl,trivial⟩ rfl ⟨by omega,hall⟩ (by omega)
  ·have h2:i=l.length:=by omega
   subst h2
   rw [List.take_length] at ht hlw ⊢
   have hok:okW l=true:=by rw [uC,ht,decide_eq_true (by omega)]; rfl
   have hfl:=PH 50000 (bS l) (NU l fun c hm=>(hc c hm).2)
   have hll:(bS l).length≤2580:=by omega
   have hmul:(bS l).length*(4*50000+2)≤2580*(4*50000+2):=Nat.mul_le_mul_right _ hll
   refine aB (aAu (bS l) (by omega) (by omega)) (by simp [DV.dn,DV.low,Go.Ai.tkm]) rfl ?_
   simp only [↓gos,gop,qA,qB,qC,qD,qE,qF,qG,qH,qI]
   unfold iL
   rw [if_neg (by rw [hok]; simp)]
   refine ⟨fun q=>?_,fun q=>?_⟩
   ·rw [if_pos (by omega)]
    exact aC rfl ⟨rfl,rfl⟩
   ·rw [if_neg (by omega)]
    exact aC rfl ⟨rfl,rfl⟩
end Go.Proofs.Ut
