/- contact.all, and the kind of a name. -/
import Derived.Test.YtgamnnfndidclaaGreatDoorGYW7
import Derived.Test.YtgamnnfndidclaaGreatDoorGAiGrow2
open Nat renaming reduceBEq → qA,reduceAdd → qB,reduceSub → qC,reduceLeDiff → qD,reduceMul → qE
open Int renaming reduceLE → qF,reduceLT → qG,reduceNe → qH,reduceToNat → qI
set_option linter.all false
namespace Go.Proofs.Ut
open Go.Ai
set_option maxRecDepth 100000
def kn (name:List UInt8)(g:Nat):List DV:=[.str name,.fn 152 [.eptr [.fn g []] 0],.fn 153 [.eptr [.fn g []] 0]]
theorem jI (name:List UInt8)(g:Nat):aY 106 [.str name,.fn g []] (.agg (kn name g)):=by
 refine bQ c106 (by simp [f106]) ?_
 simp only [f106,aG,aD,↓gos,gop,qA,qB,qC,qD,qE,qF,qG,qH,qI]
 exact dF [0] rfl rfl ⟨rfl,rfl⟩
def KNS:List (List UInt8):=[[70,78],[78],[78,73,67,75,78,65,77,69],[73,77,80,80],[69,77,65,73,76],[84,69,76],[67,65,84,69,71,79,82,73,69,83],[78,79,84,69],[85,73,68]]
def kf (k:Nat):Nat:=match k with | 1=>108 | 3=>111 | 6=>115 | _=>152
def kg (k:Nat):Nat:=match k with | 1=>109 | 3=>112 | 6=>116 | _=>153
def kc (k:Nat):List DV:=match k with
 | 0=>[.eptr [.fn 107 []] 0] | 2=>[.eptr [.fn 110 []] 0] | 4=>[.eptr [.fn 113 []] 0] | 5=>[.eptr [.fn 114 []] 0] | 7=>[.eptr [.fn 117 []] 0] | 8=>[.eptr [.fn 118 []] 0] | _=>[]
def knv (k:Nat):List DV:=[.str (KNS.getD k []),.fn (kf k) (kc k),.fn (kg k) (kc k)]
def kns:List (List DV):=[knv 0,knv 1,knv 2,knv 3,knv 4,knv 5,knv 6,knv 7,knv 8]
theorem SI {p:Nat→Prop}(h0:p 0)(h1:p 1)(h2:p 2)(h3:p 3)(h4:p 4)(h5:p 5)(h6:p 6)(h7:p 7)(h8:p 8):∀ k,k<9→p k
 | 0,_=>h0 | 1,_=>h1 | 2,_=>h2 | 3,_=>h3 | 4,_=>h4 | 5,_=>h5 | 6,_=>h6 | 7,_=>h7 | 8,_=>h8
 | k+9,h=>by omega
theorem QI:∀ k,k<9→kns[k]?=some (knv k):=SI rfl rfl rfl rfl rfl rfl rfl rfl rfl
theorem sV:∀ k,k<9→(kc k).all DV.closed=true:=SI rfl rfl rfl rfl rfl rfl rfl rfl rfl
theorem fR:∀ k,k<9→(DV.agg (knv k)).closed=true:=SI rfl rfl rfl rfl rfl rfl rfl rfl rfl
theorem YF:aY 56 [] (.sl 3 kns):=by
 refine bQ c56 (by simp [f56]) ?_
 simp only [f56,aG,aD,↓gos,gop,qA,qB,qC,qD,qE,qF,qG,qH,qI]
 refine aX (jI (KNS.getD 0 []) 107) rfl rfl ?_
 simp only [aG,aD,↓gos,gop,qA,qB,qC,qD,qE,qF,qG,qH,qI]
 refine aX (jI (KNS.getD 2 []) 110) rfl rfl ?_
 simp only [aG,aD,↓gos,gop,qA,qB,qC,qD,qE,qF,qG,qH,qI]
 refine aX (jI (KNS.getD 4 []) 113) rfl rfl ?_
 simp only [aG,aD,↓gos,gop,qA,qB,qC,qD,qE,qF,qG,qH,qI]
 refine aX (jI (KNS.getD 5 []) 114) rfl rfl ?_
 simp only [aG,aD,↓gos,gop,qA,qB,qC,qD,qE,qF,qG,qH,qI]
 refine aX (jI (KNS.getD 7 []) 117) rfl rfl ?_
 simp only [aG,aD,↓gos,gop,qA,qB,qC,qD,qE,qF,qG,qH,qI]
 refine aX (jI (KNS.getD 8 []) 118) rfl rfl ?_
 simp only [kn,aG,aD,↓gos,gop,qA,qB,qC,qD,qE,qF,qG,qH,qI]
 exact dF [1] (D:=.sl 3 kns) rfl rfl ⟨rfl,rfl⟩
theorem VT (nm:List UInt8)(k:Nat)(hk:k<9):ACalls ED 105 [.box [.str nm]] [.agg (knv k),.ptr 0 0] (fun h d=>h=[.box [.str nm]]∧d=.bool (decide (KNS.getD k []=nm))):=by
 refine aA c105 (by simp [f105]) ?_
 simp only [f105,knv,↓gos,gop,qA,qB,qC,qD,qE,qF,qG,qH,qI]
 refine ⟨fun h=>?_,fun h=>?_⟩
 ·rw [decide_eq_true h]; exact oY rfl rfl
 ·rw [decide_eq_false h]; exact oY rfl rfl
def knI (nm:List UInt8):Nat→Int
 | 0 => -1
 | k+1=>if 0≤knI nm k then knI nm k else if KNS.getD k []=nm then k else -1
theorem ML (nm:List UInt8):ACalls ED 104 [.box [.str nm]] [.sl 3 kns,.fn 105 [.ptr 0 0]] (fun h d=>h=[.box [.str nm]]∧d=.int .i64 (knI nm 9)):=by
 refine aA c104 (by simp [f104]) ?_
 simp only [f104,↓gos,gop,qA,qB,qC,qD,qE,qF,qG,qH,qI]
 refine aM (γ:=Nat) (fun i=>[(8,.int .i64 i),(7,.int .i64 9),(1,.fn 105 [.ptr 0 0]),(0,.sl 3 kns)]) (fun _=>[.box [.str nm]]) (fun i=>i≤9∧knI nm i = -1) (fun i=>9 - i) 0
  (wks rfl (by simp) ⟨rfl,rfl,rfl,rfl,trivial⟩) ⟨by omega,rfl⟩ fun i ⟨hi,ht⟩=>?_
 simp only [f104l0,↓gos,gop,qA,qB,qC,qD,qE,qF,qG,qH,qI]
 refine ⟨fun h=>?_,fun h=>?_⟩
 ·have h2:i<9:=by omega
  refine uO (knv i) (QI i h2) ?_
  have e:List.take 3 (knv i)=knv i:=rfl
  rw [e]
  refine aO (Nat.le_refl 3) ?_
  refine fL (h1:=[.box [.str nm]]) (ds1:=[.agg (knv i),.ptr 0 0]) [0] [] (by simp) (by simp) rfl rfl (by
   rw [List.map_cons]
   rw [show DV.dn [0] _ (.agg (knv i))=.agg (knv i) from cY (fR i h2)]
   rfl) (by
   simp only [List.all_cons,List.all_nil,Bool.and_true,Bool.and_eq_true]
   exact ⟨⟨bC (fR i h2),rfl⟩,rfl⟩) (VT nm i h2) rfl ?_
  have hk:knI nm (i+1)=if KNS.getD i []=nm then (i:Int) else -1:=by rw [knI,if_neg (by omega)]
  by_cases hd:KNS.getD i []=nm
  ·rw [decide_eq_true hd]
   simp only [List.foldl,bB,aR,DV.ren,upL,↓gos,gop,qA,qB,qC,qD,qE,qF,qG,qH,qI]
   have hi9:knI nm 9=i:=by
    rw [if_pos hd] at hk
    have:∀ n,knI nm (i+1+n)=i:=fun n=>by
     induction n with
     | zero=>exact hk
     | succ n ih=>rw [show i+1+(n+1)=(i+1+n)+1 from rfl,knI,if_pos (by omega),ih]
    have:=this (9 - (i+1))
    rwa [show i+1+(9 - (i+1))=9 by omega] at this
   rw [hi9]
   exact oY rfl rfl
  ·rw [decide_eq_false hd]
   simp only [List.foldl,bB,aR,DV.ren,upL,↓gos,gop,qA,qB,qC,qD,qE,qF,qG,qH,qI]
   rw [if_neg hd] at hk
   intro v hv
   rw [wrap_i64 (by omega) (by omega)] at hv
   have e3:v=((i+1:Nat):Int):=by rw [hv]; rfl
   subst e3
   exact aQ (i+1) rfl (by simp) ⟨rfl,rfl,rfl,rfl,trivial⟩ ⟨by omega,hk⟩ (by omega)
 ·have h2:i=9:=by omega
  subst h2
  rw [ht]
  exact oY rfl rfl
theorem vN (nm:List UInt8):∀ k,-1≤knI nm k∧knI nm k<(k:Int)
 | 0=>⟨by simp [knI],by simp [knI]⟩
 | k+1=>by
  have:=vN nm k
  rw [knI]
  split
  ·omega
  ·split <;> omega
def dL (nm:List UInt8):List DV:=if 0≤knI nm 9 then knv (knI nm 9).toNat else [.str [],.nilfn,.nilfn]
theorem NL (nm:List UInt8):aY 55 [.sl 3 kns,.str nm] (.tup [.agg (dL nm),.bool (decide (0≤knI nm 9))]):=by
 have hi:=vN nm 9
 refine bQ c55 (by simp [f55]) ?_
 simp only [f55,aG,aD,↓gos,gop,qA,qB,qC,qD,qE,qF,qG,qH,qI]
 refine fL (h1:=[.box [.str nm]]) (ds1:=[.sl 3 kns,.fn 105 [.ptr 0 0]]) [0] [] (by simp) (by simp) rfl rfl rfl rfl (ML nm) rfl ?_
 unfold dL
 generalize knI nm 9=n at *
 simp only [List.foldl,bB,aR,DV.ren,upL,aG,aD,↓gos,gop,qA,qB,qC,qD,qE,qF,qG,qH,qI]
 refine ⟨fun h=>?_,fun h=>?_⟩
 ·rw [if_neg (by omega),decide_eq_false (by omega)]
  exact dF [] rfl rfl ⟨rfl,rfl⟩
 ·rw [if_pos (by omega),decide_eq_true (by omega)]
  have h2:n.toNat<9:=by omega
  refine aO (by omega) (uO (knv n.toNat) (QI _ h2) ?_)
  have h1:=sV _ h2
  simp only [knv,aG,aD,↓gos,gop,qA,qB,qC,qD,qE,qF,qG,qH,qI]
  refine dF [] (D:=.tup [.agg (knv n.toNat),.bool true]) ?_ ?_ ⟨rfl,rfl⟩
  ·show DV.tup [bU _ _ (.agg (knv n.toNat)),bU _ _ (.bool true)]=_
   rw [show bU _ _ (.agg (knv n.toNat))=.agg (knv n.toNat) from cY (fR _ h2)]
   rfl
  ·show ((DV.agg (knv n.toNat)).closed&&_)=true
   rw [fR _ h2]
   rfl
def plE (s:List UInt8):Int:=if (plainF s).isSome then 0 else 18
def plS (s:List UInt8):List UInt8:=(plainF s).getD []
def SCH:List UInt8:=[120,109,112,112,58]
theorem iA:∀ (n:Nat){s a:List UInt8},s.length≤n→plainF s=some a→a.length≤s.length
 | _,[],a,_,h=>by simp [plainF] at h; subst h; simp
 | 0,x::s,a,hl,_=>by simp at hl
 | n+1,x::s,a,hl,h=>by
  unfold plainF at h
  split at h
  ·cases s with
   | nil=>cases h
   | cons c t=>
    simp only [Option.bind_eq_some_iff,Option.map_eq_some_iff] at h
    obtain ⟨y,_,b,hb,rfl⟩:=h
    have:=iA n (s:=t) (by simp at hl; omega) hb
    simp only [List.length_cons]; omega
  ·simp only [Option.map_eq_some_iff] at h
   obtain ⟨b,hb,rfl⟩:=h
   have:=iA n (s:=s) (by simpa using hl) hb
   simp only [List.length_cons]; omega
def rW (c:CT)(s:List UInt8):CT×Bool×Int:=
 if (cB SCH s).2=true then (if (plainF (cB SCH s).1).isSome=true then ({ c with jid:=(lN (plS (cB SCH s).1)).1 },true,(lN (plS (cB SCH s).1)).2) else (c,true,18)) else (c,false,0)
end Go.Proofs.Ut

namespace Go.Ai
open Go.Proofs Go.Shelf Go.RowKit
variable {P:Program} {ρ:Ren}
set_option maxHeartbeats 2000000 in
set_option maxRecDepth 1000000 in
theorem AQ (L:Lays.n165 P ρ)(X:Builder.Extra P ρ){b:Nat}{p:Value}{fz:Nat×Nat}{w:World}(h:Hd w b (ρ.t 72) p (.slice none 0 0) fz) :
  Calls P (ρ.f 165) #[.pointer (some ⟨b,0,none⟩),.int .i64 0] w fun e w' => e=.returned (.tuple #[])∧Hd w' b (ρ.t 72) (.pointer (some ⟨b,0,none⟩)) (.slice none 0 0) fz∧Beside w w' b none:=by
 have mixed:=L.mixed
 have t72:=L.t72; have a72:=L.a72; have z72:=L.z72; have v72:=L.v72; have u72:=run_underlying L.t72
 have t70:=L.t70; have a70:=L.a70; have z70:=L.z70; have v70:=L.v70; have u70:=run_underlying L.t70
 have t37:=L.t37; have a37:=L.a37; have z37:=L.z37; have v37:=L.v37; have u37:=run_underlying L.t37
 have t3:=L.t3; have a3:=L.a3; have z3:=L.z3; have v3:=L.v3; have u3:=run_underlying L.t3
 have t9:=L.t9; have a9:=L.a9; have z9:=L.z9; have v9:=L.v9; have u9:=run_underlying L.t9
 have t4:=L.t4; have a4:=L.a4; have z4:=L.z4; have v4:=L.v4; have u4:=run_underlying L.t4
 have t164:=L.t164; have a164:=L.a164; have z164:=L.z164; have v164:=L.v164; have u164:=run_underlying L.t164
 have t5:=X.t5; have a5:=X.a5; have z5:=X.z5; have v5:=X.v5; have u5:=run_underlying X.t5
 have e240:∀ args w,(callFunc (ρ.f 240) args).run P w=.ok (.enter (ρ.f 240) args) w:=enters_of L.f240 (by kernel_rfl) rfl
 have e241:∀ args w,(callFunc (ρ.f 241) args).run P w=.ok (.enter (ρ.f 241) args) w:=enters_of L.f241 (by kernel_rfl) rfl
 go_enter L.f165,Body.n165_ntmps ρ
 go_wp2_with (go_at_fn (ρ.f 240); refine (kS { L with } X.toX72 h).mono ?_; rintro e w1 ⟨rfl,k1,k2⟩)
 have c1:w1.drew.cell? ⟨b,1,none⟩=some (.slice none 0 0):=by
  have:w1.drew.heap[b]?=_:=k1.1
  rw [Lib.cell_of_heap this]; rfl
 have hfin:Hd w1.drew b (ρ.t 72) (.pointer (some ⟨b,0,none⟩)) (.slice none 0 0) fz∧Beside w w1.drew b none:=⟨k1.drew,k2.drew⟩
 clear k1 k2 h
 go_region_o
 all_goals go_wp2
 all_goals first
  | (go_end0; exact ⟨rfl,hfin.1,hfin.2⟩)
  | (exfalso; simp only [IntKind.wrap_i64] at *; omega)
theorem AP {E:Env}{ρ:Ren}(L:Lays.n165 E.P ρ)(X:Builder.Extra E.P ρ){f:Nat}(hf:ρ.f 165=f){T e:Nat}(hT:ρ.t 72=T)(hent:Ent E.P f) :
  ACalls E f (Bld false T e []) [.ptr 1 0,.int .i64 0] (fun h' d=>h' = Bld false T e []∧d=.undef):=by
 subst hf; subst hT
 refine ⟨hent,fun w ok β vs hG hN hH hl hv=>?_⟩
 match vs,hl with
 | [v0,v1],_=>
 have r0:=hv 0 v0 _ rfl rfl
 have r1:=hv 1 v1 _ rfl rfl
 obtain ⟨b,p,v,fz,h1,h2,h3,h4,h5,h6⟩:=jJ hH
 obtain rfl:=h6 rfl rfl
 cases r0 with
 | ptr l o b' x hb=>
 rw [h1] at hb; cases hb
 cases r1 with
 | int k m=>
 refine (AQ L X h2).mono ?_
 rintro e' w' ⟨rfl,k1,k3⟩
 obtain ⟨β',e1,e2,e3,e4⟩:=rE (gr' := false) (bs' := []) hN hH h1 h5 (by simpa [Value.ownBlock] using k3) k1 (World.ownsRow_nil _ _ _ _) h4 (fun g hg=>by simp [Value.ownBlock] at hg) (fun _ h=>absurd rfl h)
 exact ⟨_,ok,β',_,_,rfl,⟨rfl,rfl⟩,E.stable w w' hG e4,e1,e2,.undef _,fun l cs hl=>by
  match l,hl with
  | 0,hl=>simp [Bld,Buf] at hl
  | 1,hl=>exact ⟨e3,_,rfl⟩,by simp [Bld],fun h=>by cases h⟩
end Go.Ai

namespace Go.Proofs.Ut
open Go.Ai
set_option maxRecDepth 100000
theorem MO:ACalls ED 190 (Bld false 169 5 []) [.ptr 1 0,.int .i64 0] (fun h' d=>h' = Bld false 169 5 []∧d=.undef):=
 AP (E:=ED) Tryz.lays165 Tryz.extra165 rfl rfl ⟨Tryz.f190,Tryz.func190,by kernel_rfl,by kernel_rfl⟩
theorem lB:∀ l:List (List UInt8),l.flatten.length=tot l
 | []=>rfl
 | x::l=>by
  have:=lB l
  simp only [tot,List.flatten_cons,List.length_append,List.map_cons,List.sum_cons] at *
  omega
theorem FD (l:List (List UInt8))(i:Nat):(l.take i).flatten.length≤l.flatten.length:=by
 rw [lB,lB]; exact uG l i
theorem LY (l:List (List UInt8))(hl:l.length<1000000000)(hw:l.flatten.length<1000000000):aY 149 [.sl 1 (l.map sv),.str []] (.str l.flatten):=by
 refine aA c149 (by simp [f149]) ?_
 simp only [f149,↓gos,gop,qA,qB,qC,qD,qE,qF,qG,qH,qI]
 cases l with
 | nil=>
  simp only [↓gos,gop,qA,qB,qC,qD,qE,qF,qG,qH,qI]
  exact kV rfl
 | cons x tl=>
  cases tl with
  | nil=>
   simp only [sv,↓gos,gop,qA,qB,qC,qD,qE,qF,qG,qH,qI]
   refine ⟨fun h=>by omega,fun _=>kV ?_⟩
   simp
  | cons y tl=>
   simp only [List.length_cons] at hl
   simp only [sv,↓gos,gop,qA,qB,qC,qD,qE,qF,qG,qH,qI]
   refine ⟨fun h=>by omega,fun _=>?_⟩
   have hL:(x::y::tl).flatten.length=tot (x::y::tl):=lB _
   generalize hl2:x::y::tl=l2 at *
   have hll:l2.length=tl.length+2:=by rw [← hl2]; rfl
   have hlv:[DV.str x]::[DV.str y]::List.map sv tl=l2.map sv:=by rw [← hl2]; rfl
   simp only [hlv]
   refine aM (γ:=Nat) (fun i=>[(41,.int .i64 i),(40,.int .i64 (tl.length+1+1:Nat)),(39,.sl 1 (l2.map sv)),(5,.int .i64 (tot (l2.take i):Nat)),(1,.str []),(0,.sl 1 (l2.map sv))])
    (fun _=>[]) (fun i=>i≤l2.length) (fun i=>l2.length - i) 0 (wks rfl (by simp) ⟨rfl,rfl,rfl,rfl,rfl,rfl,trivial⟩) (by omega) fun i hi=>?_
   simp only [f149l0,↓gos,gop,qA,qB,qC,qD,qE,qF,qG,qH,qI]
   have htt:=uG l2 i
   refine ⟨fun h5=>?_,fun h5=>?_⟩
   ·refine aU [] (by omega) ?_
    have ht:=QU l2 i (by omega)
    have htl:=uG l2 (i+1)
    simp only [sv,↓gos,gop,qA,qB,qC,qD,qE,qF,qG,qH,qI]
    intro v hv
    rw [wrap_i64 (by omega) (by omega)] at hv
    refine ⟨fun h=>by omega,fun _=>?_⟩
    intro v2 hv2 v3 hv3
    rw [wrap_i64 (by omega) (by omega)] at hv2 hv3
    have e2:v2=(tot (l2.take (i+1)):Nat):=by rw [hv2,ht]; omega
    have e3:v3=((i+1:Nat):Int):=by rw [hv3]; rfl
    subst e2 e3
    exact aQ (i+1) rfl (by simp) ⟨rfl,rfl,rfl,rfl,rfl,rfl,trivial⟩ (by omega) (by omega)
   ·have hi2:i=tl.length+2:=by omega
    subst hi2
    have ht:tot (l2.take (tl.length+2))=tot l2:=by rw [List.take_of_length_le (by omega)]
    rw [ht]
    have hxl:x.length≤l2.flatten.length:=by rw [← hl2]; simp
    by_cases h0:tot l2=0
    ·rw [h0]
     refine cI (gr:=false) (gr' := false) (m:=0) (l:=1) rfl rfl rfl MO ?_
     subst hl2
     simp only [Buf,sv,List.map_cons,↓gos,gop,qA,qB,qC,qD,qE,qF,qG,qH,qI]
     refine cI (gr:=false) (gr' := false) (m:=0) (l:=1) rfl rfl rfl (sI false [] x (by simp; omega)) ?_
     simp only [Buf,List.nil_append,↓gos,gop,qA,qB,qC,qD,qE,qF,qG,qH,qI]
     refine aO (by omega) ?_
     have hr:List.take (tl.length+1+1 - 1) ([DV.str y]::List.map sv tl)=(y::tl).map sv:=by
      rw [List.take_of_length_le (by simp)]; rfl
     have hJ:(x::y::tl).flatten=x++(y::tl).flatten:=rfl
     generalize hr2:y::tl=r at *
     have hrl:r.length=tl.length+1:=by rw [← hr2]; rfl
     rw [hr]
     have hm:((r.map sv).length:Int)=((r.length:Nat):Int):=by simp
     rw [hm]
     clear hr hlv hL hll hi htt ht
     refine aM (γ:=Nat) (fun i=>[(65,.int .i64 i),(64,.int .i64 r.length),(63,.sl 1 (r.map sv)),(8,.ptr 1 0),(1,.str [])])
      (fun i=>[.buf 5 (x++(r.take i).flatten),.box [.self 1 169 2,.hdr 0 5 (x++(r.take i).flatten).length]]) (fun i=>i≤r.length) (fun i=>r.length - i) 0
      (wks (by simp) (by simp) ⟨rfl,rfl,rfl,rfl,rfl,trivial⟩) (by omega) fun i hi=>?_
     simp only [f149l1,↓gos,gop,qA,qB,qC,qD,qE,qF,qG,qH,qI]
     refine ⟨fun h5=>?_,fun h5=>?_⟩
     ·refine aU [] (by omega) ?_
      have h1:(r.take (i+1)).flatten=(r.take i).flatten++r.getD i []:=by rw [dB (show i<r.length by omega) []]; simp
      have h2:=FD r (i+1)
      have h3:(x++r.flatten).length<1000000000:=by rw [← hJ]; exact hw
      rw [h1] at h2
      simp only [List.length_append] at h2 h3
      simp only [sv,↓gos,gop,qA,qB,qC,qD,qE,qF,qG,qH,qI]
      refine cI (gr:=false) (gr' := false) (m:=0) (l:=1) rfl rfl rfl (sI false _ [] (by simp only [List.length_append,List.length_cons,List.length_nil]; omega)) ?_
      simp only [Buf,List.append_nil,↓gos,gop,qA,qB,qC,qD,qE,qF,qG,qH,qI]
      refine cI (gr:=false) (gr' := false) (m:=0) (l:=1) rfl rfl rfl (sI false _ _ (by simp only [List.length_append,List.length_cons,List.length_nil]; omega)) ?_
      simp only [Buf,↓gos,gop,qA,qB,qC,qD,qE,qF,qG,qH,qI]
      intro v3 hv3
      rw [wrap_i64 (by omega) (by omega)] at hv3
      have e3:v3=((i+1:Nat):Int):=by rw [hv3]; rfl
      subst e3
      refine aQ (i+1) ?_ (by simp) ⟨rfl,rfl,rfl,rfl,rfl,trivial⟩ (by omega) (by omega)
      simp only [h1,List.append_assoc]
     ·have hi2:i=r.length:=by omega
      subst hi2
      rw [List.take_length,← hJ]
      refine jO (gr:=false) (m:=0) (l:=1) rfl rfl (EN false _) ?_
      simp only [↓gos,gop,qA,qB,qC,qD,qE,qF,qG,qH,qI]
      exact kV rfl
    ·refine cI (gr:=false) (gr' := true) (m:=0) (l:=1) rfl rfl rfl (SP _ (by omega) (by omega)) ?_
     subst hl2
     simp only [Buf,sv,List.map_cons,↓gos,gop,qA,qB,qC,qD,qE,qF,qG,qH,qI]
     refine cI (gr:=true) (gr' := true) (m:=0) (l:=1) rfl rfl rfl (sI true [] x (by simp; omega)) ?_
     simp only [Buf,List.nil_append,↓gos,gop,qA,qB,qC,qD,qE,qF,qG,qH,qI]
     refine aO (by omega) ?_
     have hr:List.take (tl.length+1+1 - 1) ([DV.str y]::List.map sv tl)=(y::tl).map sv:=by
      rw [List.take_of_length_le (by simp)]; rfl
     have hJ:(x::y::tl).flatten=x++(y::tl).flatten:=rfl
     generalize hr2:y::tl=r at *
     have hrl:r.length=tl.length+1:=by rw [← hr2]; rfl
     rw [hr]
     have hm:((r.map sv).length:Int)=((r.length:Nat):Int):=by simp
     rw [hm]
     clear hr hlv hL hll hi htt ht
     refine aM (γ:=Nat) (fun i=>[(65,.int .i64 i),(64,.int .i64 r.length),(63,.sl 1 (r.map sv)),(8,.ptr 1 0),(1,.str [])])
      (fun i=>[.gbuf 5 (x++(r.take i).flatten),.box [.self 1 169 2,.hdr 0 5 (x++(r.take i).flatten).length]]) (fun i=>i≤r.length) (fun i=>r.length - i) 0
      (wks (by simp) (by simp) ⟨rfl,rfl,rfl,rfl,rfl,trivial⟩) (by omega) fun i hi=>?_
     simp only [f149l1,↓gos,gop,qA,qB,qC,qD,qE,qF,qG,qH,qI]
     refine ⟨fun h5=>?_,fun h5=>?_⟩
     ·refine aU [] (by omega) ?_
      have h1:(r.take (i+1)).flatten=(r.take i).flatten++r.getD i []:=by rw [dB (show i<r.length by omega) []]; simp
      have h2:=FD r (i+1)
      have h3:(x++r.flatten).length<1000000000:=by rw [← hJ]; exact hw
      rw [h1] at h2
      simp only [List.length_append] at h2 h3
      simp only [sv,↓gos,gop,qA,qB,qC,qD,qE,qF,qG,qH,qI]
      refine cI (gr:=true) (gr' := true) (m:=0) (l:=1) rfl rfl rfl (sI true _ [] (by simp only [List.length_append,List.length_cons,List.length_nil]; omega)) ?_
      simp only [Buf,List.append_nil,↓gos,gop,qA,qB,qC,qD,qE,qF,qG,qH,qI]
      refine cI (gr:=true) (gr' := true) (m:=0) (l:=1) rfl rfl rfl (sI true _ _ (by simp only [List.length_append,List.length_cons,List.length_nil]; omega)) ?_
      simp only [Buf,↓gos,gop,qA,qB,qC,qD,qE,qF,qG,qH,qI]
      intro v3 hv3
      rw [wrap_i64 (by omega) (by omega)] at hv3
      have e3:v3=((i+1:Nat):Int):=by rw [hv3]; rfl
      subst e3
      refine aQ (i+1) ?_ (by simp) ⟨rfl,rfl,rfl,rfl,rfl,trivial⟩ (by omega) (by omega)
      simp only [h1,List.append_assoc]
     ·have hi2:i=r.length:=by omega
      subst hi2
      rw [List.take_length,← hJ]
      refine jO (gr:=true) (m:=0) (l:=1) rfl rfl (EN true _) ?_
      simp only [↓gos,gop,qA,qB,qC,qD,qE,qF,qG,qH,qI]
      exact kV rfl
def pO (c:CT)(s:List UInt8):CT×Int:=match bJ (aS 59 false [] s) with
 | none=>(c,18)
 | some l=>if l.length=5 then (if (l.drop 2).flatten=[] then ({ c with family:=l.getD 0 [],given:=l.getD 1 [] },0) else (c,12)) else (c,12)
theorem pU:∀ {l a:List (List UInt8)},bJ l=some a→a.flatten.length≤l.flatten.length
 | [],a,h=>by simp [bJ] at h; subst h; simp
 | x::l,a,h=>by
  simp only [bJ,Option.bind_eq_some_iff,Option.map_eq_some_iff] at h
  obtain ⟨y,hy,b,hb,rfl⟩:=h
  have h1:=iA _ (Nat.le_refl _) hy
  have h2:=pU hb
  simp only [List.flatten_cons,List.length_append]
  omega
theorem kC (sep:UInt8):∀ (s:List UInt8)(e:Bool)(cur:List UInt8),(aS sep e cur s).flatten.length≤cur.length+s.length
 | [],e,cur=>by simp [aS]
 | x::s,e,cur=>by
  unfold aS
  split
  ·have:=kC sep s (kQ e x) []
   simp at this ⊢; omega
  ·have:=kC sep s (kQ e x) (cur++[x])
   simp at this ⊢; omega
end Go.Proofs.Ut
