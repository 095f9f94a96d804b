/- sync.Once.Do as a contract of ours: the function that is handed in finds 'done' not set and the lock taken; gQ it 'done' is set and the lock is free. -/
import Derived.Test.YtgamnnfndidclaaGreatDoorCYOnce2
import Derived.Test.YtgamnnfndidclaaGreatDoorCYFoUtF
import Derived.Test.YtgamnnfndidclaaGreatDoorCAiUn
import Derived.Test.YtgamnnfndidclaaGreatDoorCYVcC
import Derived.Test.YtgamnnfndidclaaGreatDoorCYFoUtD
import Derived.Test.YtgamnnfndidclaaGreatDoorCYFoE
import Derived.Test.YtgamnnfndidclaaGreatDoorCLawJid
import Derived.Shelf.Strings.Count
open Nat renaming reduceBEq → qA,reduceAdd → qB,reduceSub → qC,reduceLeDiff → qD,reduceMul → qE
open Int renaming reduceLE → qF,reduceLT → qG,reduceNe → qH,reduceToNat → qI
open Int renaming reduceEq → rA,reduceAdd → rB,reduceSub → rC,reduceMul → rD,reduceMod → rE,reduceDiv → rF,reduceTDiv → rG,reducePow → rH
open Nat renaming reducePow → rI
set_option linter.all false
namespace Go.Ai
open Go.Proofs Go.Shelf Go.RowKit
theorem pA (w:World)(a:Addr)(v:Value):(w.setCell a v).heap.size=w.heap.size:=by simp [World.setCell]
theorem qQ {w:World}{b o:Nat}{vs:Array Value}{t:TypeId}{fz:Nat×Nat}(h:w.heap[b]?=some (.cells vs t fz))(hf:Thaw fz vs.size)(ho:o<vs.size):w.frozen? ⟨b,o,none⟩=false:=by
 have:=hf o ho
 simpa [World.frozen?,h] using this
theorem HRep.cell {E:Env}{w:World}{ok:Nat→Prop}{β:Loc}{h:List AObj}(hg:E.G w)(hN:E.N≤w.heap.size)(hh:HRep E.N w ok β h){l b o:Nat}{cs:List DV}(hl:h[l]?=some (.box cs))(hb:β l=some (b,0))(k:IntKind)(n:Int) :
  HRep E.N (w.setCell ⟨b,o,none⟩ (.int k n)) ok β (h.set l (.box (cs.set o (.int k n))))∧E.G (w.setCell ⟨b,o,none⟩ (.int k n))∧Ev w ok β (w.setCell ⟨b,o,none⟩ (.int k n)) ok β:=by
 have hs:SRep E ⟨w,ok,β,h,0,by omega,fun _=>undef⟩ { tmps:=#[],defers:=[] } w ok β ⟨fun _=>.undef,h⟩:=⟨hg,Ev.refl _ _ _,hh,fun l cs hl=>⟨rfl,cs,hl⟩,Nat.le_refl _,fun s=>.undef _,rfl,rfl,hN⟩
 obtain ⟨b',vs,t,fz,h1,h2,h3,h4,h5⟩:=hh.obj l _ hl
 rw [hb] at h1
 injection h1 with h1; injection h1 with e1 _
 subst e1
 have hw:(w.setCell ⟨b,o,none⟩ (.int k n)).heap[b]?=some (.cells (vs.setIfInBounds o (.int k n)) t fz):=by simp [World.setCell,Array.getElem?_modify,h2]
 have hot:∀ k',k' ≠ b→(w.setCell ⟨b,o,none⟩ (.int k n)).heap[k']?=w.heap[k']?:=fun k' hk=>Below.heap_setCell _ _ _ _ hk
 have hsh:(w.setCell ⟨b,o,none⟩ (.int k n)).shape? b=w.shape? b:=by simp [World.shape?,hw,h2]
 have:=hs.write l b 0 (.box (cs.set o (.int k n))) (.box cs) (w' := w.setCell ⟨b,o,none⟩ (.int k n)) hb hl (fun _ _=>⟨_,rfl⟩) rfl rfl rfl (by simp [World.setCell]) hot hsh
  ⟨b,_,t,fz,hb,hw,by simpa using h3,by simpa using h4,fun i v d hv hd=>by
   rw [List.getElem?_set] at hd
   rw [Array.getElem?_setIfInBounds] at hv
   by_cases e:o=i
   ·subst e
    simp only [if_true] at hd hv
    split at hd
    ·split at hv
     ·injection hd with hd; injection hv with hv; subst hd; subst hv; exact .int _ _
     ·cases hv
    ·cases hd
   ·rw [if_neg e] at hd hv
    exact (h5 i v d hv hd).mono (fun _ q=>q) (fun k' hk=>hot k' fun e' => hh.dis l b 0 hb (e' ▸ hk)) (fun l' x hx=>⟨hx,by
     by_cases e' : x.1=b
     ·rw [e',hsh]
     ·simp [World.shape?,hot _ e']⟩)⟩
 exact ⟨this.heap,this.g,this.ev⟩
theorem HRep.drew {E:Env}{w:World}{ok:Nat→Prop}{β:Loc}{h:List AObj}(hg:E.G w)(hN:E.N≤w.heap.size)(hh:HRep E.N w ok β h) :
  HRep E.N w.drew ok β h∧E.G w.drew∧Ev w ok β w.drew ok β:=by
 have hs:SRep E ⟨w,ok,β,h,0,by omega,fun _=>undef⟩ { tmps:=#[],defers:=[] } w ok β ⟨fun _=>.undef,h⟩:=⟨hg,Ev.refl _ _ _,hh,fun l cs hl=>⟨rfl,cs,hl⟩,Nat.le_refl _,fun s=>.undef _,rfl,rfl,hN⟩
 have:=hs.drewN 1
 exact ⟨this.heap,this.g,this.ev⟩
end Go.Ai
namespace Go.Proofs.Ut
open Go.Ai Go.Proofs
theorem aGi {rest:List DV}{hs:List AObj}{post:List DV→List AObj→Prop}
  (h68:ACalls ED 228 (.box (.int .u32 0::.int .i32 1::rest)::hs) [.ptr 0 0] (fun h' d=>d=.tup []∧∃ rest' hs',h' = .box (.int .u32 0::.int .i32 1::rest')::hs' ∧ post rest' hs')) :
  ACalls ED 227 (.box (.int .u32 0::.int .i32 0::rest)::hs) [.ptr 0 0,.bnd 228 [.ptr 0 0]] (fun h' d=>d=.tup []∧∃ rest' hs',h' = .box (.int .u32 1::.int .i32 0::rest')::hs' ∧ post rest' hs'):=by
 refine ⟨⟨Tryz.f227,Tryz.func227,by kernel_rfl,by kernel_rfl⟩,fun w ok β vs hG hN hh hl hv=>?_⟩
 obtain ⟨v0,v1,rfl⟩:∃ v0 v1,vs=[v0,v1]:=by
  match vs,hl with
  | [v0,v1],_=>exact ⟨v0,v1,rfl⟩
 obtain ⟨b,cur,t,fz,g1,g2,g3,g4,g5⟩:=hh.obj 0 _ rfl
 have r0:=hv 0 v0 _ rfl rfl
 have r1:=hv 1 v1 _ rfl rfl
 have ptr_eq:∀ u,Rep w ok β u (.ptr 0 0)→u=.pointer (some ⟨b,0,none⟩):=fun u hu=>by
  cases hu with
  | ptr l o b' x h=>rw [g1] at h; injection h with h; injection h with e1 e2; subst e1; subst e2; rfl
 obtain rfl:=ptr_eq v0 r0
 obtain rfl:v1=.func (.func 228) #[.pointer (some ⟨b,0,none⟩)] #[]:=by
  cases r1 with
  | bnd f us ds hl' hu=>
   match us,hl' with
   | [u],_=>rw [ptr_eq u (hu 0 u _ rfl rfl)]
 have hsz:cur.size=rest.length+2:=by simpa using g4
 have c0:w.cell? ⟨b,0,none⟩=some (.int .u32 0):=by
  have hx:cur[0]?=some cur[0]:=Array.getElem?_eq_getElem (by omega)
  have:=g5 0 _ _ hx rfl
  have e:cur[0]=.int .u32 0:=this.int_inv
  simp [World.cell?,g2,hx,e]
 have c1:w.cell? ⟨b,1,none⟩=some (.int .i32 0):=by
  have hx:cur[1]?=some cur[1]:=Array.getElem?_eq_getElem (by omega)
  have:=g5 1 _ _ hx rfl
  have e:cur[1]=.int .i32 0:=this.int_inv
  simp [World.cell?,g2,hx,e]
 obtain ⟨k1,k2,k3⟩:=HRep.cell (o:=1) hG hN hh (l:=0) rfl g1 .i32 1
 have hN1:ED.N≤(w.setCell ⟨b,1,none⟩ (.int .i32 1)).heap.size:=by rw [pA]; exact hN
 have hf:=h68.2 (w.setCell ⟨b,1,none⟩ (.int .i32 1)) ok β [.pointer (some ⟨b,0,none⟩)] k2 hN1 k1 rfl (fun i v d hi hd=>by
  cases i with
  | zero=>simp at hi hd; subst hi; subst hd; exact .ptr 0 0 b 0 g1
  | succ i=>simp at hi)
 refine (aKB b w (Q:=fun w1=>∃ ok' β' rest' hs',ED.G w1∧Ev (w.setCell ⟨b,1,none⟩ (.int .i32 1)) ok β w1 ok' β' ∧ HRep ED.N w1 ok' β' (.box (.int .u32 0::.int .i32 1::rest')::hs')∧post rest' hs' ∧
  (∀ (l:Nat) cs,(AObj.box (.int .u32 0::.int .i32 1::rest)::hs)[l]?=some (.box cs)→β' l=β l∧∃ cs',(AObj.box (.int .u32 0::.int .i32 1::rest')::hs')[l]?=some (.box cs'))∧hs.length≤hs'.length) c0 c1 (qQ g2 g3 (by omega)) (hf.mono ?_)).mono ?_
 ·rintro e w' ⟨v,ok',β',h',d,rfl,⟨rfl,rest',hs',rfl,hp⟩,hG',hE',hH',hR',hfix,hlen,_⟩
  obtain ⟨b2,cur2,t2,fz2,q1,q2,q3,q4,q5⟩:=hH'.obj 0 _ rfl
  obtain ⟨e0,_⟩:=hfix 0 _ rfl
  rw [e0,g1] at q1
  injection q1 with q1; injection q1 with q1 _
  subst q1
  have hsz2:cur2.size=rest'.length+2:=by simpa using q4
  have x0:cur2[0]?=some cur2[0]:=Array.getElem?_eq_getElem (by omega)
  have x1:cur2[1]?=some cur2[1]:=Array.getElem?_eq_getElem (by omega)
  have e0' : cur2[0]=.int .u32 0:=(q5 0 _ _ x0 rfl).int_inv
  have e1' : cur2[1]=.int .i32 1:=(q5 1 _ _ x1 rfl).int_inv
  refine ⟨?_,by simp [World.cell?,q2,x0,e0'],by simp [World.cell?,q2,x1,e1'],qQ q2 q3 (by omega),qQ q2 q3 (by omega),ok',β',rest',hs',hG',hE',hH',hp,hfix,by simpa using hlen⟩
  cases hR' with
  | tup us ds hl' hu=>
   match us,hl' with
   | [],_=>rfl
 ·rintro e w' ⟨rfl,w1,⟨ok',β',rest',hs',hG',hE',hH',hp,hfix,hlen⟩,rfl⟩
  obtain ⟨e0,_⟩:=hfix 0 _ rfl
  have hb' : β' 0=some (b,0):=e0.trans g1
  have hN' : ED.N≤w1.heap.size:=Nat.le_trans hN1 hE'.size
  obtain ⟨d1,d2,d3⟩:=HRep.drew hG' hN' hH'
  obtain ⟨a1,a2,a3⟩:=HRep.cell (o:=0) d2 hN' d1 (l:=0) rfl hb' .u32 1
  obtain ⟨m1,m2,m3⟩:=HRep.cell (o:=1) a2 (by rw [pA]; exact hN') a1 (l:=0) rfl hb' .i32 0
  refine ⟨.tuple #[],ok',β',_,.tup [],rfl,⟨rfl,rest',hs',rfl,hp⟩,m2,((((k3.trans hE').trans d3).trans a3).trans m3),m1,.tup [] [] rfl (fun i v d hi=>by simp at hi),fun l cs hl=>?_,by simpa using hlen,fun h=>by cases h⟩
  cases l with
  | zero=>exact ⟨e0,_,rfl⟩
  | succ l=>
   obtain ⟨f1,cs',f2⟩:=hfix (l+1) cs (by simpa using hl)
   exact ⟨f1,cs',by simpa using f2⟩
end Go.Proofs.Ut

namespace Go.Proofs.Ut
open Go.Ai
set_option maxRecDepth 100000
def ON:List (List DV):=[[.str [92]],[.str [92,92]],[.str [44]],[.str [92,44]],[.str [59]],[.str [92,59]],[.str [10]],[.str [92,110]],[.str [13]],[.str []]]
def tb (f:Nat→DV):List DV:=(List.range 257).map f
def up1 (f:Nat→DV)(o:Nat)(d:DV)(i:Nat):DV:=if i=o then d else f i
theorem aFc (d:DV):List.replicate 257 d=tb fun _=>d:=by
 unfold tb
 rw [List.map_const',List.length_range]
theorem dO (f:Nat→DV):(tb f).length=257:=by simp [tb]
theorem KI (f:Nat→DV):(tb f).drop 257=[]:=List.drop_of_length_le (by rw [dO]; exact Nat.le_refl _)
theorem cS (f:Nat→DV){i:Nat}(h:i≤256):(tb f)[i]?=some (f i):=by simp [tb,Nat.lt_succ_iff.2 h]
theorem gR (f:Nat→DV){o:Nat}(d:DV)(h:o≤256):(tb f).take o++[d]++(tb f).drop (o+1)=tb (up1 f o d):=by
 have e:(tb f).set o d=(tb f).take o++d::(tb f).drop (o+1):=by rw [List.set_eq_take_append_cons_drop,if_pos (by rw [dO]; omega)]
 rw [List.append_assoc,List.singleton_append,← e]
 refine List.ext_getElem? fun i=>?_
 rw [List.getElem?_set,dO]
 by_cases e:o=i
 ·subst e; rw [if_pos rfl,if_pos (by omega),cS _ h]; simp [up1]
 ·rw [if_neg e]
  by_cases hi:i≤256
  ·rw [cS _ hi,cS _ hi]; simp [up1,Ne.symm e]
  ·rw [List.getElem?_eq_none (by rw [dO]; omega),List.getElem?_eq_none (by rw [dO]; omega)]
theorem GD (p:DV→Bool)(f:Nat→DV)(h:∀ i,p (f i)=true):(tb f).all p=true:=by simp [tb,h]
def IL:DV→Bool
 | .nils _=>false
 | _=>true
theorem QF:∀ (l:List DV)(h:List AObj),l.all IL=true→aQ l h=(l,h)
 | [],h,_=>rfl
 | d::l,h,ha=>by
  simp only [List.all_cons,Bool.and_eq_true] at ha
  have e:fJ d h=(d,h):=by cases d <;> first | rfl | cases ha.1
  simp only [aQ,e,QF l h ha.2]
theorem WT (f:Nat→DV)(hf:∀ i,IL (f i)=true)(h:List AObj)(K:List DV→List AObj→Prop):ocP (tb f) h K=K (tb f) h:=by
 unfold ocP
 rw [QF _ _ (GD IL f hf)]
theorem b13:bt [13] 0=13:=rfl
theorem b10:bt [10] 0=10:=rfl
theorem b59:bt [59] 0=59:=rfl
theorem b44:bt [44] 0=44:=rfl
theorem b92:bt [92] 0=92:=rfl
def T0:Nat→DV:=fun _=>.emp true 1
def gE (tr p92 p44 p59 p10:Nat)(i:Nat):DV:=
 if i=256 then .osl 1 tr 0 5 (some 5) else if i=92 then .osl 1 p92 0 2 none else if i=44 then .osl 1 p44 0 2 none else if i=59 then .osl 1 p59 0 2 none
 else if i=10 then .osl 1 p10 0 2 none else if i=13 then .emp false 1 else .emp true 1
theorem QG (f:Nat→DV)(g:DV→DV):(tb f).map g=tb fun i=>g (f i):=by simp [tb]
theorem lM (p:DV→Bool)(tr p92 p44 p59 p10:Nat)(h1:p (.osl 1 tr 0 5 (some 5))=true)(h2:p (.osl 1 p92 0 2 none)=true)(h3:p (.osl 1 p44 0 2 none)=true)(h4:p (.osl 1 p59 0 2 none)=true)
  (h5:p (.osl 1 p10 0 2 none)=true) (h6:p (.emp false 1)=true) (h7:p (.emp true 1)=true):(tb (gE tr p92 p44 p59 p10)).all p=true:=by
 refine GD _ _ fun i=>?_
 unfold gE
 repeat' split
 all_goals assumption
theorem gH (ρ:Nat→Nat)(tr p92 p44 p59 p10:Nat):(tb (gE tr p92 p44 p59 p10)).map (DV.ren ρ)=tb (gE (ρ tr) (ρ p92) (ρ p44) (ρ p59) (ρ p10)):=by
 rw [QG]
 congr 1
 funext i
 unfold gE
 repeat' split
 all_goals rfl
def byB (bs:List UInt8):List (List DV):=bs.map fun b=>[.int .u8 b.toNat]
def RR:List AObj:=[.arr 1 [[.str [13]],[.str [10]],[.str [59]],[.str [44]],[.str [92]]],.arr 1 (byB [92,110]),.arr 1 (byB [92,59]),.arr 1 (byB [92,44]),.arr 1 (byB [92,92])]
set_option maxHeartbeats 4000000 in
theorem aAa:ACalls ED 278 [.box [.int .u32 0,.int .i32 1,.int .u32 0,.nili,.osl 1 1 0 10 none],.arr 1 ON] [.ptr 0 0] 
  (fun h' d=>h' = .box [.int .u32 0,.int .i32 1,.int .u32 0,.nili,.osl 1 1 0 10 none]::.arr 1 ON::.box (tb (gE 3 7 6 5 4))::RR∧d=.ifc 319 [.ptr 2 0]):=by
 refine aA c278 (by simp [f278]) ?_
 simp only [f278,forall_eq,IntKind.wrap,IntKind.bits,IntKind.signed,rA,rB,rC,rD,rE,rF,rG,rH,rI,Int.reduceNeg,reduceIte,reduceCtorEq,ge_iff_le,Nat.reduceEqDiff,↓gos,gop,qA,qB,qC,qD,qE,qF,qG,qH,qI]
 refine vY 6 ?_
 simp only [f278l0,ON,forall_eq,IntKind.wrap,IntKind.bits,IntKind.signed,rA,rB,rC,rD,rE,rF,rG,rH,rI,Int.reduceNeg,reduceIte,reduceCtorEq,ge_iff_le,Nat.reduceEqDiff,↓gos,gop,qA,qB,qC,qD,qE,qF,qG,qH,qI]
 iterate 5 (refine gW ?_; simp only [f278l0,forall_eq,IntKind.wrap,IntKind.bits,IntKind.signed,rA,rB,rC,rD,rE,rF,rG,rH,rI,Int.reduceNeg,reduceIte,reduceCtorEq,ge_iff_le,Nat.reduceEqDiff,↓gos,gop,qA,qB,qC,qD,qE,qF,qG,qH,qI])
 have o0:∀ h K,ocP (tb T0) h K=K (tb T0) h:=fun h K=>WT _ (fun _=>rfl) h K
 have n1:∀ i,IL (up1 T0 256 (.osl 1 2 0 0 (some 5)) i)=true:=fun i=>by unfold up1; split <;> rfl
 have o1:∀ h K,ocP (tb (up1 T0 256 (.osl 1 2 0 0 (some 5)))) h K=K (tb (up1 T0 256 (.osl 1 2 0 0 (some 5)))) h:=fun h K=>WT _ n1 h K
 have a1:(tb (up1 T0 256 (.osl 1 2 0 0 (some 5)))).all DV.one=true:=GD _ _ fun i=>by unfold up1; split <;> rfl
 have r5:List.replicate 5 [DV.str []]=[[.str []],[.str []],[.str []],[.str []],[.str []]]:=rfl
 have e0:List.replicate 257 (DV.emp true 1)=tb T0:=aFc _
 have e1:(tb T0).take 256++[.osl 1 2 0 0 (some 5)]++(tb T0).drop 257=tb (up1 T0 256 (.osl 1 2 0 0 (some 5))):=gR _ _ (by omega)
 rw [KI,List.append_nil] at e1
 simp only [e0,e1,o0,o1,a1,dO,KI,forall_eq,IntKind.wrap,IntKind.bits,IntKind.signed,rA,rB,rC,rD,rE,rF,rG,rH,rI,Int.reduceNeg,reduceIte,reduceCtorEq,ge_iff_le,Nat.reduceEqDiff,↓gos,gop,qA,qB,qC,qD,qE,qF,qG,qH,qI]
 refine vY 6 ?_
 simp only [f278l3,cS,gR,dO,fF,up1,T0,b13,b10,b59,b44,b92,r5,forall_eq,IntKind.wrap,IntKind.bits,IntKind.signed,rA,rB,rC,rD,rE,rF,rG,rH,rI,Int.reduceNeg,reduceIte,reduceCtorEq,ge_iff_le,Nat.reduceEqDiff,↓gos,gop,qA,qB,qC,qD,qE,qF,qG,qH,qI]
 refine .inr ⟨_,rfl,by simp,[13],rfl,?_⟩
 refine aAr ?_
 simp only [cS,gR,dO,fF,up1,T0,b13,b10,b59,b44,b92,r5,forall_eq,IntKind.wrap,IntKind.bits,IntKind.signed,rA,rB,rC,rD,rE,rF,rG,rH,rI,Int.reduceNeg,reduceIte,reduceCtorEq,ge_iff_le,Nat.reduceEqDiff,↓gos,gop,qA,qB,qC,qD,qE,qF,qG,qH,qI]
 refine gW ?_
 simp only [f278l3,cS,gR,dO,fF,up1,T0,b13,b10,b59,b44,b92,r5,forall_eq,IntKind.wrap,IntKind.bits,IntKind.signed,rA,rB,rC,rD,rE,rF,rG,rH,rI,Int.reduceNeg,reduceIte,reduceCtorEq,ge_iff_le,Nat.reduceEqDiff,↓gos,gop,qA,qB,qC,qD,qE,qF,qG,qH,qI]
 refine .inr ⟨_,rfl,by simp,[10],rfl,?_⟩
 refine mC ?_
 simp only [cS,gR,dO,fF,up1,T0,b13,b10,b59,b44,b92,r5,forall_eq,IntKind.wrap,IntKind.bits,IntKind.signed,rA,rB,rC,rD,rE,rF,rG,rH,rI,Int.reduceNeg,reduceIte,reduceCtorEq,ge_iff_le,Nat.reduceEqDiff,↓gos,gop,qA,qB,qC,qD,qE,qF,qG,qH,qI]
 refine gW ?_
 simp only [f278l3,cS,gR,dO,fF,up1,T0,b13,b10,b59,b44,b92,r5,forall_eq,IntKind.wrap,IntKind.bits,IntKind.signed,rA,rB,rC,rD,rE,rF,rG,rH,rI,Int.reduceNeg,reduceIte,reduceCtorEq,ge_iff_le,Nat.reduceEqDiff,↓gos,gop,qA,qB,qC,qD,qE,qF,qG,qH,qI]
 refine .inr ⟨_,rfl,by simp,[59],rfl,?_⟩
 refine mC ?_
 simp only [cS,gR,dO,fF,up1,T0,b13,b10,b59,b44,b92,r5,forall_eq,IntKind.wrap,IntKind.bits,IntKind.signed,rA,rB,rC,rD,rE,rF,rG,rH,rI,Int.reduceNeg,reduceIte,reduceCtorEq,ge_iff_le,Nat.reduceEqDiff,↓gos,gop,qA,qB,qC,qD,qE,qF,qG,qH,qI]
 refine gW ?_
 simp only [f278l3,cS,gR,dO,fF,up1,T0,b13,b10,b59,b44,b92,r5,forall_eq,IntKind.wrap,IntKind.bits,IntKind.signed,rA,rB,rC,rD,rE,rF,rG,rH,rI,Int.reduceNeg,reduceIte,reduceCtorEq,ge_iff_le,Nat.reduceEqDiff,↓gos,gop,qA,qB,qC,qD,qE,qF,qG,qH,qI]
 refine .inr ⟨_,rfl,by simp,[44],rfl,?_⟩
 refine mC ?_
 simp only [cS,gR,dO,fF,up1,T0,b13,b10,b59,b44,b92,r5,forall_eq,IntKind.wrap,IntKind.bits,IntKind.signed,rA,rB,rC,rD,rE,rF,rG,rH,rI,Int.reduceNeg,reduceIte,reduceCtorEq,ge_iff_le,Nat.reduceEqDiff,↓gos,gop,qA,qB,qC,qD,qE,qF,qG,qH,qI]
 refine gW ?_
 simp only [f278l3,cS,gR,dO,fF,up1,T0,b13,b10,b59,b44,b92,r5,forall_eq,IntKind.wrap,IntKind.bits,IntKind.signed,rA,rB,rC,rD,rE,rF,rG,rH,rI,Int.reduceNeg,reduceIte,reduceCtorEq,ge_iff_le,Nat.reduceEqDiff,↓gos,gop,qA,qB,qC,qD,qE,qF,qG,qH,qI]
 refine .inr ⟨_,rfl,by simp,[92],rfl,?_⟩
 refine mC ?_
 simp only [cS,gR,dO,fF,up1,T0,b13,b10,b59,b44,b92,r5,forall_eq,IntKind.wrap,IntKind.bits,IntKind.signed,rA,rB,rC,rD,rE,rF,rG,rH,rI,Int.reduceNeg,reduceIte,reduceCtorEq,ge_iff_le,Nat.reduceEqDiff,↓gos,gop,qA,qB,qC,qD,qE,qF,qG,qH,qI]
 refine gW ?_
 simp only [f278l3,cS,gR,dO,fF,up1,T0,b13,b10,b59,b44,b92,r5,forall_eq,IntKind.wrap,IntKind.bits,IntKind.signed,rA,rB,rC,rD,rE,rF,rG,rH,rI,Int.reduceNeg,reduceIte,reduceCtorEq,ge_iff_le,Nat.reduceEqDiff,↓gos,gop,qA,qB,qC,qD,qE,qF,qG,qH,qI]
 have eF:(up1 (up1 (up1 (up1 (up1 (up1 (up1 (up1 (up1 (up1 (up1 T0 256 (.osl 1 2 0 0 (some 5))) 256 (.osl 1 2 0 1 (some 5))) 13 (.emp false 1)) 256 (.osl 1 2 0 2 (some 5))) 10 (.osl 1 9 0 2 none)) 256 (.osl 1 2 0 3 (some 5))) 59 (.osl 1 12 0 2 none)) 256 (.osl 1 2 0 4 (some 5))) 44 (.osl 1 15 0 2 none)) 256 (.osl 1 2 0 5 (some 5))) 92 (.osl 1 18 0 2 none))=gE 2 18 15 12 9:=by
  funext i
  simp only [up1,T0,gE]
  repeat' split
  all_goals first | rfl | omega
 rw [eF]
 refine iZ [0,1,3,2,9,12,15,18] (by decide) (by decide) (fun i hi=>by match i,hi with | 0,_=>rfl | 1,_=>rfl) (by decide) rfl ?_ ?_ rfl ⟨rfl,rfl⟩
 ·intro l hl
  simp only [List.mem_cons,List.not_mem_nil,or_false] at hl
  rcases hl with rfl|rfl|rfl|rfl|rfl|rfl|rfl|rfl
  all_goals first | rfl | exact lM _ _ _ _ _ _ rfl rfl rfl rfl rfl rfl rfl
 ·simp only [List.map_cons,List.map_nil,List.getD_cons_zero,List.getD_cons_succ,aS,gH]
  rfl
end Go.Proofs.Ut

namespace Go.Proofs.Ut
open Go.Ai Go.Shelf Go.RowKit
set_option maxRecDepth 100000
theorem TV (s:List UInt8)(c:UInt8):aU 326 [.str s,.str [c]] (.int .i64 (s.count c:Nat)):=by
 refine yG ⟨Tryz.f326,Tryz.func326,by kernel_rfl,by kernel_rfl⟩ fun w ok β vs hl hv=>?_
 obtain ⟨u,v,rfl⟩:=two hl
 obtain rfl:=dB (hv 0 u _ rfl rfl)
 obtain rfl:=dB (hv 1 v _ rfl rfl)
 refine ⟨_,fun _ _ _=>.int _ _,(Any.strings_Count_one Tryz.lays138 ⟨s.toArray⟩ c w).mono ?_⟩
 rintro e w' ⟨rfl,rfl⟩
 exact ⟨rfl,Below.refl _ _⟩
def HR:List AObj:=.box (tb (gE 1 5 4 3 2))::RR
theorem l92:(gO 92).length=2:=rfl
theorem l44:(gO 44).length=2:=rfl
theorem l59:(gO 59).length=2:=rfl
theorem l10:(gO 10).length=2:=rfl
theorem l13:(gO 13).length=0:=rfl
theorem z02:(0<2)=True:=by simp
theorem u92:(((92:UInt8).toNat:Nat):Int)=92:=rfl
theorem u44:(((44:UInt8).toNat:Nat):Int)=44:=rfl
theorem u59:(((59:UInt8).toNat:Nat):Int)=59:=rfl
theorem u10:(((10:UInt8).toNat:Nat):Int)=10:=rfl
theorem u13:(((13:UInt8).toNat:Nat):Int)=13:=rfl
theorem IZ {n:Nat}(h:n≤255)(h1:n≠92)(h2:n≠44)(h3:n≠59)(h4:n≠10)(h5:n≠13):gE 1 5 4 3 2 n=.emp true 1:=by
 unfold gE
 rw [if_neg (by omega),if_neg h1,if_neg h2,if_neg h3,if_neg h4,if_neg h5]
theorem iV (l:List UInt8):(byB l).length=l.length:=by simp [byB]
theorem IU (a b:List UInt8):byB (a++b)=byB a++byB b:=by simp [byB]
theorem aCt (a ys:List (List DV))(k:Nat)(z:List DV):(a++List.replicate k z).take a.length++ys++(a++List.replicate k z).drop (a.length+ys.length)=(a++ys)++List.replicate (k - ys.length) z:=by
 rw [List.take_left',List.drop_append]
 ·simp [Nat.add_sub_cancel_left]
 ·rfl
theorem aBw (a:List (List DV))(k:Nat)(z y:List DV)(hk:0<k):(a++List.replicate k z).set a.length y=(a++[y])++List.replicate (k - 1) z:=by
 obtain ⟨m,rfl⟩:∃ m,k=m+1:=⟨k - 1,by omega⟩
 simp [List.replicate_succ]
def BF (s:List UInt8)(j:Nat):List (List DV):=byB (aO (s.take j))++List.replicate ((aO s).length - (aO (s.take j)).length) [.int .u8 0]
theorem aEw (s:List UInt8)(j:Nat):(BF s j).length=(aO s).length:=by
 have:=nF s j
 simp [BF,iV]; omega
theorem SU (s:List UInt8)(j:Nat)(e:List UInt8)(hv:aO (s.take (j+1))=aO (s.take j)++e):(BF s j).take (aO (s.take j)).length++byB e++(BF s j).drop ((aO (s.take j)).length+e.length)=BF s (j+1):=by
 have h:=aCt (byB (aO (s.take j))) (byB e) ((aO s).length - (aO (s.take j)).length) [.int .u8 0]
 rw [iV,iV] at h
 unfold BF
 rw [h,hv,IU,List.length_append,Nat.sub_sub]
theorem aJJ (s:List UInt8)(j:Nat)(h:(aO (s.take j)).length<(aO s).length):(BF s j)[(aO (s.take j)).length]?=some [.int .u8 0]:=by
 unfold BF
 rw [List.getElem?_append_right (by rw [iV]; exact Nat.le_refl _),iV,Nat.sub_self,List.getElem?_replicate,if_pos (by omega)]
theorem aDO (s:List UInt8)(j:Nat)(b:UInt8)(hv:aO (s.take (j+1))=aO (s.take j)++[b])(h:(aO (s.take j)).length<(aO s).length):(BF s j).set (aO (s.take j)).length [.int .u8 b.toNat]=BF s (j+1):=by
 have h:=aBw (byB (aO (s.take j))) ((aO s).length - (aO (s.take j)).length) [.int .u8 0] [.int .u8 b.toNat] (by omega)
 rw [iV] at h
 unfold BF
 rw [h,hv,IU,List.length_append,Nat.sub_sub]
 rfl
theorem aHp (s:List UInt8):BF s s.length=byB (aO s):=by
 unfold BF
 rw [List.take_length,Nat.sub_self]; simp
theorem aGd (a b:UInt8):List.take 2 (byB [a,b])=byB [a,b]:=rfl
theorem aET (a b:UInt8):(byB [a,b]).length=2:=rfl
theorem aCZ (s:List UInt8)(tl:List AObj):eK 6 (fun h' d=>h' = HR∧d=DV.str s) (some [.str s]) (HR++tl):=by
 refine iZ [0,1,2,3,4,5] (by decide) (by decide) (fun i hi=>by match i,hi with | 0,_=>rfl | 1,_=>rfl | 2,_=>rfl | 3,_=>rfl | 4,_=>rfl | 5,_=>rfl) (fun l hl=>?_) rfl ?_ ?_ rfl ⟨rfl,rfl⟩
 ·simp only [List.mem_cons,List.not_mem_nil,or_false] at hl
  simp only [HR,RR,List.length_append,List.length_cons,List.length_nil]
  omega
 ·intro l hl
  simp only [List.mem_cons,List.not_mem_nil,or_false] at hl
  rcases hl with rfl|rfl|rfl|rfl|rfl|rfl
  all_goals first | rfl | exact lM _ _ _ _ _ _ rfl rfl rfl rfl rfl rfl rfl
 ·simp only [HR,RR,List.cons_append,List.map_cons,List.map_nil,List.getD_cons_zero,List.getD_cons_succ,aS,gH]
  rfl
set_option maxHeartbeats 1000000 in
theorem IB (s:List UInt8)(hs:s.length<1000000000)(L:List (Nat×DV))(h5:slots L 5=.int .i64 ((aO s).length:Nat))(h6:slots L 6=.bool (s.any spB))(h1:slots L 1=.str s)(h0:slots L 0=.ptr 0 0) :
    goN ED 6 (fin 6 [RV.t 4] fun h' d=>h' = HR∧d=DV.str (aO s)) [] f383t L HR:=by
  have hvl:=tN s
  cases hany:s.any spB with
  | false=>
    rw [hany] at h6
    simp only [f383t,h1,h6,forall_eq,IntKind.wrap,IntKind.bits,IntKind.signed,rA,rB,rC,rD,rE,rF,rG,rH,rI,Int.reduceNeg,reduceIte,reduceCtorEq,ge_iff_le,Nat.reduceEqDiff,↓gos,gop,qA,qB,qC,qD,qE,qF,qG,qH,qI]
    have:=aCZ s []
    rw [List.append_nil] at this
    rw [vF s hany]
    exact this
  | true=>
    rw [hany] at h6
    simp only [f383t,h0,h1,h5,h6,HR,RR,↓gos,gop,qA,qB,qC,qD,qE,qF,qG,qH,qI]
    refine ⟨by omega,by omega,by omega,?_⟩
    refine aJ (γ:=Nat) (fun j=>[(14,.int .i64 j),(13,.int .i64 (aO (s.take j)).length),(12,.osl 1 6 0 (aO s).length (some (aO s).length)),(0,.ptr 0 0),(1,.str s)]) (fun j=>HR++[.arr 1 (BF s j)]) (fun j=>j≤s.length) (fun j=>s.length - j) 0
      (wks (by simp [HR,RR,BF,aO,byB]) (by simp) ⟨rfl,rfl,rfl,by simp [slots,h0],by simp [slots,h1],trivial⟩) (by omega) fun j hj=>?_
    simp only [f383l2,HR,RR,↓gos,gop,qA,qB,qC,qD,qE,qF,qG,qH,qI]
    refine ⟨fun a2=>?_,fun a2=>?_⟩
    · have hj:j<s.length:=by omega
      have hv:=wC s j hj
      have hp:=nF s (j+1)
      have hb:bt s j=((s.getD j 0).toNat:Int):=rfl
      have hbl:(s.getD j 0).toNat<256:=(s.getD j 0).toNat_lt
      rcases gA (s.getD j 0) with hc|⟨n1,n2,k1,k2,k3,k4,k5⟩
      · rcases hc with hc | hc | hc | hc | hc
        all_goals
          rw [hc] at hb hv
          have hvn:=congrArg List.length hv
          rw [List.length_append] at hvn
          simp only [l92,l44,l59,l10,l13] at hvn
          simp only [hb,a2,z02,u92,u44,u59,u10,u13,cS,gE,aGd,aET,aEw,Int.reduceEq,Nat.reduceEqDiff,reduceIte,↓gos,gop,qA,qB,qC,qD,qE,qF,qG,qH,qI]
          repeat (refine ⟨by omega,?_⟩)
          intro v e1 v1 e2
          rw [wrap_i64 (by omega) (by omega)] at e1
          rw [wrap_i64 (by omega) (by omega)] at e2
          refine aN (j+1) ?_ (by simp) ⟨?_,?_,rfl,rfl,rfl,trivial⟩ hj (by omega)
          · first
              | exact congrArg (fun x=>HR++[AObj.arr 1 x]) (SU s j _ hv)
              | (refine congrArg (fun x=>HR++[AObj.arr 1 x]) ?_
                 have:=SU s j [] hv
                 simpa [byB] using this)
          · show DV.int .i64 v1=_
            rw [e2]; rfl
          · show DV.int .i64 v=_
            rw [e1,hvn]
            congr 1
      · have hn:=IZ (by omega) k1 k2 k3 k4 k5
        have hle:(s.getD j 0).toNat≤256:=by omega
        have h256:(((s.getD j 0).toNat:Nat):Int)<256:=by omega
        simp only [hb,a2,hn,hle,h256,cS,Nat.mul_one,Int.reduceEq,Nat.reduceEqDiff,reduceIte,↓gos,gop,qA,qB,qC,qD,qE,qF,qG,qH,qI]
        rw [n2] at hv
        have hvn:=congrArg List.length hv
        rw [List.length_append,List.length_singleton] at hvn
        have hlt:(aO (s.take j)).length<(aO s).length:=by omega
        refine ⟨by omega,?_⟩
        rw [aJJ s j hlt,xU]
        refine ⟨by simp,?_⟩
        intro v e1 v1 e2
        rw [wrap_i64 (by omega) (by omega)] at e1
        rw [wrap_i64 (by omega) (by omega)] at e2
        refine aN (j+1) ?_ (by simp) ⟨?_,?_,rfl,rfl,rfl,trivial⟩ hj (by omega)
        · exact congrArg (fun x=>HR++[AObj.arr 1 x]) (aDO s j _ hv hlt)
        · show DV.int .i64 v1=_
          rw [e2]; rfl
        · show DV.int .i64 v=_
          rw [e1,hvn]
          congr 1
    · have hj:j=s.length:=by omega
      subst hj
      rw [aHp]
      refine .inr ⟨_,rfl,by rw [iV]; exact Nat.le_refl _,aO s,?_,aCZ (aO s) [.arr 1 (byB (aO s))]⟩
      rw [List.take_of_length_le (by rw [iV]; exact Nat.le_refl _)]
      rfl
def nw (s:List UInt8)(k:Nat):Int:=(((s.length+(if 2≤k then s.count 10 else 0)+(if 3≤k then s.count 59 else 0)+(if 4≤k then s.count 44 else 0)+(if 5≤k then s.count 92 else 0):Nat)):Int) - ((if 1≤k then s.count 13 else 0:Nat):Int)
def aw (s:List UInt8)(k:Nat):Bool:=(decide (1≤k) && !decide (s.count 13=0))||(decide (2≤k) && !decide (s.count 10=0))||(decide (3≤k) && !decide (s.count 59=0))||(decide (4≤k) && !decide (s.count 44=0))||(decide (5≤k) && !decide (s.count 92=0))
set_option maxHeartbeats 1000000 in
theorem aCT (s:List UInt8)(hs:s.length<1000000000):ACalls ED 383 HR [.ptr 0 0,.str s] (fun h' d=>h' = HR∧d=.str (aO s)):=by
 refine aA c383 (by simp [f383]) ?_
 have hvl:=tN s
 simp only [f383,HR,RR,cS,gE,forall_eq,IntKind.wrap,IntKind.bits,IntKind.signed,rA,rB,rC,rD,rE,rF,rG,rH,rI,Int.reduceNeg,reduceIte,reduceCtorEq,ge_iff_le,Nat.reduceEqDiff,↓gos,gop,qA,qB,qC,qD,qE,qF,qG,qH,qI]
 refine ⟨fun a1=>?_,fun a1=>?_⟩
 ·have hcount:∀ c:UInt8,s.count c≤s.length:=fun c=>List.count_le_length
  have c1:=hcount 13
  have c2:=hcount 10
  have c3:=hcount 59
  have c4:=hcount 44
  have c5:=hcount 92
  refine aJ (γ:=Nat) (fun k=>[(32,.int .i64 k),(31,.int .i64 5),(30,.osl 1 1 0 5 (some 5)),(6,.bool (aw s k)),(5,.int .i64 (nw s k)),(0,.ptr 0 0),(1,.str s)]) (fun _=>HR) (fun k=>k≤5) (fun k=>5 - k) 0
   (wks rfl (by decide) ⟨rfl,rfl,rfl,rfl,by simp [nw,slots],rfl,rfl,trivial⟩) (by omega) fun k hk=>?_
  simp only [f383l0,HR,RR,↓gos,gop,qA,qB,qC,qD,qE,qF,qG,qH,qI]
  refine ⟨fun a2=>?_,fun a2=>?_⟩
  ·have hk5:k=0∨k=1∨k=2∨k=3∨k=4:=by omega
   obtain ⟨k',hk'⟩:∃ k',k' = k+1:=⟨_,rfl⟩
   rcases hk5 with rfl|rfl|rfl|rfl|rfl
   all_goals
    simp only [forall_eq,IntKind.wrap,IntKind.bits,IntKind.signed,rA,rB,rC,rD,rE,rF,rG,rH,rI,Int.reduceNeg,reduceIte,reduceCtorEq,ge_iff_le,Nat.reduceEqDiff,↓gos,gop,qA,qB,qC,qD,qE,qF,qG,qH,qI]
    refine aB (TV s _) rfl rfl ?_
    simp only [b13,b10,b59,b44,b92,z02,cS,gE,Int.reduceEq,Nat.reduceEqDiff,reduceIte,↓gos,gop,qA,qB,qC,qD,qE,qF,qG,qH,qI]
    refine ⟨fun q=>?_,fun q=>?_⟩
    ·intro v1 e1 v2 e2 v3 e3 v4 e4
     rw [wrap_i64 (by omega) (by omega)] at e1
     subst e1
     rw [wrap_i64 (by omega) (by omega)] at e2
     simp only [nw,Nat.reduceLeDiff,if_true,if_false] at e3
     rw [wrap_i64 (by omega) (by omega)] at e3
     rw [wrap_i64 (by omega) (by omega)] at e4
     refine aN k' rfl (by decide) ⟨?_,rfl,rfl,?_,?_,rfl,rfl,trivial⟩ (by omega) (by omega)
     ·show DV.int .i64 v4=_
      congr 1; omega
     ·show DV.bool true=_
      congr 1; symm
      simp only [hk',aw,Nat.reduceAdd,Nat.zero_add,Nat.reduceLeDiff,Nat.le_refl,decide_true,decide_false,Bool.true_and,Bool.false_and,Bool.or_false,Bool.or_eq_true,Bool.not_eq_true',decide_eq_false_iff_not]
      omega
     ·show DV.int .i64 v3=_
      congr 1
      simp only [hk',nw,Nat.reduceAdd,Nat.zero_add,Nat.reduceLeDiff,Nat.le_refl,if_true,if_false]
      omega
    ·intro v4 e4
     rw [wrap_i64 (by omega) (by omega)] at e4
     refine aN k' rfl (by decide) ⟨?_,rfl,rfl,?_,?_,rfl,rfl,trivial⟩ (by omega) (by omega)
     ·show DV.int .i64 v4=_
      congr 1; omega
     ·show DV.bool _=_
      congr 1
      rw [Bool.eq_iff_iff]
      simp only [hk',aw,Nat.reduceAdd,Nat.zero_add,Nat.reduceLeDiff,Nat.le_refl,decide_true,decide_false,Bool.true_and,Bool.false_and,Bool.or_false,Bool.or_eq_true,Bool.not_eq_true',decide_eq_false_iff_not]
      first | omega | (simp; omega)
     ·show DV.int .i64 _=_
      congr 1
      simp only [hk',nw,Nat.reduceAdd,Nat.zero_add,Nat.reduceLeDiff,Nat.le_refl,if_true,if_false]
      omega
  ·have hk:k=5:=by omega
   subst hk
   have hc:=rT s
   refine IB s hs _ ?_ ?_ rfl rfl
   ·show DV.int .i64 (nw s 5)=_
    congr 1
    simp only [nw,Nat.reduceLeDiff,if_true]
    omega
   ·show DV.bool (aw s 5)=_
    rw [PJ]
    simp [aw]
 ·refine aJ (γ:=Nat) (fun j=>[(10,.int .i64 j),(6,.bool ((s.take j).any spB)),(5,.int .i64 ((aO (s.take j)).length+(s.length - j:Nat):Nat)),(0,.ptr 0 0),(1,.str s)]) (fun _=>HR) (fun j=>j≤s.length) (fun j=>s.length - j) 0
   (wks rfl (by decide) ⟨rfl,rfl,by simp [aO,slots],rfl,rfl,trivial⟩) (by omega) fun j hj=>?_
  simp only [f383l1,HR,RR,↓gos,gop,qA,qB,qC,qD,qE,qF,qG,qH,qI]
  refine ⟨fun a2=>?_,fun a2=>?_⟩
  ·have hj:j<s.length:=by omega
   have hv:=wC s j hj
   have ha:=TX s j hj
   have hp:=nF s (j+1)
   have hb:bt s j=((s.getD j 0).toNat:Int):=rfl
   have hbl:(s.getD j 0).toNat<256:=(s.getD j 0).toNat_lt
   rcases gA (s.getD j 0) with hc|⟨n1,n2,k1,k2,k3,k4,k5⟩
   ·rcases hc with hc|hc|hc|hc|hc
    all_goals
     rw [hc] at hb hv ha
     have hvn:=congrArg List.length hv
     simp only [hb,a2,z02,u92,u44,u59,u10,u13,cS,gE,Int.reduceEq,Nat.reduceEqDiff,reduceIte,↓gos,gop,qA,qB,qC,qD,qE,qF,qG,qH,qI]
     intro v e1 v1 e2 v2 e3
     rw [wrap_i64 (by omega) (by omega)] at e1
     rw [List.length_append] at hvn
     simp only [l92,l44,l59,l10,l13] at hvn
     rw [wrap_i64 (by omega) (by omega)] at e2
     rw [wrap_i64 (by omega) (by omega)] at e3
     refine aN (j+1) rfl (by decide) ⟨?_,?_,?_,rfl,rfl,trivial⟩ hj (by omega)
     ·show DV.int .i64 v2=_
      rw [e3]; rfl
     ·show DV.bool true=_
      rw [ha]; simp [spB]
     ·show DV.int .i64 v1=_
      rw [e2,hv,List.length_append]
      simp only [l92,l44,l59,l10,l13,e1]
      congr 1
      omega
   ·rw [n1] at ha
    rw [n2] at hv
    have hn:=IZ (by omega) k1 k2 k3 k4 k5
    have hle:(s.getD j 0).toNat≤256:=by omega
    have h256:(((s.getD j 0).toNat:Nat):Int)<256:=by omega
    simp only [hb,a2,hn,hle,h256,cS,Nat.mul_one,Int.reduceEq,Nat.reduceEqDiff,reduceIte,↓gos,gop,qA,qB,qC,qD,qE,qF,qG,qH,qI]
    intro v e1
    rw [wrap_i64 (by omega) (by omega)] at e1
    refine aN (j+1) rfl (by decide) ⟨?_,?_,?_,rfl,rfl,trivial⟩ hj (by omega)
    ·show DV.int .i64 v=_
     rw [e1]; rfl
    ·show DV.bool _=_
     rw [ha,Bool.or_false]
    ·show DV.int .i64 _=_
     rw [hv,List.length_append,List.length_singleton]
     congr 1
     omega
  ·have hj:j=s.length:=by omega
   subst hj
   refine IB s hs _ ?_ ?_ rfl rfl
   ·show DV.int .i64 _=_
    simp
   ·show DV.bool _=_
    rw [List.take_length]
end Go.Proofs.Ut
