/- Cards held against each other; how much there is in a card; the statements' own helpers. -/
import Derived.Test.YtgamnnfndidclaaGreatDoorGYVcE
import Derived.Test.YtgamnnfndidclaaGreatDoorGYFoB
import Derived.Test.YtgamnnfndidclaaGreatDoorGYA
import Derived.Test.YtgamnnfndidclaaGreatDoorGYY5
import Derived.Test.YtgamnnfndidclaaGreatDoorGYY1
import Derived.Test.YtgamnnfndidclaaGreatDoorGLawJid
import Derived.Carry
open Nat renaming reduceBEq → qA,reduceAdd → qB,reduceSub → qC,reduceLeDiff → qD,reduceMul → qE
open Int renaming reduceLE → qF,reduceLT → qG,reduceNe → qH,reduceToNat → qI
set_option linter.all false
namespace Go.Proofs.Ut
open Go.Ai Go.Shelf Go.RowKit
set_option linter.unusedSimpArgs false
set_option linter.unusedVariables false
set_option maxHeartbeats 1000000
set_option maxRecDepth 100000
end Go.Proofs.Ut

namespace Go.Proofs.Ut
open Go.Ai
set_option maxRecDepth 100000
def gA (l:List (List UInt8)):Nat:=(l.map fun s=>1+s.length).sum
theorem VF {l:List (List UInt8)}{i:Nat}(h:i<l.length)(h6:i<6):lG (l.take (i+1))=lG (l.take i)++[eZ (l.getD i []) 20]:=by
 unfold lG
 rw [List.take_take,List.take_take,Nat.min_eq_right (by omega),Nat.min_eq_right (by omega),dB h []]
 simp
theorem XR (y:Int):∃ a:Nat,a<5∧IntKind.i64.wrap ((IntKind.u64.wrap y).tmod 5)=a:=by
 have h0:0≤IntKind.u64.wrap y:=by
  simp only [IntKind.wrap,IntKind.bits,IntKind.signed]
  exact Int.emod_nonneg _ (by decide)
 obtain ⟨m,hm⟩:=Int.eq_ofNat_of_zero_le h0
 refine ⟨m % 5,Nat.mod_lt _ (by decide),?_⟩
 rw [hm]
 have h1:((m:Int).tmod 5)=((m % 5:Nat):Int):=by
  rw [Int.tmod_eq_emod_of_nonneg (by omega)]; simp
 have:=Nat.mod_lt m (show 0<5 by decide)
 rw [h1,wrap_i64 (by omega) (by omega)]
theorem aAJ:∀ j,j<10→IntKind.u8.wrap (97+IntKind.u8.wrap ((j+1:Nat):Int))=((97+UInt8.ofNat (j+1)).toNat:Int):=by decide +kernel
theorem aAp:∀ j,j<10→(tn (j+1)).length≤100:=by decide +kernel
set_option maxHeartbeats 4000000 in
theorem VH (l:List (List UInt8))(x:Int)(hl:l.length<100000000)(hw:∀ s∈l,s.length<100000000):aY 8 [.sl 1 (l.map sv),.int .i64 x] (.bool true):=by
 refine bQ c8 (by simp [f8]) ?_
 simp only [f8,aG,aD,↓gos,gop,qA,qB,qC,qD,qE,qF,qG,qH,qI]
 refine aM (γ:=Nat) (fun i=>[(7,.int .i64 i),(6,.osl 1 0 0 i none),(5,.str (sG (lG (l.take i)))),(4,.bool false),(1,.int .i64 x),(0,.sl 1 (l.map sv))]) (fun i=>[.arr 1 ((lG (l.take i)).map sv)]) (fun i=>i≤l.length∧i≤6) (fun i=>6 - i) 0
  (wks rfl (by simp) ⟨rfl,rfl,rfl,rfl,rfl,rfl,trivial⟩) ⟨by omega,by omega⟩ fun i ⟨hi,hi6⟩=>?_
 have hL:(lG (l.take i)).length=i:=by unfold lG; simp only [List.length_map,List.length_take]; omega
 simp only [f8l0,aG,aD,↓gos,gop,qA,qB,qC,qD,qE,qF,qG,qH,qI]
 refine ⟨fun h=>⟨fun h6=>?_,fun h6=>?_⟩,fun h=>?_⟩
 ·have h2:i<l.length:=by omega
  have hlen:=OZ (lG (l.take i)) fun g hg=>((wS _).2 g hg).1
  have hnx:=VF h2 (by omega)
  have hm:l.getD i []∈l:=by rw [List.getD_eq_getElem?_getD,List.getElem?_eq_getElem h2]; exact List.getElem_mem h2
  have hs:=hw _ hm
  refine aU [] h2 ?_
  generalize l.getD i []=y at *
  simp only [sv,aG,aD,↓gos,gop,qA,qB,qC,qD,qE,qF,qG,qH,qI]
  refine aB (aAM y 20 (by omega) (by decide)) rfl rfl ?_
  have hy:=zC y 20
  have hv:=rU (eZ y 20)
  have hsn:=RR (lG (l.take i)) (eZ y 20)
  have hti:List.take i (List.map sv (lG (l.take i)))=List.map sv (lG (l.take i)):=List.take_of_length_le (by rw [List.length_map]; omega)
  have w1:IntKind.i64.wrap ((i:Int)+1)=((i+1:Nat):Int):=by rw [wrap_i64 (by omega) (by omega)]; rfl
  simp only [aG,aD,↓gos,gop,qA,qB,qC,qD,qE,qF,qG,qH,qI]
  refine ⟨fun h0=>?_,fun h0=>?_⟩
  ·rw [if_neg (fun e=>by rw [e] at hL; simp at hL; omega)] at hsn
   refine aO (by omega) ?_
   refine aB (EL (eZ y 20) (by omega)) rfl rfl ?_
   simp only [w1,forall_eq,aG,aD,↓gos,gop,qA,qB,qC,qD,qE,qF,qG,qH,qI]
   refine aO (by simp only [List.length_append,List.length_cons,List.length_nil]; omega) (aO (by omega) (aO (by omega) (aO (by omega) ?_)))
   refine dO 1 (i+1) ?_ (by simp) ⟨rfl,rfl,rfl,rfl,?_,rfl,rfl,rfl,rfl,rfl,rfl,rfl,trivial⟩ ?_ ⟨by omega,by omega⟩ (by omega)
   ·rw [hnx,List.map_append,hti]; rfl
   ·rw [hnx,hsn]; rfl
   ·rfl
  ·have hi0:i=0:=by omega
   subst hi0
   refine aB (EL (eZ y 20) (by omega)) rfl rfl ?_
   have w0:IntKind.i64.wrap (0+1)=1:=by decide
   simp only [w0,forall_eq,aG,aD,↓gos,gop,qA,qB,qC,qD,qE,qF,qG,qH,qI]
   have e0:sG (lG ([]:List (List UInt8)))=[]:=rfl
   rw [if_pos (by rfl)] at hsn
   refine aO (by simp only [e0,List.length_nil]; omega) ?_
   refine dO 1 1 ?_ (by simp) ⟨rfl,rfl,rfl,rfl,?_,rfl,rfl,rfl,rfl,rfl,rfl,rfl,trivial⟩ ?_ ⟨by omega,by omega⟩ (by omega)
   ·rw [hnx]; rfl
   ·rw [hnx,hsn]; rfl
   ·rfl
 all_goals
  have hx:lG (l.take i)=lG l:=by
   unfold lG
   rw [List.take_take]
   rcases (show i=l.length∨i=6 by omega) with e|e
   ·rw [e]; congr 1
    rcases Nat.le_total 6 l.length with q|q
    ·rw [Nat.min_eq_left q]
    ·rw [Nat.min_eq_right q,List.take_length,List.take_of_length_le q]
   ·rw [e,Nat.min_self]
  rw [hx] at hL ⊢
  have hrd:=aFo l
  obtain ⟨c,hc,hg⟩:∃ c:CT,c={ Cn with groups:=bG (lG l) }∧c.groups=bG (lG l):=⟨_,rfl,rfl⟩
  rw [← hc] at hrd
  refine iS [0,1] rfl ?_
  simp only [aG,aD,↓gos,gop,qA,qB,qC,qD,qE,qF,qG,qH,qI]
  refine aX hrd rfl rfl ?_
  have e1:List.take i (List.map sv (lG l))=List.map sv (lG l):=List.take_of_length_le (by rw [List.length_map]; omega)
  have e2:decide (i≤(lG l).length)=true:=decide_eq_true (by omega)
  simp only [EW,EB,e1,e2,aG,aD,↓gos,gop,qA,qB,qC,qD,qE,qF,qG,qH,qI]
  refine aO rfl ?_
  intro v1 h1 v2 h2 v3 h3 v4 h4
  obtain ⟨n,hn,en⟩:=XR x
  have e3:v3=n:=by rw [h3,h2,h1]; exact en
  have e4:v4=((6+n:Nat):Int):=by rw [h4,e3,wrap_i64 (by omega) (by omega)]; omega
  clear h1 h2 h3 h4 e3
  subst e4
  refine aM (γ:=Nat) (fun j=>[(12,.int .i64 (j+1:Nat)),(11,.str (tn (j+1))),(10,.int .i64 0),(9,.ptr 4 0),(6,.sl 1 ((lG l).map sv)),(4,.bool false),(1,.int .i64 (6+n:Nat))]) (fun _=>[.dead,.dead,.arr 1 [],.arr 4 [],.box (ctv c)]) (fun j=>j+1≤6+n) (fun j=>6+n - j) 0
   (wks rfl (by simp) ⟨rfl,rfl,rfl,rfl,rfl,rfl,rfl,trivial⟩) (by omega) fun j hj=>?_
  simp only [f8l1,aG,aD,↓gos,gop,qA,qB,qC,qD,qE,qF,qG,qH,qI]
  refine ⟨fun h5=>?_,fun h5=>?_⟩
  ·have hnx:=RP j (by omega)
   have w1:IntKind.i64.wrap (((j+1:Nat):Int)+1)=((j+1+1:Nat):Int):=by rw [wrap_i64 (by omega) (by omega)]; rfl
   simp only [w1,forall_eq,aG,aD,↓gos,gop,qA,qB,qC,qD,qE,qF,qG,qH,qI]
   have hv:=aAJ j (by omega)
   have hlen:=aAp j (by omega)
   refine aO (by omega) (.inr ⟨_,rfl,by simp,[97+UInt8.ofNat (j+1)],congrArg (fun v=>[[DV.int .u8 v]]) hv,aO (by simp only [List.length_append,List.length_cons,List.length_nil]; omega) ?_⟩)
   refine dO 5 (j+1) rfl (by simp) ⟨rfl,rfl,?_,rfl,rfl,rfl,rfl,rfl,rfl,rfl,rfl,rfl,rfl,rfl,trivial⟩ rfl (by omega) (by omega)
   rw [hnx]; rfl
  ·have hj2:j+1=6+n:=by omega
   rw [hj2]
   have hq:=MN (YU (aFl n hn)) (fun p hp=>by
    simp only [l7,List.mem_cons,List.not_mem_nil,or_false] at hp
    rcases hp with rfl|rfl <;> rfl)
   have hqi:=aDC n hn
   refine iS [5] rfl ?_
   simp only [aG,aD,↓gos,gop,qA,qB,qC,qD,qE,qF,qG,qH,qI]
   refine aX hq rfl rfl ?_
   generalize ofR (l7 (tn (6+n)))=q at *
   obtain ⟨d,f⟩:=q
   simp only at hqi
   simp only [EW,EB,aG,aD,↓gos,gop,qA,qB,qC,qD,qE,qF,qG,qH,qI]
   refine aO rfl ?_
   refine aX UY rfl rfl ?_
   have h30:=GX (lG l) (by omega)
   simp only [ctv,hg,aG,aD,↓gos,gop,qA,qB,qC,qD,qE,qF,qG,qH,qI]
   refine aX h30 rfl rfl ?_
   have hp:=XL (bG (lG l)) (bG (lG l)) (by have:=(eE (lG l)).2.1; omega) (by have:=(eE (lG l)).2.1; omega)
   rw [decide_eq_true rfl] at hp
   simp only [aG,aD,↓gos,gop,qA,qB,qC,qD,qE,qF,qG,qH,qI]
   refine aX hp rfl rfl ?_
   by_cases h8:6+n≤8
   ·rw [if_pos h8,if_pos h8] at hqi
    obtain ⟨rfl,hd⟩:=Prod.mk.inj hqi
    have d8:decide (((6+n:Nat):Int)≤8)=true:=decide_eq_true (by omega)
    have dl:decide ((d.groups.length:Int)=((6+n:Nat):Int))=true:=decide_eq_true (by omega)
    simp only [List.length_map,d8,dl,aG,aD,↓gos,gop,qA,qB,qC,qD,qE,qF,qG,qH,qI]
    exact dF [] rfl rfl ⟨rfl,rfl⟩
   ·rw [if_neg h8,if_neg h8] at hqi
    obtain ⟨rfl,hd⟩:=Prod.mk.inj hqi
    have d8:decide (((6+n:Nat):Int)≤8)=false:=decide_eq_false (by omega)
    have d9:decide (((6+n:Nat):Int)>8)=true:=decide_eq_true (by omega)
    simp only [List.length_map,d8,d9,aG,aD,↓gos,gop,qA,qB,qC,qD,qE,qF,qG,qH,qI]
    exact dF [] rfl rfl ⟨rfl,rfl⟩
end Go.Proofs.Ut

namespace Go.Ai
open Go.RowKit
theorem row_walk {E:Env}{f:Nat}{args:List DV}(hc:ACalls E f [] args fun h d=>h=[]∧d=.bool true)(W:World)(hg:E.G W)(hn:E.N≤W.heap.size)(vs:List Value)(hl:vs.length=args.length)
  (hv:∀ (i:Nat) v d,vs[i]?=some v→args[i]?=some d→Rep W (fun b=>b<W.heap.size) noLoc v d):Calls E.P f vs.toArray W fun e W' => e=.returned (.bool true)∧Below W.heap.size W W' := by
 refine (hc.2 W (fun b=>b<W.heap.size) noLoc vs hg hn ⟨fun _ _=>rfl,fun l l' b o o' h=>by simp [noLoc] at h,fun l b o h=>by simp [noLoc] at h,fun l b o h=>by simp [noLoc] at h,fun _ h=>h,fun l o h=>by simp at h⟩ hl hv).mono ?_
 rintro e W' ⟨v,ok',β',h',d,rfl,⟨_,rfl⟩,_,hev,_,hr,_⟩
 refine ⟨by rw [hr.bool_in],⟨hev.os,hev.tape,hev.output,hev.size,fun k hk=>hev.same k hk fun l x h=>by simp [noLoc] at h⟩⟩
end Go.Ai
