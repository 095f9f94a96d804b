/- strings.NewReplacer(..).Replace as fold.Value calls it. -/
import Derived.Test.YtgamnnfndidclaaGreatDoorCYS
import Derived.Test.YtgamnnfndidclaaGreatDoorCYFoUtD
import Derived.Test.YtgamnnfndidclaaGreatDoorCYOnce2
open Nat renaming reduceBEq → qA,reduceAdd → qB,reduceSub → qC,reduceLeDiff → qD,reduceMul → qE
open Int renaming reduceLE → qF,reduceLT → qG,reduceNe → qH,reduceToNat → qI
open Int renaming reduceEq → rA,reduceAdd → rB,reduceSub → rC,reduceMul → rD,reduceMod → rE,reduceDiv → rF,reduceTDiv → rG,reducePow → rH
open Nat renaming reducePow → rI
set_option linter.all false
namespace Go.Proofs.Ut
open Go.Ai
set_option maxRecDepth 100000
theorem sL {E:Env}{L L' : List (Nat×DV)}{h H' : List AObj}{f:Nat}{ds ds1:List DV}{h1 h1' : List AObj}{D DR:DV}{K:DV→St→Prop}(ls ks:List Nat)(hnd:ls.Nodup)(hlt:∀ l∈ls,l<h.length)
  (hks:ls.filter (fun l => !eO h[l]?)=ks)
  (hlow:(ls.map fun l=>iU (fun l=>ls.idxOf? l) h (h.getD l .dead))=h1) (hds:ds.map (DV.dn ls h)=ds1)
  (hin:(ds.all (DV.inL ls.contains)&&ls.all (fun l=>inO ls.contains (h.getD l .dead)))=true)
  (hc:ACalls E f h1 ds1 (fun h' d=>h' = h1' ∧ d=D)) (hD:D.ren (upL h.length ls)=DR)
  (hH:bP (ks.foldl (fun h i=>eZ i h) h) ls (h1'.map (aS (upL h.length ls)))++(h1'.drop ls.length).map (aS (upL h.length ls))=H') (hL:ks.foldl (fun L i=>fB i L) L=L')
  (hk:K DR (sta L' H')):acall E true f ds K (sta L h):=by
 subst hH; subst hL
 exact nP ls ks hnd hlt hks hlow hds hin hc hD hk
theorem QK (ρ:Nat→Option Nat)(h:List AObj)(tr p92 p44 p59 p10 tr' p92' p44' p59' p10' : Nat)(h1:ρ tr=some tr')(h2:ρ p92=some p92')(h3:ρ p44=some p44')(h4:ρ p59=some p59')(h5:ρ p10=some p10') :
  (tb (gE tr p92 p44 p59 p10)).map (DV.low ρ h)=tb (gE tr' p92' p44' p59' p10'):=by
 rw [QG]
 congr 1
 funext i
 unfold gE
 repeat' split
 all_goals simp [DV.low,h1,h2,h3,h4,h5]
theorem aFn:ACalls ED 228 [.box [.int .u32 0,.int .i32 1,.int .u32 0,.nili,.osl 1 1 0 10 none],.arr 1 ON] [.ptr 0 0]
  (fun h' d=>d=.tup []∧∃ rest' hs',h' = .box (.int .u32 0::.int .i32 1::rest')::hs' ∧ (rest' = [.int .u32 0,.ifc 319 [.ptr 2 0],.osl 1 8 0 0 none]∧hs' = .arr 1 ON::.box (tb (gE 3 7 6 5 4))::RR++[.arr 1 []])):=by
 refine aA c228 (by simp [f228]) ?_
 simp only [f228,↓gos,gop,qA,qB,qC,qD,qE,qF,qG,qH,qI]
 refine sL [0,1] [1] (H' := .box [.int .u32 0,.int .i32 1,.int .u32 0,.nili,.osl 1 1 0 10 none]::.arr 1 ON::.box (tb (gE 3 7 6 5 4))::RR) (DR:=.ifc 319 [.ptr 2 0]) (by decide) (by decide) rfl rfl rfl rfl aAa rfl ?_ rfl ?_
 ·simp only [RR,List.map_cons,List.map_nil,aS,gH,bP,List.foldl_cons,List.foldl_nil,List.drop_succ_cons,List.drop_zero,List.length_cons,List.length_nil]
  rfl
 simp only [RR,List.foldl_cons,List.foldl_nil,forall_eq,IntKind.wrap,IntKind.bits,IntKind.signed,rA,rB,rC,rD,rE,rF,rG,rH,rI,Int.reduceNeg,reduceIte,reduceCtorEq,ge_iff_le,Nat.reduceEqDiff,↓gos,gop,qA,qB,qC,qD,qE,qF,qG,qH,qI]
 refine iZ [0,1,2,3,4,5,6,7,8] (by decide) (by decide) (fun i hi=>by match i,hi with | 0,_=>rfl | 1,_=>rfl) (fun l hl=>?_) rfl ?_ ?_ rfl ⟨rfl,_,_,rfl,rfl,rfl⟩
 ·simp only [List.mem_cons,List.not_mem_nil,or_false] at hl
  simp only [List.length_cons,List.length_nil]
  omega
 ·intro l hl
  simp only [List.mem_cons,List.not_mem_nil,or_false] at hl
  rcases hl with rfl|rfl|rfl|rfl|rfl|rfl|rfl|rfl|rfl
  all_goals first | rfl | exact lM _ _ _ _ _ _ rfl rfl rfl rfl rfl rfl rfl
 ·simp only [RR,List.cons_append,List.nil_append,List.map_cons,List.map_nil,List.getD_cons_zero,List.getD_cons_succ,aS,gH]
  rfl
theorem ACalls.weak {E:Env}{f:Nat}{h:List AObj}{args:List DV}{post post' : List AObj→DV→Prop}(hc:ACalls E f h args post)(hi:∀ h' d,post h' d→post' h' d):ACalls E f h args post' :=
 ⟨hc.1,fun w ok β vs a b c d e=>(hc.2 w ok β vs a b c d e).mono fun _ _ ⟨v,ok',β',h',d,q1,q2,q⟩=>⟨v,ok',β',h',d,q1,hi _ _ q2,q⟩⟩
theorem aCQ:ACalls ED 227 [.box [.int .u32 0,.int .i32 0,.int .u32 0,.nili,.osl 1 1 0 10 none],.arr 1 ON] [.ptr 0 0,.bnd 228 [.ptr 0 0]]
  (fun h' d=>h' = .box [.int .u32 1,.int .i32 0,.int .u32 0,.ifc 319 [.ptr 2 0],.osl 1 8 0 0 none]::.arr 1 ON::.box (tb (gE 3 7 6 5 4))::RR++[.arr 1 []]∧d=.tup []):=by
 refine ACalls.weak (aGi (post:=fun rest' hs' => rest' = [.int .u32 0,.ifc 319 [.ptr 2 0],.osl 1 8 0 0 none]∧hs' = .arr 1 ON::.box (tb (gE 3 7 6 5 4))::RR++[.arr 1 []]) aFn) ?_
 rintro h' d ⟨rfl,rest',hs',rfl,rfl,rfl⟩
 exact ⟨rfl,rfl⟩
theorem aAn : xO Tryz.prog 319 "Replace" = some 383 := by kernel_rfl
theorem aGL (s:List UInt8)(hs:s.length<1000000000):ACalls ED 189 [.box [.int .u32 0,.int .i32 0,.int .u32 0,.nili,.osl 1 1 0 10 none],.arr 1 ON] [.ptr 0 0,.str s] (fun h' d=>h' = .box [.int .u32 1,.int .i32 0,.int .u32 0,.ifc 319 [.ptr 2 0],.osl 1 8 0 0 none]::.arr 1 ON::.box (tb (gE 3 7 6 5 4))::RR++[.arr 1 []]∧d=.str (aO s)):=by
 refine aA c189 (by simp [f189]) ?_
 simp only [f189,↓gos,gop,qA,qB,qC,qD,qE,qF,qG,qH,qI]
 refine sL [0,1] [1] (H' := .box [.int .u32 1,.int .i32 0,.int .u32 0,.ifc 319 [.ptr 2 0],.osl 1 8 0 0 none]::.arr 1 ON::.box (tb (gE 3 7 6 5 4))::RR++[.arr 1 []]) (DR:=.tup []) (by decide) (by decide) rfl rfl rfl rfl aCQ rfl ?_ rfl ?_
 ·simp only [RR,List.cons_append,List.nil_append,List.map_cons,List.map_nil,aS,gH,bP,List.foldl_cons,List.foldl_nil,List.drop_succ_cons,List.drop_zero,List.length_cons,List.length_nil]
  rfl
 simp only [RR,List.foldl_cons,List.foldl_nil,forall_eq,IntKind.wrap,IntKind.bits,IntKind.signed,rA,rB,rC,rD,rE,rF,rG,rH,rI,Int.reduceNeg,reduceIte,reduceCtorEq,ge_iff_le,Nat.reduceEqDiff,↓gos,gop,qA,qB,qC,qD,qE,qF,qG,qH,qI]
 refine fI 383 aAn ?_
 refine sL [2,3,4,5,6,7] [3,4,5,6,7] (H' := .box [.int .u32 1,.int .i32 0,.int .u32 0,.ifc 319 [.ptr 2 0],.osl 1 8 0 0 none]::.arr 1 ON::.box (tb (gE 3 7 6 5 4))::RR++[.arr 1 []]) (DR:=.str (aO s)) (by decide) (by decide) rfl ?_ rfl ?_ (aCT s hs) rfl ?_ rfl ?_
 ·simp only [HR,RR,List.map_cons,List.map_nil,List.getD_cons_zero,List.getD_cons_succ,iU]
  rw [QK (fun l=>List.idxOf? l [2,3,4,5,6,7]) _ 3 7 6 5 4 1 5 4 3 2 rfl rfl rfl rfl rfl]
 ·rw [Bool.and_eq_true]
  refine ⟨rfl,?_⟩
  rw [List.all_eq_true]
  intro l hl
  simp only [List.mem_cons,List.not_mem_nil,or_false] at hl
  rcases hl with rfl|rfl|rfl|rfl|rfl|rfl
  all_goals first | rfl | exact lM _ _ _ _ _ _ rfl rfl rfl rfl rfl rfl rfl
 ·simp only [HR,RR,List.cons_append,List.nil_append,List.map_cons,List.map_nil,aS,gH,bP,List.foldl_cons,List.foldl_nil,List.drop_succ_cons,List.drop_zero,List.length_cons,List.length_nil,↓gos,gop,qA,qB,qC,qD,qE,qF,qG,qH,qI]
  rfl
 simp only [RR,List.foldl_cons,List.foldl_nil,forall_eq,IntKind.wrap,IntKind.bits,IntKind.signed,rA,rB,rC,rD,rE,rF,rG,rH,rI,Int.reduceNeg,reduceIte,reduceCtorEq,ge_iff_le,Nat.reduceEqDiff,↓gos,gop,qA,qB,qC,qD,qE,qF,qG,qH,qI]
 refine iZ [0,1,2,3,4,5,6,7,8] (by decide) (by decide) (fun i hi=>by match i,hi with | 0,_=>rfl | 1,_=>rfl) (fun l hl=>?_) rfl ?_ ?_ rfl ⟨rfl,rfl⟩
 ·simp only [List.mem_cons,List.not_mem_nil,or_false] at hl
  simp only [List.length_cons,List.length_nil]
  omega
 ·intro l hl
  simp only [List.mem_cons,List.not_mem_nil,or_false] at hl
  rcases hl with rfl|rfl|rfl|rfl|rfl|rfl|rfl|rfl|rfl
  all_goals first | rfl | exact lM _ _ _ _ _ _ rfl rfl rfl rfl rfl rfl rfl
 ·simp only [RR,List.cons_append,List.nil_append,List.map_cons,List.map_nil,List.getD_cons_zero,List.getD_cons_succ,aS,gH]
  rfl
theorem aIR:ACalls ED 188 [] [.sl 1 ON] (fun h' d=>h' = [.box [.int .u32 0,.int .i32 0,.int .u32 0,.nili,.osl 1 1 0 10 none],.arr 1 ON]∧d=.ptr 0 0):=by
 refine aA c188 (by simp [f188]) ?_
 simp only [f188,forall_eq,IntKind.wrap,IntKind.bits,IntKind.signed,rA,rB,rC,rD,rE,rF,rG,rH,rI,Int.reduceNeg,reduceIte,reduceCtorEq,ge_iff_le,Nat.reduceEqDiff,↓gos,gop,qA,qB,qC,qD,qE,qF,qG,qH,qI]
 refine ⟨by decide,fun _=>⟨by decide,by decide,?_⟩⟩
 exact iZ [1,0] (by decide) (by decide) (fun i hi=>by omega) (by decide) rfl (by decide) rfl rfl ⟨rfl,rfl⟩
theorem YO (s:List UInt8)(hs:s.length<1000000000):aU 148 [.str s] (.str (aO s)):=by
 refine aA c148 (by simp [f148]) ?_
 simp only [f148,forall_eq,IntKind.wrap,IntKind.bits,IntKind.signed,rA,rB,rC,rD,rE,rF,rG,rH,rI,Int.reduceNeg,reduceIte,reduceCtorEq,ge_iff_le,Nat.reduceEqDiff,↓gos,gop,qA,qB,qC,qD,qE,qF,qG,qH,qI]
 refine aX (ds' := [.sl 1 ON]) aIR rfl rfl ?_
 simp only [List.map_cons,List.map_nil,aS,forall_eq,IntKind.wrap,IntKind.bits,IntKind.signed,rA,rB,rC,rD,rE,rF,rG,rH,rI,Int.reduceNeg,reduceIte,reduceCtorEq,ge_iff_le,Nat.reduceEqDiff,↓gos,gop,qA,qB,qC,qD,qE,qF,qG,qH,qI]
 refine sL [1,2] [2] (H' := .arr 1 ON::.box [.int .u32 1,.int .i32 0,.int .u32 0,.ifc 319 [.ptr 3 0],.osl 1 9 0 0 none]::.arr 1 ON::.box (tb (gE 4 8 7 6 5))::RR++[.arr 1 []]) (DR:=.str (aO s)) (by decide) (by simp) rfl rfl rfl rfl (aGL s hs) rfl ?_ rfl ?_
 ·simp only [HR,RR,List.cons_append,List.nil_append,List.map_cons,List.map_nil,aS,gH,bP,List.foldl_cons,List.foldl_nil,List.drop_succ_cons,List.drop_zero,List.length_cons,List.length_nil,↓gos,gop,qA,qB,qC,qD,qE,qF,qG,qH,qI]
  rfl
 simp only [RR,List.foldl_cons,List.foldl_nil,forall_eq,IntKind.wrap,IntKind.bits,IntKind.signed,rA,rB,rC,rD,rE,rF,rG,rH,rI,Int.reduceNeg,reduceIte,reduceCtorEq,ge_iff_le,Nat.reduceEqDiff,↓gos,gop,qA,qB,qC,qD,qE,qF,qG,qH,qI]
 exact gS rfl
theorem oT (c:CT)(h:List AObj)(K:List DV→List AObj→Prop):ocP (ctv c) h K=K (ctv c) h:=by simp only [ctv,↓gos,gop,qA,qB,qC,qD,qE,qF,qG,qH,qI]
theorem sY (c:CT):(ctv c).all DV.one=true:=rfl
theorem jB {g k:Nat}(hg:At g k)(c:CT)(s:List UInt8)(hs:(ctv c)[k]?=some (.str s)):aU 144 [.agg (ctv c),.eptr [.fn g []] 0] (.str s):=by
 have hcl:=iH c
 refine aA c144 (by simp [f144]) ?_
 simp only [f144,oT,sY,↓gos,gop,qA,qB,qC,qD,qE,qF,qG,qH,qI]
 refine nP (h1:=[.box (ctv c)]) [0] [] (by simp) (by simp) rfl (by
  simp only [List.map_cons,List.map_nil,List.getD_cons_zero,iU]
  rw [bM fun d hd=>cK (List.all_eq_true.1 hcl d hd)]) rfl (by
  simp only [List.all_cons,List.all_nil,Bool.and_true,Bool.and_eq_true]
  refine ⟨rfl,?_⟩
  exact List.all_eq_true.2 fun d hd=>bA (List.all_eq_true.1 hcl d hd)) (hg _ hcl) rfl ?_
 simp only [List.foldl,bP,aS,DV.ren,upL,bM fun d hd=>aZ (List.all_eq_true.1 hcl d hd),↓gos,gop,qA,qB,qC,qD,qE,qF,qG,qH,qI]
 refine ⟨_,by simpa using hs,?_⟩
 simp only [↓gos,gop,qA,qB,qC,qD,qE,qF,qG,qH,qI]
 exact gS rfl
theorem aGe (c:CT):aU 95 [.agg (ctv c)] (.str c.jid):=by
 refine aA c95 (by simp [f95]) ?_
 simp only [f95,ctv,↓gos,gop,qA,qB,qC,qD,qE,qF,qG,qH,qI]
 exact gS rfl
theorem aAZ (c:CT)(hl:c.groups.length<1000000000)(hg:∀ s∈c.groups,s.length<100000000)(hj:(dS 59 (c.groups.map aO)).length<1000000000):aU 101 [.agg (ctv c)] (.str (dS 59 (c.groups.map aO))):=by
 refine aA c101 (by simp [f101]) ?_
 simp only [f101,oT,sY,↓gos,gop,qA,qB,qC,qD,qE,qF,qG,qH,qI]
 refine fI (.sl 1 (c.groups.map sv)) rfl ?_
 simp only [List.length_map,↓gos,gop,qA,qB,qC,qD,qE,qF,qG,qH,qI]
 refine aJ (γ:=Nat) (fun i=>[(9,.int .i64 i),(8,.int .i64 c.groups.length),(7,.sl 1 (c.groups.map sv)),(3,.osl 1 1 0 i none)]) (fun i=>[.box (ctv c),.arr 1 (((c.groups.take i).map aO).map sv)]) (fun i=>i≤c.groups.length) (fun i=>c.groups.length - i) 0
  (wks rfl (by simp) ⟨rfl,rfl,rfl,rfl,trivial⟩) (by omega) fun i hi=>?_
 simp only [f101l0,↓gos,gop,qA,qB,qC,qD,qE,qF,qG,qH,qI]
 refine ⟨fun h=>?_,fun h=>?_⟩
 ·have h2:i<c.groups.length:=by omega
  refine aL [] (by simpa using h2) ?_
  have htk:=dW h2 []
  have hm:c.groups.getD i []∈c.groups:=by rw [List.getD_eq_getElem?_getD,List.getElem?_eq_getElem h2]; exact List.getElem_mem h2
  generalize c.groups.getD i []=s at *
  have:=hg s hm
  simp only [sv,↓gos,gop,qA,qB,qC,qD,qE,qF,qG,qH,qI]
  refine aB (YO s (by omega)) rfl rfl ?_
  simp only [↓gos,gop,qA,qB,qC,qD,qE,qF,qG,qH,qI]
  have hti:(c.groups.take i).length=i:=by simp; omega
  refine aK (by omega) (aK (by omega) (aK (by omega) ?_))
  intro v hv
  rw [wrap_i64 (by omega) (by omega)] at hv
  subst hv
  refine cI 2 (i+1) ?_ (Nat.zero_le _) ⟨rfl,rfl,rfl,rfl,rfl,rfl,rfl,rfl,trivial⟩ rfl (by omega) (by omega)
  have e:List.take i (List.map sv (List.map aO (List.take i c.groups)))=List.map sv (List.map aO (List.take i c.groups)):=List.take_of_length_le (by rw [List.length_map,List.length_map,hti]; exact Nat.le_refl _)
  have e2:uO 1 (ctv c)=ctv c:=rfl
  rw [e,htk,e2]
  simp [sv]
 ·have h2:i=c.groups.length:=by omega
  subst h2
  rw [List.take_length]
  refine gM [1] rfl ?_
  have e:List.take c.groups.length (List.map sv (List.map aO c.groups))=List.map sv (List.map aO c.groups):=List.take_of_length_le (by simp)
  simp only [e,↓gos,gop,qA,qB,qC,qD,qE,qF,qG,qH,qI]
  refine aB (aAD _ (by simpa using hl) hj) rfl rfl ?_
  simp only [↓gos,gop,qA,qB,qC,qD,qE,qF,qG,qH,qI]
  exact gS rfl
structure okTell (c:CT):Prop where
 s:okS c
 j:(dS 59 (c.groups.map aO)).length<1000000000
def hB (c:CT):Nat→List UInt8
 | 0=>c.name | 1=>c.family | 2=>c.given | 3=>c.nick | 4=>c.jid | 5=>c.email | 6=>c.tel | 7=>c.note | 8=>c.uid | _=>dS 59 (c.groups.map aO)
theorem aBI (c:CT)(hc:okTell c):∀ k,k<10→aU (uf k) (.agg (ctv c)::tc k) (.str (hB c k)):=
 ten (jB aHA c _ rfl) (jB aJp c _ rfl) (jB aKj c _ rfl) (jB aII c _ rfl) (aGe c) (jB aIJ c _ rfl) (jB aIL c _ rfl) (jB aHE c _ rfl) (jB aJh c _ rfl) (aAZ c hc.s.gl hc.s.gs hc.j)
theorem aAf {cs:List DV}{s:List UInt8}{tl:List AObj}(hcl:cs.all DV.closed=true):eK 1 (fun h d=>h=[AObj.box cs]∧d=DV.str s) (some [DV.str s]) (.box cs::tl):=
 iZ [0] (by simp) (Nat.le_refl _) id0 (by simp) (by simp [rvd,DV.inL]) (by
  intro l hl
  simp at hl; subst hl
  exact List.all_eq_true.2 fun d hd=>bA (List.all_eq_true.1 hcl d hd)) rfl rfl ⟨by
  simp only [List.map_cons,List.map_nil,List.getD_cons_zero,aS]
  rw [bM fun d hd=>aZ (List.all_eq_true.1 hcl d hd)],by simp [rvd,DV.ren]⟩
theorem aFi (c:CT)(hc:okTell c)(k:Nat)(hk:k<10):ACalls ED 50 [.box (ctv c)] [.agg (tU k),.ptr 0 0] (fun h d=>h=[.box (ctv c)]∧d=.str (hB c k)):=by
 have ht:=aBI c hc k hk
 have h1:=mJ k hk
 refine aA c50 (by simp [f50]) ?_
 simp only [f50,tU,↓gos,gop,qA,qB,qC,qD,qE,qF,qG,qH,qI]
 have e:List.take 11 (ctv c)=ctv c:=rfl
 rw [e]
 refine aK (Nat.le_refl 11) ?_
 refine aV ht (by rw [List.all_cons,h1]; rfl) rfl ?_
 simp only [↓gos,gop,qA,qB,qC,qD,qE,qF,qG,qH,qI]
 exact aAf rfl
theorem aEg (n:List UInt8)(f g:Nat)(cs es:List DV)(hc:cs.all DV.closed=true)(he:es.all DV.closed=true):aU 49 [.agg [.str n,.fn f cs,.fn g es]] (.str n):=by
 refine aA c49 (by simp [f49]) ?_
 simp only [f49,↓gos,gop,qA,qB,qC,qD,qE,qF,qG,qH,qI]
 exact gS rfl
theorem aIm (c:CT)(hc:okS c):aU 45 [.agg (ctv c)] (.bool (!dC c||decide (0<c.other.length))):=by
 have ht:=KL c hc
 refine aA c45 (by simp [f45]) ?_
 simp only [f45,oT,sY,↓gos,gop,qA,qB,qC,qD,qE,qF,qG,qH,qI]
 have e:List.take 11 (ctv c)=ctv c:=rfl
 rw [e]
 refine aK (Nat.le_refl 11) ?_
 refine aB ht rfl rfl ?_
 have e2:(ctv c)[10]?=some (.sl 4 (c.other.map pv)):=rfl
 cases dC c
 ·simp only [↓gos,gop,qA,qB,qC,qD,qE,qF,qG,qH,qI]
  exact aG rfl
 ·simp only [e2,List.length_map,↓gos,gop,qA,qB,qC,qD,qE,qF,qG,qH,qI]
  refine ⟨fun h=>?_,fun h=>?_⟩
  ·have h:0<c.other.length:=by omega
   rw [decide_eq_true h]; exact aG rfl
  ·have h:¬ 0<c.other.length:=by omega
   rw [decide_eq_false h]; exact aG rfl
def sI (c:CT):Bool := !dC c||decide (0<c.other.length)
theorem aBj (l:List CT)(hl:l.length<1000000000)(hw:∀ c∈l,okS c):ACalls ED 88 [] [.sl 11 (l.map ctv),.fn 45 []] (fun h d=>h=[]∧∃ n:Int,d=.int .i64 n∧(decide (0≤n))=l.any sI):=by
 refine aA c88 (by simp [f88]) ?_
 simp only [f88,↓gos,gop,qA,qB,qC,qD,qE,qF,qG,qH,qI]
 refine aJ (γ:=Nat) (fun i=>[(8,.int .i64 i),(7,.int .i64 l.length),(1,.fn 45 []),(0,.sl 11 (l.map ctv))]) (fun _=>[]) (fun i=>i≤l.length∧(l.take i).any sI=false) (fun i=>l.length - i) 0
  (wks rfl (by simp) ⟨rfl,rfl,rfl,rfl,trivial⟩) ⟨by omega,rfl⟩ fun i ⟨hi,ht⟩=>?_
 simp only [f88l0,↓gos,gop,qA,qB,qC,qD,qE,qF,qG,qH,qI]
 refine ⟨fun h=>?_,fun h=>?_⟩
 ·have h2:i<l.length:=by omega
  have h3:i<(l.map ctv).length:=by simpa using h2
  have hm:l[i]∈l:=List.getElem_mem h2
  have htk:l.take (i+1)=l.take i++[l[i]]:=by rw [List.take_add_one,List.getElem?_eq_getElem h2]; rfl
  refine fI l[i] (by simp [h2]) ?_
  generalize l[i]=c at *
  have e:List.take 11 (ctv c)=ctv c:=rfl
  simp only [e,↓gos,gop,qA,qB,qC,qD,qE,qF,qG,qH,qI]
  refine aK (Nat.le_refl 11) ?_
  have hin:l.any sI=true∨sI c=false:=by
   cases hr:sI c with
   | false=>exact .inr rfl
   | true=>exact .inl (List.any_eq_true.2 ⟨c,hm,hr⟩)
  refine aB (show aU 45 [.agg (ctv c)] (.bool (sI c)) from aIm c (hw c hm)) rfl rfl ?_
  cases hk:sI c
  ·simp only [↓gos,gop,qA,qB,qC,qD,qE,qF,qG,qH,qI]
   intro v hv
   rw [wrap_i64 (by omega) (by omega)] at hv
   have e3:v=((i+1:Nat):Int):=by rw [hv]; rfl
   subst e3
   refine aN (i+1) rfl (by simp) ⟨rfl,rfl,rfl,rfl,trivial⟩ ⟨by omega,?_⟩ (by omega)
   rw [htk,List.any_append,ht]; simp [hk]
  ·simp only [↓gos,gop,qA,qB,qC,qD,qE,qF,qG,qH,qI]
   rw [hk] at hin
   refine aD rfl ⟨rfl,_,rfl,?_⟩
   rw [hin.resolve_right (by simp)]; simp
 ·have h2:i=l.length:=by omega
  subst h2
  rw [List.take_length] at ht
  refine aD rfl ⟨rfl,_,rfl,?_⟩
  rw [ht]; rfl
theorem FD (l:List CT)(hl:l.length<1000000000)(hw:∀ c∈l,okS c):aU 46 [.sl 11 (l.map ctv),.fn 45 []] (.bool (l.any sI)):=by
 refine aA c46 (by simp [f46]) ?_
 simp only [f46,↓gos,gop,qA,qB,qC,qD,qE,qF,qG,qH,qI]
 refine kZ (aBj l hl hw) rfl ⟨_,if l.any sI=true then 0 else -1,rfl,by split <;> simp_all⟩ ?_
 rintro d ⟨n,rfl,hn⟩
 refine ⟨rfl,?_⟩
 rw [← hn]
 simp only [↓gos,gop,qA,qB,qC,qD,qE,qF,qG,qH,qI]
 refine ⟨fun h=>aG ?_,fun h=>aG ?_⟩
 ·rw [decide_eq_true h]
 ·rw [decide_eq_false h]
def fS (c:CT):List (List UInt8):=(List.range 10).map (hB c)
theorem aBs {cs:List DV}{D:DV}{tl:List AObj}(hcl:cs.all DV.closed=true)(hD:D.closed=true):eK 1 (fun h d=>h=[AObj.box cs]∧d=D) (some [D]) (.box cs::tl):=
 iZ [0] (by simp) (Nat.le_refl _) id0 (by simp) (bA hD) (by
  intro l hl
  simp at hl; subst hl
  exact List.all_eq_true.2 fun d hd=>bA (List.all_eq_true.1 hcl d hd)) rfl rfl ⟨by
  simp only [List.map_cons,List.map_nil,List.getD_cons_zero,aS]
  rw [bM fun d hd=>aZ (List.all_eq_true.1 hcl d hd)],aZ hD⟩
theorem mZ:∀ i,i<10→(DV.agg (tU i)).closed=true:=ten rfl rfl rfl rfl rfl rfl rfl rfl rfl rfl
theorem aFT (c:CT)(hc:okTell c):ACalls ED 47 [.box (ctv c)] [.sl 3 wL,.fn 50 [.ptr 0 0]] (fun h d=>h=[.box (ctv c)]∧d=.sl 1 ((fS c).map sv)):=by
 have hcl:=iH c
 refine bB c47 (by simp [f47]) ?_
 simp only [f47,aE,aC,↓gos,gop,qA,qB,qC,qD,qE,qF,qG,qH,qI]
 refine aJ (γ:=Nat) (fun i=>[(10,.int .i64 i),(9,.int .i64 10),(8,.sl 3 wL),(1,.fn 50 [.ptr 0 0]),(5,.osl 1 2 0 i none)]) (fun i=>[.box (ctv c),.arr 1 [],.arr 1 (((List.range i).map (hB c)).map sv)]) (fun i=>i≤10) (fun i=>10 - i) 0
  (wks rfl (by simp) ⟨rfl,rfl,rfl,rfl,rfl,trivial⟩) (by omega) fun i hi=>?_
 simp only [f47l0,aE,aC,↓gos,gop,qA,qB,qC,qD,qE,qF,qG,qH,qI]
 refine ⟨fun h=>?_,fun h=>?_⟩
 ·have h2:i<10:=by omega
  have h1:=mJ i h2
  refine fI (tU i) (yT i h2) ?_
  simp only [tU,aE,aC,↓gos,gop,qA,qB,qC,qD,qE,qF,qG,qH,qI]
  refine nP (h1:=[.box (ctv c)]) (ds1:=[.agg (tU i),.ptr 0 0]) [0] [] (by simp) (by simp) rfl (by
   simp only [List.map_cons,List.map_nil,List.getD_cons_zero,iU]
   rw [bM fun d hd=>cK (List.all_eq_true.1 hcl d hd)]) (by
   rw [List.map_cons]
   rw [show DV.dn [0] _ (.agg [.str (COLS.getD i []),.fn (tf i) (tc i),.fn (uf i) (tc i)])=.agg (tU i) from cK (mZ i h2)]
   rfl) (by
   simp only [List.all_cons,List.all_nil,Bool.and_true,Bool.and_eq_true]
   refine ⟨⟨bA (mZ i h2),rfl⟩,?_⟩
   exact List.all_eq_true.2 fun d hd=>bA (List.all_eq_true.1 hcl d hd)) (aFi c hc i h2) rfl ?_
  simp only [List.foldl,bP,aS,DV.ren,upL,bM fun d hd=>aZ (List.all_eq_true.1 hcl d hd),aE,aC,↓gos,gop,qA,qB,qC,qD,qE,qF,qG,qH,qI]
  refine aK (by simp) (aK (by omega) (aK (by omega) ?_))
  intro v hv
  rw [wrap_i64 (by omega) (by omega)] at hv
  have e3:v=((i+1:Nat):Int):=by rw [hv]; rfl
  subst e3
  refine cI 3 (i+1) ?_ (by simp) ⟨rfl,rfl,rfl,rfl,rfl,rfl,rfl,rfl,rfl,rfl,trivial⟩ ?_ (by omega) (by omega)
  ·have e:List.take i (List.map sv (List.map (hB c) (List.range i)))=List.map sv (List.map (hB c) (List.range i)):=List.take_of_length_le (by simp)
   have e2:uO 2 (ctv c)=ctv c:=rfl
   simp only [List.take_succ_cons,List.take_zero,e,e2,List.range_succ,List.map_append,List.map_cons,List.map_nil]
   rfl
  ·rfl
 ·have h2:i=10:=by omega
  subst h2
  refine ⟨_,rfl,[2],by simp,?_⟩
  exact QM (aBs (D:=.sl 1 ((fS c).map sv)) hcl rfl)
def kf (k:Nat):Nat:=match k with | 1=>108 | 3=>111 | 6=>115 | _=>152
def kg (k:Nat):Nat:=match k with | 1=>109 | 3=>112 | 6=>116 | _=>153
end Go.Proofs.Ut
