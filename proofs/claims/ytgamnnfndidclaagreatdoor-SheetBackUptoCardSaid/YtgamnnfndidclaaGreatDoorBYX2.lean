/- strings.NewReplacer(..).Replace as fold.Value calls it. -/
import Derived.Test.YtgamnnfndidclaaGreatDoorBYS
import Derived.Test.YtgamnnfndidclaaGreatDoorBYFoUtD
import Derived.Test.YtgamnnfndidclaaGreatDoorBYOnce2
open Nat renaming reduceBEq → qA,reduceAdd → qB,reduceSub → qC,reduceLeDiff → qD,reduceMul → qE
open Int renaming reduceLE → qF,reduceLT → qG,reduceNe → qH,reduceToNat → qI
open Int renaming reduceEq → rA,reduceAdd → rB,reduceSub → rC,reduceMul → rD,reduceMod → rE,reduceDiv → rF,reduceTDiv → rG,reducePow → rH
open Nat renaming reducePow → rI
set_option linter.all false
namespace Go.Proofs.Ut
open Go.Ai
set_option maxRecDepth 100000
theorem bB {E:Env}{L L' : List (Nat×DV)}{h H' : List AObj}{f:Nat}{ds ds1:List DV}{h1 h1' : List AObj}{D DR:DV}{K:DV→St→Prop}(ls ks:List Nat)(hnd:ls.Nodup)(hlt:∀ l∈ls,l<h.length)
  (hks:ls.filter (fun l => !isBox h[l]?)=ks)
  (hlow:(ls.map fun l=>lowO (fun l=>ls.idxOf? l) h (h.getD l .dead))=h1) (hds:ds.map (DV.dn ls h)=ds1)
  (hin:(ds.all (DV.inL ls.contains)&&ls.all (fun l=>inO ls.contains (h.getD l .dead)))=true)
  (hc:ACalls E f h1 ds1 (fun h' d=>h' = h1' ∧ d=D)) (hD:D.ren (upL h.length ls)=DR)
  (hH:setAll (ks.foldl (fun h i=>kilH i h) h) ls (h1'.map (renO (upL h.length ls)))++(h1'.drop ls.length).map (renO (upL h.length ls))=H') (hL:ks.foldl (fun L i=>kilS i L) L=L')
  (hk:K DR (sta L' H')):acall E true f ds K (sta L h):=by
 subst hH; subst hL
 exact call_h ls ks hnd hlt hks hlow hds hin hc hD hk
theorem dH (ρ:Nat→Option Nat)(h:List AObj)(tr p92 p44 p59 p10 tr' p92' p44' p59' p10' : Nat)(h1:ρ tr=some tr')(h2:ρ p92=some p92')(h3:ρ p44=some p44')(h4:ρ p59=some p59')(h5:ρ p10=some p10') :
  (tb (tabG tr p92 p44 p59 p10)).map (DV.low ρ h)=tb (tabG tr' p92' p44' p59' p10'):=by
 rw [tb_map]
 congr 1
 funext i
 unfold tabG
 repeat' split
 all_goals simp [DV.low,h1,h2,h3,h4,h5]
theorem fD:ACalls ED 228 [.box [.int .u32 0,.int .i32 1,.int .u32 0,.nili,.osl 1 1 0 10 none],.arr 1 ON] [.ptr 0 0]
  (fun h' d=>d=.tup []∧∃ rest' hs',h' = .box (.int .u32 0::.int .i32 1::rest')::hs' ∧ (rest' = [.int .u32 0,.ifc 319 [.ptr 2 0],.osl 1 8 0 0 none]∧hs' = .arr 1 ON::.box (tb (tabG 3 7 6 5 4))::RR++[.arr 1 []])):=by
 refine acalls_go c228 (by simp [f228]) ?_
 simp only [f228,↓gos,gop,qA,qB,qC,qD,qE,qF,qG,qH,qI]
 refine bB [0,1] [1] (H' := .box [.int .u32 0,.int .i32 1,.int .u32 0,.nili,.osl 1 1 0 10 none]::.arr 1 ON::.box (tb (tabG 3 7 6 5 4))::RR) (DR:=.ifc 319 [.ptr 2 0]) (by decide) (by decide) rfl rfl rfl rfl build94 rfl ?_ rfl ?_
 ·simp only [RR,List.map_cons,List.map_nil,renO,tabG_ren,setAll,List.foldl_cons,List.foldl_nil,List.drop_succ_cons,List.drop_zero,List.length_cons,List.length_nil]
  rfl
 simp only [RR,List.foldl_cons,List.foldl_nil,forall_eq,IntKind.wrap,IntKind.bits,IntKind.signed,rA,rB,rC,rD,rE,rF,rG,rH,rI,Int.reduceNeg,reduceIte,reduceCtorEq,ge_iff_le,Nat.reduceEqDiff,↓gos,gop,qA,qB,qC,qD,qE,qF,qG,qH,qI]
 refine end_h [0,1,2,3,4,5,6,7,8] (by decide) (by decide) (fun i hi=>by match i,hi with | 0,_=>rfl | 1,_=>rfl) (fun l hl=>?_) rfl ?_ ?_ rfl ⟨rfl,_,_,rfl,rfl,rfl⟩
 ·simp only [List.mem_cons,List.not_mem_nil,or_false] at hl
  simp only [List.length_cons,List.length_nil]
  omega
 ·intro l hl
  simp only [List.mem_cons,List.not_mem_nil,or_false] at hl
  rcases hl with rfl|rfl|rfl|rfl|rfl|rfl|rfl|rfl|rfl
  all_goals first | rfl | exact tabG_all _ _ _ _ _ _ rfl rfl rfl rfl rfl rfl rfl
 ·simp only [RR,List.cons_append,List.nil_append,List.map_cons,List.map_nil,List.getD_cons_zero,List.getD_cons_succ,renO,tabG_ren]
  rfl
theorem ACalls.weak {E:Env}{f:Nat}{h:List AObj}{args:List DV}{post post' : List AObj→DV→Prop}(hc:ACalls E f h args post)(hi:∀ h' d,post h' d→post' h' d):ACalls E f h args post' :=
 ⟨hc.1,fun w ok β vs a b c d e=>(hc.2 w ok β vs a b c d e).mono fun _ _ ⟨v,ok',β',h',d,q1,q2,q⟩=>⟨v,ok',β',h',d,q1,hi _ _ q2,q⟩⟩
theorem dS:ACalls ED 227 [.box [.int .u32 0,.int .i32 0,.int .u32 0,.nili,.osl 1 1 0 10 none],.arr 1 ON] [.ptr 0 0,.bnd 228 [.ptr 0 0]]
  (fun h' d=>h' = .box [.int .u32 1,.int .i32 0,.int .u32 0,.ifc 319 [.ptr 2 0],.osl 1 8 0 0 none]::.arr 1 ON::.box (tb (tabG 3 7 6 5 4))::RR++[.arr 1 []]∧d=.tup []):=by
 refine ACalls.weak (once67 (post:=fun rest' hs' => rest' = [.int .u32 0,.ifc 319 [.ptr 2 0],.osl 1 8 0 0 none]∧hs' = .arr 1 ON::.box (tb (tabG 3 7 6 5 4))::RR++[.arr 1 []]) fD) ?_
 rintro h' d ⟨rfl,rest',hs',rfl,rfl,rfl⟩
 exact ⟨rfl,rfl⟩
theorem eJ : methF Tryz.prog 319 "Replace" = some 383 := by kernel_rfl
theorem fI (s:List UInt8)(hs:s.length<1000000000):ACalls ED 189 [.box [.int .u32 0,.int .i32 0,.int .u32 0,.nili,.osl 1 1 0 10 none],.arr 1 ON] [.ptr 0 0,.str s] (fun h' d=>h' = .box [.int .u32 1,.int .i32 0,.int .u32 0,.ifc 319 [.ptr 2 0],.osl 1 8 0 0 none]::.arr 1 ON::.box (tb (tabG 3 7 6 5 4))::RR++[.arr 1 []]∧d=.str (valF s)):=by
 refine acalls_go c189 (by simp [f189]) ?_
 simp only [f189,↓gos,gop,qA,qB,qC,qD,qE,qF,qG,qH,qI]
 refine bB [0,1] [1] (H' := .box [.int .u32 1,.int .i32 0,.int .u32 0,.ifc 319 [.ptr 2 0],.osl 1 8 0 0 none]::.arr 1 ON::.box (tb (tabG 3 7 6 5 4))::RR++[.arr 1 []]) (DR:=.tup []) (by decide) (by decide) rfl rfl rfl rfl dS rfl ?_ rfl ?_
 ·simp only [RR,List.cons_append,List.nil_append,List.map_cons,List.map_nil,renO,tabG_ren,setAll,List.foldl_cons,List.foldl_nil,List.drop_succ_cons,List.drop_zero,List.length_cons,List.length_nil]
  rfl
 simp only [RR,List.foldl_cons,List.foldl_nil,forall_eq,IntKind.wrap,IntKind.bits,IntKind.signed,rA,rB,rC,rD,rE,rF,rG,rH,rI,Int.reduceNeg,reduceIte,reduceCtorEq,ge_iff_le,Nat.reduceEqDiff,↓gos,gop,qA,qB,qC,qD,qE,qF,qG,qH,qI]
 refine optP_in 383 eJ ?_
 refine bB [2,3,4,5,6,7] [3,4,5,6,7] (H' := .box [.int .u32 1,.int .i32 0,.int .u32 0,.ifc 319 [.ptr 2 0],.osl 1 8 0 0 none]::.arr 1 ON::.box (tb (tabG 3 7 6 5 4))::RR++[.arr 1 []]) (DR:=.str (valF s)) (by decide) (by decide) rfl ?_ rfl ?_ (repl189 s hs) rfl ?_ rfl ?_
 ·simp only [HR,RR,List.map_cons,List.map_nil,List.getD_cons_zero,List.getD_cons_succ,lowO]
  rw [dH (fun l=>List.idxOf? l [2,3,4,5,6,7]) _ 3 7 6 5 4 1 5 4 3 2 rfl rfl rfl rfl rfl]
 ·rw [Bool.and_eq_true]
  refine ⟨rfl,?_⟩
  rw [List.all_eq_true]
  intro l hl
  simp only [List.mem_cons,List.not_mem_nil,or_false] at hl
  rcases hl with rfl|rfl|rfl|rfl|rfl|rfl
  all_goals first | rfl | exact tabG_all _ _ _ _ _ _ rfl rfl rfl rfl rfl rfl rfl
 ·simp only [HR,RR,List.cons_append,List.nil_append,List.map_cons,List.map_nil,renO,tabG_ren,setAll,List.foldl_cons,List.foldl_nil,List.drop_succ_cons,List.drop_zero,List.length_cons,List.length_nil,↓gos,gop,qA,qB,qC,qD,qE,qF,qG,qH,qI]
  rfl
 simp only [RR,List.foldl_cons,List.foldl_nil,forall_eq,IntKind.wrap,IntKind.bits,IntKind.signed,rA,rB,rC,rD,rE,rF,rG,rH,rI,Int.reduceNeg,reduceIte,reduceCtorEq,ge_iff_le,Nat.reduceEqDiff,↓gos,gop,qA,qB,qC,qD,qE,qF,qG,qH,qI]
 refine end_h [0,1,2,3,4,5,6,7,8] (by decide) (by decide) (fun i hi=>by match i,hi with | 0,_=>rfl | 1,_=>rfl) (fun l hl=>?_) rfl ?_ ?_ rfl ⟨rfl,rfl⟩
 ·simp only [List.mem_cons,List.not_mem_nil,or_false] at hl
  simp only [List.length_cons,List.length_nil]
  omega
 ·intro l hl
  simp only [List.mem_cons,List.not_mem_nil,or_false] at hl
  rcases hl with rfl|rfl|rfl|rfl|rfl|rfl|rfl|rfl|rfl
  all_goals first | rfl | exact tabG_all _ _ _ _ _ _ rfl rfl rfl rfl rfl rfl rfl
 ·simp only [RR,List.cons_append,List.nil_append,List.map_cons,List.map_nil,List.getD_cons_zero,List.getD_cons_succ,renO,tabG_ren]
  rfl
theorem fS:ACalls ED 188 [] [.sl 1 ON] (fun h' d=>h' = [.box [.int .u32 0,.int .i32 0,.int .u32 0,.nili,.osl 1 1 0 10 none],.arr 1 ON]∧d=.ptr 0 0):=by
 refine acalls_go c188 (by simp [f188]) ?_
 simp only [f188,forall_eq,IntKind.wrap,IntKind.bits,IntKind.signed,rA,rB,rC,rD,rE,rF,rG,rH,rI,Int.reduceNeg,reduceIte,reduceCtorEq,ge_iff_le,Nat.reduceEqDiff,↓gos,gop,qA,qB,qC,qD,qE,qF,qG,qH,qI]
 refine ⟨by decide,fun _=>⟨by decide,by decide,?_⟩⟩
 exact end_h [1,0] (by decide) (by decide) (fun i hi=>by omega) (by decide) rfl (by decide) rfl rfl ⟨rfl,rfl⟩
theorem eG (s:List UInt8)(hs:s.length<1000000000):DRet 148 [.str s] (.str (valF s)):=by
 refine acalls_go c148 (by simp [f148]) ?_
 simp only [f148,forall_eq,IntKind.wrap,IntKind.bits,IntKind.signed,rA,rB,rC,rD,rE,rF,rG,rH,rI,Int.reduceNeg,reduceIte,reduceCtorEq,ge_iff_le,Nat.reduceEqDiff,↓gos,gop,qA,qB,qC,qD,qE,qF,qG,qH,qI]
 refine call_lend (ds' := [.sl 1 ON]) fS rfl rfl ?_
 simp only [List.map_cons,List.map_nil,renO,forall_eq,IntKind.wrap,IntKind.bits,IntKind.signed,rA,rB,rC,rD,rE,rF,rG,rH,rI,Int.reduceNeg,reduceIte,reduceCtorEq,ge_iff_le,Nat.reduceEqDiff,↓gos,gop,qA,qB,qC,qD,qE,qF,qG,qH,qI]
 refine bB [1,2] [2] (H' := .arr 1 ON::.box [.int .u32 1,.int .i32 0,.int .u32 0,.ifc 319 [.ptr 3 0],.osl 1 9 0 0 none]::.arr 1 ON::.box (tb (tabG 4 8 7 6 5))::RR++[.arr 1 []]) (DR:=.str (valF s)) (by decide) (by simp) rfl rfl rfl rfl (fI s hs) rfl ?_ rfl ?_
 ·simp only [HR,RR,List.cons_append,List.nil_append,List.map_cons,List.map_nil,renO,tabG_ren,setAll,List.foldl_cons,List.foldl_nil,List.drop_succ_cons,List.drop_zero,List.length_cons,List.length_nil,↓gos,gop,qA,qB,qC,qD,qE,qF,qG,qH,qI]
  rfl
 simp only [RR,List.foldl_cons,List.foldl_nil,forall_eq,IntKind.wrap,IntKind.bits,IntKind.signed,rA,rB,rC,rD,rE,rF,rG,rH,rI,Int.reduceNeg,reduceIte,reduceCtorEq,ge_iff_le,Nat.reduceEqDiff,↓gos,gop,qA,qB,qC,qD,qE,qF,qG,qH,qI]
 exact ends rfl
theorem bC (c:CT)(h:List AObj)(K:List DV→List AObj→Prop):ocP (ctv c) h K=K (ctv c) h:=by simp only [ctv,↓gos,gop,qA,qB,qC,qD,qE,qF,qG,qH,qI]
theorem bW (c:CT):(ctv c).all DV.one=true:=rfl
theorem aH {g k:Nat}(hg:At g k)(c:CT)(s:List UInt8)(hs:(ctv c)[k]?=some (.str s)):DRet 144 [.agg (ctv c),.eptr [.fn g []] 0] (.str s):=by
 have hcl:=ctv_closed c
 refine acalls_go c144 (by simp [f144]) ?_
 simp only [f144,bC,bW,↓gos,gop,qA,qB,qC,qD,qE,qF,qG,qH,qI]
 refine call_h (h1:=[.box (ctv c)]) [0] [] (by simp) (by simp) rfl (by
  simp only [List.map_cons,List.map_nil,List.getD_cons_zero,lowO]
  rw [map_same fun d hd=>closed_low (List.all_eq_true.1 hcl d hd)]) rfl (by
  simp only [List.all_cons,List.all_nil,Bool.and_true,Bool.and_eq_true]
  refine ⟨rfl,?_⟩
  exact List.all_eq_true.2 fun d hd=>closed_inL (List.all_eq_true.1 hcl d hd)) (hg _ hcl) rfl ?_
 simp only [List.foldl,setAll,renO,DV.ren,upL,map_same fun d hd=>closed_ren (List.all_eq_true.1 hcl d hd),↓gos,gop,qA,qB,qC,qD,qE,qF,qG,qH,qI]
 refine ⟨_,by simpa using hs,?_⟩
 simp only [↓gos,gop,qA,qB,qC,qD,qE,qF,qG,qH,qI]
 exact ends rfl
theorem eX (c:CT):DRet 95 [.agg (ctv c)] (.str c.jid):=by
 refine acalls_go c95 (by simp [f95]) ?_
 simp only [f95,ctv,↓gos,gop,qA,qB,qC,qD,qE,qF,qG,qH,qI]
 exact ends rfl
theorem eB (c:CT)(hl:c.groups.length<1000000000)(hg:∀ s∈c.groups,s.length<100000000)(hj:(joinF 59 (c.groups.map valF)).length<1000000000):DRet 101 [.agg (ctv c)] (.str (joinF 59 (c.groups.map valF))):=by
 refine acalls_go c101 (by simp [f101]) ?_
 simp only [f101,bC,bW,↓gos,gop,qA,qB,qC,qD,qE,qF,qG,qH,qI]
 refine optP_in (.sl 1 (c.groups.map sv)) rfl ?_
 simp only [List.length_map,↓gos,gop,qA,qB,qC,qD,qE,qF,qG,qH,qI]
 refine goN_lp (γ:=Nat) (fun i=>[(9,.int .i64 i),(8,.int .i64 c.groups.length),(7,.sl 1 (c.groups.map sv)),(3,.osl 1 1 0 i none)]) (fun i=>[.box (ctv c),.arr 1 (((c.groups.take i).map valF).map sv)]) (fun i=>i≤c.groups.length) (fun i=>c.groups.length - i) 0
  (wks rfl (by simp) ⟨rfl,rfl,rfl,rfl,trivial⟩) (by omega) fun i hi=>?_
 simp only [f101l0,↓gos,gop,qA,qB,qC,qD,qE,qF,qG,qH,qI]
 refine ⟨fun h=>?_,fun h=>?_⟩
 ·have h2:i<c.groups.length:=by omega
  refine optP_at [] (by simpa using h2) ?_
  have htk:=take_getD' h2 []
  have hm:c.groups.getD i []∈c.groups:=by rw [List.getD_eq_getElem?_getD,List.getElem?_eq_getElem h2]; exact List.getElem_mem h2
  generalize c.groups.getD i []=s at *
  have:=hg s hm
  simp only [sv,↓gos,gop,qA,qB,qC,qD,qE,qF,qG,qH,qI]
  refine call_ret (eG s (by omega)) rfl rfl ?_
  simp only [↓gos,gop,qA,qB,qC,qD,qE,qF,qG,qH,qI]
  have hti:(c.groups.take i).length=i:=by simp; omega
  refine chk_i (by omega) (chk_i (by omega) (chk_i (by omega) ?_))
  intro v hv
  rw [wrap_i64 (by omega) (by omega)] at hv
  subst hv
  refine rnd_d 2 (i+1) ?_ (Nat.zero_le _) ⟨rfl,rfl,rfl,rfl,rfl,rfl,rfl,rfl,trivial⟩ rfl (by omega) (by omega)
  have e:List.take i (List.map sv (List.map valF (List.take i c.groups)))=List.map sv (List.map valF (List.take i c.groups)):=List.take_of_length_le (by rw [List.length_map,List.length_map,hti]; exact Nat.le_refl _)
  have e2:kilL 1 (ctv c)=ctv c:=rfl
  rw [e,htk,e2]
  simp [sv]
 ·have h2:i=c.groups.length:=by omega
  subst h2
  rw [List.take_length]
  refine call_frz [1] rfl ?_
  have e:List.take c.groups.length (List.map sv (List.map valF c.groups))=List.map sv (List.map valF c.groups):=List.take_of_length_le (by simp)
  simp only [e,↓gos,gop,qA,qB,qC,qD,qE,qF,qG,qH,qI]
  refine call_ret (join149 _ (by simpa using hl) hj) rfl rfl ?_
  simp only [↓gos,gop,qA,qB,qC,qD,qE,qF,qG,qH,qI]
  exact ends rfl
structure okTell (c:CT):Prop where
 s:okS c
 j:(joinF 59 (c.groups.map valF)).length<1000000000
def aQ (c:CT):Nat→List UInt8
 | 0=>c.name | 1=>c.family | 2=>c.given | 3=>c.nick | 4=>c.jid | 5=>c.email | 6=>c.tel | 7=>c.note | 8=>c.uid | _=>joinF 59 (c.groups.map valF)
theorem eV (c:CT)(hc:okTell c):∀ k,k<10→DRet (uf k) (.agg (ctv c)::tc k) (.str (aQ c k)):=
 ten (aH at90 c _ rfl) (aH at91 c _ rfl) (aH at92 c _ rfl) (aH at93 c _ rfl) (eX c) (aH at96 c _ rfl) (aH at97 c _ rfl) (aH at98 c _ rfl) (aH at99 c _ rfl) (eB c hc.s.gl hc.s.gs hc.j)
theorem eM {cs:List DV}{s:List UInt8}{tl:List AObj}(hcl:cs.all DV.closed=true):finE 1 (fun h d=>h=[AObj.box cs]∧d=DV.str s) (some [DV.str s]) (.box cs::tl):=
 end_h [0] (by simp) (Nat.le_refl _) id0 (by simp) (by simp [rvd,DV.inL]) (by
  intro l hl
  simp at hl; subst hl
  exact List.all_eq_true.2 fun d hd=>closed_inL (List.all_eq_true.1 hcl d hd)) rfl rfl ⟨by
  simp only [List.map_cons,List.map_nil,List.getD_cons_zero,renO]
  rw [map_same fun d hd=>closed_ren (List.all_eq_true.1 hcl d hd)],by simp [rvd,DV.ren]⟩
theorem fK (c:CT)(hc:okTell c)(k:Nat)(hk:k<10):ACalls ED 50 [.box (ctv c)] [.agg (colv k),.ptr 0 0] (fun h d=>h=[.box (ctv c)]∧d=.str (aQ c k)):=by
 have ht:=eV c hc k hk
 have h1:=tc_closed k hk
 refine acalls_go c50 (by simp [f50]) ?_
 simp only [f50,colv,↓gos,gop,qA,qB,qC,qD,qE,qF,qG,qH,qI]
 have e:List.take 11 (ctv c)=ctv c:=rfl
 rw [e]
 refine chk_i (Nat.le_refl 11) ?_
 refine call_clo ht (by rw [List.all_cons,h1]; rfl) rfl ?_
 simp only [↓gos,gop,qA,qB,qC,qD,qE,qF,qG,qH,qI]
 exact eM rfl
theorem eY (n:List UInt8)(f g:Nat)(cs es:List DV)(hc:cs.all DV.closed=true)(he:es.all DV.closed=true):DRet 49 [.agg [.str n,.fn f cs,.fn g es]] (.str n):=by
 refine acalls_go c49 (by simp [f49]) ?_
 simp only [f49,↓gos,gop,qA,qB,qC,qD,qE,qF,qG,qH,qI]
 exact ends rfl
theorem fV (c:CT)(hc:okS c):DRet 45 [.agg (ctv c)] (.bool (!rightC c||decide (0<c.other.length))):=by
 have ht:=right35 c hc
 refine acalls_go c45 (by simp [f45]) ?_
 simp only [f45,bC,bW,↓gos,gop,qA,qB,qC,qD,qE,qF,qG,qH,qI]
 have e:List.take 11 (ctv c)=ctv c:=rfl
 rw [e]
 refine chk_i (Nat.le_refl 11) ?_
 refine call_ret ht rfl rfl ?_
 have e2:(ctv c)[10]?=some (.sl 4 (c.other.map pv)):=rfl
 cases rightC c
 ·simp only [↓gos,gop,qA,qB,qC,qD,qE,qF,qG,qH,qI]
  exact endb rfl
 ·simp only [e2,List.length_map,↓gos,gop,qA,qB,qC,qD,qE,qF,qG,qH,qI]
  refine ⟨fun h=>?_,fun h=>?_⟩
  ·have h:0<c.other.length:=by omega
   rw [decide_eq_true h]; exact endb rfl
  ·have h:¬ 0<c.other.length:=by omega
   rw [decide_eq_false h]; exact endb rfl
def aZ (c:CT):Bool := !rightC c||decide (0<c.other.length)
theorem eK (l:List CT)(hl:l.length<1000000000)(hw:∀ c∈l,okS c):ACalls ED 88 [] [.sl 11 (l.map ctv),.fn 45 []] (fun h d=>h=[]∧∃ n:Int,d=.int .i64 n∧(decide (0≤n))=l.any aZ):=by
 refine acalls_go c88 (by simp [f88]) ?_
 simp only [f88,↓gos,gop,qA,qB,qC,qD,qE,qF,qG,qH,qI]
 refine goN_lp (γ:=Nat) (fun i=>[(8,.int .i64 i),(7,.int .i64 l.length),(1,.fn 45 []),(0,.sl 11 (l.map ctv))]) (fun _=>[]) (fun i=>i≤l.length∧(l.take i).any aZ=false) (fun i=>l.length - i) 0
  (wks rfl (by simp) ⟨rfl,rfl,rfl,rfl,trivial⟩) ⟨by omega,rfl⟩ fun i ⟨hi,ht⟩=>?_
 simp only [f88l0,↓gos,gop,qA,qB,qC,qD,qE,qF,qG,qH,qI]
 refine ⟨fun h=>?_,fun h=>?_⟩
 ·have h2:i<l.length:=by omega
  have h3:i<(l.map ctv).length:=by simpa using h2
  have hm:l[i]∈l:=List.getElem_mem h2
  have htk:l.take (i+1)=l.take i++[l[i]]:=by rw [List.take_add_one,List.getElem?_eq_getElem h2]; rfl
  refine optP_in l[i] (by simp [h2]) ?_
  generalize l[i]=c at *
  have e:List.take 11 (ctv c)=ctv c:=rfl
  simp only [e,↓gos,gop,qA,qB,qC,qD,qE,qF,qG,qH,qI]
  refine chk_i (Nat.le_refl 11) ?_
  have hin:l.any aZ=true∨aZ c=false:=by
   cases hr:aZ c with
   | false=>exact .inr rfl
   | true=>exact .inl (List.any_eq_true.2 ⟨c,hm,hr⟩)
  refine call_ret (show DRet 45 [.agg (ctv c)] (.bool (aZ c)) from fV c (hw c hm)) rfl rfl ?_
  cases hk:aZ c
  ·simp only [↓gos,gop,qA,qB,qC,qD,qE,qF,qG,qH,qI]
   intro v hv
   rw [wrap_i64 (by omega) (by omega)] at hv
   have e3:v=((i+1:Nat):Int):=by rw [hv]; rfl
   subst e3
   refine rnd_s (i+1) rfl (by simp) ⟨rfl,rfl,rfl,rfl,trivial⟩ ⟨by omega,?_⟩ (by omega)
   rw [htk,List.any_append,ht]; simp [hk]
  ·simp only [↓gos,gop,qA,qB,qC,qD,qE,qF,qG,qH,qI]
   rw [hk] at hin
   refine finE_closed rfl ⟨rfl,_,rfl,?_⟩
   rw [hin.resolve_right (by simp)]; simp
 ·have h2:i=l.length:=by omega
  subst h2
  rw [List.take_length] at ht
  refine finE_closed rfl ⟨rfl,_,rfl,?_⟩
  rw [ht]; rfl
theorem cJ (l:List CT)(hl:l.length<1000000000)(hw:∀ c∈l,okS c):DRet 46 [.sl 11 (l.map ctv),.fn 45 []] (.bool (l.any aZ)):=by
 refine acalls_go c46 (by simp [f46]) ?_
 simp only [f46,↓gos,gop,qA,qB,qC,qD,qE,qF,qG,qH,qI]
 refine call_any (eK l hl hw) rfl ⟨_,if l.any aZ=true then 0 else -1,rfl,by split <;> simp_all⟩ ?_
 rintro d ⟨n,rfl,hn⟩
 refine ⟨rfl,?_⟩
 rw [← hn]
 simp only [↓gos,gop,qA,qB,qC,qD,qE,qF,qG,qH,qI]
 refine ⟨fun h=>endb ?_,fun h=>endb ?_⟩
 ·rw [decide_eq_true h]
 ·rw [decide_eq_false h]
def aC (c:CT):List (List UInt8):=(List.range 10).map (aQ c)
theorem eI {cs:List DV}{D:DV}{tl:List AObj}(hcl:cs.all DV.closed=true)(hD:D.closed=true):finE 1 (fun h d=>h=[AObj.box cs]∧d=D) (some [D]) (.box cs::tl):=
 end_h [0] (by simp) (Nat.le_refl _) id0 (by simp) (closed_inL hD) (by
  intro l hl
  simp at hl; subst hl
  exact List.all_eq_true.2 fun d hd=>closed_inL (List.all_eq_true.1 hcl d hd)) rfl rfl ⟨by
  simp only [List.map_cons,List.map_nil,List.getD_cons_zero,renO]
  rw [map_same fun d hd=>closed_ren (List.all_eq_true.1 hcl d hd)],closed_ren hD⟩
theorem aP:∀ i,i<10→(DV.agg (colv i)).closed=true:=ten rfl rfl rfl rfl rfl rfl rfl rfl rfl rfl
theorem fC (c:CT)(hc:okTell c):ACalls ED 47 [.box (ctv c)] [.sl 3 cols,.fn 50 [.ptr 0 0]] (fun h d=>h=[.box (ctv c)]∧d=.sl 1 ((aC c).map sv)):=by
 have hcl:=ctv_closed c
 refine acalls_goF c47 (by simp [f47]) ?_
 simp only [f47,finF_e,finF_en,↓gos,gop,qA,qB,qC,qD,qE,qF,qG,qH,qI]
 refine goN_lp (γ:=Nat) (fun i=>[(10,.int .i64 i),(9,.int .i64 10),(8,.sl 3 cols),(1,.fn 50 [.ptr 0 0]),(5,.osl 1 2 0 i none)]) (fun i=>[.box (ctv c),.arr 1 [],.arr 1 (((List.range i).map (aQ c)).map sv)]) (fun i=>i≤10) (fun i=>10 - i) 0
  (wks rfl (by simp) ⟨rfl,rfl,rfl,rfl,rfl,trivial⟩) (by omega) fun i hi=>?_
 simp only [f47l0,finF_e,finF_en,↓gos,gop,qA,qB,qC,qD,qE,qF,qG,qH,qI]
 refine ⟨fun h=>?_,fun h=>?_⟩
 ·have h2:i<10:=by omega
  have h1:=tc_closed i h2
  refine optP_in (colv i) (cols_at i h2) ?_
  simp only [colv,finF_e,finF_en,↓gos,gop,qA,qB,qC,qD,qE,qF,qG,qH,qI]
  refine call_h (h1:=[.box (ctv c)]) (ds1:=[.agg (colv i),.ptr 0 0]) [0] [] (by simp) (by simp) rfl (by
   simp only [List.map_cons,List.map_nil,List.getD_cons_zero,lowO]
   rw [map_same fun d hd=>closed_low (List.all_eq_true.1 hcl d hd)]) (by
   rw [List.map_cons]
   rw [show DV.dn [0] _ (.agg [.str (COLS.getD i []),.fn (tf i) (tc i),.fn (uf i) (tc i)])=.agg (colv i) from closed_low (aP i h2)]
   rfl) (by
   simp only [List.all_cons,List.all_nil,Bool.and_true,Bool.and_eq_true]
   refine ⟨⟨closed_inL (aP i h2),rfl⟩,?_⟩
   exact List.all_eq_true.2 fun d hd=>closed_inL (List.all_eq_true.1 hcl d hd)) (fK c hc i h2) rfl ?_
  simp only [List.foldl,setAll,renO,DV.ren,upL,map_same fun d hd=>closed_ren (List.all_eq_true.1 hcl d hd),finF_e,finF_en,↓gos,gop,qA,qB,qC,qD,qE,qF,qG,qH,qI]
  refine chk_i (by simp) (chk_i (by omega) (chk_i (by omega) ?_))
  intro v hv
  rw [wrap_i64 (by omega) (by omega)] at hv
  have e3:v=((i+1:Nat):Int):=by rw [hv]; rfl
  subst e3
  refine rnd_d 3 (i+1) ?_ (by simp) ⟨rfl,rfl,rfl,rfl,rfl,rfl,rfl,rfl,rfl,rfl,trivial⟩ ?_ (by omega) (by omega)
  ·have e:List.take i (List.map sv (List.map (aQ c) (List.range i)))=List.map sv (List.map (aQ c) (List.range i)):=List.take_of_length_le (by simp)
   have e2:kilL 2 (ctv c)=ctv c:=rfl
   simp only [List.take_succ_cons,List.take_zero,e,e2,List.range_succ,List.map_append,List.map_cons,List.map_nil]
   rfl
  ·rfl
 ·have h2:i=10:=by omega
  subst h2
  refine ⟨_,rfl,[2],by simp,?_⟩
  exact finE_D (eI (D:=.sl 1 ((aC c).map sv)) hcl rfl)
def kf (k:Nat):Nat:=match k with | 1=>108 | 3=>111 | 6=>115 | _=>152
def kg (k:Nat):Nat:=match k with | 1=>109 | 3=>112 | 6=>116 | _=>153
end Go.Proofs.Ut
