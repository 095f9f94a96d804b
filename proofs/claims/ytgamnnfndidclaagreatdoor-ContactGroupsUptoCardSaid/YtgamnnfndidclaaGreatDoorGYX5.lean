/- What the properties of a contact do, while its others are a row of the call's own. -/
import Derived.Test.YtgamnnfndidclaaGreatDoorGYX4
open Nat renaming reduceBEq → qA,reduceAdd → qB,reduceSub → qC,reduceLeDiff → qD,reduceMul → qE
open Int renaming reduceLE → qF,reduceLT → qG,reduceNe → qH,reduceToNat → qI
set_option linter.all false
namespace Go.Proofs.Ut
open Go.Ai
set_option maxRecDepth 100000
def ctx (c:CT):List DV:=[.str c.name,.str c.family,.str c.given,.str c.nick,.str c.jid,.str c.email,.str c.tel,.str c.note,.str c.uid,.osl 1 2 0 c.groups.length none,.osl 4 1 0 c.other.length none]
def HX (c:CT)(u:List (List DV)):List AObj:=[.box (ctx c),.arr 4 (c.other.map pv),.arr 1 (c.groups.map sv++u)]
theorem id3:∀ i,i<3→[0,1,2][i]?=some i
 | 0,_=>rfl | 1,_=>rfl | 2,_=>rfl | i+3,h=>by omega
theorem fS {c:CT}{u:List (List DV)}{D:DV}{ds:List DV}{tl:List AObj}(h1:(rvd ds).inL [0,1,2].contains=true)(h2:(rvd ds).ren ([0,1,2].idxOf ·)=D):dY 3 (fun h d=>h=HX c u∧d=D) (some ds) (HX c u++tl):=
 tV [0,1,2] (by decide) (Nat.le_refl _) id3 (by simp [HX]) h1 (by
  intro l hl
  simp only [List.mem_cons,List.not_mem_nil,or_false] at hl
  rcases hl with rfl|rfl|rfl
  ·rfl
  ·rfl
  ·rfl) rfl h2 ⟨rfl,rfl⟩
def AtX (g k:Nat):Prop:=∀ (c:CT)(u:List (List DV)),ACalls ED g (HX c u) [.ptr 0 0] fun h d=>h=HX c u∧d=.ptr 0 k
theorem aCz:AtX 107 0:=fun c u=>by
 refine aA c107 (by simp [f107]) ?_
 simp only [f107,HX,↓gos,gop,qA,qB,qC,qD,qE,qF,qG,qH,qI]
 exact fS (tl:=[]) rfl rfl
theorem aDb:AtX 110 3:=fun c u=>by
 refine aA c110 (by simp [f110]) ?_
 simp only [f110,HX,↓gos,gop,qA,qB,qC,qD,qE,qF,qG,qH,qI]
 exact fS (tl:=[]) rfl rfl
theorem aBj:AtX 113 5:=fun c u=>by
 refine aA c113 (by simp [f113]) ?_
 simp only [f113,HX,↓gos,gop,qA,qB,qC,qD,qE,qF,qG,qH,qI]
 exact fS (tl:=[]) rfl rfl
theorem aAd:AtX 114 6:=fun c u=>by
 refine aA c114 (by simp [f114]) ?_
 simp only [f114,HX,↓gos,gop,qA,qB,qC,qD,qE,qF,qG,qH,qI]
 exact fS (tl:=[]) rfl rfl
theorem ZE:AtX 117 7:=fun c u=>by
 refine aA c117 (by simp [f117]) ?_
 simp only [f117,HX,↓gos,gop,qA,qB,qC,qD,qE,qF,qG,qH,qI]
 exact fS (tl:=[]) rfl rfl
theorem ZI:AtX 118 8:=fun c u=>by
 refine aA c118 (by simp [f118]) ?_
 simp only [f118,HX,↓gos,gop,qA,qB,qC,qD,qE,qF,qG,qH,qI]
 exact fS (tl:=[]) rfl rfl
abbrev TkX (f:Nat)(c:CT)(u:List (List DV))(xs:List DV)(c' : CT)(u' : List (List DV))(t:Bool)(e:Int):Prop:=ACalls ED f (HX c u) (.ptr 0 0::xs) fun h d=>h=HX c' u' ∧ d=.tup [.bool t,.int .i64 e]
theorem tx0 (c:CT)(u:List (List DV))(s:List UInt8)(hs:s.length<1000000000):TkX 152 c u [.str s,.eptr [.fn 107 []] 0] { c with name:=plS s } u true (plE s):=by
 refine aA c152 (by simp [f152]) ?_
 simp only [f152,HX,↓gos,gop,qA,qB,qC,qD,qE,qF,qG,qH,qI]
 refine aB (fD s hs) rfl rfl ?_
 simp only [↓gos,gop,qA,qB,qC,qD,qE,qF,qG,qH,qI]
 refine fL (h1:=HX c u) [0,1,2] [1,2] (by simp) (by simp) rfl rfl rfl rfl (aCz c u) rfl ?_
 simp only [HX,ctx,List.foldl,bB,aR,DV.ren,upL,↓gos,gop,qA,qB,qC,qD,qE,qF,qG,qH,qI]
 exact fS (u:=u) (c:={ c with name:=plS s }) (tl:=[]) rfl rfl
theorem tx2 (c:CT)(u:List (List DV))(s:List UInt8)(hs:s.length<1000000000):TkX 152 c u [.str s,.eptr [.fn 110 []] 0] { c with nick:=plS s } u true (plE s):=by
 refine aA c152 (by simp [f152]) ?_
 simp only [f152,HX,↓gos,gop,qA,qB,qC,qD,qE,qF,qG,qH,qI]
 refine aB (fD s hs) rfl rfl ?_
 simp only [↓gos,gop,qA,qB,qC,qD,qE,qF,qG,qH,qI]
 refine fL (h1:=HX c u) [0,1,2] [1,2] (by simp) (by simp) rfl rfl rfl rfl (aDb c u) rfl ?_
 simp only [HX,ctx,List.foldl,bB,aR,DV.ren,upL,↓gos,gop,qA,qB,qC,qD,qE,qF,qG,qH,qI]
 exact fS (u:=u) (c:={ c with nick:=plS s }) (tl:=[]) rfl rfl
theorem tx4 (c:CT)(u:List (List DV))(s:List UInt8)(hs:s.length<1000000000):TkX 152 c u [.str s,.eptr [.fn 113 []] 0] { c with email:=plS s } u true (plE s):=by
 refine aA c152 (by simp [f152]) ?_
 simp only [f152,HX,↓gos,gop,qA,qB,qC,qD,qE,qF,qG,qH,qI]
 refine aB (fD s hs) rfl rfl ?_
 simp only [↓gos,gop,qA,qB,qC,qD,qE,qF,qG,qH,qI]
 refine fL (h1:=HX c u) [0,1,2] [1,2] (by simp) (by simp) rfl rfl rfl rfl (aBj c u) rfl ?_
 simp only [HX,ctx,List.foldl,bB,aR,DV.ren,upL,↓gos,gop,qA,qB,qC,qD,qE,qF,qG,qH,qI]
 exact fS (u:=u) (c:={ c with email:=plS s }) (tl:=[]) rfl rfl
theorem tx5 (c:CT)(u:List (List DV))(s:List UInt8)(hs:s.length<1000000000):TkX 152 c u [.str s,.eptr [.fn 114 []] 0] { c with tel:=plS s } u true (plE s):=by
 refine aA c152 (by simp [f152]) ?_
 simp only [f152,HX,↓gos,gop,qA,qB,qC,qD,qE,qF,qG,qH,qI]
 refine aB (fD s hs) rfl rfl ?_
 simp only [↓gos,gop,qA,qB,qC,qD,qE,qF,qG,qH,qI]
 refine fL (h1:=HX c u) [0,1,2] [1,2] (by simp) (by simp) rfl rfl rfl rfl (aAd c u) rfl ?_
 simp only [HX,ctx,List.foldl,bB,aR,DV.ren,upL,↓gos,gop,qA,qB,qC,qD,qE,qF,qG,qH,qI]
 exact fS (u:=u) (c:={ c with tel:=plS s }) (tl:=[]) rfl rfl
theorem tx7 (c:CT)(u:List (List DV))(s:List UInt8)(hs:s.length<1000000000):TkX 152 c u [.str s,.eptr [.fn 117 []] 0] { c with note:=plS s } u true (plE s):=by
 refine aA c152 (by simp [f152]) ?_
 simp only [f152,HX,↓gos,gop,qA,qB,qC,qD,qE,qF,qG,qH,qI]
 refine aB (fD s hs) rfl rfl ?_
 simp only [↓gos,gop,qA,qB,qC,qD,qE,qF,qG,qH,qI]
 refine fL (h1:=HX c u) [0,1,2] [1,2] (by simp) (by simp) rfl rfl rfl rfl (ZE c u) rfl ?_
 simp only [HX,ctx,List.foldl,bB,aR,DV.ren,upL,↓gos,gop,qA,qB,qC,qD,qE,qF,qG,qH,qI]
 exact fS (u:=u) (c:={ c with note:=plS s }) (tl:=[]) rfl rfl
theorem tx8 (c:CT)(u:List (List DV))(s:List UInt8)(hs:s.length<1000000000):TkX 152 c u [.str s,.eptr [.fn 118 []] 0] { c with uid:=plS s } u true (plE s):=by
 refine aA c152 (by simp [f152]) ?_
 simp only [f152,HX,↓gos,gop,qA,qB,qC,qD,qE,qF,qG,qH,qI]
 refine aB (fD s hs) rfl rfl ?_
 simp only [↓gos,gop,qA,qB,qC,qD,qE,qF,qG,qH,qI]
 refine fL (h1:=HX c u) [0,1,2] [1,2] (by simp) (by simp) rfl rfl rfl rfl (ZI c u) rfl ?_
 simp only [HX,ctx,List.foldl,bB,aR,DV.ren,upL,↓gos,gop,qA,qB,qC,qD,qE,qF,qG,qH,qI]
 exact fS (u:=u) (c:={ c with uid:=plS s }) (tl:=[]) rfl rfl
theorem tx3 (c:CT)(u:List (List DV))(s:List UInt8)(hs:s.length<100000000):TkX 111 c u [.str s] (rW c s).1 u (rW c s).2.1 (rW c s).2.2:=by
 refine aA c111 (by simp [f111]) ?_
 simp only [f111,HX,↓gos,gop,qA,qB,qC,qD,qE,qF,qG,qH,qI]
 refine aB (PQ s SCH (by omega) (by decide)) rfl rfl ?_
 have hb:(cB SCH s).1.length≤s.length:=by unfold cB; split <;> simp
 unfold rW
 generalize cB SCH s=b at *
 obtain ⟨r,t⟩:=b
 simp only at hb
 cases t
 ·simp only [↓gos,gop,qA,qB,qC,qD,qE,qF,qG,qH,qI]
  exact fS (tl:=[]) rfl rfl
 ·simp only [↓gos,gop,qA,qB,qC,qD,qE,qF,qG,qH,qI]
  refine aB (fD r (by omega)) rfl rfl ?_
  simp only [plS]
  cases hp:plainF r with
  | none=>
   simp only [Option.isSome_none,Bool.false_eq_true,reduceIte,↓gos,gop,qA,qB,qC,qD,qE,qF,qG,qH,qI]
   exact ⟨fun _=>fS (tl:=[]) rfl rfl,fun q=>absurd q (by decide)⟩
  | some y=>
   have hyl:y.length≤r.length:=iA _ (Nat.le_refl _) hp
   simp only [Option.isSome_some,Option.getD_some,reduceIte,↓gos,gop,qA,qB,qC,qD,qE,qF,qG,qH,qI]
   refine aB (OU y (by omega)) rfl rfl ?_
   simp only [ctx,↓gos,gop,qA,qB,qC,qD,qE,qF,qG,qH,qI]
   exact fS (u:=u) (c:={ c with jid:=(lN y).1 }) (tl:=[]) rfl rfl
theorem tx1 (c:CT)(u:List (List DV))(s:List UInt8)(hs:s.length<100000000):TkX 108 c u [.str s] (pO c s).1 u true (pO c s).2:=by
 have hne:=mQ 59 s false []
 have hmem:=gR 59 s false []
 have htot:=kC 59 s false []
 have hll:=kN 59 s false []
 refine aA c108 (by simp [f108]) ?_
 simp only [f108,HX,↓gos,gop,qA,qB,qC,qD,qE,qF,qG,qH,qI]
 refine gC (DL s 59 hs) (by simp [DV.closed]) ?_
 unfold pO
 generalize aS 59 false [] s=l at *
 simp only [DV.ren,aR,↓gos,gop,qA,qB,qC,qD,qE,qF,qG,qH,qI]
 refine aM (γ:=Nat×List (List UInt8)) (fun g=>[(14,.int .i64 g.1),(13,.int .i64 l.length),(12,.osl 1 4 0 l.length none),(6,.osl 1 3 0 g.2.length none),(0,.ptr 0 0)]) (fun g=>[.box (ctx c),.arr 4 (c.other.map pv),.arr 1 (c.groups.map sv++u),.arr 1 (g.2.map st1),.arr 1 (l.map st1)])
  (fun g=>g.1≤l.length∧bJ (l.take g.1)=some g.2∧g.2.length=g.1) (fun g=>l.length - g.1) (0,[])
  (wks rfl (by simp) ⟨rfl,rfl,rfl,rfl,rfl,trivial⟩) ⟨by omega,by simp [bJ],rfl⟩ fun g hg=>?_
 obtain ⟨i,acc⟩:=g
 obtain ⟨hi,hp,ha⟩:=hg
 simp only at hi hp ha
 simp only [f108l0,↓gos,gop,qA,qB,qC,qD,qE,qF,qG,qH,qI]
 refine ⟨fun h=>?_,fun h=>?_⟩
 ·have h2:i<l.length:=by omega
  refine aO (by omega) (aU [] h2 ?_)
  have htk:=rZ h2 []
  have hm:l.getD i []∈l:=by rw [List.getD_eq_getElem?_getD,List.getElem?_eq_getElem h2]; exact List.getElem_mem h2
  have hdr:l=l.take i++l.getD i []::l.drop (i+1):=by
   rw [List.getD_eq_getElem?_getD,List.getElem?_eq_getElem h2]; simp
  generalize l.getD i []=x at *
  have hx:=hmem x hm
  simp only [List.length_nil] at hx
  simp only [st1,↓gos,gop,qA,qB,qC,qD,qE,qF,qG,qH,qI]
  refine aB (fD x (by omega)) rfl rfl ?_
  cases hpx:plainF x with
  | none=>
   have hn:bJ l=none:=by rw [hdr]; exact jB hpx _ _
   simp only [hn,Option.isSome_none,Bool.false_eq_true,reduceIte,↓gos,gop,qA,qB,qC,qD,qE,qF,qG,qH,qI]
   exact ⟨fun _=>fS rfl rfl,fun q=>absurd q (by decide)⟩
  | some y=>
   have w1:IntKind.i64.wrap ((i:Int)+1)=((i+1:Nat):Int):=by rw [wrap_i64 (by omega) (by omega)]; rfl
   simp only [Option.isSome_some,Option.getD_some,reduceIte,w1,forall_eq,↓gos,gop,qA,qB,qC,qD,qE,qF,qG,qH,qI]
   refine aO (by omega) (aO (by omega) ?_)
   refine dO 5 (i+1,acc++[y]) ?_ (by simp) ⟨rfl,rfl,rfl,rfl,rfl,rfl,by simp; rfl,rfl,rfl,rfl,trivial⟩ rfl ⟨by simp only; omega,by rw [htk,jG,hp,hpx]; rfl,by simp [ha]⟩ (by simp only; omega)
   simp only [List.map_append]
   rfl
 ·have h2:i=l.length:=by omega
  subst h2
  rw [List.take_length] at hp
  have hpt:=pU hp
  simp only [hp]
  refine ⟨fun h5=>?_,fun h5=>?_⟩
  ·have h5:¬ acc.length=5:=by omega
   rw [if_neg h5]
   exact fS rfl rfl
  ·have h5:acc.length=5:=by omega
   rw [if_pos h5]
   match acc,h5 with
   | [a0,a1,a2,a3,a4],_=>
   have hfl:[a2,a3,a4].flatten.length≤[a0,a1,a2,a3,a4].flatten.length:=by simp; omega
   have hls:l.flatten.length≤s.length:=by simpa using htot
   simp only [List.length_cons,List.length_nil,List.drop_succ_cons,List.drop_zero,List.getD_cons_zero,List.getD_cons_succ,↓gos,gop,qA,qB,qC,qD,qE,qF,qG,qH,qI]
   refine iS [3] rfl ?_
   simp only [List.map_cons,List.map_nil,↓gos,gop,qA,qB,qC,qD,qE,qF,qG,qH,qI]
   refine aB (LY [a2,a3,a4] (by simp) (by omega)) rfl rfl ?_
   generalize [a2,a3,a4].flatten=j at *
   simp only [ctx,st1,↓gos,gop,qA,qB,qC,qD,qE,qF,qG,qH,qI]
   refine ⟨fun h=>?_,fun h=>?_⟩
   ·rw [if_neg h]
    exact fS rfl rfl
   ·rw [if_pos h]
    exact fS rfl rfl
end Go.Proofs.Ut
