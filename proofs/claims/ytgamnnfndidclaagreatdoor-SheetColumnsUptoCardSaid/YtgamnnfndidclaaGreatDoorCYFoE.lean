/- Rows as lines. -/
import Derived.Test.YtgamnnfndidclaaGreatDoorCAiHand2
import Derived.Shelf.Strings.Fold
import Derived.Lib.IndexBytes
import Derived.Shelf.Lays
import Derived.Ground.NamesProg
import Derived.Test.YtgamnnfndidclaaGreatDoorProg
import Derived.Lib.Case
import Derived.Test.YtgamnnfndidclaaGreatDoorCYFoUtD
open Nat renaming reduceBEq → qA,reduceAdd → qB,reduceSub → qC,reduceLeDiff → qD,reduceMul → qE
open Int renaming reduceLE → qF,reduceLT → qG,reduceNe → qH,reduceToNat → qI
set_option linter.all false
namespace Go.Proofs.Ut
open Go.Ai Classical Go.Shelf Go.RowKit
set_option linter.unusedSimpArgs false
set_option linter.unusedVariables false
set_option maxHeartbeats 1000000
set_option maxRecDepth 100000
theorem aDn (l:List (List UInt8))(y:List UInt8)(hl:l.length<1000000000):ACalls ED 181 [.arr 1 (l.map sv),.box [.osl 1 0 0 l.length none]] [.ptr 1 0,.str y]
  (fun h' d=>h' = [.arr 1 ((l++[y]).map sv),.box [.osl 1 0 0 (l++[y]).length none]]∧d=.tup []):=by
 refine aA c181 (by simp [f181]) ?_
 simp only [f181,↓gos,gop,qA,qB,qC,qD,qE,qF,qG,qH,qI]
 refine ⟨by omega,by omega,aGB rfl ⟨?_,rfl⟩⟩
 rw [List.map_append,List.length_append]; rfl
theorem ZU (r:List UInt8):r.any ([13,10]:List UInt8).contains=WD r:=by
 unfold WD
 congr 1
 funext x
 simp only [List.contains_cons,List.contains_nil,Bool.or_false]
 by_cases h1:x=13
 ·subst h1; simp
 ·by_cases h2:x=10
  ·subst h2; simp
  ·simp [h1,h2]
theorem sg2:Sg [13,10]:=⟨by decide,by decide,by decide⟩
def GV (c:UInt8):Option UInt8:=if c=92∨c=44∨c=59 then some c else if c=110∨c=78 then some 10 else none
def plainF:List UInt8→Option (List UInt8)
 | []=>some []
 | x::s=>
  if x=92 then (match s with | []=>none | c::t=>(GV c).bind fun y=>(plainF t).map (y :: ·))
  else (plainF s).map (x :: ·)
def qS:List UInt8→Option (List UInt8)
 | []=>none
 | c::t=>(GV c).bind fun y=>(plainF t).map (y :: ·)
theorem xM:∀ s:List UInt8,plainF s=if (cut 92 s).2.2=true then (qS (cut 92 s).2.1).map ((cut 92 s).1 ++ ·) else some s
 | []=>by simp [plainF,cut]
 | x::s=>by
  have ih:=xM s
  rw [cut]
  by_cases hx:x=92
  ·rw [if_pos hx]
   subst hx
   cases s with
   | nil=>simp [plainF,qS]
   | cons c t=>simp [plainF,qS]
  ·rw [if_neg hx]
   have e:plainF (x::s)=(plainF s).map (x :: ·):=by rw [plainF.eq_def]; simp only; rw [if_neg hx]
   rw [e,ih]
   simp only
   split
   ·cases qS (cut 92 s).2.1 <;> rfl
   ·rfl
theorem uS (c:UInt8):∀ s:List UInt8,(cut c s).1.length+(cut c s).2.1.length≤s.length∧((cut c s).2.2=true→(cut c s).1.length+(cut c s).2.1.length<s.length)∧((cut c s).2.2=false→(cut c s).1=s)
 | []=>by simp [cut]
 | x::s=>by
  have ih:=uS c s
  rw [cut]
  split
  ·simp
  ·simp only [List.length_cons]
   exact ⟨by omega,fun h=>by have:=ih.2.1 h; omega,fun h=>by rw [ih.2.2 h]⟩
theorem KR (s sub:List UInt8)(hs:s.length<1000000000):aU 126 [.str s,.str sub] (.int .i64 (Lib.index s sub)):=by
 refine aA c126 (by simp [f126]) ?_
 simp only [f126,↓gos,gop,qA,qB,qC,qD,qE,qF,qG,qH,qI]
 refine aB (ZB s sub hs) rfl rfl ?_
 simp only [↓gos,gop,qA,qB,qC,qD,qE,qF,qG,qH,qI]
 exact mK rfl
def EC:List UInt8:=[92,44,59,110,78]
theorem EB (c:UInt8):aU 65 [.str [92,44,59,110,78],.str [c]] (.bool (EC.contains c)):=by
 refine aA c65 (by simp [f65]) ?_
 simp only [f65,↓gos,gop,qA,qB,qC,qD,qE,qF,qG,qH,qI]
 refine aB (KR [92,44,59,110,78] [c] (by simp)) rfl rfl ?_
 rw [Lib.index_one]
 simp only [↓gos,gop,qA,qB,qC,qD,qE,qF,qG,qH,qI]
 have:=BP EC c
 refine ⟨fun h=>aG ?_,fun h=>aG ?_⟩
 ·rw [this.1 h]
 ·cases hc:EC.contains c
  ·rfl
  ·exact absurd (this.2 hc) h
theorem aEb (s t:List UInt8)(hs:s.length<1000000000)(h1:∀ b∈s,b.toNat<128)(h2:∀ b∈t,b.toNat<128):aU 171 [.str s,.str t] (.bool (Lib.equalFold s t)):=by
 refine yG ⟨Tryz.f171,Tryz.func171,by kernel_rfl,by kernel_rfl⟩ fun w ok β vs hl hv=>?_
 obtain ⟨u,v,rfl⟩:=two hl
 obtain rfl:=dB (hv 0 u _ rfl rfl)
 obtain rfl:=dB (hv 1 v _ rfl rfl)
 refine ⟨_,fun _ _ _=>.bool _,(Any.strings_EqualFold Tryz.lays164 ⟨s.toArray⟩ ⟨t.toArray⟩ w (by simp [ByteArray.size]; omega) (fun j b hj=>h1 b (List.mem_of_getElem? (by simpa using hj))) (fun j b hj=>h2 b (List.mem_of_getElem? (by simpa using hj)))).mono ?_⟩
 rintro e w' ⟨rfl,rfl⟩
 exact ⟨by simp,Below.refl _ _⟩
theorem aGv {c:UInt8}(h:EC.contains c=false):GV c=none:=by
 unfold EC at h
 simp only [List.contains_cons,List.contains_nil,Bool.or_false,Bool.or_eq_false_iff,beq_eq_false_iff_ne,ne_eq] at h
 unfold GV
 rw [if_neg (by simp [h]),if_neg (by simp [h])]
theorem US {c:UInt8}(h:EC.contains c=true):c.toNat<128∧((Lib.equalFold [c] [110]=false∧GV c=some c)∨(Lib.equalFold [c] [110]=true∧GV c=some 10)):=by
 unfold EC at h
 simp only [List.contains_cons,List.contains_nil,Bool.or_false,Bool.or_eq_true,beq_iff_eq] at h
 rcases h with rfl|rfl|rfl|rfl|rfl
 ·exact ⟨by decide,.inl ⟨by decide,by decide⟩⟩
 ·exact ⟨by decide,.inl ⟨by decide,by decide⟩⟩
 ·exact ⟨by decide,.inl ⟨by decide,by decide⟩⟩
 ·exact ⟨by decide,.inr ⟨by decide,by decide⟩⟩
 ·exact ⟨by decide,.inr ⟨by decide,by decide⟩⟩
theorem aBv (s:List UInt8)(hs:s.length<1000000000):aU 146 [.str s] (.tup [.str ((plainF s).getD []),.int .i64 (if (plainF s).isSome then 0 else 18)]):=by
 refine aA c146 (by simp [f146]) ?_
 simp only [f146,↓gos,gop,qA,qB,qC,qD,qE,qF,qG,qH,qI]
 refine aJ (γ:=List UInt8×List UInt8) (fun g=>[(0,.str g.2),(4,.ptr 1 0)])
  (fun g=>[.buf 5 g.1,.box [.self 1 169 2,.hdr 0 5 g.1.length]])
  (fun g=>g.1.length+g.2.length≤s.length∧(plainF g.2).map (g.1 ++ ·)=plainF s) (fun g=>g.2.length) ([],s)
  (wks rfl (by simp) ⟨rfl,rfl,trivial⟩) ⟨by simp,by simp⟩ fun g hg=>?_
 obtain ⟨acc,t⟩:=g
 obtain ⟨p1,p2⟩:=hg
 simp only at p1 p2
 simp only [f146l0,↓gos,gop,qA,qB,qC,qD,qE,qF,qG,qH,qI]
 have hc:=xM t
 have hcl:=uS 92 t
 refine aB (yU t 92 (by omega)) rfl rfl ?_
 generalize cut 92 t=ct at hc hcl
 obtain ⟨head,rest,is⟩:=ct
 simp only at hc hcl
 simp only [↓gos,gop,qA,qB,qC,qD,qE,qF,qG,qH,qI]
 refine gL (gr:=false) (gr' := false) (m:=0) (l:=1) rfl rfl rfl (FA false acc head (by omega)) ?_
 cases is
 ·simp only [Buf,↓gos,gop,qA,qB,qC,qD,qE,qF,qG,qH,qI]
  refine qJ (gr:=false) (m:=0) (l:=1) rfl rfl (WR false _) ?_
  simp only [↓gos,gop,qA,qB,qC,qD,qE,qF,qG,qH,qI]
  simp only [Bool.false_eq_true,if_false] at hc
  rw [hc] at p2
  refine aD rfl ⟨rfl,?_⟩
  rw [← p2,hcl.2.2 rfl]
  rfl
 ·simp only [Buf,↓gos,gop,qA,qB,qC,qD,qE,qF,qG,qH,qI]
  simp only [if_true] at hc
  have hcl2:=hcl.2.1 rfl
  cases rest with
  | nil=>
   simp only [↓gos,gop,qA,qB,qC,qD,qE,qF,qG,qH,qI]
   have hn:plainF s=none:=by rw [← p2,hc]; rfl
   rw [hn]
   exact aD rfl ⟨rfl,rfl⟩
  | cons c r=>
   simp only [↓gos,gop,qA,qB,qC,qD,qE,qF,qG,qH,qI]
   simp only [List.length_cons] at hcl hcl2
   refine ⟨fun h=>(by cases h),fun _=>⟨by omega,aB (EB c) rfl rfl ?_⟩⟩
   cases he:EC.contains c
   ·simp only [↓gos,gop,qA,qB,qC,qD,qE,qF,qG,qH,qI]
    have hn:plainF s=none:=by rw [← p2,hc,qS,aGv he]; rfl
    rw [hn]
    exact aD rfl ⟨rfl,rfl⟩
   ·obtain ⟨h128,hf⟩:=US he
    simp only [↓gos,gop,qA,qB,qC,qD,qE,qF,qG,qH,qI]
    refine ⟨by omega,aB (aEb [c] [110] (by simp) (by simpa using h128) (by decide)) rfl rfl ?_⟩
    rcases hf with ⟨h1,h2⟩|⟨h1,h2⟩
    all_goals
     rw [h1]
     rw [qS,h2] at hc
     simp only [Option.bind_some] at hc
     simp only [↓gos,gop,qA,qB,qC,qD,qE,qF,qG,qH,qI]
     refine gL (gr:=false) (gr' := false) (m:=0) (l:=1) rfl rfl rfl (FA false (acc++head) _ (by simp only [List.length_append,List.length_cons,List.length_nil]; omega)) ?_
     simp only [Buf,↓gos,gop,qA,qB,qC,qD,qE,qF,qG,qH,qI]
     refine ⟨by omega,?_⟩
     rw [show List.take (r.length+1 - 1) r=r from List.take_of_length_le (by omega)]
     refine aN (acc++head++[_],r) rfl (by simp) ⟨rfl,rfl,trivial⟩ ⟨by simp; omega,?_⟩ (by simp only; omega)
     rw [← p2,hc,Option.map_map,Option.map_map]
     congr 1
     funext z
     simp
def uW (e:Bool)(x:UInt8):Bool:=decide (x=92) && !e
def bK (sep:UInt8):Bool→List UInt8→List UInt8→List (List UInt8)
 | _,cur,[]=>[cur]
 | e,cur,x::s=>if (decide (x=sep) && !e)=true then cur::bK sep (uW e x) [] s else bK sep (uW e x) (cur++[x]) s
theorem IA (l:List (List UInt8))(hl:l≠[])(hb:l.length<1000000000):ACalls ED 182 [] [.sl 1 (l.map sv)] (fun h d=>h=[.arr 1 (l.map sv)]∧d=.osl 1 0 0 l.length none):=by
 refine aA c182 (by simp [f182]) ?_
 simp only [f182,↓gos,gop,qA,qB,qC,qD,qE,qF,qG,qH,qI]
 exact ⟨by simpa using hl,by omega,by omega,bJ rfl rfl rfl⟩
theorem aBJ (l:List (List UInt8))(n:Nat):((DV.osl 1 0 0 n none).free&&[AObj.arr 1 (l.map sv)].all iP)=true:=by simp [DV.free,iP,sv]
theorem LU (s:List UInt8)(fr i:Nat)(h:fr≤i)(hi:i<s.length):List.take (i+1 - fr) (List.drop fr s)=List.take (i - fr) (List.drop fr s)++[s.getD i 0]:=by
 rw [show i+1 - fr=(i - fr)+1 by omega,List.take_add_one]
 congr 1
 rw [List.getElem?_drop,show fr+(i - fr)=i by omega,List.getD_eq_getElem?_getD,List.getElem?_eq_getElem hi]
 rfl
theorem MF (s:List UInt8)(i:Nat)(hi:i<s.length):List.drop i s=s.getD i 0::List.drop (i+1) s:=by
 rw [List.getD_eq_getElem?_getD,List.getElem?_eq_getElem hi]
 exact List.drop_eq_getElem_cons hi
theorem aAF (s:List UInt8)(sep:UInt8)(hs:s.length<100000000):ACalls ED 145 [] [.str s,.int .u8 sep.toNat] (fun h d=>h=[.arr 1 ((bK sep false [] s).map sv)]∧d=.osl 1 0 0 (bK sep false [] s).length none):=by
 refine aA c145 (by simp [f145]) ?_
 simp only [f145,↓gos,gop,qA,qB,qC,qD,qE,qF,qG,qH,qI]
 refine aJ (γ:=List (List UInt8)×Nat×Nat×Bool) (fun g=>[(0,.str s),(1,.int .u8 sep.toNat),(5,.ptr 2 0),(6,.int .i64 (g.2.1:Nat)),(7,.bool g.2.2.2),(12,.int .i64 s.length),(13,.int .i64 (g.2.2.1:Nat))])
  (fun g=>[.arr 1 [],.arr 1 (g.1.map sv),.box [.osl 1 1 0 g.1.length none]])
  (fun g=>g.2.1≤g.2.2.1∧g.2.2.1≤s.length∧g.1.length≤g.2.1∧g.1++bK sep g.2.2.2 ((s.drop g.2.1).take (g.2.2.1 - g.2.1)) (s.drop g.2.2.1)=bK sep false [] s) (fun g=>s.length - g.2.2.1) ([],0,0,false)
  (wks rfl (by simp) ⟨rfl,rfl,rfl,rfl,rfl,rfl,rfl,trivial⟩) ⟨by simp,by simp,by simp,rfl⟩ fun g hg=>?_
 obtain ⟨acc,fr,i,e⟩:=g
 obtain ⟨p1,p2,p3,p4⟩:=hg
 simp only at p1 p2 p3 p4
 by_cases hi:i<s.length
 ·have hxb:=(s.getD i 0).toNat_lt
  have hbt:bt s i=((s.getD i 0).toNat:Int):=rfl
  have hq:∀ c:UInt8,(bt s i=(c.toNat:Int))↔s.getD i 0=c:=fun c=>by
   rw [hbt]
   exact ⟨fun q=>UInt8.toNat_inj.1 (by omega),fun q=>by rw [q]⟩
  have hq92:(bt s i=92)↔s.getD i 0=92:=hq 92
  have hpl:(List.take (i - fr) (List.drop fr s)).length≤s.length:=by simp; omega
  have htn:=LU s fr i p1 hi
  rw [MF s i hi,bK] at p4
  generalize s.getD i 0=x at p4 hq hq92 hxb hbt htn
  cases e
  ·simp only [f145l0,↓gos,gop,qA,qB,qC,qD,qE,qF,qG,qH,qI]
   refine ⟨fun _=>⟨by omega,fun h1=>?_,fun h1=>?_⟩,fun h=>absurd h (by omega)⟩
   ·have hs1:=(hq sep).1 h1
    rw [if_pos (by rw [hs1]; simp)] at p4
    refine ⟨by omega,by omega,?_⟩
    refine IG (m:=1) (l:=2) (n' := (acc++[List.take (i - fr) (List.drop fr s)]).length) (es' := (acc++[List.take (i - fr) (List.drop fr s)]).map sv) (xs:=[.str (List.take (i - fr) (List.drop fr s))]) (DR:=.tup []) rfl rfl rfl (aDn acc _ (by omega)) rfl ?_
    simp only [↓gos,gop,qA,qB,qC,qD,qE,qF,qG,qH,qI]
    intro v hv
    rw [wrap_i64 (by omega) (by omega)] at hv
    have hv:v=((i+1:Nat):Int):=by omega
    subst hv
    refine ⟨by omega,fun h9 v1 hv1=>?_,fun h9 v1 hv1=>?_⟩
    ·have h92:=hq92.1 h9
     rw [wrap_i64 (by omega) (by omega)] at hv1
     have hv1:v1=((i+1:Nat):Int):=by omega
     subst hv1
     refine aN (acc++[List.take (i - fr) (List.drop fr s)],i+1,i+1,true) rfl (by simp) ⟨rfl,rfl,rfl,rfl,rfl,rfl,rfl,trivial⟩ ⟨by first | omega | (simp only; omega),by first | omega | (simp only; omega),by simp; omega,?_⟩ (by first | omega | (simp only; omega))
     rw [← p4]
     simp [uW,h92]
    ·have h92:=mt hq92.2 h9
     rw [wrap_i64 (by omega) (by omega)] at hv1
     have hv1:v1=((i+1:Nat):Int):=by omega
     subst hv1
     refine aN (acc++[List.take (i - fr) (List.drop fr s)],i+1,i+1,false) rfl (by simp) ⟨rfl,rfl,rfl,rfl,rfl,rfl,rfl,trivial⟩ ⟨by first | omega | (simp only; omega),by first | omega | (simp only; omega),by simp; omega,?_⟩ (by first | omega | (simp only; omega))
     rw [← p4]
     simp [uW,h92]
   ·have hs1:x≠sep:=mt (hq sep).2 h1
    rw [if_neg (by simp [hs1])] at p4
    refine ⟨by omega,fun h9 v1 hv1=>?_,fun h9 v1 hv1=>?_⟩
    ·have h92:=hq92.1 h9
     rw [wrap_i64 (by omega) (by omega)] at hv1
     have hv1:v1=((i+1:Nat):Int):=by omega
     subst hv1
     refine aN (acc,fr,i+1,true) rfl (by simp) ⟨rfl,rfl,rfl,rfl,rfl,rfl,rfl,trivial⟩ ⟨by first | omega | (simp only; omega),by first | omega | (simp only; omega),by simp; omega,?_⟩ (by first | omega | (simp only; omega))
     rw [← p4]
     simp only [htn,uW]
     simp [h92]
    ·have h92:=mt hq92.2 h9
     rw [wrap_i64 (by omega) (by omega)] at hv1
     have hv1:v1=((i+1:Nat):Int):=by omega
     subst hv1
     refine aN (acc,fr,i+1,false) rfl (by simp) ⟨rfl,rfl,rfl,rfl,rfl,rfl,rfl,trivial⟩ ⟨by first | omega | (simp only; omega),by first | omega | (simp only; omega),by simp; omega,?_⟩ (by first | omega | (simp only; omega))
     rw [← p4]
     simp only [htn,uW]
     simp [h92]
  ·rw [if_neg (by simp)] at p4
   simp only [f145l0,↓gos,gop,qA,qB,qC,qD,qE,qF,qG,qH,qI]
   refine ⟨fun _=>⟨by omega,fun _=>⟨by omega,fun _ v hv=>?_,fun _ v hv=>?_⟩,fun _=>⟨by omega,fun _ v hv=>?_,fun _ v hv=>?_⟩⟩,fun h=>absurd h (by omega)⟩
   all_goals
    rw [wrap_i64 (by omega) (by omega)] at hv
    have hv:v=((i+1:Nat):Int):=by omega
    subst hv
    refine aN (acc,fr,i+1,false) rfl (by simp) ⟨rfl,rfl,rfl,rfl,rfl,rfl,rfl,trivial⟩ ⟨by first | omega | (simp only; omega),by first | omega | (simp only; omega),by first | omega | (simp only; omega),?_⟩ (by first | omega | (simp only; omega))
    rw [← p4]
    simp only [htn,uW]
    simp
 ·have e0:i=s.length:=by omega
  subst e0
  rw [List.drop_length,bK] at p4
  have hacc:acc.length<100000000:=by omega
  cases e
  all_goals
   simp only [f145l0,↓gos,gop,qA,qB,qC,qD,qE,qF,qG,qH,qI]
   refine ⟨fun h=>absurd h (by omega),fun _=>⟨by omega,?_⟩⟩
   refine IG (m:=1) (l:=2) (n' := (acc++[List.take (s.length - fr) (List.drop fr s)]).length) (es' := (acc++[List.take (s.length - fr) (List.drop fr s)]).map sv) (xs:=[.str (List.take (s.length - fr) (List.drop fr s))]) (DR:=.tup []) rfl rfl rfl (aDn acc _ (by omega)) rfl ?_
   simp only [↓gos,gop,qA,qB,qC,qD,qE,qF,qG,qH,qI]
   refine aX (IA (acc++[List.take (s.length - fr) (List.drop fr s)]) (by simp) (by simp; omega)) ?_ ?_ ?_
   ·rw [List.map_cons,List.map_nil,iQ rfl (by simp)]
   ·exact aBJ _ _
   ·simp only [DV.ren,aS,↓gos,gop,qA,qB,qC,qD,qE,qF,qG,qH,qI]
    exact bJ rfl (by rw [p4]) (by rw [p4])
end Go.Proofs.Ut

namespace Go.Proofs
open Go.Shelf
def Tryz.lays158_ren:Go.Shelf.Ren:=⟨fun | 158=>218 | 165=>190 | 166=>174 | 167=>263 | 169=>175 | 230=>264 | 203=>265 | 240=>223 | 241=>229 | 197=>220 | 118=>301 | 168=>302 | 270=>303 | 262=>304 | 276=>274 | 277=>279 | 260=>267 | 242=>328 | 313=>329 | 278=>340 | 274=>268 | 275=>269 | n=>n,fun | 9=>9 | 4=>4 | 3=>3 | 5=>5 | 72=>169 | 0=>0 | 76=>172 | 75=>171 | 107=>212 | 70=>167 | 20=>20 | 37=>47 | 127=>213 | 21=>21 | 105=>210 | 164=>272 | 162=>265 | 203=>330 | 119=>197 | 46=>22 | 139=>200 | 138=>199 | 51=>218 | 160=>263 | 208=>303 | 206=>301 | 80=>174 | n=>n,fun | 13=>5 | 3=>0 | 4=>1 | n=>n⟩
theorem Tryz.lays158:Go.Proofs.Lays.n158 Tryz.prog Tryz.lays158_ren:={
 mixed:=by kernel_rfl
 f118:=Go.Ai.tS Tryz.func301 (by kernel_rfl)
 f158:=Go.Ai.tS Tryz.func218 (by kernel_rfl)
 f165:=Go.Ai.tS Tryz.func190 (by kernel_rfl)
 f166:=Go.Ai.tS Tryz.func174 (by kernel_rfl)
 f167:=Go.Ai.tS Tryz.func263 (by kernel_rfl)
 f168:=Go.Ai.tS Tryz.func302 (by kernel_rfl)
 f169:=Go.Ai.tS Tryz.func175 (by kernel_rfl)
 f197:=Go.Ai.tS Tryz.func220 (by kernel_rfl)
 f203:=Go.Ai.tS Tryz.func265 (by kernel_rfl)
 f230:=Go.Ai.tS Tryz.func264 (by kernel_rfl)
 f240:=Go.Ai.tS Tryz.func223 (by kernel_rfl)
 f241:=Go.Ai.tS Tryz.func229 (by kernel_rfl)
 f242:=Go.Ai.tS Tryz.func328 (by kernel_rfl)
 f260:=Go.Ai.tS Tryz.func267 (by kernel_rfl)
 f262:=Go.Ai.tS Tryz.func304 (by kernel_rfl)
 f270:=Go.Ai.tS Tryz.func303 (by kernel_rfl)
 f274:=Go.Ai.tS Tryz.func268 (by kernel_rfl)
 f275:=Go.Ai.tS Tryz.func269 (by kernel_rfl)
 f276:=Go.Ai.tS Tryz.func274 (by kernel_rfl)
 f277:=Go.Ai.tS Tryz.func279 (by kernel_rfl)
 f278:=Go.Ai.tS Tryz.func340 (by kernel_rfl)
 f313:=Go.Ai.tS Tryz.func329 (by kernel_rfl)
 t0:=Tryz.underlying0
 a0:=Tryz.isAgg0
 z0:=Tryz.sizeOf0
 v0:=Tryz.zeroValue0
 t3:=Tryz.underlying3
 a3:=Tryz.isAgg3
 z3:=Tryz.sizeOf3
 v3:=Tryz.zeroValue3
 t4:=Tryz.underlying4
 a4:=Tryz.isAgg4
 z4:=Tryz.sizeOf4
 v4:=Tryz.zeroValue4
 t5:=Tryz.underlying5
 a5:=Tryz.isAgg5
 z5:=Tryz.sizeOf5
 v5:=Tryz.zeroValue5
 t9:=Tryz.underlying9
 a9:=Tryz.isAgg9
 z9:=Tryz.sizeOf9
 v9:=Tryz.zeroValue9
 t20:=Tryz.underlying20
 a20:=Tryz.isAgg20
 z20:=Tryz.sizeOf20
 v20:=Tryz.zeroValue20
 t21:=Tryz.underlying21
 a21:=Tryz.isAgg21
 z21:=Tryz.sizeOf21
 v21:=Tryz.zeroValue21
 t37:=Tryz.underlying47
 a37:=Tryz.isAgg47
 z37:=Tryz.sizeOf47
 v37:=Tryz.zeroValue47
 t46:=Tryz.underlying22
 a46:=Tryz.isAgg22
 z46:=Tryz.sizeOf22
 v46:=Tryz.zeroValue22
 t51:=Tryz.underlying218
 a51:=Tryz.isAgg218
 z51:=Tryz.sizeOf218
 v51:=Tryz.zeroValue218
 t70:=Tryz.underlying167
 a70:=Tryz.isAgg167
 z70:=Tryz.sizeOf167
 v70:=Tryz.zeroValue167
 t72:=Tryz.underlying169
 a72:=Tryz.isAgg169
 z72:=Tryz.sizeOf169
 v72:=Tryz.zeroValue169
 t75:=Tryz.underlying171
 a75:=Tryz.isAgg171
 z75:=Tryz.sizeOf171
 v75:=Tryz.zeroValue171
 t76:=Tryz.underlying172
 a76:=Tryz.isAgg172
 z76:=Tryz.sizeOf172
 v76:=Tryz.zeroValue172
 t105:=Tryz.underlying210
 a105:=Tryz.isAgg210
 z105:=Tryz.sizeOf210
 v105:=Tryz.zeroValue210
 t107:=Tryz.underlying212
 a107:=Tryz.isAgg212
 z107:=Tryz.sizeOf212
 v107:=Tryz.zeroValue212
 t119:=Tryz.underlying197
 a119:=Tryz.isAgg197
 z119:=Tryz.sizeOf197
 t127:=Tryz.underlying213
 a127:=Tryz.isAgg213
 z127:=Tryz.sizeOf213
 v127:=Tryz.zeroValue213
 t138:=Tryz.underlying199
 a138:=Tryz.isAgg199
 z138:=Tryz.sizeOf199
 v138:=Tryz.zeroValue199
 t139:=Tryz.underlying200
 a139:=Tryz.isAgg200
 z139:=Tryz.sizeOf200
 v139:=Tryz.zeroValue200
 t160:=Tryz.underlying263
 a160:=Tryz.isAgg263
 z160:=Tryz.sizeOf263
 v160:=Tryz.zeroValue263
 t162:=Tryz.underlying265
 a162:=Tryz.isAgg265
 z162:=Tryz.sizeOf265
 v162:=Tryz.zeroValue265
 t164:=Tryz.underlying272
 a164:=Tryz.isAgg272
 z164:=Tryz.sizeOf272
 v164:=Tryz.zeroValue272
 t203:=Tryz.underlying330
 a203:=Tryz.isAgg330
 z203:=Tryz.sizeOf330
 v203:=Tryz.zeroValue330
 t206:=Tryz.underlying301
 a206:=Tryz.isAgg301
 z206:=Tryz.sizeOf301
 v206:=Tryz.zeroValue301
 t208:=Tryz.underlying303
 a208:=Tryz.isAgg303
 z208:=Tryz.sizeOf303
 v208:=Tryz.zeroValue303
 g3:=by kernel_rfl
 g4:=by kernel_rfl
 g13:=by kernel_rfl }
def Tryz.lays239_ren:Go.Shelf.Ren:=⟨fun | 239=>221 | 274=>268 | 275=>269 | n=>n,fun | 21=>21 | 4=>4 | 3=>3 | 156=>259 | 0=>0 | 49=>258 | 157=>260 | 46=>22 | 159=>262 | 162=>265 | 160=>263 | 208=>303 | 51=>218 | 206=>301 | n=>n,fun | 11=>3 | 12=>4 | 13=>5 | n=>n⟩
theorem Tryz.lays239:Go.Proofs.Lays.n239 Tryz.prog Tryz.lays239_ren:={
 mixed:=by kernel_rfl
 f239:=Go.Ai.tS Tryz.func221 (by kernel_rfl)
 f274:=Go.Ai.tS Tryz.func268 (by kernel_rfl)
 f275:=Go.Ai.tS Tryz.func269 (by kernel_rfl)
 t0:=Tryz.underlying0
 a0:=Tryz.isAgg0
 z0:=Tryz.sizeOf0
 v0:=Tryz.zeroValue0
 t3:=Tryz.underlying3
 a3:=Tryz.isAgg3
 z3:=Tryz.sizeOf3
 v3:=Tryz.zeroValue3
 t4:=Tryz.underlying4
 a4:=Tryz.isAgg4
 z4:=Tryz.sizeOf4
 v4:=Tryz.zeroValue4
 t21:=Tryz.underlying21
 a21:=Tryz.isAgg21
 z21:=Tryz.sizeOf21
 v21:=Tryz.zeroValue21
 t46:=Tryz.underlying22
 a46:=Tryz.isAgg22
 z46:=Tryz.sizeOf22
 v46:=Tryz.zeroValue22
 t49:=Tryz.underlying258
 a49:=Tryz.isAgg258
 z49:=Tryz.sizeOf258
 v49:=Tryz.zeroValue258
 t51:=Tryz.underlying218
 a51:=Tryz.isAgg218
 z51:=Tryz.sizeOf218
 v51:=Tryz.zeroValue218
 t156:=Tryz.underlying259
 a156:=Tryz.isAgg259
 z156:=Tryz.sizeOf259
 t157:=Tryz.underlying260
 a157:=Tryz.isAgg260
 z157:=Tryz.sizeOf260
 v157:=Tryz.zeroValue260
 t159:=Tryz.underlying262
 a159:=Tryz.isAgg262
 z159:=Tryz.sizeOf262
 v159:=Tryz.zeroValue262
 t160:=Tryz.underlying263
 a160:=Tryz.isAgg263
 z160:=Tryz.sizeOf263
 v160:=Tryz.zeroValue263
 t162:=Tryz.underlying265
 a162:=Tryz.isAgg265
 z162:=Tryz.sizeOf265
 v162:=Tryz.zeroValue265
 t206:=Tryz.underlying301
 a206:=Tryz.isAgg301
 z206:=Tryz.sizeOf301
 v206:=Tryz.zeroValue301
 t208:=Tryz.underlying303
 a208:=Tryz.isAgg303
 z208:=Tryz.sizeOf303
 v208:=Tryz.zeroValue303
 g11:=by kernel_rfl
 g12:=by kernel_rfl
 g13:=by kernel_rfl }
end Go.Proofs

namespace Go.Proofs.Ut
open Go.Ai
set_option linter.unusedSimpArgs false
set_option linter.unusedVariables false
set_option maxRecDepth 100000
theorem aFM {P:UInt8→Prop}(h:∀ n,n<256→P (UInt8.ofNat n))(c:UInt8):P c:=by
 have:=h c.toNat (UInt8.toNat_lt c)
 rwa [UInt8.ofNat_toNat] at this
def SGN:List UInt8:=[65,66,67,68,69,70,71,72,73,74,75,76,77,78,79,80,81,82,83,84,85,86,87,88,89,90,97,98,99,100,101,102,103,104,105,106,107,108,109,110,111,112,113,114,115,116,117,118,119,120,121,122,48,49,50,51,52,53,54,55,56,57,45]
def isS (c:UInt8):Bool:=SGN.contains c
def A4:List UInt8:=[59,58,44,34]
def A3:List UInt8:=[59,58,44]
def up (s:List UInt8):List UInt8:=s.map Lib.upperB
theorem aJB (c:UInt8):isS c=true→c.toNat<128∧32≤c.toNat∧bQ c.toNat=true:=aFM (P:=fun c=>isS c=true→c.toNat<128∧32≤c.toNat∧bQ c.toNat=true) (by decide +kernel) c
def eM (s:List UInt8):List UInt8:=s.takeWhile isS
def cG (s:List UInt8):List UInt8:=s.dropWhile isS
theorem xD (s:List UInt8):eM s++cG s=s:=List.takeWhile_append_dropWhile
theorem TI (s:List UInt8):∀ x∈eM s,isS x=true:=fun x hx=>by
 have:=List.all_takeWhile (p:=isS) (l:=s)
 exact List.all_eq_true.1 this x hx
def jH (s:List UInt8):List UInt8×List UInt8×Bool:=
 match s with
 | []=>([],[],true)
 | x::t=>if x=34 then cut 34 t else ((x::t).takeWhile (fun c => !A4.contains c),(x::t).dropWhile (fun c => !A4.contains c),true)
def cQ (s:List UInt8):(List UInt8×List UInt8)×List UInt8×Bool:=
 if up (eM s)=[] then ((up (eM s),[]),cG s,false) else
 match cG s with
 | []=>((up (eM s),[]),[],false)
 | x::t=>if x=61 then ((up (eM s),(jH t).1),(jH t).2) else ((up (eM s),[]),x::t,false)
def uX:Nat→List (List UInt8×List UInt8)→List UInt8→List (List UInt8×List UInt8)×List UInt8×Bool
 | 0,acc,s=>(acc,s,true)
 | k+1,acc,s=>match s with
  | []=>(acc,[],true)
  | x::t=>if x=59 then (if (cQ t).2.2=true then uX k (acc++[(cQ t).1]) (cQ t).2.1 else (acc,(cQ t).2.1,false)) else (acc,x::t,true)
theorem yC (c:UInt8):∀ (v t:List UInt8),c∉v→cut c (v++c::t)=(v,t,true)
 | [],t,_=>by simp [cut]
 | x::v,t,h=>by
  rw [List.cons_append,cut,if_neg (fun e=>h (by simp [e])),yC c v t (fun q=>h (by simp [q]))]
theorem JH (c:UInt8):∀ s:List UInt8,(cut c s).2.2=true→s=(cut c s).1++c::(cut c s).2.1∧c∉(cut c s).1
 | [],h=>by simp [cut] at h
 | x::s,h=>by
  rw [cut] at h ⊢
  by_cases hx:x=c
  ·rw [if_pos hx]; subst hx; simp
  ·rw [if_neg hx] at h ⊢
   have:=JH c s h
   simp only at this ⊢
   refine ⟨by rw [List.cons_append,← this.1],?_⟩
   simp only [List.mem_cons,not_or]
   exact ⟨fun e=>hx e.symm,this.2⟩
theorem PN (s:List UInt8):(jH s).2.1.length≤s.length:=by
 unfold jH
 cases s with
 | nil=>simp
 | cons x t=>
  simp only
  split
  ·have:=(uS 34 t).1; simp only [List.length_cons]; omega
  ·exact (List.dropWhile_sublist _).length_le
theorem iF (s:List UInt8):(cG s).length≤s.length:=(List.dropWhile_sublist _).length_le
theorem mI (s:List UInt8):(cQ s).2.1.length≤s.length:=by
 unfold cQ
 have:=iF s
 split
 ·exact this
 ·cases hr:cG s with
  | nil=>simp
  | cons x t=>
   rw [hr] at this
   simp only
   split
   ·have h2:=PN t
    simp only [List.length_cons] at this
    show (jH t).2.1.length≤_
    omega
   ·exact this
theorem vJ:∀ k j acc (s:List UInt8),s.length≤k→s.length≤j→uX k acc s=uX j acc s
 | 0,0,_,_,_,_=>rfl
 | 0,j+1,acc,s,h,_=>by obtain rfl:=List.eq_nil_of_length_eq_zero (show s.length=0 by omega); rfl
 | k+1,0,acc,s,_,h=>by obtain rfl:=List.eq_nil_of_length_eq_zero (show s.length=0 by omega); rfl
 | k+1,j+1,acc,[],_,_=>rfl
 | k+1,j+1,acc,x::t,h1,h2=>by
  have:=mI t
  simp only [List.length_cons] at h1 h2
  simp only [uX]
  rw [vJ k j _ (cQ t).2.1 (by omega) (by omega)]
def fR (acc:List (List UInt8×List UInt8))(s:List UInt8):=uX s.length acc s
theorem uP (acc:List (List UInt8×List UInt8))(t:List UInt8):fR acc (59::t)=if (cQ t).2.2=true then fR (acc++[(cQ t).1]) (cQ t).2.1 else (acc,(cQ t).2.1,false):=by
 have:=mI t
 unfold fR
 rw [List.length_cons,uX,if_pos rfl,vJ t.length (cQ t).2.1.length _ _ (by omega) (Nat.le_refl _)]
theorem wS (acc:List (List UInt8×List UInt8))(s:List UInt8)(h:s.head?≠some 59):fR acc s=(acc,s,true):=by
 cases s with
 | nil=>rfl
 | cons x t=>
  unfold fR
  rw [List.length_cons,uX,if_neg (fun e=>h (by rw [e]; rfl))]
structure PR where
 g:List UInt8
 n:List UInt8
 ps:List (List UInt8×List UInt8)
 v:List UInt8
 deriving DecidableEq
def fH (s:List UInt8):List UInt8×List UInt8×List UInt8:=
 if eM s≠[]∧(cG s).head?=some 46 then (eM s,eM (cG s).tail,cG (cG s).tail) else ([],eM s,cG s)
def kT (s:List UInt8):List UInt8×Bool:=if s.head?=some 58 then (s.tail,true) else (s,false)
def tL (s:List UInt8):PR×Bool:=
 if up (fH s).2.1=[] then (⟨(fH s).1,[],[],(kT (fH s).2.2).1⟩,false) else
 if (fR [] (fH s).2.2).2.2=false then (⟨(fH s).1,up (fH s).2.1,(fR [] (fH s).2.2).1,[]⟩,false) else
 (⟨(fH s).1,up (fH s).2.1,(fR [] (fH s).2.2).1,(kT (fR [] (fH s).2.2).2.1).1⟩,(kT (fR [] (fH s).2.2).2.1).2)
def NN (v:List UInt8):List UInt8:=if v=[]∨v.any A3.contains=true then 34::v++[34] else v
def sE (a:List UInt8×List UInt8):List UInt8:=59::a.1++61::NN a.2
def pX (p:PR):List UInt8:=if p.g=[] then p.n else p.g++46::p.n
def aT (p:PR):List UInt8:=pX p++p.ps.flatMap sE++58::p.v
end Go.Proofs.Ut

namespace Go.Proofs.Ut
open Go.Ai Classical Go.Shelf Go.RowKit
set_option linter.unusedSimpArgs false
set_option linter.unusedVariables false
set_option maxHeartbeats 1000000
set_option maxRecDepth 100000
end Go.Proofs.Ut
