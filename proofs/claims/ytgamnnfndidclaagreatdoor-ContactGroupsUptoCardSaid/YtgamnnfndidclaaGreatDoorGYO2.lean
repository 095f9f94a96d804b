/- Rows as lines. -/
import Derived.Test.YtgamnnfndidclaaGreatDoorGYFoB
import Derived.Test.YtgamnnfndidclaaGreatDoorGYFoAny
import Derived.Shelf.Strings.Fold
import Derived.Lib.IndexBytes
open Nat renaming reduceBEq → qA,reduceAdd → qB,reduceSub → qC,reduceLeDiff → qD,reduceMul → qE
open Int renaming reduceLE → qF,reduceLT → qG,reduceNe → qH,reduceToNat → qI
set_option linter.all false
namespace Go.Proofs.Ut
open Go.Ai Classical Go.Shelf Go.RowKit
set_option linter.unusedSimpArgs false
set_option linter.unusedVariables false
set_option maxHeartbeats 1000000
set_option maxRecDepth 100000
theorem YH (l:List (List UInt8))(y:List UInt8)(hl:l.length<1000000000):ACalls ED 181 [.arr 1 (l.map sv),.box [.osl 1 0 0 l.length none]] [.ptr 1 0,.str y]
  (fun h' d=>h' = [.arr 1 ((l++[y]).map sv),.box [.osl 1 0 0 (l++[y]).length none]]∧d=.tup []):=by
 refine aA c181 (by simp [f181]) ?_
 simp only [f181,↓gos,gop,qA,qB,qC,qD,qE,qF,qG,qH,qI]
 refine ⟨by omega,by omega,aCc rfl ⟨?_,rfl⟩⟩
 rw [List.map_append,List.length_append]; rfl
theorem VK (r:List UInt8):r.any ([13,10]:List UInt8).contains=OG r:=by
 unfold OG
 congr 1
 funext x
 simp only [List.contains_cons,List.contains_nil,Bool.or_false]
 by_cases h1:x=13
 ·subst h1; simp
 ·by_cases h2:x=10
  ·subst h2; simp
  ·simp [h1,h2]
theorem sg2:Sg [13,10]:=⟨by decide,by decide,by decide⟩
def zL (c:UInt8):Option UInt8:=if c=92∨c=44∨c=59 then some c else if c=110∨c=78 then some 10 else none
def plainF:List UInt8→Option (List UInt8)
 | []=>some []
 | x::s=>
  if x=92 then (match s with | []=>none | c::t=>(zL c).bind fun y=>(plainF t).map (y :: ·))
  else (plainF s).map (x :: ·)
def mS:List UInt8→Option (List UInt8)
 | []=>none
 | c::t=>(zL c).bind fun y=>(plainF t).map (y :: ·)
theorem tW:∀ s:List UInt8,plainF s=if (cut 92 s).2.2=true then (mS (cut 92 s).2.1).map ((cut 92 s).1 ++ ·) else some s
 | []=>by simp [plainF,cut]
 | x::s=>by
  have ih:=tW s
  rw [cut]
  by_cases hx:x=92
  ·rw [if_pos hx]
   subst hx
   cases s with
   | nil=>simp [plainF,mS]
   | cons c t=>simp [plainF,mS]
  ·rw [if_neg hx]
   have e:plainF (x::s)=(plainF s).map (x :: ·):=by rw [plainF.eq_def]; simp only; rw [if_neg hx]
   rw [e,ih]
   simp only
   split
   ·cases mS (cut 92 s).2.1 <;> rfl
   ·rfl
theorem rB (c:UInt8):∀ s:List UInt8,(cut c s).1.length+(cut c s).2.1.length≤s.length∧((cut c s).2.2=true→(cut c s).1.length+(cut c s).2.1.length<s.length)∧((cut c s).2.2=false→(cut c s).1=s)
 | []=>by simp [cut]
 | x::s=>by
  have ih:=rB c s
  rw [cut]
  split
  ·simp
  ·simp only [List.length_cons]
   exact ⟨by omega,fun h=>by have:=ih.2.1 h; omega,fun h=>by rw [ih.2.2 h]⟩
theorem DY (s sub:List UInt8)(hs:s.length<1000000000):aY 126 [.str s,.str sub] (.int .i64 (Lib.index s sub)):=by
 refine aA c126 (by simp [f126]) ?_
 simp only [f126,↓gos,gop,qA,qB,qC,qD,qE,qF,qG,qH,qI]
 refine aB (UZ s sub hs) rfl rfl ?_
 simp only [↓gos,gop,qA,qB,qC,qD,qE,qF,qG,qH,qI]
 exact qK rfl
def EC:List UInt8:=[92,44,59,110,78]
theorem zY (c:UInt8):aY 65 [.str [92,44,59,110,78],.str [c]] (.bool (EC.contains c)):=by
 refine aA c65 (by simp [f65]) ?_
 simp only [f65,↓gos,gop,qA,qB,qC,qD,qE,qF,qG,qH,qI]
 refine aB (DY [92,44,59,110,78] [c] (by simp)) rfl rfl ?_
 rw [Lib.index_one]
 simp only [↓gos,gop,qA,qB,qC,qD,qE,qF,qG,qH,qI]
 have:=xJ EC c
 refine ⟨fun h=>aJ ?_,fun h=>aJ ?_⟩
 ·rw [this.1 h]
 ·cases hc:EC.contains c
  ·rfl
  ·exact absurd (this.2 hc) h
theorem aBf (s t:List UInt8)(hs:s.length<1000000000)(h1:∀ b∈s,b.toNat<128)(h2:∀ b∈t,b.toNat<128):aY 171 [.str s,.str t] (.bool (Lib.equalFold s t)):=by
 refine yZ ⟨Tryz.f171,Tryz.func171,by kernel_rfl,by kernel_rfl⟩ fun w ok β vs hl hv=>?_
 obtain ⟨u,v,rfl⟩:=two hl
 obtain rfl:=cU (hv 0 u _ rfl rfl)
 obtain rfl:=cU (hv 1 v _ rfl rfl)
 refine ⟨_,fun _ _ _=>.bool _,(Any.strings_EqualFold Tryz.lays164 ⟨s.toArray⟩ ⟨t.toArray⟩ w (by simp [ByteArray.size]; omega) (fun j b hj=>h1 b (List.mem_of_getElem? (by simpa using hj))) (fun j b hj=>h2 b (List.mem_of_getElem? (by simpa using hj)))).mono ?_⟩
 rintro e w' ⟨rfl,rfl⟩
 exact ⟨by simp,Below.refl _ _⟩
theorem aAw {c:UInt8}(h:EC.contains c=false):zL c=none:=by
 unfold EC at h
 simp only [List.contains_cons,List.contains_nil,Bool.or_false,Bool.or_eq_false_iff,beq_eq_false_iff_ne,ne_eq] at h
 unfold zL
 rw [if_neg (by simp [h]),if_neg (by simp [h])]
theorem NS {c:UInt8}(h:EC.contains c=true):c.toNat<128∧((Lib.equalFold [c] [110]=false∧zL c=some c)∨(Lib.equalFold [c] [110]=true∧zL c=some 10)):=by
 unfold EC at h
 simp only [List.contains_cons,List.contains_nil,Bool.or_false,Bool.or_eq_true,beq_iff_eq] at h
 rcases h with rfl|rfl|rfl|rfl|rfl
 ·exact ⟨by decide,.inl ⟨by decide,by decide⟩⟩
 ·exact ⟨by decide,.inl ⟨by decide,by decide⟩⟩
 ·exact ⟨by decide,.inl ⟨by decide,by decide⟩⟩
 ·exact ⟨by decide,.inr ⟨by decide,by decide⟩⟩
 ·exact ⟨by decide,.inr ⟨by decide,by decide⟩⟩
theorem fD (s:List UInt8)(hs:s.length<1000000000):aY 146 [.str s] (.tup [.str ((plainF s).getD []),.int .i64 (if (plainF s).isSome then 0 else 18)]):=by
 refine aA c146 (by simp [f146]) ?_
 simp only [f146,↓gos,gop,qA,qB,qC,qD,qE,qF,qG,qH,qI]
 refine aM (γ:=List UInt8×List UInt8) (fun g=>[(0,.str g.2),(4,.ptr 1 0)])
  (fun g=>[.buf 5 g.1,.box [.self 1 169 2,.hdr 0 5 g.1.length]])
  (fun g=>g.1.length+g.2.length≤s.length∧(plainF g.2).map (g.1 ++ ·)=plainF s) (fun g=>g.2.length) ([],s)
  (wks rfl (by simp) ⟨rfl,rfl,trivial⟩) ⟨by simp,by simp⟩ fun g hg=>?_
 obtain ⟨acc,t⟩:=g
 obtain ⟨p1,p2⟩:=hg
 simp only at p1 p2
 simp only [f146l0,↓gos,gop,qA,qB,qC,qD,qE,qF,qG,qH,qI]
 have hc:=tW t
 have hcl:=rB 92 t
 refine aB (uD t 92 (by omega)) rfl rfl ?_
 generalize cut 92 t=ct at hc hcl
 obtain ⟨head,rest,is⟩:=ct
 simp only at hc hcl
 simp only [↓gos,gop,qA,qB,qC,qD,qE,qF,qG,qH,qI]
 refine cI (gr:=false) (gr' := false) (m:=0) (l:=1) rfl rfl rfl (sI false acc head (by omega)) ?_
 cases is
 ·simp only [Buf,↓gos,gop,qA,qB,qC,qD,qE,qF,qG,qH,qI]
  refine jO (gr:=false) (m:=0) (l:=1) rfl rfl (EN false _) ?_
  simp only [↓gos,gop,qA,qB,qC,qD,qE,qF,qG,qH,qI]
  simp only [Bool.false_eq_true,if_false] at hc
  rw [hc] at p2
  refine aC rfl ⟨rfl,?_⟩
  rw [← p2,hcl.2.2 rfl]
  rfl
 ·simp only [Buf,↓gos,gop,qA,qB,qC,qD,qE,qF,qG,qH,qI]
  simp only [if_true] at hc
  have hcl2:=hcl.2.1 rfl
  cases rest with
  | nil=>
   simp only [↓gos,gop,qA,qB,qC,qD,qE,qF,qG,qH,qI]
   have hn:plainF s=none:=by rw [← p2,hc]; rfl
   rw [hn]
   exact aC rfl ⟨rfl,rfl⟩
  | cons c r=>
   simp only [↓gos,gop,qA,qB,qC,qD,qE,qF,qG,qH,qI]
   simp only [List.length_cons] at hcl hcl2
   refine ⟨fun h=>(by cases h),fun _=>⟨by omega,aB (zY c) rfl rfl ?_⟩⟩
   cases he:EC.contains c
   ·simp only [↓gos,gop,qA,qB,qC,qD,qE,qF,qG,qH,qI]
    have hn:plainF s=none:=by rw [← p2,hc,mS,aAw he]; rfl
    rw [hn]
    exact aC rfl ⟨rfl,rfl⟩
   ·obtain ⟨h128,hf⟩:=NS he
    simp only [↓gos,gop,qA,qB,qC,qD,qE,qF,qG,qH,qI]
    refine ⟨by omega,aB (aBf [c] [110] (by simp) (by simpa using h128) (by decide)) rfl rfl ?_⟩
    rcases hf with ⟨h1,h2⟩|⟨h1,h2⟩
    all_goals
     rw [h1]
     rw [mS,h2] at hc
     simp only [Option.bind_some] at hc
     simp only [↓gos,gop,qA,qB,qC,qD,qE,qF,qG,qH,qI]
     refine cI (gr:=false) (gr' := false) (m:=0) (l:=1) rfl rfl rfl (sI false (acc++head) _ (by simp only [List.length_append,List.length_cons,List.length_nil]; omega)) ?_
     simp only [Buf,↓gos,gop,qA,qB,qC,qD,qE,qF,qG,qH,qI]
     refine ⟨by omega,?_⟩
     rw [show List.take (r.length+1 - 1) r=r from List.take_of_length_le (by omega)]
     refine aQ (acc++head++[_],r) rfl (by simp) ⟨rfl,rfl,trivial⟩ ⟨by simp; omega,?_⟩ (by simp only; omega)
     rw [← p2,hc,Option.map_map,Option.map_map]
     congr 1
     funext z
     simp
def kQ (e:Bool)(x:UInt8):Bool:=decide (x=92) && !e
def aS (sep:UInt8):Bool→List UInt8→List UInt8→List (List UInt8)
 | _,cur,[]=>[cur]
 | e,cur,x::s=>if (decide (x=sep) && !e)=true then cur::aS sep (kQ e x) [] s else aS sep (kQ e x) (cur++[x]) s
theorem WI (l:List (List UInt8))(hl:l≠[])(hb:l.length<1000000000):ACalls ED 182 [] [.sl 1 (l.map sv)] (fun h d=>h=[.arr 1 (l.map sv)]∧d=.osl 1 0 0 l.length none):=by
 refine aA c182 (by simp [f182]) ?_
 simp only [f182,↓gos,gop,qA,qB,qC,qD,qE,qF,qG,qH,qI]
 exact ⟨by simpa using hl,by omega,by omega,bO rfl rfl rfl⟩
theorem UM (l:List (List UInt8))(n:Nat):((DV.osl 1 0 0 n none).free&&[AObj.arr 1 (l.map sv)].all iD)=true:=by simp [DV.free,iD,sv]
theorem FZ (s:List UInt8)(fr i:Nat)(h:fr≤i)(hi:i<s.length):List.take (i+1 - fr) (List.drop fr s)=List.take (i - fr) (List.drop fr s)++[s.getD i 0]:=by
 rw [show i+1 - fr=(i - fr)+1 by omega,List.take_add_one]
 congr 1
 rw [List.getElem?_drop,show fr+(i - fr)=i by omega,List.getD_eq_getElem?_getD,List.getElem?_eq_getElem hi]
 rfl
theorem tU (s:List UInt8)(i:Nat)(hi:i<s.length):List.drop i s=s.getD i 0::List.drop (i+1) s:=by
 rw [List.getD_eq_getElem?_getD,List.getElem?_eq_getElem hi]
 exact List.drop_eq_getElem_cons hi
theorem DL (s:List UInt8)(sep:UInt8)(hs:s.length<100000000):ACalls ED 145 [] [.str s,.int .u8 sep.toNat] (fun h d=>h=[.arr 1 ((aS sep false [] s).map sv)]∧d=.osl 1 0 0 (aS sep false [] s).length none):=by
 refine aA c145 (by simp [f145]) ?_
 simp only [f145,↓gos,gop,qA,qB,qC,qD,qE,qF,qG,qH,qI]
 refine aM (γ:=List (List UInt8)×Nat×Nat×Bool) (fun g=>[(0,.str s),(1,.int .u8 sep.toNat),(5,.ptr 2 0),(6,.int .i64 (g.2.1:Nat)),(7,.bool g.2.2.2),(12,.int .i64 s.length),(13,.int .i64 (g.2.2.1:Nat))])
  (fun g=>[.arr 1 [],.arr 1 (g.1.map sv),.box [.osl 1 1 0 g.1.length none]])
  (fun g=>g.2.1≤g.2.2.1∧g.2.2.1≤s.length∧g.1.length≤g.2.1∧g.1++aS sep g.2.2.2 ((s.drop g.2.1).take (g.2.2.1 - g.2.1)) (s.drop g.2.2.1)=aS sep false [] s) (fun g=>s.length - g.2.2.1) ([],0,0,false)
  (wks rfl (by simp) ⟨rfl,rfl,rfl,rfl,rfl,rfl,rfl,trivial⟩) ⟨by simp,by simp,by simp,rfl⟩ fun g hg=>?_
 obtain ⟨acc,fr,i,e⟩:=g
 obtain ⟨p1,p2,p3,p4⟩:=hg
 simp only at p1 p2 p3 p4
 by_cases hi:i<s.length
 ·have hxb:=(s.getD i 0).toNat_lt
  have hbt:bt s i=((s.getD i 0).toNat:Int):=rfl
  have hq:∀ c:UInt8,(bt s i=(c.toNat:Int))↔s.getD i 0=c:=fun c=>by
   rw [hbt]
   exact ⟨fun q=>UInt8.toNat_inj.1 (by omega),fun q=>by rw [q]⟩
  have hq92:(bt s i=92)↔s.getD i 0=92:=hq 92
  have hpl:(List.take (i - fr) (List.drop fr s)).length≤s.length:=by simp; omega
  have htn:=FZ s fr i p1 hi
  rw [tU s i hi,aS] at p4
  generalize s.getD i 0=x at p4 hq hq92 hxb hbt htn
  cases e
  ·simp only [f145l0,↓gos,gop,qA,qB,qC,qD,qE,qF,qG,qH,qI]
   refine ⟨fun _=>⟨by omega,fun h1=>?_,fun h1=>?_⟩,fun h=>absurd h (by omega)⟩
   ·have hs1:=(hq sep).1 h1
    rw [if_pos (by rw [hs1]; simp)] at p4
    refine ⟨by omega,by omega,?_⟩
    refine DS (m:=1) (l:=2) (n' := (acc++[List.take (i - fr) (List.drop fr s)]).length) (es' := (acc++[List.take (i - fr) (List.drop fr s)]).map sv) (xs:=[.str (List.take (i - fr) (List.drop fr s))]) (DR:=.tup []) rfl rfl rfl (YH acc _ (by omega)) rfl ?_
    simp only [↓gos,gop,qA,qB,qC,qD,qE,qF,qG,qH,qI]
    intro v hv
    rw [wrap_i64 (by omega) (by omega)] at hv
    have hv:v=((i+1:Nat):Int):=by omega
    subst hv
    refine ⟨by omega,fun h9 v1 hv1=>?_,fun h9 v1 hv1=>?_⟩
    ·have h92:=hq92.1 h9
     rw [wrap_i64 (by omega) (by omega)] at hv1
     have hv1:v1=((i+1:Nat):Int):=by omega
     subst hv1
     refine aQ (acc++[List.take (i - fr) (List.drop fr s)],i+1,i+1,true) rfl (by simp) ⟨rfl,rfl,rfl,rfl,rfl,rfl,rfl,trivial⟩ ⟨by first | omega | (simp only; omega),by first | omega | (simp only; omega),by simp; omega,?_⟩ (by first | omega | (simp only; omega))
     rw [← p4]
     simp [kQ,h92]
    ·have h92:=mt hq92.2 h9
     rw [wrap_i64 (by omega) (by omega)] at hv1
     have hv1:v1=((i+1:Nat):Int):=by omega
     subst hv1
     refine aQ (acc++[List.take (i - fr) (List.drop fr s)],i+1,i+1,false) rfl (by simp) ⟨rfl,rfl,rfl,rfl,rfl,rfl,rfl,trivial⟩ ⟨by first | omega | (simp only; omega),by first | omega | (simp only; omega),by simp; omega,?_⟩ (by first | omega | (simp only; omega))
     rw [← p4]
     simp [kQ,h92]
   ·have hs1:x≠sep:=mt (hq sep).2 h1
    rw [if_neg (by simp [hs1])] at p4
    refine ⟨by omega,fun h9 v1 hv1=>?_,fun h9 v1 hv1=>?_⟩
    ·have h92:=hq92.1 h9
     rw [wrap_i64 (by omega) (by omega)] at hv1
     have hv1:v1=((i+1:Nat):Int):=by omega
     subst hv1
     refine aQ (acc,fr,i+1,true) rfl (by simp) ⟨rfl,rfl,rfl,rfl,rfl,rfl,rfl,trivial⟩ ⟨by first | omega | (simp only; omega),by first | omega | (simp only; omega),by simp; omega,?_⟩ (by first | omega | (simp only; omega))
     rw [← p4]
     simp only [htn,kQ]
     simp [h92]
    ·have h92:=mt hq92.2 h9
     rw [wrap_i64 (by omega) (by omega)] at hv1
     have hv1:v1=((i+1:Nat):Int):=by omega
     subst hv1
     refine aQ (acc,fr,i+1,false) rfl (by simp) ⟨rfl,rfl,rfl,rfl,rfl,rfl,rfl,trivial⟩ ⟨by first | omega | (simp only; omega),by first | omega | (simp only; omega),by simp; omega,?_⟩ (by first | omega | (simp only; omega))
     rw [← p4]
     simp only [htn,kQ]
     simp [h92]
  ·rw [if_neg (by simp)] at p4
   simp only [f145l0,↓gos,gop,qA,qB,qC,qD,qE,qF,qG,qH,qI]
   refine ⟨fun _=>⟨by omega,fun _=>⟨by omega,fun _ v hv=>?_,fun _ v hv=>?_⟩,fun _=>⟨by omega,fun _ v hv=>?_,fun _ v hv=>?_⟩⟩,fun h=>absurd h (by omega)⟩
   all_goals
    rw [wrap_i64 (by omega) (by omega)] at hv
    have hv:v=((i+1:Nat):Int):=by omega
    subst hv
    refine aQ (acc,fr,i+1,false) rfl (by simp) ⟨rfl,rfl,rfl,rfl,rfl,rfl,rfl,trivial⟩ ⟨by first | omega | (simp only; omega),by first | omega | (simp only; omega),by first | omega | (simp only; omega),?_⟩ (by first | omega | (simp only; omega))
    rw [← p4]
    simp only [htn,kQ]
    simp
 ·have e0:i=s.length:=by omega
  subst e0
  rw [List.drop_length,aS] at p4
  have hacc:acc.length<100000000:=by omega
  cases e
  all_goals
   simp only [f145l0,↓gos,gop,qA,qB,qC,qD,qE,qF,qG,qH,qI]
   refine ⟨fun h=>absurd h (by omega),fun _=>⟨by omega,?_⟩⟩
   refine DS (m:=1) (l:=2) (n' := (acc++[List.take (s.length - fr) (List.drop fr s)]).length) (es' := (acc++[List.take (s.length - fr) (List.drop fr s)]).map sv) (xs:=[.str (List.take (s.length - fr) (List.drop fr s))]) (DR:=.tup []) rfl rfl rfl (YH acc _ (by omega)) rfl ?_
   simp only [↓gos,gop,qA,qB,qC,qD,qE,qF,qG,qH,qI]
   refine bH (WI (acc++[List.take (s.length - fr) (List.drop fr s)]) (by simp) (by simp; omega)) ?_ ?_ ?_
   ·rw [List.map_cons,List.map_nil,pZ rfl (by simp)]
   ·exact UM _ _
   ·simp only [DV.ren,aR,↓gos,gop,qA,qB,qC,qD,qE,qF,qG,qH,qI]
    exact bO rfl (by rw [p4]) (by rw [p4])
end Go.Proofs.Ut

namespace Go.Ai
end Go.Ai
namespace Go.Proofs.Ut
open Go.Ai
set_option maxRecDepth 100000
theorem id0 (i:Nat)(h:i<1):[0][i]?=some i:=by
 have:i=0:=by omega
 subst this
 rfl
def cpA (l:List (List UInt8))(i:Nat):List (List UInt8):=cpK [] l i++l.drop (cpK [] l i).length
theorem WK {l:List (List UInt8)}{i:Nat}(hi:i≤l.length):(cpA l i).length=l.length:=by
 have:=vJ (d0:=[]) l i
 simp [cpA]; omega
theorem MM {l:List (List UInt8)}{i j:Nat}(h:(cpK [] l i).length≤j):(cpA l i)[j]?=l[j]?:=by
 unfold cpA
 rw [List.getElem?_append_right h,List.getElem?_drop]
 congr 1; omega
theorem SV {l:List (List UInt8)}{i:Nat}{x:List UInt8}(hx:cpK [] l (i+1)=cpK [] l i++[x])(hi:i<l.length):(cpA l i).set (cpK [] l i).length x=cpA l (i+1):=by
 have:=vJ (d0:=[]) l i
 unfold cpA
 rw [List.set_append_right _ _ (Nat.le_refl _),Nat.sub_self,List.drop_eq_getElem_cons (by omega:(cpK [] l i).length<l.length),List.set_cons_zero,hx]
 simp
theorem sD (l:List (List UInt8))(hl:l.length<1000000000) :
  ACalls ED 156 [.arr 1 (l.map st1)] [.osl 1 0 0 l.length none] fun h d=>h=[.arr 1 ((cpK [] l l.length).map st1++List.replicate (l.length - (cpK [] l l.length).length) [.str []])]∧d=.osl 1 0 0 (cpK [] l l.length).length none:=by
 refine aA c156 (by simp [f156]) ?_
 simp only [f156,↓gos,gop,qA,qB,qC,qD,qE,qF,qG,qH,qI]
 have same:(∀ j,0<j→j<l.length→l.getD j []≠l.getD (j - 1) [])→[AObj.arr 1 ((cpK [] l l.length).map st1++List.replicate (l.length - (cpK [] l l.length).length) [.str []])]=[.arr 1 (l.map st1)]∧(cpK [] l l.length).length=l.length:=fun h=>by
  have e:cpK [] l l.length=l:=by rw [MV l _ (Nat.le_refl _) h,List.take_length]
  rw [e]; simp
 refine ⟨fun h2=>?_,fun h2=>?_⟩
 ·obtain ⟨s1,s2⟩:=same fun j h3 h4=>by omega
  refine tV [0] (by simp) (Nat.le_refl _) id0 (by simp) (by simp [rvd,DV.inL]) (by simp [inO]) rfl rfl ?_
  rw [s1,s2]
  simp [aR,rvd,DV.ren]
 ·refine aM (γ:=Nat) (fun k=>[(3,.int .i64 k),(0,.osl 1 0 0 l.length none)]) (fun k=>[.arr 1 (l.map st1),.arr 1 []]) (fun k=>1≤k∧k≤l.length∧∀ j,0<j→j<k→l.getD j []≠l.getD (j - 1) []) (fun k=>l.length - k) 1
   (wks rfl (by simp) ⟨rfl,rfl,trivial⟩) ⟨by omega,by omega,fun j h3 h4=>by omega⟩ fun k hk=>?_
  obtain ⟨hk1,hk2,hk3⟩:=hk
  simp only [f156l1,↓gos,gop,qA,qB,qC,qD,qE,qF,qG,qH,qI]
  refine ⟨fun h3=>?_,fun h3=>?_⟩
  ·have h3' : k<l.length:=by omega
   have w1:IntKind.i64.wrap ((k:Int) - 1)=((k - 1:Nat):Int):=by rw [wrap_i64 (by omega) (by omega)]; omega
   have w2:IntKind.i64.wrap ((k:Int)+1)=((k+1:Nat):Int):=by rw [wrap_i64 (by omega) (by omega)]; rfl
   have e2:((k - 1:Nat):Int)<(l.length:Int):=by omega
   obtain ⟨x,hx⟩:∃ x,l[k]?=some x:=⟨_,List.getElem?_eq_getElem (by omega)⟩
   obtain ⟨y,hy⟩:∃ y,l[k - 1]?=some y:=⟨_,List.getElem?_eq_getElem (by omega)⟩
   have gx:l.getD k []=x:=by rw [List.getD_eq_getElem?_getD,hx]; rfl
   have gy:l.getD (k - 1) []=y:=by rw [List.getD_eq_getElem?_getD,hy]; rfl
   simp only [w1,forall_eq,h3,e2,hx,hy,st1,↓gos,gop,qA,qB,qC,qD,qE,qF,qG,qH,qI]
   refine ⟨fun q=>?_,fun q=>?_⟩
   ·subst q
    have hdup:cpK [] l (k+1)=cpK [] l k:=by
     conv=>lhs; unfold cpK
     rw [if_pos ⟨by omega,by rw [gx,gy]⟩]
    have hid:cpK [] l k=l.take k:=MV l k (by omega) hk3
    have hlen:(cpK [] l (k+1)).length=k:=by rw [hdup,hid]; simp; omega
    have hA1:cpA l (k+1)=l:=by unfold cpA; rw [hlen,hdup,hid]; simp
    refine aO (by omega) ?_
    refine aM (γ:=Nat) (fun q=>[(5,.int .i64 q),(4,.osl 1 0 k (l.length - k) none),(3,.int .i64 (cpK [] l (k+q)).length),(0,.osl 1 0 0 l.length none)]) (fun q=>[.arr 1 ((cpA l (k+q)).map st1),.arr 1 []])
     (fun q=>1≤q∧k+q≤l.length∧(cpK [] l (k+q)).length+1≤k+q) (fun q=>l.length - q) 1
     (wks (by rw [hA1]) (by simp) ⟨rfl,rfl,by rw [hlen]; rfl,rfl,trivial⟩) ⟨by omega,by omega,by omega⟩ fun q hq=>?_
    obtain ⟨hq1,hq2,hq3⟩:=hq
    have hAl:=WK hq2
    simp only [f156l0,↓gos,gop,qA,qB,qC,qD,qE,qF,qG,qH,qI]
    refine ⟨fun h4=>?_,fun h4=>?_⟩
    ·have h4' : k+q<l.length:=by omega
     have w3:IntKind.i64.wrap ((q:Int) - 1)=((q - 1:Nat):Int):=by rw [wrap_i64 (by omega) (by omega)]; omega
     have w4:IntKind.i64.wrap ((q:Int)+1)=((q+1:Nat):Int):=by rw [wrap_i64 (by omega) (by omega)]; rfl
     have w5:IntKind.i64.wrap (((cpK [] l (k+q)).length:Int)+1)=(((cpK [] l (k+q)).length+1:Nat):Int):=by rw [wrap_i64 (by omega) (by omega)]; rfl
     have e3:((q - 1:Nat):Int)<((l.length - k:Nat):Int):=by omega
     have e4:((cpK [] l (k+q)).length:Int)<(l.length:Int):=by omega
     obtain ⟨u,hu⟩:∃ u,l[k+q]?=some u:=⟨_,List.getElem?_eq_getElem h4'⟩
     obtain ⟨v,hv⟩:∃ v,l[k+(q - 1)]?=some v:=⟨_,List.getElem?_eq_getElem (by omega)⟩
     have gu:l.getD (k+q) []=u:=by rw [List.getD_eq_getElem?_getD,hu]; rfl
     have gv:l.getD (k+q - 1) []=v:=by rw [List.getD_eq_getElem?_getD,show k+q - 1=k+(q - 1) by omega,hv]; rfl
     have hu' : (cpA l (k+q))[k+q]?=some u:=by rw [MM (by omega),hu]
     have hv' : (cpA l (k+q))[k+(q - 1)]?=some v:=by rw [MM (by omega),hv]
     simp only [w3,w4,forall_eq,h4,e3,hu',hv',st1,↓gos,gop,qA,qB,qC,qD,qE,qF,qG,qH,qI]
     refine ⟨fun r=>?_,fun r=>?_⟩
     ·have hnx:cpK [] l (k+q+1)=cpK [] l (k+q)++[u]:=by
       conv=>lhs; unfold cpK
       rw [if_neg (fun z=>r (by rw [← gu,← gv]; exact z.2)),gu]
      have hset:=SV hnx h4'
      refine aO (by omega) (aU [] (by omega) ?_)
      refine aQ (q+1) ?_ (by simp) ⟨rfl,rfl,?_,rfl,trivial⟩ ⟨by omega,by omega,?_⟩ (by omega)
      ·rw [show k+(q+1)=k+q+1 from rfl,← hset,List.map_set]; rfl
      ·show DV.int .i64 _=DV.int .i64 _
       rw [w5,show k+(q+1)=k+q+1 from rfl,hnx]; simp
      ·rw [show k+(q+1)=k+q+1 from rfl,hnx]; simp; omega
     ·subst r
      have hnx:cpK [] l (k+(q+1))=cpK [] l (k+q):=by
       rw [show k+(q+1)=k+q+1 from rfl]
       conv=>lhs; unfold cpK
       rw [if_pos ⟨by omega,by rw [gu,gv]⟩]
      refine aQ (q+1) ?_ (by simp) ⟨rfl,rfl,?_,rfl,trivial⟩ ⟨by omega,by omega,by rw [hnx]; omega⟩ (by omega)
      ·unfold cpA; rw [hnx]
      ·rw [hnx]; rfl
    ·have hq:k+q=l.length:=by omega
     rw [hq] at hq3 hAl
     simp only [hq]
     have hm:=vJ (d0:=[]) l l.length
     have htk:((cpA l l.length).map st1).take (cpK [] l l.length).length=(cpK [] l l.length).map st1:=by
      unfold cpA; simp
     refine aO (by omega) (XH (E:=ED) rfl (by simp; omega) ?_)
     have hdr:List.drop ((cpK [] l l.length).length+(l.length - (cpK [] l l.length).length)) ((cpA l l.length).map st1)=[]:=List.drop_eq_nil_of_le (by simp; omega)
     rw [htk,hdr]
     simp only [↓gos,gop,qA,qB,qC,qD,qE,qF,qG,qH,qI]
     refine aO (by omega) ?_
     exact tV [0] (by simp) (Nat.le_refl _) id0 (by simp) (by simp [rvd,DV.inL]) (by simp [inO]) rfl rfl ⟨by simp [aR],by simp [rvd,DV.ren]⟩
   ·rw [w2]
    refine aQ (k+1) rfl (by simp) ⟨rfl,rfl,trivial⟩ ⟨by omega,by omega,fun j h4 h5=>?_⟩ (by omega)
    rcases Nat.lt_or_ge j k with h6|h6
    ·exact hk3 j h4 h6
    ·obtain rfl:j=k:=by omega
     rw [gx,gy]; exact q
  ·obtain rfl:k=l.length:=by omega
   obtain ⟨s1,s2⟩:=same hk3
   refine tV [0] (by simp) (Nat.le_refl _) id0 (by simp) (by simp [rvd,DV.inL]) (by simp [inO]) rfl rfl ?_
   rw [s1,s2]
   simp [aR,rvd,DV.ren]
end Go.Proofs.Ut
