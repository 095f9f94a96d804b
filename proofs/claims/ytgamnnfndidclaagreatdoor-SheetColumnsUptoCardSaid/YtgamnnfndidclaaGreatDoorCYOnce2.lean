/- sheet.one: the contact of a row. -/
import Derived.Test.YtgamnnfndidclaaGreatDoorCYP
import Derived.Shelf.Strings.Builder2
import Derived.Test.YtgamnnfndidclaaGreatDoorCAiBld
import Derived.Test.YtgamnnfndidclaaGreatDoorProg
import Derived.Tactics
import Derived.Tactics2
import Derived.Defers
import Derived.Laws.Pointers
import Derived.Laws.LoneSync
import Derived.RegionTactic
import Derived.RegionCalls
import Derived.ChangeAlike
import Derived.KernelRfl
open Nat renaming reduceBEq → qA,reduceAdd → qB,reduceSub → qC,reduceLeDiff → qD,reduceMul → qE
open Int renaming reduceLE → qF,reduceLT → qG,reduceNe → qH,reduceToNat → qI
set_option linter.all false
namespace Go.Proofs.Ut
open Go.Ai
set_option maxRecDepth 100000
def tf (k:Nat):Nat:=match k with | 4=>94 | 9=>100 | _=>143
def tc (k:Nat):List DV:=match k with
 | 0=>[.eptr [.fn 90 []] 0] | 1=>[.eptr [.fn 91 []] 0] | 2=>[.eptr [.fn 92 []] 0] | 3=>[.eptr [.fn 93 []] 0] | 5=>[.eptr [.fn 96 []] 0] | 6=>[.eptr [.fn 97 []] 0] | 7=>[.eptr [.fn 98 []] 0] | 8=>[.eptr [.fn 99 []] 0] | _=>[]
def uf (k:Nat):Nat:=match k with | 4=>95 | 9=>101 | _=>144
def tU (k:Nat):List DV:=[.str (COLS.getD k []),.fn (tf k) (tc k),.fn (uf k) (tc k)]
theorem ten {p:Nat→Prop}(h0:p 0)(h1:p 1)(h2:p 2)(h3:p 3)(h4:p 4)(h5:p 5)(h6:p 6)(h7:p 7)(h8:p 8)(h9:p 9):∀ k,k<10→p k
 | 0,_=>h0 | 1,_=>h1 | 2,_=>h2 | 3,_=>h3 | 4,_=>h4 | 5,_=>h5 | 6,_=>h6 | 7,_=>h7 | 8,_=>h8 | 9,_=>h9
 | k+10,h=>by omega
theorem yT:∀ k,k<10→wL[k]?=some (tU k):=ten rfl rfl rfl rfl rfl rfl rfl rfl rfl rfl
theorem mJ:∀ k,k<10→(tc k).all DV.closed=true:=ten rfl rfl rfl rfl rfl rfl rfl rfl rfl rfl
def TA (k:Nat)(c:CT)(s:List UInt8):CT×Int:=match k with
 | 0=>({ c with name:=s },0) | 1=>({ c with family:=s },0) | 2=>({ c with given:=s },0) | 3=>({ c with nick:=s },0) | 4=>NZ c s
 | 5=>({ c with email:=s },0) | 6=>({ c with tel:=s },0) | 7=>({ c with note:=s },0) | 8=>({ c with uid:=s },0) | 9=>kG c s | _=>(c,0)
theorem aCG (c:CT)(s:List UInt8)(hs:s.length<100000000):∀ k,k<10→(k=9→(bK 59 false [] s).length<20)→Tk (tf k) c (.str s::tc k) (TA k c s).1 (TA k c s).2:=
 ten (fun _=>aKM c s) (fun _=>aKL c s) (fun _=>aLj c s) (fun _=>aKy c s) (fun _=>aKD c s hs) (fun _=>aKr c s) (fun _=>aKZ c s) (fun _=>aKJ c s) (fun _=>aLg c s) (fun h=>aKQ c s hs (h rfl))
def C0:CT:=⟨[],[],[],[],[],[],[],[],[],[],[]⟩
def eY (names row:List (List UInt8)):Nat→CT×Int
 | 0=>(C0,0)
 | k+1=>if (eY names row k).2=0 then (if names.contains (COLS.getD k [])=true then TA k (eY names row k).1 (row.getD (names.idxOf (COLS.getD k [])) []) else eY names row k) else eY names row k
theorem BH {names row:List (List UInt8)}{k:Nat}(h:(eY names row k).2≠0):∀ n,eY names row (k+n)=eY names row k
 | 0=>rfl
 | n+1=>by
  rw [show k+(n+1)=(k+n)+1 from rfl,eY,BH h n,if_neg h]
def sC (names row:List (List UInt8)):CT×Int:=
 if row.length=names.length then (if (eY names row 10).2=0 then (if dC (eY names row 10).1=true then ((eY names row 10).1,0) else ((eY names row 10).1,12)) else eY names row 10) else (C0,12)
theorem aIY (names row:List (List UInt8))(hl:names.length<1000000000)(hrl:row.length<1000000000)(hw:∀ s∈row,s.length<100000000)(h20:(bK 59 false [] (row.getD (names.idxOf jX) [])).length<20)(hok:okS (eY names row 10).1) :
  aU 42 [.sl 1 (names.map sv),.sl 1 (row.map sv)] (.tup [.agg (ctv (sC names row).1),.int .i64 (sC names row).2]):=by
 refine bB c42 (by simp [f42]) ?_
 simp only [f42,aE,aC,↓gos,gop,qA,qB,qC,qD,qE,qF,qG,qH,qI]
 unfold sC
 refine ⟨fun h=>?_,fun h=>?_⟩
 ·rw [if_neg (by omega)]
  exact bH [6,7] rfl rfl ⟨rfl,rfl⟩
 ·rw [if_pos (by omega)]
  have hlen:row.length=names.length:=by omega
  refine gM [0,1,3,4,6,7] rfl ?_
  simp only [aE,aC,↓gos,gop,qA,qB,qC,qD,qE,qF,qG,qH,qI]
  refine aV lY rfl rfl ?_
  simp only [aE,aC,↓gos,gop,qA,qB,qC,qD,qE,qF,qG,qH,qI]
  refine aJ (γ:=Nat) (fun i=>[(20,.int .i64 i),(19,.int .i64 10),(18,.sl 3 wL),(6,.ptr 5 0),(5,.int .i64 0),(4,.ptr 2 0),(0,.sl 1 (names.map sv)),(1,.sl 1 (row.map sv))])
   (fun i=>[.dead,.dead,.box (ctv C0),.dead,.dead,.box (ctv (eY names row i).1),.dead,.dead]) (fun i=>i≤10∧(eY names row i).2=0) (fun i=>10 - i) 0
   (wks rfl (by simp) ⟨rfl,rfl,rfl,rfl,rfl,rfl,rfl,rfl,trivial⟩) ⟨by omega,rfl⟩ fun i hi=>?_
  obtain ⟨hi,hz⟩:=hi
  simp only [f42l0,aE,aC,↓gos,gop,qA,qB,qC,qD,qE,qF,qG,qH,qI]
  refine ⟨fun h=>?_,fun h=>?_⟩
  ·have h10:i<10:=by omega
   have hnx:eY names row (i+1)=if names.contains (COLS.getD i [])=true then TA i (eY names row i).1 (row.getD (names.idxOf (COLS.getD i [])) []) else eY names row i:=by
    rw [eY,if_pos hz]
   have w1:IntKind.i64.wrap ((i:Int)+1)=((i+1:Nat):Int):=by rw [wrap_i64 (by omega) (by omega)]; rfl
   have hcol:=yT i h10
   simp only [hcol,tU,aE,aC,↓gos,gop,qA,qB,qC,qD,qE,qF,qG,qH,qI]
   refine aB (KM names (COLS.getD i []) hl) rfl rfl ?_
   unfold NK
   by_cases hc:names.contains (COLS.getD i [])=true
   ·rw [if_pos hc] at hnx ⊢
    have hlt:names.idxOf (COLS.getD i [])<row.length:=by rw [hlen]; exact List.idxOf_lt_length_of_mem (by simpa using hc)
    have hm:row.getD (names.idxOf (COLS.getD i [])) []∈row:=by rw [List.getD_eq_getElem?_getD,List.getElem?_eq_getElem hlt]; exact List.getElem_mem hlt
    have h20' : i=9→(bK 59 false [] (row.getD (names.idxOf (COLS.getD i [])) [])).length<20:=fun e=>by subst e; exact h20
    have hx:row[names.idxOf (COLS.getD i [])]?=some (row.getD (names.idxOf (COLS.getD i [])) []):=by
     rw [List.getD_eq_getElem?_getD (l:=row),List.getElem?_eq_getElem hlt]; rfl
    generalize row.getD (names.idxOf (COLS.getD i [])) []=x at *
    generalize names.idxOf (COLS.getD i [])=j at *
    simp only [hx,sv,aE,aC,↓gos,gop,qA,qB,qC,qD,qE,qF,qG,qH,qI]
    refine eU (i:=5) rfl (iH _) (iH _) rfl (by rw [List.all_cons,mJ i h10]; rfl) (aCG (eY names row i).1 x (hw x hm) i h10 h20') ?_
    rw [← hnx]
    by_cases he:(eY names row (i+1)).2=0
    ·simp only [he,w1,forall_eq,aE,aC,↓gos,gop,qA,qB,qC,qD,qE,qF,qG,qH,qI]
     refine cI 8 (i+1) rfl (by simp) ⟨rfl,rfl,rfl,rfl,rfl,rfl,rfl,rfl,rfl,rfl,rfl,rfl,rfl,rfl,rfl,rfl,trivial⟩ rfl ⟨by omega,he⟩ (by omega)
    ·have hfin:eY names row 10=eY names row (i+1):=by
      have:=BH (k:=i+1) he (9 - i)
      rwa [show i+1+(9 - i)=10 by omega] at this
     rw [hfin,if_neg he]
     simp only [he,aE,aC,ctv,↓gos,gop,qA,qB,qC,qD,qE,qF,qG,qH,qI]
     exact bH [] rfl rfl ⟨rfl,rfl⟩
   ·rw [if_neg hc] at hnx ⊢
    simp only [w1,forall_eq,aE,aC,↓gos,gop,qA,qB,qC,qD,qE,qF,qG,qH,qI]
    refine cI 8 (i+1) (by rw [hnx]; rfl) (by simp) ⟨rfl,rfl,rfl,rfl,rfl,rfl,rfl,rfl,rfl,rfl,rfl,rfl,rfl,rfl,rfl,rfl,trivial⟩ rfl ⟨by omega,by rw [hnx]; exact hz⟩ (by omega)
  ·have h10:i=10:=by omega
   subst h10
   rw [if_pos hz]
   have htk:∀ c:CT,(ctv c).take 11=ctv c:=fun _=>rfl
   refine aK (by simp [ctv]) ?_
   rw [htk]
   refine aB (KL _ hok) rfl rfl ?_
   cases hr:dC (eY names row 10).1
   ·simp only [ctv,aE,aC,Bool.false_eq_true,reduceIte,↓gos,gop,qA,qB,qC,qD,qE,qF,qG,qH,qI]
    exact bH [] rfl rfl ⟨rfl,rfl⟩
   ·simp only [ctv,aE,aC,reduceIte,↓gos,gop,qA,qB,qC,qD,qE,qF,qG,qH,qI]
    exact bH [] rfl rfl ⟨rfl,rfl⟩
def rwv (r:List (List UInt8)):List DV:=[.sl 1 (r.map sv)]
def cP (names:List (List UInt8))(tl:List (List (List UInt8))):Nat→List CT×Int×Int
 | 0=>([],0,0)
 | i+1=>if (cP names tl i).2.2=0 then (if (sC names (tl.getD i [])).2=0 then ((cP names tl i).1++[(sC names (tl.getD i [])).1],0,0) else ([],((i+1:Nat):Int),(sC names (tl.getD i [])).2)) else cP names tl i
theorem xF {names:List (List UInt8)}{tl:List (List (List UInt8))}{k:Nat}(h:(cP names tl k).2.2≠0):∀ n,cP names tl (k+n)=cP names tl k
 | 0=>rfl
 | n+1=>by
  rw [show k+(n+1)=(k+n)+1 from rfl,cP,xF h n,if_neg h]
def tR (rows:List (List (List UInt8))):List CT×Int×Int:=match rows with
 | []=>([],0,0)
 | r::tl=>if (fC r).2=true then (if tl.length≤60 then cP (fC r).1 tl tl.length else ([],0,4)) else ([],0,21)
structure okRow (names row:List (List UInt8)):Prop where
 hrl:row.length<1000000000
 hw:∀ s∈row,s.length<100000000
 h20:(bK 59 false [] (row.getD (names.idxOf jX) [])).length<20
 hok:okS (eY names row 10).1
def zQ (rows:List (List (List UInt8))):Prop:=match rows with
 | []=>True
 | r::tl=>r.length<1000000000∧(∀ s∈r,s.length<100000000)∧((fC r).2=true→∀ row∈tl,okRow (fC r).1 row)
theorem QI (rows:List (List (List UInt8)))(hn:rows.length<1000000000)(hok:zQ rows) :
  aU 14 [.sl 1 (rows.map rwv)] (.tup [.sl 11 ((tR rows).1.map ctv),.int .i64 (tR rows).2.1,.int .i64 (tR rows).2.2]):=by
 refine bB c14 (by simp [f14]) ?_
 simp only [f14,aE,aC,↓gos,gop,qA,qB,qC,qD,qE,qF,qG,qH,qI]
 cases rows with
 | nil=>
  simp only [aE,aC,↓gos,gop,qA,qB,qC,qD,qE,qF,qG,qH,qI]
  exact bH [1] rfl rfl ⟨rfl,rfl⟩
 | cons r tl=>
  obtain ⟨hr1,hr2,hr3⟩:=hok
  have hR:tR (r::tl)=if (fC r).2=true then (if tl.length≤60 then cP (fC r).1 tl tl.length else ([],0,4)) else ([],0,21):=rfl
  rw [hR]
  simp only [List.length_cons] at hn
  simp only [rwv,aE,aC,↓gos,gop,qA,qB,qC,qD,qE,qF,qG,qH,qI]
  refine aV (UM r hr1 hr2) rfl rfl ?_
  cases hh:(fC r).2
  ·simp only [Bool.false_eq_true,reduceIte,aE,aC,↓gos,gop,qA,qB,qC,qD,qE,qF,qG,qH,qI]
   exact bH [1] rfl rfl ⟨rfl,rfl⟩
  ·have hr3:=hr3 hh
   have w0:IntKind.i64.wrap (((tl.length+1:Nat):Int) - 1)=(tl.length:Int):=by rw [wrap_i64 (by omega) (by omega)]; omega
   simp only [w0,forall_eq,reduceIte,aE,aC,↓gos,gop,qA,qB,qC,qD,qE,qF,qG,qH,qI]
   refine ⟨fun h=>?_,fun h=>?_⟩
   ·rw [if_neg (by omega)]
    exact bH [1] rfl rfl ⟨rfl,rfl⟩
   ·rw [if_pos (by omega)]
    have hnl:(fC r).1.length≤r.length:=by unfold fC; split <;> simp
    generalize (fC r).1=names at *
    have htk:List.take (tl.length+1 - 1) (tl.map rwv)=tl.map rwv:=List.take_of_length_le (by simp)
    rw [htk]
    refine aK (by omega) ?_
    refine aJ (γ:=Nat) (fun i=>[(33,.int .i64 i),(32,.int .i64 tl.length),(31,.sl 1 (tl.map rwv)),(7,.osl 11 1 0 i none),(5,.sl 1 (names.map sv))])
     (fun i=>[.arr 11 [],.arr 11 ((cP names tl i).1.map ctv)]) (fun i=>i≤tl.length∧(cP names tl i).2=(0,0)∧(cP names tl i).1.length=i) (fun i=>tl.length - i) 0
     (wks rfl (by simp) ⟨rfl,by simp [slots],rfl,rfl,rfl,trivial⟩) ⟨by omega,rfl,rfl⟩ fun i hi=>?_
    obtain ⟨hi,hz,hil⟩:=hi
    simp only [f14l0,aE,aC,↓gos,gop,qA,qB,qC,qD,qE,qF,qG,qH,qI]
    refine ⟨fun h5=>?_,fun h5=>?_⟩
    ·have h2:i<tl.length:=by omega
     refine aL [] h2 ?_
     have hm:tl.getD i []∈tl:=by rw [List.getD_eq_getElem?_getD,List.getElem?_eq_getElem h2]; exact List.getElem_mem h2
     have hok:=hr3 _ hm
     have hnx:cP names tl (i+1)=if (sC names (tl.getD i [])).2=0 then ((cP names tl i).1++[(sC names (tl.getD i [])).1],0,0) else ([],((i+1:Nat):Int),(sC names (tl.getD i [])).2):=by
      rw [cP,if_pos (by rw [hz])]
     have w1:IntKind.i64.wrap ((i:Int)+1)=((i+1:Nat):Int):=by rw [wrap_i64 (by omega) (by omega)]; rfl
     generalize tl.getD i []=row at *
     simp only [rwv,aE,aC,↓gos,gop,qA,qB,qC,qD,qE,qF,qG,qH,qI]
     refine aV (aIY names row (by omega) hok.hrl hok.hw hok.h20 hok.hok) rfl rfl ?_
     generalize sC names row=o at *
     obtain ⟨c,e⟩:=o
     simp only at hnx
     simp only [ctv,w1,forall_eq,aE,aC,↓gos,gop,qA,qB,qC,qD,qE,qF,qG,qH,qI]
     refine ⟨fun he=>?_,fun he=>?_⟩
     ·rw [if_neg he] at hnx
      have hfin:cP names tl tl.length=cP names tl (i+1):=by
       have:=xF (k:=i+1) (by rw [hnx]; exact he) (tl.length - (i+1))
       rwa [show i+1+(tl.length - (i+1))=tl.length by omega] at this
      rw [hfin,hnx]
      exact bH [5] rfl rfl ⟨rfl,rfl⟩
     ·subst he
      rw [if_pos rfl] at hnx
      refine aK (by omega) (aK (by omega) (aK (by omega) ?_))
      refine cI 2 (i+1) ?_ (by simp) ⟨rfl,rfl,rfl,rfl,rfl,rfl,rfl,rfl,rfl,rfl,trivial⟩ (by rw [hnx]; rfl) ⟨by omega,by rw [hnx],by rw [hnx]; simp [hil]⟩ (by omega)
      have ht2:List.take i (List.map ctv (cP names tl i).1)=List.map ctv (cP names tl i).1:=List.take_of_length_le (by simp [hil])
      rw [hnx,ht2]
      simp only [List.map_append]
      rfl
    ·have h2:i=tl.length:=by omega
     subst h2
     rw [hz]
     have e:cJ [1] [.arr 11 [],.arr 11 ((cP names tl tl.length).1.map ctv)] (.osl 11 1 0 tl.length none)=.sl 11 ((cP names tl tl.length).1.map ctv):=
      sU (F:=[1]) (h:=[.arr 11 [],.arr 11 ((cP names tl tl.length).1.map ctv)]) (sz:=11) (i:=1) (n:=tl.length) (c:=none) rfl (by simp [hil]) rfl
     refine bH [1] (D:=.tup [.sl 11 ((cP names tl tl.length).1.map ctv),.int .i64 0,.int .i64 0]) ?_ rfl ⟨rfl,rfl⟩
     show DV.tup [cJ _ _ _,_,_]=_
     rw [e]; rfl
end Go.Proofs.Ut

namespace Go.Ai
open Go.Proofs Go.Shelf Go.RowKit
variable {P:Program} {ρ:Ren}

theorem Beside.trans {a b c:World}{x:Nat}(h:Beside a b x none)(k:Beside b c x none):Beside a c x none:=
 ⟨k.os.trans h.os,k.tape.trans h.tape,k.output.trans h.output,Nat.le_trans h.size k.size,fun i hi hx hr=>(k.block i (Nat.lt_of_lt_of_le hi h.size) hx hr).trans (h.block i hi hx hr),fun i hi=>(k.shape i (Nat.lt_of_lt_of_le hi h.size)).trans (h.shape i hi)⟩
theorem Beside.drew {w w' : World}{x:Nat}{r:Option Nat}(h:Beside w w' x r):Beside w w'.drew x r:=⟨h.os,h.tape,h.output,h.size,h.block,h.shape⟩
theorem Hd.drew {w:World}{b T:Nat}{p v:Value}{fz:Nat×Nat}(h:Hd w b T p v fz):Hd w.drew b T p v fz:=h

def xJ (w w' : World)(b:Nat)(T e:Nat)(fz:Nat×Nat):Prop:=
 ∃ v',Hd w' b T (.pointer (some ⟨b,0,none⟩)) v' fz∧w'.ownsRow 0 e 1 v' 0 []∧Beside w w' b none∧(∀ g,v'.ownBlock=some g→w.heap.size≤g)∧mM v'

theorem MH {w:World}{b T e:Nat}{fz:Nat×Nat}{cs:Array Value}(h:Hd w b T (.pointer (some ⟨b,0,none⟩)) (.slice none 0 0) fz)(hm:cs.size≤maxLen)(h0:0<cs.size) :
  xJ w ((w.alloc (.cells cs e)).setCell ⟨b,1,none⟩ (.slice (some ⟨w.heap.size,0,none⟩) 0 cs.size)) b T e fz:=by
 have hlt:=h.lt
 have hb2:(w.alloc (.cells cs e)).heap[b]?=some (.cells #[.pointer (some ⟨b,0,none⟩),.slice none 0 0] T fz):=(Lib.alloc_old w _ b hlt).trans h.1
 have hb3:((w.alloc (.cells cs e)).setCell ⟨b,1,none⟩ (.slice (some ⟨w.heap.size,0,none⟩) 0 cs.size)).heap[b]?=some (.cells #[.pointer (some ⟨b,0,none⟩),.slice (some ⟨w.heap.size,0,none⟩) 0 cs.size] T fz):=by
  unfold World.setCell
  simp only [Array.getElem?_modify,if_true,hb2,Option.map_some]
  rfl
 have ho:∀ k,k≠b→((w.alloc (.cells cs e)).setCell ⟨b,1,none⟩ (.slice (some ⟨w.heap.size,0,none⟩) 0 cs.size)).heap[k]?=(w.alloc (.cells cs e)).heap[k]?:=fun k hk=>Below.heap_setCell _ _ _ _ hk
 have hg:((w.alloc (.cells cs e)).setCell ⟨b,1,none⟩ (.slice (some ⟨w.heap.size,0,none⟩) 0 cs.size)).heap[w.heap.size]?=some (.cells cs e (0,0)):=by
  rw [ho _ (by omega)]; exact cX w _
 refine ⟨.slice (some ⟨w.heap.size,0,none⟩) 0 cs.size,⟨hb3,h.2.1,.inr rfl⟩,⟨rfl,.inr ⟨w.heap.size,cs.size,cs,rfl,Nat.zero_le _,hg,Nat.zero_le _,hm,by simp,by simp⟩⟩,⟨rfl,rfl,rfl,?_,fun k hk hkb _=>?_,fun k hk=>?_⟩,fun g hq=>?_,fun a m c hv=>?_⟩
 ·simp [World.setCell]
 ·rw [ho k hkb]; exact Lib.alloc_old w _ k hk
 ·by_cases hkb:k=b
  ·subst hkb
   rw [bI hb3,bI h.1]; rfl
  ·exact iL ((ho k hkb).trans (Lib.alloc_old w _ k hk))
 ·simp [Value.ownBlock] at hq; omega
 ·simp at hv; omega

set_option maxHeartbeats 2000000 in
set_option maxRecDepth 1000000 in
theorem YG (L:Lays.n241 P ρ)(X:Builder.Extra P ρ){b:Nat}{fz:Nat×Nat}{w:World}(h:Hd w b (ρ.t 72) (.pointer (some ⟨b,0,none⟩)) (.slice none 0 0) fz)(n:Nat)(h0:0<n)(hn:n≤281474976710656) :
  Calls P (ρ.f 241) #[.pointer (some ⟨b,0,none⟩),.int .i64 n] w fun e w' => e=.returned (.tuple #[])∧xJ w w' b (ρ.t 72) (ρ.t 5) fz:=by
 obtain ⟨cs,hrun,hle,hmax⟩:=Lib.run_makeNoZero (P:=P) w.drew #[(ρ.t 3)] (ρ.t 37) (ρ.t 5) L.t37 n hn
 have hlt:=h.lt
 have ha:(w.alloc (.cells cs (ρ.t 5))).heap[b]?=some (.cells #[.pointer (some ⟨b,0,none⟩),.slice none 0 0] (ρ.t 72) fz):=(Lib.alloc_old w _ b hlt).trans h.1
 have hcall:(callFunc (ρ.f 277) #[.int .i64 (IntKind.i64.wrap (IntKind.i64.wrap 0+(n:Int)))]).run P w.drew=.ok (.value (.slice (some ⟨w.drew.heap.size,0,none⟩) n cs.size)) (w.drew.drew.drew.alloc (.cells cs (ρ.t 5))):=by
  have hw:IntKind.i64.wrap (IntKind.i64.wrap 0+(n:Int))=n:=by
   rw [IntKind.wrap_i64,IntKind.wrap_i64]; omega
  rw [hw,run_callFunc_extern L.f277 (by kernel_rfl) (by kernel_rfl) (by kernel_rfl) (e:=Extern.BytealgMakeNoZero.makeNoZero #[(ρ.t 3)] #[(ρ.t 37)]) (by kernel_rfl),hrun]
  rfl
 have c1:w.drew.cell? ⟨b,1,none⟩=some (.slice none 0 0):=by
  have:w.drew.heap[b]?=_:=h.1
  rw [Lib.cell_of_heap this]; rfl
 have c2:(w.alloc (.cells cs (ρ.t 5))).cell? ⟨b,1,none⟩=some (.slice none 0 0):=by rw [Lib.cell_of_heap ha]; rfl
 have f2:(w.alloc (.cells cs (ρ.t 5))).frozen? ⟨b,1,none⟩=false:=by
  have:=h.2.1 1 (by omega)
  simp only [World.frozen?,ha]
  exact this
 have hcopy:∀ W:World,(Builtin.copy_ #[(ρ.t 37),(ρ.t 37)] (ρ.t 3) #[.slice (some ⟨w.heap.size,0,none⟩) 0 cs.size,.slice none 0 0]).run P W=.ok (goInt 0) W:=
  fun W=>run_copy_none W (ρ.t 37) (ρ.t 37) (ρ.t 3) (ρ.t 5) _ _ 0 cs.size 0 0 L.t37 X.sizeByte rfl
 have hfin:∀ w',w' = ((w.alloc (.cells cs (ρ.t 5))).setCell ⟨b,1,none⟩ (.slice (some ⟨w.heap.size,0,none⟩) 0 cs.size)).drew.drew.drew→xJ w w' b (ρ.t 72) (ρ.t 5) fz:=fun w' e=>by
  obtain ⟨v',g1,g2,g3,g4,g5⟩:=MH (e:=ρ.t 5) h (hmax (by unfold maxLen; omega)) (Nat.lt_of_lt_of_le h0 hle)
  subst e
  exact ⟨v',g1,g2,g3.drew.drew.drew,g4,g5⟩
 have mixed:=L.mixed
 have t72:=L.t72; have a72:=L.a72; have z72:=L.z72; have v72:=L.v72; have u72:=run_underlying L.t72
 have t70:=L.t70; have a70:=L.a70; have z70:=L.z70; have v70:=L.v70; have u70:=run_underlying L.t70
 have t37:=L.t37; have a37:=L.a37; have z37:=L.z37; have v37:=L.v37; have u37:=run_underlying L.t37
 have t3:=L.t3; have a3:=L.a3; have z3:=L.z3; have v3:=L.v3; have u3:=run_underlying L.t3
 have t5:=X.t5; have a5:=X.a5; have z5:=X.z5; have v5:=X.v5; have u5:=run_underlying X.t5
 clear hlt ha h
 go_enter L.f241,Body.n241_ntmps ρ
 go_wp2
 go_region_o
 all_goals (go_wp2; go_end0; exact ⟨rfl,hfin _ rfl⟩)
end Go.Ai

namespace Go.Ai
open Go.Proofs Go.Shelf Go.RowKit
variable {P:Program} {ρ:Ren}

set_option maxHeartbeats 2000000 in
set_option maxRecDepth 1000000 in
theorem OQ (L:Lays.n165 P ρ)(X:Builder.Extra P ρ){b:Nat}{p:Value}{fz:Nat×Nat}{w:World}(h:Hd w b (ρ.t 72) p (.slice none 0 0) fz)(n:Nat)(h0:0<n)(hn:n≤281474976710656) :
  Calls P (ρ.f 165) #[.pointer (some ⟨b,0,none⟩),.int .i64 n] w fun e w' => e=.returned (.tuple #[])∧xJ w w' b (ρ.t 72) (ρ.t 5) fz:=by
 have mixed:=L.mixed
 have t72:=L.t72; have a72:=L.a72; have z72:=L.z72; have v72:=L.v72; have u72:=run_underlying L.t72
 have t70:=L.t70; have a70:=L.a70; have z70:=L.z70; have v70:=L.v70; have u70:=run_underlying L.t70
 have t37:=L.t37; have a37:=L.a37; have z37:=L.z37; have v37:=L.v37; have u37:=run_underlying L.t37
 have t3:=L.t3; have a3:=L.a3; have z3:=L.z3; have v3:=L.v3; have u3:=run_underlying L.t3
 have t9:=L.t9; have a9:=L.a9; have z9:=L.z9; have v9:=L.v9; have u9:=run_underlying L.t9
 have t4:=L.t4; have a4:=L.a4; have z4:=L.z4; have v4:=L.v4; have u4:=run_underlying L.t4
 have t164:=L.t164; have a164:=L.a164; have z164:=L.z164; have v164:=L.v164; have u164:=run_underlying L.t164
 have t5:=X.t5; have a5:=X.a5; have z5:=X.z5; have v5:=X.v5; have u5:=run_underlying X.t5
 have e240:∀ args w,(callFunc (ρ.f 240) args).run P w=.ok (.enter (ρ.f 240) args) w:=enters_of L.f240 (by kernel_rfl) rfl
 have e241:∀ args w,(callFunc (ρ.f 241) args).run P w=.ok (.enter (ρ.f 241) args) w:=enters_of L.f241 (by kernel_rfl) rfl
 go_enter L.f165,Body.n165_ntmps ρ
 go_wp2_with (go_at_fn (ρ.f 240); refine (vT { L with } X.toX72 h).mono ?_; rintro e w1 ⟨rfl,k1,k2⟩)
 have c1:w1.drew.cell? ⟨b,1,none⟩=some (.slice none 0 0):=by
  have:w1.drew.heap[b]?=_:=k1.1
  rw [Lib.cell_of_heap this]; rfl
 have hin:=YG { L with } X k1.drew n h0 hn
 have hfin:∀ w',xJ w1.drew w' b (ρ.t 72) (ρ.t 5) fz→xJ w w' b (ρ.t 72) (ρ.t 5) fz:=fun w' ⟨v',g1,g2,g3,g4,g5⟩=>
  ⟨v',g1,g2,(k2.drew).trans g3,fun g hg=>Nat.le_trans k2.size (g4 g hg),g5⟩
 clear k1 k2 h
 go_region_o
 all_goals go_wp2_with (go_at_fn (ρ.f 241); refine hin.mono ?_; rintro e w' ⟨rfl,h1⟩)
 all_goals first
  | (go_end0; exact ⟨rfl,hfin _ h1⟩)
  | (exfalso; simp only [IntKind.wrap_i64] at *; omega)

theorem OH {E:Env}{ρ:Ren}(L:Lays.n165 E.P ρ)(X:Builder.Extra E.P ρ){f:Nat}(hf:ρ.f 165=f){T e:Nat}(hT:ρ.t 72=T)(he:ρ.t 5=e)(hent:Ent E.P f)(n:Nat)(h0:0<n)(hn:n≤281474976710656) :
  ACalls E f (Bld false T e []) [.ptr 1 0,.int .i64 n] (fun h' d=>h' = Bld true T e []∧d=.undef):=by
 subst hf; subst hT; subst he
 refine ⟨hent,fun w ok β vs hG hN hH hl hv=>?_⟩
 match vs,hl with
 | [v0,v1],_=>
 have r0:=hv 0 v0 _ rfl rfl
 have r1:=hv 1 v1 _ rfl rfl
 obtain ⟨b,p,v,fz,h1,h2,h3,h4,h5,h6⟩:=qR hH
 obtain rfl:=h6 rfl rfl
 cases r0 with
 | ptr l o b' x hb=>
 rw [h1] at hb; cases hb
 cases r1 with
 | int k m=>
 refine (OQ L X h2 n h0 hn).mono ?_
 rintro e w' ⟨rfl,v',k1,k2,k3,k4,k5⟩
 obtain ⟨β',e1,e2,e3,e4⟩:=CC (gr' := true) (bs' := []) hN hH h1 h5 k3 k1 k2 k5 (fun g hg=>.inr (k4 g hg)) (fun h=>by cases h)
 exact ⟨_,ok,β',_,_,rfl,⟨rfl,rfl⟩,E.stable w w' hG e4,e1,e2,.undef _,fun l cs hl=>by
  match l,hl with
  | 0,hl=>simp [Bld,Buf] at hl
  | 1,hl=>exact ⟨e3,_,rfl⟩,by simp [Bld],fun h=>by cases h⟩
end Go.Ai

namespace Go.Proofs.Ut
open Go.Ai
set_option maxRecDepth 100000
theorem aAI (n:Nat)(h0:0<n)(hn:n≤281474976710656):ACalls ED 190 (Bld false 169 5 []) [.ptr 1 0,.int .i64 n] (fun h' d=>h' = Bld true 169 5 []∧d=.undef):=
 OH (E:=ED) Tryz.lays165 Tryz.extra165 rfl rfl rfl ⟨Tryz.f190,Tryz.func190,by kernel_rfl,by kernel_rfl⟩ n h0 hn
def dI (sep:UInt8)(l:List (List UInt8)):List UInt8:=(l.map (sep :: ·)).flatten
def dS (sep:UInt8):List (List UInt8)→List UInt8
 | []=>[]
 | x::tl=>x++dI sep tl
def tot (l:List (List UInt8)):Nat:=(l.map List.length).sum
theorem mD (sep:UInt8):∀ l,(dI sep l).length=l.length+tot l
 | []=>rfl
 | x::l=>by
  have:=mD sep l
  simp only [dI,tot,List.map_cons,List.flatten_cons,List.length_append,List.length_cons,List.sum_cons] at *
  omega
theorem EE (sep:UInt8)(l:List (List UInt8))(i:Nat)(h:i<l.length):dI sep (l.take (i+1))=dI sep (l.take i)++sep::l.getD i []:=by
 rw [eA h []]
 simp [dI]
theorem VX (l:List (List UInt8))(i:Nat)(h:i<l.length):tot (l.take (i+1))=tot (l.take i)+(l.getD i []).length:=by
 rw [eA h []]
 simp [tot]
theorem yP:∀ (l:List (List UInt8))(i:Nat),tot (l.take i)≤tot l
 | [],i=>by simp
 | x::l,0=>by simp [tot]
 | x::l,i+1=>by
  have:=yP l i
  simp only [tot,List.take_succ_cons,List.map_cons,List.sum_cons] at *
  omega
theorem PZ (sep:UInt8)(l:List (List UInt8))(i:Nat):(dI sep (l.take i)).length≤(dI sep l).length:=by
 rw [mD,mD]
 have:=yP l i
 have:(l.take i).length≤l.length:=by simp; omega
 omega
theorem aAD (l:List (List UInt8))(hl:l.length<1000000000)(hw:(dS 59 l).length<1000000000):aU 149 [.sl 1 (l.map sv),.str [59]] (.str (dS 59 l)):=by
 refine aA c149 (by simp [f149]) ?_
 simp only [f149,↓gos,gop,qA,qB,qC,qD,qE,qF,qG,qH,qI]
 cases l with
 | nil=>
  simp only [↓gos,gop,qA,qB,qC,qD,qE,qF,qG,qH,qI]
  exact gS rfl
 | cons x tl=>
  cases tl with
  | nil=>
   simp only [sv,↓gos,gop,qA,qB,qC,qD,qE,qF,qG,qH,qI]
   refine ⟨fun h=>by omega,fun _=>gS ?_⟩
   simp [dS,dI]
  | cons y tl=>
   simp only [List.length_cons] at hl
   simp only [sv,↓gos,gop,qA,qB,qC,qD,qE,qF,qG,qH,qI]
   refine ⟨fun h=>by omega,fun _=>?_⟩
   intro v hv
   rw [wrap_i64 (by omega) (by omega)] at hv
   have hv:v=((tl.length+1:Nat):Int):=by rw [hv]; omega
   subst hv
   refine aK (by omega) ?_
   intro v1 hv1
   have hb:1<9223372036854775807 / (tl.length+1):=(Nat.le_div_iff_mul_le (by omega)).2 (by omega)
   have hb2:=Nat.div_le_self 9223372036854775807 (tl.length+1)
   rw [Int.tdiv_eq_ediv_of_nonneg (by decide),show (9223372036854775807:Int)=((9223372036854775807:Nat):Int) from rfl,← Int.natCast_ediv] at hv1
   generalize 9223372036854775807 / (tl.length+1)=q at *
   rw [wrap_i64 (by omega) (by omega)] at hv1
   refine ⟨fun h=>by omega,fun _=>?_⟩
   clear hv1 hb hb2
   intro v2 hv2 v3 hv3 v4 hv4
   rw [wrap_i64 (by omega) (by omega)] at hv2
   rw [hv2,wrap_i64 (by omega) (by omega)] at hv3
   rw [hv3,wrap_i64 (by omega) (by omega)] at hv4
   have hv4:v4=((tl.length+1+tot ([x,y]++tl |>.take 0):Nat):Int):=by rw [hv4]; simp [tot]
   subst hv4
   clear hv2 hv3
   have hL:(dS 59 (x::y::tl)).length=tl.length+1+tot (x::y::tl):=by
    simp only [dS,List.length_append,mD,tot,List.map_cons,List.sum_cons,List.length_cons]; omega
   generalize hl2:x::y::tl=l2 at *
   have hll:l2.length=tl.length+2:=by rw [← hl2]; rfl
   have hlv:[DV.str x]::[DV.str y]::List.map sv tl=l2.map sv:=by rw [← hl2]; rfl
   simp only [hlv]
   refine aJ (γ:=Nat) (fun i=>[(41,.int .i64 i),(40,.int .i64 (tl.length+1+1:Nat)),(39,.sl 1 (l2.map sv)),(5,.int .i64 (tl.length+1+tot (l2.take i):Nat)),(1,.str [59]),(0,.sl 1 (l2.map sv))])
    (fun _=>[]) (fun i=>i≤l2.length) (fun i=>l2.length - i) 0 (wks rfl (by simp) ⟨rfl,rfl,rfl,by simp [slots,tot],rfl,rfl,trivial⟩) (by omega) fun i hi=>?_
   simp only [f149l0,↓gos,gop,qA,qB,qC,qD,qE,qF,qG,qH,qI]
   have htt:=yP l2 i
   refine ⟨fun h5=>?_,fun h5=>?_⟩
   ·refine aL [] (by omega) ?_
    have ht:=VX l2 i (by omega)
    have htl:=yP l2 (i+1)
    simp only [sv,↓gos,gop,qA,qB,qC,qD,qE,qF,qG,qH,qI]
    intro v hv
    rw [wrap_i64 (by omega) (by omega)] at hv
    refine ⟨fun h=>by omega,fun _=>?_⟩
    intro v2 hv2 v3 hv3
    rw [wrap_i64 (by omega) (by omega)] at hv2 hv3
    have e2:v2=(tl.length+1+tot (l2.take (i+1)):Nat):=by rw [hv2,ht]; omega
    have e3:v3=((i+1:Nat):Int):=by rw [hv3]; rfl
    subst e2 e3
    exact aN (i+1) rfl (by simp) ⟨rfl,rfl,rfl,rfl,rfl,rfl,trivial⟩ (by omega) (by omega)
   ·have hi2:i=tl.length+2:=by omega
    subst hi2
    have ht:tot (l2.take (tl.length+2))=tot l2:=by rw [List.take_of_length_le (by omega)]
    rw [ht]
    refine gL (gr:=false) (gr' := true) (m:=0) (l:=1) rfl rfl rfl (aAI _ (by omega) (by omega)) ?_
    subst hl2
    simp only [Buf,sv,List.map_cons,↓gos,gop,qA,qB,qC,qD,qE,qF,qG,qH,qI]
    have hxl:x.length≤(dS 59 (x::y::tl)).length:=by simp [dS]
    refine gL (gr:=true) (gr' := true) (m:=0) (l:=1) rfl rfl rfl (FA true [] x (by simp; omega)) ?_
    simp only [Buf,List.nil_append,↓gos,gop,qA,qB,qC,qD,qE,qF,qG,qH,qI]
    refine aK (by omega) ?_
    have hr:List.take (tl.length+1+1 - 1) ([DV.str y]::List.map sv tl)=(y::tl).map sv:=by
     rw [List.take_of_length_le (by simp)]; rfl
    have hJ:dS 59 (x::y::tl)=x++dI 59 (y::tl):=rfl
    generalize hr2:y::tl=r at *
    have hrl:r.length=tl.length+1:=by rw [← hr2]; rfl
    rw [hr]
    have hm:((r.map sv).length:Int)=((r.length:Nat):Int):=by simp
    rw [hm]
    clear hr hlv hL hll hi htt ht
    refine aJ (γ:=Nat) (fun i=>[(65,.int .i64 i),(64,.int .i64 r.length),(63,.sl 1 (r.map sv)),(8,.ptr 1 0),(1,.str [59])])
     (fun i=>[.gbuf 5 (x++dI 59 (r.take i)),.box [.self 1 169 2,.hdr 0 5 (x++dI 59 (r.take i)).length]]) (fun i=>i≤r.length) (fun i=>r.length - i) 0
     (wks (by simp [dI]) (by simp) ⟨rfl,rfl,rfl,rfl,rfl,trivial⟩) (by omega) fun i hi=>?_
    simp only [f149l1,↓gos,gop,qA,qB,qC,qD,qE,qF,qG,qH,qI]
    refine ⟨fun h5=>?_,fun h5=>?_⟩
    ·refine aL [] (by omega) ?_
     have h1:=EE 59 r i (by omega)
     have h2:=PZ 59 r (i+1)
     have h3:(x++dI 59 r).length<1000000000:=by rw [← hJ]; exact hw
     rw [h1] at h2
     simp only [List.length_append,List.length_cons] at h2 h3
     simp only [sv,↓gos,gop,qA,qB,qC,qD,qE,qF,qG,qH,qI]
     refine gL (gr:=true) (gr' := true) (m:=0) (l:=1) rfl rfl rfl (FA true _ [59] (by simp; omega)) ?_
     simp only [Buf,↓gos,gop,qA,qB,qC,qD,qE,qF,qG,qH,qI]
     refine gL (gr:=true) (gr' := true) (m:=0) (l:=1) rfl rfl rfl (FA true _ _ (by simp only [List.length_append,List.length_cons,List.length_nil]; omega)) ?_
     simp only [Buf,↓gos,gop,qA,qB,qC,qD,qE,qF,qG,qH,qI]
     intro v3 hv3
     rw [wrap_i64 (by omega) (by omega)] at hv3
     have e3:v3=((i+1:Nat):Int):=by rw [hv3]; rfl
     subst e3
     refine aN (i+1) ?_ (by simp) ⟨rfl,rfl,rfl,rfl,rfl,trivial⟩ (by omega) (by omega)
     simp only [h1,List.append_assoc,List.cons_append,List.nil_append]
    ·have hi2:i=r.length:=by omega
     subst hi2
     rw [List.take_length,← hJ]
     refine qJ (gr:=true) (m:=0) (l:=1) rfl rfl (WR true _) ?_
     simp only [↓gos,gop,qA,qB,qC,qD,qE,qF,qG,qH,qI]
     exact gS rfl
end Go.Proofs.Ut

namespace Go.Proofs.Ut
open Go.Proofs
set_option maxRecDepth 100000
theorem wM (w:World):(callFunc 342 #[]).run Tryz.prog w=.ok (.value (.tuple #[])) w:=run_call_mark0 Tryz.func342 (by kernel_rfl) (by kernel_rfl) (by kernel_rfl) .disable (by kernel_rfl) w
theorem BI (w:World):(callFunc 344 #[]).run Tryz.prog w=.ok (.value (.tuple #[])) w:=run_call_mark0 Tryz.func344 (by kernel_rfl) (by kernel_rfl) (by kernel_rfl) .enable (by kernel_rfl) w
theorem LB (a:Addr)(w:World):(callFunc 345 #[.pointer (some a)]).run Tryz.prog w=.ok (.value (.tuple #[])) w:=run_call_marked Tryz.func345 (by kernel_rfl) (by kernel_rfl) (by kernel_rfl) .acquire (by kernel_rfl) a w
theorem tX (a:Addr)(w:World):(callFunc 347 #[.pointer (some a)]).run Tryz.prog w=.ok (.value (.tuple #[])) w:=run_call_marked Tryz.func347 (by kernel_rfl) (by kernel_rfl) (by kernel_rfl) .releaseMerge (by kernel_rfl) a w
theorem YS (a:Addr)(x:Value)(u:FrameMode)(w:World)(hc:w.cell? a=some x)(hz:w.frozen? a=false) :
  CallsD Tryz.prog 312 #[.pointer (some a),.bool true] u w fun e u' w' => u' = u∧(e=.returned (.tuple #[])∧w' = w.drew.setCell a (.int .u32 1)):=by
 have hc' : w.drew.cell? a=some x:=by go_simp
 have hz' : w.drew.frozen? a=false:=by go_simp
 have hst:=run_call_store (P:=Tryz.prog) Tryz.func333 (by kernel_rfl) (by kernel_rfl) (by kernel_rfl) (by kernel_rfl) (k:=.u32) (y:=1) hc' hz'
 go_enter_d Tryz.func312,Tryz.ntmps312
 go_wp2
 go_region_calls
 all_goals (go_end0; exact ⟨rfl,rfl⟩)
theorem WJ (a:Addr)(u:FrameMode)(w:World)(hc:w.cell? a=some (.int .i32 1))(hz:w.frozen? a=false) :
  CallsD Tryz.prog 311 #[.pointer (some a)] u w fun e u' w' => u' = u∧(e=.returned (.tuple #[])∧w' = w.setCell a (.int .i32 0)):=by
 have hd:=wM
 have he:=BI
 have hr:=tX
 have hadd:=run_call_add (P:=Tryz.prog) Tryz.func348 (by kernel_rfl) (by kernel_rfl) (by kernel_rfl) .i32 (by kernel_rfl) (y := -1) (s:=0) hc hz (by simp [go_sem]; rfl)
 have hcv:=run_convert_to_unsafe (P:=Tryz.prog) (src:=347) (dst:=272) Tryz.underlying347 Tryz.underlying272 (by kernel_rfl) hc
 go_enter_d Tryz.func311,Tryz.ntmps311
 go_wp2
 go_end0
 go_wp2
 go_end0
 exact ⟨rfl,rfl⟩
theorem aFD (a:Addr)(w:World)(hc:w.cell? a=some (.int .i32 0))(hz:w.frozen? a=false) :
  Calls Tryz.prog 310 #[.pointer (some a)] w fun e w' => e=.returned (.tuple #[])∧w' = w.setCell a (.int .i32 1):=by
 have hd:=wM
 have he:=BI
 have ha:=LB
 have hcas:=run_call_cas_hit (P:=Tryz.prog) Tryz.func343 (by kernel_rfl) (by kernel_rfl) (by kernel_rfl) .i32 (by kernel_rfl) (y:=1) hc hz
 have hc' : (w.setCell a (.int .i32 1)).cell? a=some (.int .i32 1):=World.cell?_setCell_same w a _ hc
 have hcv:=run_convert_to_unsafe (P:=Tryz.prog) (src:=347) (dst:=272) Tryz.underlying347 Tryz.underlying272 (by kernel_rfl) hc'
 go_enter Tryz.func310,Tryz.ntmps310
 go_wp2
 first | go_end0 | (simp only [Exit.inBlock,Exit.then]; refine bodyPost_ret (results_none rfl _ _ _) rfl ?_) | refine bodyPost_ret (results_none rfl _ _ _) rfl ?_
 go_wp2
 go_end0
 exact ⟨rfl,rfl⟩
theorem PX (a:Addr)(d:Int)(w:World)(h0:w.cell? a=some (.int .u32 d)) :
  Calls Tryz.prog 276 #[.pointer (some a)] w fun e w' => e=.returned (.bool (d != 0))∧w' = w:=by
 have hl:=run_call_load (P:=Tryz.prog) Tryz.func309 (by kernel_rfl) (by kernel_rfl) (by kernel_rfl) .u32 (by kernel_rfl) h0
 go_enter Tryz.func276,Tryz.ntmps276
 go_wp2
 go_ret
 exact ⟨rfl,rfl⟩
set_option maxHeartbeats 1600000 in
theorem aFj (b:Nat)(w:World){Q:World→Prop}
  (h0:w.cell? ⟨b,0,none⟩=some (.int .u32 0)) (h1:w.cell? ⟨b,1,none⟩=some (.int .i32 0)) (f1:w.frozen? ⟨b,1,none⟩=false)
  (hf:Calls Tryz.prog 228 #[.pointer (some ⟨b,0,none⟩)] (w.setCell ⟨b,1,none⟩ (.int .i32 1)) fun e w' => e=.returned (.tuple #[]) ∧
   w'.cell? ⟨b,0,none⟩=some (.int .u32 0)∧w'.cell? ⟨b,1,none⟩=some (.int .i32 1)∧w'.frozen? ⟨b,0,none⟩=false∧w'.frozen? ⟨b,1,none⟩=false∧Q w') :
  Calls Tryz.prog 277 #[.pointer (some ⟨b,0,none⟩),.func (.func 228) #[.pointer (some ⟨b,0,none⟩)] #[]] w fun e w' => e=.returned (.tuple #[]) ∧
   ∃ w1,Q w1∧w' = (w1.drew.setCell ⟨b,0,none⟩ (.int .u32 1)).setCell ⟨b,1,none⟩ (.int .i32 0):=by
 have h0' : (w.setCell ⟨b,1,none⟩ (.int .i32 1)).cell? ⟨b,0,none⟩=some (.int .u32 0):=(World.cell?_setCell_other _ ⟨b,1,none⟩ ⟨b,0,none⟩ _ (by simp)).trans h0
 have hnot:∀ (x:Bool) (w:World),(Op.unary .not (.bool x)).run Tryz.prog w=.ok (.bool (!x)) w:=fun _ _=>rfl
 go_enter_defers Tryz.func277,Tryz.ntmps277
 go_wp2_with (first | (go_at_call 276; refine (PX _ _ _ h0').mono ?_; rintro e w' ⟨rfl,rfl⟩) | (go_at_call 310; refine (aFD ⟨b,1,none⟩ _ (by go_simp) (by go_simp)).mono ?_; rintro e w' ⟨rfl,rfl⟩) | (go_at_call 228; refine hf.mono ?_; rintro e w1 ⟨rfl,c0,c1,z0,z1,hq⟩))
 go_wp2
 refine leaves_cons (f:=312) (args:=#[.pointer (some ⟨b,0,none⟩),.bool true]) (by simp) (by simp [go_sem]) ?_
 refine (YS ⟨b,0,none⟩ (.int .u32 0) .returning _ c0 z0).mono ?_
 rintro e u' w'' ⟨rfl,rfl,rfl⟩
 refine leaves_cons (f:=311) (args:=#[.pointer (some ⟨b,1,none⟩)]) (by simp [settle]) (by simp [go_sem]) ?_
 refine (WJ ⟨b,1,none⟩ _ _ ?_ (by simp [z1])).mono ?_
 ·refine (World.cell?_setCell_other _ ⟨b,0,none⟩ ⟨b,1,none⟩ _ (by simp)).trans ?_
  rw [World.cell?_drew]
  exact c1
 rintro e u' w'' ⟨rfl,rfl,rfl⟩
 simp [Leaves,settle,results,Tryz.results277]
 exact ⟨_,hq,rfl⟩
set_option maxHeartbeats 1600000 in
theorem aKB (b:Nat)(w:World){Q:World→Prop}
  (h0:w.cell? ⟨b,0,none⟩=some (.int .u32 0)) (h1:w.cell? ⟨b,1,none⟩=some (.int .i32 0)) (f1:w.frozen? ⟨b,1,none⟩=false)
  (hf:Calls Tryz.prog 228 #[.pointer (some ⟨b,0,none⟩)] (w.setCell ⟨b,1,none⟩ (.int .i32 1)) fun e w' => e=.returned (.tuple #[]) ∧
   w'.cell? ⟨b,0,none⟩=some (.int .u32 0)∧w'.cell? ⟨b,1,none⟩=some (.int .i32 1)∧w'.frozen? ⟨b,0,none⟩=false∧w'.frozen? ⟨b,1,none⟩=false∧Q w') :
  Calls Tryz.prog 227 #[.pointer (some ⟨b,0,none⟩),.func (.func 228) #[.pointer (some ⟨b,0,none⟩)] #[]] w fun e w' => e=.returned (.tuple #[]) ∧
   ∃ w1,Q w1∧w' = (w1.drew.setCell ⟨b,0,none⟩ (.int .u32 1)).setCell ⟨b,1,none⟩ (.int .i32 0):=by
 have hnot:∀ (x:Bool) (w:World),(Op.unary .not (.bool x)).run Tryz.prog w=.ok (.bool (!x)) w:=fun _ _=>rfl
 go_enter Tryz.func227,Tryz.ntmps227
 go_wp2_with (first | (go_at_call 276; refine (PX _ _ _ h0).mono ?_; rintro e w' ⟨rfl,rfl⟩) | (go_at_call 277; refine (aFj b _ h0 h1 f1 hf).mono ?_; rintro e w' ⟨rfl,w1,hq,rfl⟩))
 go_end0
 exact ⟨rfl,_,hq,rfl⟩
end Go.Proofs.Ut
