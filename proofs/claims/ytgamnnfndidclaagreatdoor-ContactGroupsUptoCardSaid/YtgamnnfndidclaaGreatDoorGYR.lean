/- strings.Join, of a separator of one sign. -/
import Derived.Test.YtgamnnfndidclaaGreatDoorGAiGrow2
import Derived.Test.YtgamnnfndidclaaGreatDoorProg
import Derived.Tactics
import Derived.Tactics2
import Derived.Defers
import Derived.Laws.Pointers
import Derived.Laws.LoneSync
import Derived.RegionTactic
import Derived.RegionCalls
import Derived.ChangeAlike
import Derived.KernelRfl
import Derived.Test.YtgamnnfndidclaaGreatDoorGYFoUtF
import Derived.Test.YtgamnnfndidclaaGreatDoorGAiUn
import Derived.Test.YtgamnnfndidclaaGreatDoorGYFoAny
import Derived.Test.YtgamnnfndidclaaGreatDoorGYFoUtD
import Derived.Test.YtgamnnfndidclaaGreatDoorGYO2
set_option linter.all false
namespace Go.Proofs.Ut
open Go.Ai
set_option maxRecDepth 100000
theorem SP (n:Nat)(h0:0<n)(hn:n≤281474976710656):ACalls ED 190 (Bld false 169 5 []) [.ptr 1 0,.int .i64 n] (fun h' d=>h' = Bld true 169 5 []∧d=.undef):=
 FR (E:=ED) Tryz.lays165 Tryz.extra165 rfl rfl rfl ⟨Tryz.f190,Tryz.func190,by kernel_rfl,by kernel_rfl⟩ n h0 hn
def gE (sep:UInt8)(l:List (List UInt8)):List UInt8:=(l.map (sep :: ·)).flatten
def EI (sep:UInt8):List (List UInt8)→List UInt8
 | []=>[]
 | x::tl=>x++gE sep tl
def tot (l:List (List UInt8)):Nat:=(l.map List.length).sum
theorem QU (l:List (List UInt8))(i:Nat)(h:i<l.length):tot (l.take (i+1))=tot (l.take i)+(l.getD i []).length:=by
 rw [dB h []]
 simp [tot]
theorem uG:∀ (l:List (List UInt8))(i:Nat),tot (l.take i)≤tot l
 | [],i=>by simp
 | x::l,0=>by simp [tot]
 | x::l,i+1=>by
  have:=uG l i
  simp only [tot,List.take_succ_cons,List.map_cons,List.sum_cons] at *
  omega
end Go.Proofs.Ut

namespace Go.Proofs.Ut
open Go.Proofs
set_option maxRecDepth 100000
end Go.Proofs.Ut

namespace Go.Ai
open Go.Proofs Go.Shelf Go.RowKit
theorem HRep.cell {E:Env}{w:World}{ok:Nat→Prop}{β:Loc}{h:List AObj}(hg:E.G w)(hN:E.N≤w.heap.size)(hh:HRep E.N w ok β h){l b o:Nat}{cs:List DV}(hl:h[l]?=some (.box cs))(hb:β l=some (b,0))(k:IntKind)(n:Int) :
  HRep E.N (w.setCell ⟨b,o,none⟩ (.int k n)) ok β (h.set l (.box (cs.set o (.int k n))))∧E.G (w.setCell ⟨b,o,none⟩ (.int k n))∧Ev w ok β (w.setCell ⟨b,o,none⟩ (.int k n)) ok β:=by
 have hs:SRep E ⟨w,ok,β,h,0,by omega,fun _=>undef⟩ { tmps:=#[],defers:=[] } w ok β ⟨fun _=>.undef,h⟩:=⟨hg,Ev.refl _ _ _,hh,fun l cs hl=>⟨rfl,cs,hl⟩,Nat.le_refl _,fun s=>.undef _,rfl,rfl,hN⟩
 obtain ⟨b',vs,t,fz,h1,h2,h3,h4,h5⟩:=hh.obj l _ hl
 rw [hb] at h1
 injection h1 with h1; injection h1 with e1 _
 subst e1
 have hw:(w.setCell ⟨b,o,none⟩ (.int k n)).heap[b]?=some (.cells (vs.setIfInBounds o (.int k n)) t fz):=by simp [World.setCell,Array.getElem?_modify,h2]
 have hot:∀ k',k' ≠ b→(w.setCell ⟨b,o,none⟩ (.int k n)).heap[k']?=w.heap[k']?:=fun k' hk=>Below.heap_setCell _ _ _ _ hk
 have hsh:(w.setCell ⟨b,o,none⟩ (.int k n)).shape? b=w.shape? b:=by simp [World.shape?,hw,h2]
 have:=hs.write l b 0 (.box (cs.set o (.int k n))) (.box cs) (w' := w.setCell ⟨b,o,none⟩ (.int k n)) hb hl (fun _ _=>⟨_,rfl⟩) rfl rfl rfl (by simp [World.setCell]) hot hsh
  ⟨b,_,t,fz,hb,hw,by simpa using h3,by simpa using h4,fun i v d hv hd=>by
   rw [List.getElem?_set] at hd
   rw [Array.getElem?_setIfInBounds] at hv
   by_cases e:o=i
   ·subst e
    simp only [if_true] at hd hv
    split at hd
    ·split at hv
     ·injection hd with hd; injection hv with hv; subst hd; subst hv; exact .int _ _
     ·cases hv
    ·cases hd
   ·rw [if_neg e] at hd hv
    exact (h5 i v d hv hd).mono (fun _ q=>q) (fun k' hk=>hot k' fun e' => hh.dis l b 0 hb (e' ▸ hk)) (fun l' x hx=>⟨hx,by
     by_cases e' : x.1=b
     ·rw [e',hsh]
     ·simp [World.shape?,hot _ e']⟩)⟩
 exact ⟨this.heap,this.g,this.ev⟩
theorem HRep.drew {E:Env}{w:World}{ok:Nat→Prop}{β:Loc}{h:List AObj}(hg:E.G w)(hN:E.N≤w.heap.size)(hh:HRep E.N w ok β h) :
  HRep E.N w.drew ok β h∧E.G w.drew∧Ev w ok β w.drew ok β:=by
 have hs:SRep E ⟨w,ok,β,h,0,by omega,fun _=>undef⟩ { tmps:=#[],defers:=[] } w ok β ⟨fun _=>.undef,h⟩:=⟨hg,Ev.refl _ _ _,hh,fun l cs hl=>⟨rfl,cs,hl⟩,Nat.le_refl _,fun s=>.undef _,rfl,rfl,hN⟩
 have:=hs.drewN 1
 exact ⟨this.heap,this.g,this.ev⟩
end Go.Ai
namespace Go.Proofs.Ut
open Go.Ai Go.Proofs
end Go.Proofs.Ut

namespace Go.Proofs.Ut
open Go.Ai
set_option maxRecDepth 100000
end Go.Proofs.Ut
