/- What the columns of a sheet do to a contact. -/
import Derived.Test.YtgamnnfndidclaaGreatDoorGYPrB
import Derived.Test.YtgamnnfndidclaaGreatDoorGYM
import Derived.Shelf.Strings.Builder2
import Derived.Test.YtgamnnfndidclaaGreatDoorGAiHand
set_option linter.all false
namespace Go.Proofs.Ut
open Go.Ai
set_option maxRecDepth 100000
def bJ:List (List UInt8)→Option (List (List UInt8))
 | []=>some []
 | x::l=>(plainF x).bind fun y=>(bJ l).map (y :: ·)
theorem jG (x:List UInt8):∀ l:List (List UInt8),bJ (l++[x])=(bJ l).bind fun a=>(plainF x).map (a++[·])
 | []=>by simp only [List.nil_append,bJ]; cases plainF x <;> rfl
 | z::l=>by
  simp only [List.cons_append,bJ,jG x l]
  cases plainF z with
  | none=>rfl
  | some y=>
   cases bJ l with
   | none=>rfl
   | some a=>cases plainF x <;> rfl
theorem jB {x:List UInt8}(hx:plainF x=none):∀ (a b:List (List UInt8)),bJ (a++x::b)=none
 | [],b=>by simp [bJ,hx]
 | z::a,b=>by
  simp only [List.cons_append,bJ,jB hx a b]
  cases plainF z <;> rfl
theorem mQ (sep:UInt8):∀ (s:List UInt8)(e:Bool)(cur:List UInt8),aS sep e cur s≠[]
 | [],e,cur=>by simp [aS]
 | x::s,e,cur=>by
  unfold aS
  split
  ·simp
  ·exact mQ sep s _ _
theorem kN (sep:UInt8):∀ (s:List UInt8)(e:Bool)(cur:List UInt8),(aS sep e cur s).length≤s.length+1
 | [],e,cur=>by simp [aS]
 | x::s,e,cur=>by
  unfold aS
  split
  ·have:=kN sep s (kQ e x) []
   simp; omega
  ·have:=kN sep s (kQ e x) (cur++[x])
   simp; omega
theorem gR (sep:UInt8):∀ (s:List UInt8)(e:Bool)(cur:List UInt8),∀ x∈aS sep e cur s,x.length≤cur.length+s.length
 | [],e,cur,x,hx=>by simp [aS] at hx; subst hx; simp
 | y::s,e,cur,x,hx=>by
  unfold aS at hx
  split at hx
  ·rcases List.mem_cons.1 hx with rfl|hx
   ·simp
   ·have:=gR sep s _ _ x hx
    simp at this; simp; omega
  ·have:=gR sep s _ _ x hx
   simp at this; simp; omega
def C0:CT:=⟨[],[],[],[],[],[],[],[],[],[],[]⟩
end Go.Proofs.Ut

namespace Go.Ai
open Go.Proofs Go.Shelf Go.RowKit
variable {P:Program} {ρ:Ren}

theorem Beside.trans {a b c:World}{x:Nat}(h:Beside a b x none)(k:Beside b c x none):Beside a c x none:=
 ⟨k.os.trans h.os,k.tape.trans h.tape,k.output.trans h.output,Nat.le_trans h.size k.size,fun i hi hx hr=>(k.block i (Nat.lt_of_lt_of_le hi h.size) hx hr).trans (h.block i hi hx hr),fun i hi=>(k.shape i (Nat.lt_of_lt_of_le hi h.size)).trans (h.shape i hi)⟩
theorem Beside.drew {w w' : World}{x:Nat}{r:Option Nat}(h:Beside w w' x r):Beside w w'.drew x r:=⟨h.os,h.tape,h.output,h.size,h.block,h.shape⟩
theorem Hd.drew {w:World}{b T:Nat}{p v:Value}{fz:Nat×Nat}(h:Hd w b T p v fz):Hd w.drew b T p v fz:=h

def tY (w w' : World)(b:Nat)(T e:Nat)(fz:Nat×Nat):Prop:=
 ∃ v',Hd w' b T (.pointer (some ⟨b,0,none⟩)) v' fz∧w'.ownsRow 0 e 1 v' 0 []∧Beside w w' b none∧(∀ g,v'.ownBlock=some g→w.heap.size≤g)∧jX v'

theorem GV {w:World}{b T e:Nat}{fz:Nat×Nat}{cs:Array Value}(h:Hd w b T (.pointer (some ⟨b,0,none⟩)) (.slice none 0 0) fz)(hm:cs.size≤maxLen)(h0:0<cs.size) :
  tY w ((w.alloc (.cells cs e)).setCell ⟨b,1,none⟩ (.slice (some ⟨w.heap.size,0,none⟩) 0 cs.size)) b T e fz:=by
 have hlt:=h.lt
 have hb2:(w.alloc (.cells cs e)).heap[b]?=some (.cells #[.pointer (some ⟨b,0,none⟩),.slice none 0 0] T fz):=(Lib.alloc_old w _ b hlt).trans h.1
 have hb3:((w.alloc (.cells cs e)).setCell ⟨b,1,none⟩ (.slice (some ⟨w.heap.size,0,none⟩) 0 cs.size)).heap[b]?=some (.cells #[.pointer (some ⟨b,0,none⟩),.slice (some ⟨w.heap.size,0,none⟩) 0 cs.size] T fz):=by
  unfold World.setCell
  simp only [Array.getElem?_modify,if_true,hb2,Option.map_some]
  rfl
 have ho:∀ k,k≠b→((w.alloc (.cells cs e)).setCell ⟨b,1,none⟩ (.slice (some ⟨w.heap.size,0,none⟩) 0 cs.size)).heap[k]?=(w.alloc (.cells cs e)).heap[k]?:=fun k hk=>Below.heap_setCell _ _ _ _ hk
 have hg:((w.alloc (.cells cs e)).setCell ⟨b,1,none⟩ (.slice (some ⟨w.heap.size,0,none⟩) 0 cs.size)).heap[w.heap.size]?=some (.cells cs e (0,0)):=by
  rw [ho _ (by omega)]; exact bY w _
 refine ⟨.slice (some ⟨w.heap.size,0,none⟩) 0 cs.size,⟨hb3,h.2.1,.inr rfl⟩,⟨rfl,.inr ⟨w.heap.size,cs.size,cs,rfl,Nat.zero_le _,hg,Nat.zero_le _,hm,by simp,by simp⟩⟩,⟨rfl,rfl,rfl,?_,fun k hk hkb _=>?_,fun k hk=>?_⟩,fun g hq=>?_,fun a m c hv=>?_⟩
 ·simp [World.setCell]
 ·rw [ho k hkb]; exact Lib.alloc_old w _ k hk
 ·by_cases hkb:k=b
  ·subst hkb
   rw [bA hb3,bA h.1]; rfl
  ·exact fN ((ho k hkb).trans (Lib.alloc_old w _ k hk))
 ·simp [Value.ownBlock] at hq; omega
 ·simp at hv; omega

set_option maxHeartbeats 2000000 in
set_option maxRecDepth 1000000 in
theorem TM (L:Lays.n241 P ρ)(X:Builder.Extra P ρ){b:Nat}{fz:Nat×Nat}{w:World}(h:Hd w b (ρ.t 72) (.pointer (some ⟨b,0,none⟩)) (.slice none 0 0) fz)(n:Nat)(h0:0<n)(hn:n≤281474976710656) :
  Calls P (ρ.f 241) #[.pointer (some ⟨b,0,none⟩),.int .i64 n] w fun e w' => e=.returned (.tuple #[])∧tY w w' b (ρ.t 72) (ρ.t 5) fz:=by
 obtain ⟨cs,hrun,hle,hmax⟩:=Lib.run_makeNoZero (P:=P) w.drew #[(ρ.t 3)] (ρ.t 37) (ρ.t 5) L.t37 n hn
 have hlt:=h.lt
 have ha:(w.alloc (.cells cs (ρ.t 5))).heap[b]?=some (.cells #[.pointer (some ⟨b,0,none⟩),.slice none 0 0] (ρ.t 72) fz):=(Lib.alloc_old w _ b hlt).trans h.1
 have hcall:(callFunc (ρ.f 277) #[.int .i64 (IntKind.i64.wrap (IntKind.i64.wrap 0+(n:Int)))]).run P w.drew=.ok (.value (.slice (some ⟨w.drew.heap.size,0,none⟩) n cs.size)) (w.drew.drew.drew.alloc (.cells cs (ρ.t 5))):=by
  have hw:IntKind.i64.wrap (IntKind.i64.wrap 0+(n:Int))=n:=by
   rw [IntKind.wrap_i64,IntKind.wrap_i64]; omega
  rw [hw,run_callFunc_extern L.f277 (by kernel_rfl) (by kernel_rfl) (by kernel_rfl) (e:=Extern.BytealgMakeNoZero.makeNoZero #[(ρ.t 3)] #[(ρ.t 37)]) (by kernel_rfl),hrun]
  rfl
 have c1:w.drew.cell? ⟨b,1,none⟩=some (.slice none 0 0):=by
  have:w.drew.heap[b]?=_:=h.1
  rw [Lib.cell_of_heap this]; rfl
 have c2:(w.alloc (.cells cs (ρ.t 5))).cell? ⟨b,1,none⟩=some (.slice none 0 0):=by rw [Lib.cell_of_heap ha]; rfl
 have f2:(w.alloc (.cells cs (ρ.t 5))).frozen? ⟨b,1,none⟩=false:=by
  have:=h.2.1 1 (by omega)
  simp only [World.frozen?,ha]
  exact this
 have hcopy:∀ W:World,(Builtin.copy_ #[(ρ.t 37),(ρ.t 37)] (ρ.t 3) #[.slice (some ⟨w.heap.size,0,none⟩) 0 cs.size,.slice none 0 0]).run P W=.ok (goInt 0) W:=
  fun W=>run_copy_none W (ρ.t 37) (ρ.t 37) (ρ.t 3) (ρ.t 5) _ _ 0 cs.size 0 0 L.t37 X.sizeByte rfl
 have hfin:∀ w',w' = ((w.alloc (.cells cs (ρ.t 5))).setCell ⟨b,1,none⟩ (.slice (some ⟨w.heap.size,0,none⟩) 0 cs.size)).drew.drew.drew→tY w w' b (ρ.t 72) (ρ.t 5) fz:=fun w' e=>by
  obtain ⟨v',g1,g2,g3,g4,g5⟩:=GV (e:=ρ.t 5) h (hmax (by unfold maxLen; omega)) (Nat.lt_of_lt_of_le h0 hle)
  subst e
  exact ⟨v',g1,g2,g3.drew.drew.drew,g4,g5⟩
 have mixed:=L.mixed
 have t72:=L.t72; have a72:=L.a72; have z72:=L.z72; have v72:=L.v72; have u72:=run_underlying L.t72
 have t70:=L.t70; have a70:=L.a70; have z70:=L.z70; have v70:=L.v70; have u70:=run_underlying L.t70
 have t37:=L.t37; have a37:=L.a37; have z37:=L.z37; have v37:=L.v37; have u37:=run_underlying L.t37
 have t3:=L.t3; have a3:=L.a3; have z3:=L.z3; have v3:=L.v3; have u3:=run_underlying L.t3
 have t5:=X.t5; have a5:=X.a5; have z5:=X.z5; have v5:=X.v5; have u5:=run_underlying X.t5
 clear hlt ha h
 go_enter L.f241,Body.n241_ntmps ρ
 go_wp2
 go_region_o
 all_goals (go_wp2; go_end0; exact ⟨rfl,hfin _ rfl⟩)
end Go.Ai

namespace Go.Ai
open Go.Proofs Go.Shelf Go.RowKit
variable {P:Program} {ρ:Ren}

set_option maxHeartbeats 2000000 in
set_option maxRecDepth 1000000 in
theorem HA (L:Lays.n165 P ρ)(X:Builder.Extra P ρ){b:Nat}{p:Value}{fz:Nat×Nat}{w:World}(h:Hd w b (ρ.t 72) p (.slice none 0 0) fz)(n:Nat)(h0:0<n)(hn:n≤281474976710656) :
  Calls P (ρ.f 165) #[.pointer (some ⟨b,0,none⟩),.int .i64 n] w fun e w' => e=.returned (.tuple #[])∧tY w w' b (ρ.t 72) (ρ.t 5) fz:=by
 have mixed:=L.mixed
 have t72:=L.t72; have a72:=L.a72; have z72:=L.z72; have v72:=L.v72; have u72:=run_underlying L.t72
 have t70:=L.t70; have a70:=L.a70; have z70:=L.z70; have v70:=L.v70; have u70:=run_underlying L.t70
 have t37:=L.t37; have a37:=L.a37; have z37:=L.z37; have v37:=L.v37; have u37:=run_underlying L.t37
 have t3:=L.t3; have a3:=L.a3; have z3:=L.z3; have v3:=L.v3; have u3:=run_underlying L.t3
 have t9:=L.t9; have a9:=L.a9; have z9:=L.z9; have v9:=L.v9; have u9:=run_underlying L.t9
 have t4:=L.t4; have a4:=L.a4; have z4:=L.z4; have v4:=L.v4; have u4:=run_underlying L.t4
 have t164:=L.t164; have a164:=L.a164; have z164:=L.z164; have v164:=L.v164; have u164:=run_underlying L.t164
 have t5:=X.t5; have a5:=X.a5; have z5:=X.z5; have v5:=X.v5; have u5:=run_underlying X.t5
 have e240:∀ args w,(callFunc (ρ.f 240) args).run P w=.ok (.enter (ρ.f 240) args) w:=enters_of L.f240 (by kernel_rfl) rfl
 have e241:∀ args w,(callFunc (ρ.f 241) args).run P w=.ok (.enter (ρ.f 241) args) w:=enters_of L.f241 (by kernel_rfl) rfl
 go_enter L.f165,Body.n165_ntmps ρ
 go_wp2_with (go_at_fn (ρ.f 240); refine (kS { L with } X.toX72 h).mono ?_; rintro e w1 ⟨rfl,k1,k2⟩)
 have c1:w1.drew.cell? ⟨b,1,none⟩=some (.slice none 0 0):=by
  have:w1.drew.heap[b]?=_:=k1.1
  rw [Lib.cell_of_heap this]; rfl
 have hin:=TM { L with } X k1.drew n h0 hn
 have hfin:∀ w',tY w1.drew w' b (ρ.t 72) (ρ.t 5) fz→tY w w' b (ρ.t 72) (ρ.t 5) fz:=fun w' ⟨v',g1,g2,g3,g4,g5⟩=>
  ⟨v',g1,g2,(k2.drew).trans g3,fun g hg=>Nat.le_trans k2.size (g4 g hg),g5⟩
 clear k1 k2 h
 go_region_o
 all_goals go_wp2_with (go_at_fn (ρ.f 241); refine hin.mono ?_; rintro e w' ⟨rfl,h1⟩)
 all_goals first
  | (go_end0; exact ⟨rfl,hfin _ h1⟩)
  | (exfalso; simp only [IntKind.wrap_i64] at *; omega)

theorem FR {E:Env}{ρ:Ren}(L:Lays.n165 E.P ρ)(X:Builder.Extra E.P ρ){f:Nat}(hf:ρ.f 165=f){T e:Nat}(hT:ρ.t 72=T)(he:ρ.t 5=e)(hent:Ent E.P f)(n:Nat)(h0:0<n)(hn:n≤281474976710656) :
  ACalls E f (Bld false T e []) [.ptr 1 0,.int .i64 n] (fun h' d=>h' = Bld true T e []∧d=.undef):=by
 subst hf; subst hT; subst he
 refine ⟨hent,fun w ok β vs hG hN hH hl hv=>?_⟩
 match vs,hl with
 | [v0,v1],_=>
 have r0:=hv 0 v0 _ rfl rfl
 have r1:=hv 1 v1 _ rfl rfl
 obtain ⟨b,p,v,fz,h1,h2,h3,h4,h5,h6⟩:=jJ hH
 obtain rfl:=h6 rfl rfl
 cases r0 with
 | ptr l o b' x hb=>
 rw [h1] at hb; cases hb
 cases r1 with
 | int k m=>
 refine (HA L X h2 n h0 hn).mono ?_
 rintro e w' ⟨rfl,v',k1,k2,k3,k4,k5⟩
 obtain ⟨β',e1,e2,e3,e4⟩:=rE (gr' := true) (bs' := []) hN hH h1 h5 k3 k1 k2 k5 (fun g hg=>.inr (k4 g hg)) (fun h=>by cases h)
 exact ⟨_,ok,β',_,_,rfl,⟨rfl,rfl⟩,E.stable w w' hG e4,e1,e2,.undef _,fun l cs hl=>by
  match l,hl with
  | 0,hl=>simp [Bld,Buf] at hl
  | 1,hl=>exact ⟨e3,_,rfl⟩,by simp [Bld],fun h=>by cases h⟩
end Go.Ai
