/- strings.Builder, as the shelf's laying has it: what its methods do to the two blocks that are theirs, and to no other. -/
import Derived.Shelf.Strings.Builder1
import Derived.Test.YtgamnnfndidclaaGreatDoorGLawJid
set_option linter.all false
namespace Go.Ai
open Go.Proofs Go.Shelf Go.RowKit
variable {P:Program} {ρ:Ren}

structure Beside (w w' : World) (b:Nat) (r:Option Nat):Prop where
 os:w'.os=w.os
 tape:w'.tape=w.tape
 output:w'.output=w.output
 size:w.heap.size≤w'.heap.size
 block:∀ k,k<w.heap.size→k≠b→r≠some k→w'.heap[k]?=w.heap[k]?
 shape:∀ k,k<w.heap.size→w'.shape? k=w.shape? k

theorem fN {w w' : World}{k:Nat}(h:w'.heap[k]?=w.heap[k]?):w'.shape? k=w.shape? k:=by
 unfold World.shape?; rw [h]
theorem bA {w:World}{g:Nat}{c:Array Value}{t:Nat}{fz:Nat×Nat}(h:w.heap[g]?=some (.cells c t fz)):w.shape? g=some (t,c.size):=by
 unfold World.shape?; rw [h]

def jX (v:Value):Prop:=∀ a m c,v=.slice (some a) m c→0<c

theorem AY (w:World)(t u ty e:TypeId)(i:TypeInfo)(ht:P.underlying t=some (.slice e))(hu:P.underlying u=some .string)(hi:P.info? e=some i)(hz:i.zero=some (.int .u8 0))
  (hsize:i.size=1) (hby:i.bytes=1) (v:Value) (n:Nat) (xs:List Value) (hown:w.ownsRow 0 e 1 v n xs) (s:ByteArray) (hb:n+s.size≤140737488355328) :
  ∃ v' w',(Builtin.append_ #[t,u] ty #[v,.string s]).run P w=.ok v' w' ∧ w'.ownsRow 0 e 1 v' (n+s.size) (xs++Lib.strCells s)∧w.grownBy w' v.ownBlock ∧
   (∀ g,v'.ownBlock=some g→v.ownBlock=some g∨w.heap.size≤g)∧(∀ g,v.ownBlock=some g→w'.shape? g=w.shape? g)∧(jX v→jX v')∧(v'.ownBlock≠none→v.ownBlock≠none∨s.size≠0):=by
 have h63:n+s.size≤maxLen:=by unfold maxLen; omega
 rcases hown.2 with ⟨rfl,rfl⟩|⟨g,cap,cur,rfl,hbg,hg,hnc,hcm,hcs,htake⟩
 ·obtain ⟨v',w',hr,h2,h3,h4⟩:=Lib.run_append_own_string (P:=P) w w.heap.size t u ty e i ht hu hi hz hsize hby (.slice none 0 0) 0 xs ⟨hown.1,.inl ⟨rfl,rfl⟩⟩ s h63 hb (Nat.le_refl _)
  refine ⟨v',w',hr,⟨h2.1,?_⟩,h3,fun g hg=>.inr (h2.lt g hg).1,fun g hg=>by simp [Value.ownBlock] at hg,fun _ a m c hv=>?_,fun hne=>.inr fun e=>hne (by rw [h4.2 ⟨rfl,e⟩]; rfl)⟩
  rotate_left
  ·rcases h2.2 with ⟨h,_⟩|⟨g,c',cu,a1,_,a3,a4,_⟩
   ·rw [hv] at h; simp at h
   ·have:s.size≠0:=fun e=>by
     have:=h4.2 ⟨rfl,e⟩
     rw [hv] at this; simp at this
    rw [hv] at a1
    simp at a1
    omega
  rcases h2.2 with h|⟨g,c,cu,a1,_,a3⟩
  ·exact .inl h
  ·exact .inr ⟨g,c,cu,a1,Nat.zero_le _,a3⟩
 ·obtain ⟨v',w',hr,h2,h3,_⟩:=Lib.run_append_own_string (P:=P) w 0 t u ty e i ht hu hi hz hsize hby _ n xs hown s h63 hb (Nat.zero_le _)
  have hcs' : cur.size=cap:=by simpa using hcs
  by_cases hroom:n+s.size≤cap
  ·have hr2:=Lib.run_append_room_string (P:=P) w t u ty e i ht hu hi hsize g n cap cur hg s hroom (by omega)
   rw [hr] at hr2
   injection hr2 with e1 e2
   refine ⟨v',w',hr,h2,h3,fun k hk=>.inl (by rw [e1] at hk; exact hk),fun k hk=>?_,fun hro a m c hv=>by
    rw [e1] at hv; simp at hv; obtain ⟨_,_,rfl⟩:=hv; exact hro _ _ _ rfl,fun _=>.inl (by simp [Value.ownBlock])⟩
   have hk:g=k:=by simpa [Value.ownBlock] using hk
   subst hk
   rcases h2.2 with ⟨hv,_⟩|⟨g',c',cu',a1,_,a3,_,_,a6,_⟩
   ·rw [e1] at hv; simp at hv
   ·rw [e1] at a1
    simp at a1
    obtain ⟨rfl,rfl⟩:=a1
    rw [bA a3,bA hg,hcs']
    simp at a6
    rw [a6]
  ·have holds:∀ j u,xs[j]?=some u→w.cell? ((⟨g,0,none⟩:Addr).add j)=some u:=hown.cells (g:=g) rfl
   have hr2:=Lib.run_append_grow_string (P:=P) w t u ty e i (.int .u8 0) ht hu hi hz ⟨g,0,none⟩ n cap xs (by rw [hsize]; exact hown.1) holds s (by omega) (by omega) (by rw [hby]; exact growslice_fits (by omega) (by omega))
   rw [hr] at hr2
   injection hr2 with e1 e2
   refine ⟨v',w',hr,h2,h3,fun k hk=>.inr ?_,fun k hk=>?_,fun _ a m c hv=>?_,fun _=>.inl (by simp [Value.ownBlock])⟩
   rotate_right
   ·rcases h2.2 with ⟨h,_⟩|⟨g,c',cu,a1,_,a3,a4,_⟩
    ·rw [hv] at h; simp at h
    ·rw [hv] at a1
     simp at a1
     omega
   ·rw [e1] at hk
    have hk:w.heap.size=k:=by simpa [Value.ownBlock] using hk
    omega
   ·have hk:g=k:=by simpa [Value.ownBlock] using hk
    subst hk
    apply fN
    rw [e2]
    exact Lib.alloc_old w.drew _ g (by
     rcases Nat.lt_or_ge g w.heap.size with h|h
     ·exact h
     ·simp [Array.getElem?_eq_none h] at hg)

theorem zQ {w:World}{ops:Array Oper}{rest:List Oper}{o:Oper}{a:Act}{Q:Exit→Act→World→Prop}(hgd:o.guard=none)(sl x:Operand)(t u e:TypeId)(i:TypeInfo)
  (ho:o.op=.call { callee:=.builtin .append,args:=#[sl,x],argTypes:=#[t,u] })
  (ht:P.underlying t=some (.slice e)) (hu:P.underlying u=some .string) (hi:P.info? e=some i) (hz:i.zero=some (.int .u8 0)) (hsize:i.size=1) (hby:i.bytes=1)
  {v:Value} {n:Nat} {xs:List Value} (hs:a.eval sl=v) (hown:w.ownsRow 0 e 1 v n xs) {s:ByteArray} (hx:a.eval x=.string s) (hb:n+s.size≤140737488355328)
  (h:∀ v' w',w'.ownsRow 0 e 1 v' (n+s.size) (xs++Lib.strCells s)→w.grownBy w' v.ownBlock→(∀ g,v'.ownBlock=some g→v.ownBlock=some g∨w.heap.size≤g) →
   (∀ g,v.ownBlock=some g→w'.shape? g=w.shape? g)→(jX v→jX v')→(v'.ownBlock≠none→v.ownBlock≠none∨s.size≠0)→wpList P ops Q rest (a.put o.dst v') w'):wpList P ops Q (o::rest) a w:=by
 obtain ⟨v',w',hr,h2,h3,h4,h5,h6,h7⟩:=AY w t u o.type e i ht hu hi hz hsize hby v n xs hown s hb
 refine wpList_plain hgd fun K hK=>?_
 unfold Oper.wp execOp
 simp only [ho,resolve,invoke,builtin,Sem.run_bind,Sem.run_pure,Result.andThen_ok,List.map_toArray,List.map_cons,List.map_nil,hs,hx,hr]
 exact hK _ _ (h v' w' h2 h3 h4 h5 h6 h7)

def Hd (w:World)(b:Nat)(T:Nat)(p v:Value)(fz:Nat×Nat):Prop:=
 w.heap[b]?=some (.cells #[p,v] T fz)∧Thaw fz 2∧(p=.pointer none∨p=.pointer (some ⟨b,0,none⟩))

theorem Hd.lt {w:World}{b T:Nat}{p v:Value}{fz:Nat×Nat}(h:Hd w b T p v fz):b<w.heap.size:=by
 rcases Nat.lt_or_ge b w.heap.size with h' | h'
 ·exact h'
 ·have:=h.1
  simp [Array.getElem?_eq_none h'] at this

theorem kS (L:Lays.n240 P ρ)(X:Builder.X72 P ρ){b:Nat}{p v:Value}{fz:Nat×Nat}{w:World}(h:Hd w b (ρ.t 72) p v fz) :
  Calls P (ρ.f 240) #[.pointer (some ⟨b,0,none⟩)] w fun e w' => e=.returned (.tuple #[])∧Hd w' b (ρ.t 72) (.pointer (some ⟨b,0,none⟩)) v fz∧Beside w w' b none:=by
 obtain ⟨hb,hz,hp⟩:=h
 have c0:w.cell? ⟨b,0,none⟩=some p:=by simp [World.cell?,hb]
 rcases hp with rfl|rfl
 ·refine (Any.Builder_copyCheck_fresh L X b w c0 (bA hb) ?_).mono ?_
  ·simp [World.frozen?,hb]; have:=hz 0 (by omega); simpa using this
  ·rintro e w' ⟨rfl,rfl⟩
   refine ⟨rfl,⟨?_,hz,.inr rfl⟩,rfl,rfl,rfl,by simp [World.setCell],fun k _ hk _=>Below.heap_setCell _ _ _ _ hk,fun k _=>?_⟩
   ·simp [World.setCell,Array.getElem?_modify,hb]
   ·by_cases hk:k=b
    ·subst hk
     have:(w.setCell ⟨k,0,none⟩ (.pointer (some ⟨k,0,none⟩))).heap[k]?=some (.cells #[.pointer (some ⟨k,0,none⟩),v] (ρ.t 72) fz):=by simp [World.setCell,Array.getElem?_modify,hb]
     rw [bA this,bA hb]; rfl
    ·exact fN (Below.heap_setCell _ _ _ _ hk)
 ·refine (Any.Builder_copyCheck_used L X b w c0).mono ?_
  rintro e w' ⟨rfl,rfl⟩
  exact ⟨rfl,⟨hb,hz,.inr rfl⟩,rfl,rfl,rfl,Nat.le_refl _,fun _ _ _ _=>rfl,fun _ _=>rfl⟩

set_option maxHeartbeats 2000000 in
set_option maxRecDepth 100000 in
theorem zO (L:Lays.n166 P ρ)(X:Builder.Extra P ρ){b:Nat}{p v:Value}{fz:Nat×Nat}{w:World}{bs:List Value}(s:ByteArray)(h:Hd w b (ρ.t 72) p v fz)
  (hown:w.ownsRow 0 (ρ.t 5) 1 v bs.length bs) (hro:jX v) (hlen:bs.length+s.size≤140737488355328) :
  Calls P (ρ.f 166) #[.pointer (some ⟨b,0,none⟩),.string s] w fun e w' => e=.returned (.tuple #[.int .i64 s.size,.nilIface]) ∧
   ∃ v',Hd w' b (ρ.t 72) (.pointer (some ⟨b,0,none⟩)) v' fz∧w'.ownsRow 0 (ρ.t 5) 1 v' (bs.length+s.size) (bs++Lib.strCells s)∧Beside w w' b v.ownBlock ∧
    (∀ g,v'.ownBlock=some g→v.ownBlock=some g∨w.heap.size≤g)∧jX v' ∧ (v'.ownBlock≠none→v.ownBlock≠none∨s.size≠0):=by
 obtain ⟨i0,hi,hz0,hz1,hz2⟩:=info_parts X.infoByte
 have hne0:v.ownBlock≠some b:=Lib.ownBlock_ne hown h.1 X.neB5
 have hblt:=h.lt
 have mixed:=L.mixed
 have t72:=L.t72; have a72:=L.a72; have z72:=L.z72; have v72:=L.v72; have u72:=run_underlying L.t72
 have t70:=L.t70; have a70:=L.a70; have z70:=L.z70; have v70:=L.v70; have u70:=run_underlying L.t70
 have t3:=L.t3; have a3:=L.a3; have z3:=L.z3; have v3:=L.v3; have u3:=run_underlying L.t3
 have t164:=L.t164; have a164:=L.a164; have z164:=L.z164; have v164:=L.v164; have u164:=run_underlying L.t164
 have t5:=X.t5; have a5:=X.a5; have z5:=X.z5; have v5:=X.v5; have u5:=run_underlying X.t5
 have t37:=L.t37; have a37:=L.a37; have z37:=L.z37; have v37:=L.v37; have u37:=run_underlying L.t37
 have t9:=L.t9; have a9:=L.a9; have z9:=L.z9; have v9:=L.v9; have u9:=run_underlying L.t9
 have t4:=L.t4; have a4:=L.a4; have z4:=L.z4; have v4:=L.v4; have u4:=run_underlying L.t4
 have e240:∀ args w,(callFunc (ρ.f 240) args).run P w=.ok (.enter (ρ.f 240) args) w:=enters_of L.f240 (by kernel_rfl) rfl
 go_enter L.f166,Body.n166_ntmps ρ
 go_wp2_with (go_at_fn (ρ.f 240); refine (kS { L with } X.toX72 h).mono ?_)
 rintro e w1 ⟨rfl,h1,b1⟩
 have hown1:w1.ownsRow 0 (ρ.t 5) 1 v bs.length bs:=by
  refine ⟨hown.1,?_⟩
  rcases hown.2 with h|⟨g,cap,cur,rfl,a2,a3,a4⟩
  ·exact .inl h
  ·refine .inr ⟨g,cap,cur,rfl,a2,?_,a4⟩
   rw [b1.block g (hown.lt g rfl).2 (fun e=>hne0 (by rw [← e]; rfl)) (by simp)]
   exact a3
 have c0:w1.cell? ⟨b,0,none⟩=some (.pointer (some ⟨b,0,none⟩)):=by rw [Lib.cell_of_heap h1.1]; rfl
 have c1:w1.cell? ⟨b,1,none⟩=some v:=by rw [Lib.cell_of_heap h1.1]; rfl
 go_wp2_with (at_builtin; refine zQ rfl _ _ (ρ.t 37) (ρ.t 9) (ρ.t 5) i0 rfl L.t37 L.t9 hi hz0 hz1 hz2 rfl hown1 rfl hlen ?_)
 intro v' w2 hown' hgrow hwhere hshape hroom hnn
 have hlt:b<w1.heap.size:=h1.lt
 have hb2:w2.heap[b]?=some (.cells #[.pointer (some ⟨b,0,none⟩),v] (ρ.t 72) fz):=by
  rw [hgrow.block b hlt (fun e=>hne0 e.symm)]
  exact h1.1
 have d0:w2.cell? ⟨b,0,none⟩=some (.pointer (some ⟨b,0,none⟩)):=by rw [Lib.cell_of_heap hb2]; rfl
 have d1:w2.cell? ⟨b,1,none⟩=some v:=by rw [Lib.cell_of_heap hb2]; rfl
 have f1:w2.frozen? ⟨b,1,none⟩=false:=by
  have:=h1.2.1 1 (by omega)
  simp [World.frozen?,hb2]
  simpa using this
 obtain ⟨ao,n',cap,rfl⟩:∃ ao n' cap,v' = .slice ao n' cap:=by
  rcases hown'.2 with ⟨hv,_⟩|⟨g,cap,cur,hv,_⟩
  ·exact ⟨_,_,_,hv⟩
  ·exact ⟨_,_,_,hv⟩
 go_wp2
 go_ret2
 have hnb:(Value.slice ao n' cap).ownBlock≠some b:=fun e=>by
  rcases hwhere b e with h|h
  ·exact hne0 h
  ·omega
 have hb3:(w2.setCell ⟨b,1,none⟩ (.slice ao n' cap)).heap[b]?=some (.cells #[.pointer (some ⟨b,0,none⟩),.slice ao n' cap] (ρ.t 72) fz):=by
  simp [World.setCell,Array.getElem?_modify,hb2]
 have ho3:∀ k,k≠b→(w2.setCell ⟨b,1,none⟩ (.slice ao n' cap)).heap[k]?=w2.heap[k]?:=fun k hk=>Below.heap_setCell _ _ _ _ hk
 have hsz:w1.heap.size≤w2.heap.size:=hgrow.size
 refine ⟨rfl,.slice ao n' cap,⟨hb3,h1.2.1,.inr rfl⟩,?_,⟨?_,?_,?_,?_,fun k hk hkb hkv=>?_,fun k hk=>?_⟩,fun g hg=>?_,by first | exact hroom hro | exact hroom,by first | exact hnn | (simp at hnn ⊢; exact hnn)⟩
 ·refine hown'.kept (row:=some b) ⟨rfl,rfl,rfl,by simp [World.setCell],fun k _ hk=>Below.heap_setCell _ _ _ _ (fun e=>hk (by simp [e]))⟩ ?_
  exact Or.inr hnb
 ·exact hgrow.os.trans b1.os
 ·exact hgrow.tape.trans b1.tape
 ·exact hgrow.output.trans b1.output
 ·have:=b1.size
  simp [World.setCell]; omega
 ·rw [ho3 k hkb,hgrow.block k (Nat.lt_of_lt_of_le hk b1.size) (fun e=>hkv e.symm),b1.block k hk hkb (by simp)]
 ·by_cases hkb:k=b
  ·subst hkb
   rw [bA hb3,bA h.1]; rfl
  ·rw [fN (ho3 k hkb),← b1.shape k hk]
   by_cases hkv:v.ownBlock=some k
   ·exact hshape k hkv
   ·exact fN (hgrow.block k (Nat.lt_of_lt_of_le hk b1.size) (fun e=>hkv e.symm))
 ·rcases hwhere g hg with h|h
  ·exact .inl h
  ·exact .inr (Nat.le_trans b1.size h)

theorem lM {w w' : World}{b:Nat}{r:Option Nat}(h:Below w.heap.size w w'):Beside w w' b r:=
 ⟨h.os,h.tape,h.output,h.size,fun k hk _ _=>h.block k hk,fun k hk=>fN (h.block k hk)⟩

set_option maxHeartbeats 2000000 in
set_option maxRecDepth 100000 in
theorem wH (L:Lays.n169 P ρ)(X:Builder.Extra P ρ){b:Nat}{p v:Value}{fz:Nat×Nat}{w:World}(l:List UInt8)(h:Hd w b (ρ.t 72) p v fz)
  (hown:w.ownsRow 0 (ρ.t 5) 1 v l.length (Lib.byteCells l)) (hro:jX v) :
  Calls P (ρ.f 169) #[.pointer (some ⟨b,0,none⟩)] w fun e w' => e=.returned (.string ⟨l.toArray⟩)∧Beside w w' b v.ownBlock∧w'.heap[b]?=w.heap[b]?:=by
 have hblt:=h.lt
 have mixed:=L.mixed
 have t72:=L.t72; have a72:=L.a72; have z72:=L.z72; have v72:=L.v72; have u72:=run_underlying L.t72
 have t70:=L.t70; have a70:=L.a70; have z70:=L.z70; have v70:=L.v70; have u70:=run_underlying L.t70
 have t37:=L.t37; have a37:=L.a37; have z37:=L.z37; have v37:=L.v37; have u37:=run_underlying L.t37
 have t127:=L.t127; have a127:=L.a127; have z127:=L.z127; have v127:=L.v127; have u127:=run_underlying L.t127
 have t3:=L.t3; have a3:=L.a3; have z3:=L.z3; have v3:=L.v3; have u3:=run_underlying L.t3
 have t9:=L.t9; have a9:=L.a9; have z9:=L.z9; have v9:=L.v9; have u9:=run_underlying L.t9
 have t5:=X.t5; have a5:=X.a5; have z5:=X.z5; have v5:=X.v5; have u5:=run_underlying X.t5
 rcases hown.2 with ⟨rfl,h0⟩|⟨g,cap,cur,rfl,hbg,hg,hnc,hcm,hcs,htake⟩
 ·have hl:l=[]:=List.eq_nil_of_length_eq_zero h0
  subst hl
  have hUS:=Any.unsafeString_none L X
  have c1:w.drew.cell? ⟨b,1,none⟩=some (.slice none 0 0):=by
   have:w.drew.heap[b]?=some (.cells #[p,.slice none 0 0] (ρ.t 72) fz):=h.1
   rw [Lib.cell_of_heap this]; rfl
  have hSD:(Builtin.unsafeSliceData_ #[(ρ.t 37)] (ρ.t 127) #[.slice none 0 0]).run P w.drew=.ok (.pointer none) w.drew:=rfl
  go_enter L.f169,Body.n169_ntmps ρ
  go_wp2
  go_region_o
  all_goals (go_wp2; go_ret; exact ⟨rfl,lM (Below.drew (Below.refl _ w)),rfl⟩)
 ·have hc0:cap≠0:=Nat.ne_of_gt (hro _ _ _ rfl)
  have hgb:g≠b:=fun e=>Lib.ownBlock_ne hown h.1 X.neB5 (by rw [e]; rfl)
  have hSD:(Builtin.unsafeSliceData_ #[(ρ.t 37)] (ρ.t 127) #[.slice (some ⟨g,0,none⟩) l.length cap]).run P w.drew=.ok (.pointer (some ⟨g,0,none⟩)) w.drew:=
   Lib.run_unsafeSliceData_row _ _ _ _ _ _ hc0
  have c1:w.drew.cell? ⟨b,1,none⟩=some (.slice (some ⟨g,0,none⟩) l.length cap):=by
   have:w.drew.heap[b]?=some (.cells #[p,.slice (some ⟨g,0,none⟩) l.length cap] (ρ.t 72) fz):=h.1
   rw [Lib.cell_of_heap this]; rfl
  have hfin:∀ n,Beside w (w.drew.freeze ⟨g,0,none⟩ n) b (some g)∧(w.drew.freeze ⟨g,0,none⟩ n).heap[b]?=w.heap[b]?:=fun n=>by
   have hf:∀ k,k≠g→(w.drew.freeze ⟨g,0,none⟩ n).heap[k]?=w.heap[k]?:=fun k hk=>by
    unfold World.freeze
    split
    ·rfl
    ·simp only [Array.getElem?_modify]
     rw [if_neg (fun e=>hk e.symm)]
     rfl
   have h5:(w.drew.freeze ⟨g,0,none⟩ n).os=w.os∧(w.drew.freeze ⟨g,0,none⟩ n).tape=w.tape∧(w.drew.freeze ⟨g,0,none⟩ n).output=w.output∧(w.drew.freeze ⟨g,0,none⟩ n).heap.size=w.heap.size:=by
    unfold World.freeze
    split
    ·exact ⟨rfl,rfl,rfl,rfl⟩
    ·exact ⟨rfl,rfl,rfl,by simp⟩
   refine ⟨⟨h5.1,h5.2.1,h5.2.2.1,by omega,fun k _ _ hk=>hf k (fun e=>hk (by rw [e])),fun k _=>?_⟩,hf b (fun e=>hgb e.symm)⟩
   by_cases hk:k=g
   ·subst hk
    unfold World.freeze
    split
    ·rfl
    ·unfold World.shape?
     have hg' : w.drew.heap[k]?=some (.cells cur (ρ.t 5) (0,0)):=hg
     simp only [Array.getElem?_modify,if_true,hg',Option.map_some,hg]
   ·exact fN (hf k hk)
  by_cases hl:l=[]
  ·subst hl
   have hUS:=Any.unsafeString_none L X
   simp only [List.length_nil] at hSD c1
   clear hc0
   go_enter L.f169,Body.n169_ntmps ρ
   go_wp2
   go_region_o
   all_goals (go_wp2; go_ret; exact ⟨rfl,lM (Below.drew (Below.refl _ w)),rfl⟩)
  ·have hl0:l.length≠0:=by simpa using hl
   have hUS:(Builtin.unsafeString_ #[(ρ.t 127),(ρ.t 3)] (ρ.t 9) #[.pointer (some ⟨g,0,none⟩),.int .i64 l.length]).run P w.drew=.ok (.string ⟨l.toArray⟩) (w.drew.freeze ⟨g,0,none⟩ l.length):=by
    refine Lib.run_unsafeString_row w.drew (ρ.t 127) (ρ.t 3) (ρ.t 9) (ρ.t 5) L.t127 X.cellsByte g cur.size (by have hg' : w.drew.heap[g]?=some (.cells cur (ρ.t 5) (0,0)):=hg; simp [World.shape?,hg']) l hl (by omega) (by unfold maxLen at hcm; omega) ?_
    intro j x hx
    exact hown.cells (g:=g) rfl j (.int .u8 x.toNat) (by simp [Lib.byteCells,hx])
   clear hc0
   go_enter L.f169,Body.n169_ntmps ρ
   go_wp2
   go_region_o
   all_goals (go_wp2; go_ret; exact ⟨rfl,hfin _⟩)

def Buf (gr:Bool)(e:Nat)(bs:List UInt8):AObj:=match gr with | true=>.gbuf e bs | false=>.buf e bs
def Bld (gr:Bool)(T e:Nat)(bs:List UInt8):List AObj:=[Buf gr e bs,.box [.self 1 T 2,.hdr 0 e bs.length]]
theorem SN {gr:Bool}{w:World}{ok:Nat→Prop}{β:Loc}{l e:Nat}{bs:List UInt8}(h:ORep w ok β l (Buf gr e bs)) :
  (bs=[]∧β l=none)∨∃ g cur,β l=some (g,0)∧w.heap[g]?=some (.cells cur e (0,0))∧bs.length≤cur.size∧(cur.toList.take bs.length=bs.map fun b=>Value.int .u8 b.toNat)∧(gr=false→bs≠[]):=by
 cases gr with
 | true=>
  rcases h with h|⟨g,cur,h1,h2,h3,h4⟩
  ·exact .inl h
  ·exact .inr ⟨g,cur,h1,h2,h3,h4,fun h=>by cases h⟩
 | false=>
  rcases h with h|⟨g,cur,h1,h2,h3,h4,h5⟩
  ·exact .inl h
  ·exact .inr ⟨g,cur,h1,h2,h3,h4,fun _=>h5⟩
theorem aCv {gr:Bool}{w:World}{ok:Nat→Prop}{β:Loc}{l e:Nat}{bs:List UInt8}
  (h:(bs=[]∧β l=none)∨∃ g cur,β l=some (g,0)∧w.heap[g]?=some (.cells cur e (0,0))∧bs.length≤cur.size∧(cur.toList.take bs.length=bs.map fun b=>Value.int .u8 b.toNat)∧(gr=false→bs≠[])):ORep w ok β l (Buf gr e bs):=by
 cases gr with
 | true=>
  rcases h with h|⟨g,cur,h1,h2,h3,h4,h5⟩
  ·exact .inl h
  ·exact .inr ⟨g,cur,h1,h2,h3,h4⟩
 | false=>
  rcases h with h|⟨g,cur,h1,h2,h3,h4,h5⟩
  ·exact .inl h
  ·exact .inr ⟨g,cur,h1,h2,h3,h4,h5 rfl⟩
theorem Buf_fix {gr:Bool}{e:Nat}{bs:List UInt8}:(∀ ρ h,jV ρ h (Buf gr e bs)=Buf gr e bs)∧(∀ ρ,aR ρ (Buf gr e bs)=Buf gr e bs)∧(∀ p,inO p (Buf gr e bs)=true)∧dP (some (Buf gr e bs))=false:=by
 cases gr <;> exact ⟨fun _ _=>rfl,fun _=>rfl,fun _=>rfl,rfl⟩

theorem jJ {gr:Bool}{w:World}{ok:Nat→Prop}{β:Loc}{N T e:Nat}{bs:List UInt8}(h:HRep N w ok β (Bld gr T e bs)) :
  ∃ b p v fz,β 1=some (b,0)∧Hd w b T p v fz∧w.ownsRow 0 e 1 v bs.length (Lib.byteCells bs)∧jX v∧(∀ g,v.ownBlock=some g→β 0=some (g,0))∧(gr=false→bs=[]→v=.slice none 0 0):=by
 obtain ⟨b,vs,t,fz,h1,h2,h3,h4,h5⟩:=h.obj 1 _ rfl
 have h4:vs.size=2:=by simpa using h4
 obtain ⟨p,v,rfl⟩:∃ p v,vs=#[p,v]:=by
  match vs,h4 with
  | ⟨[p,v]⟩,_=>exact ⟨p,v,rfl⟩
 have r0:=h5 0 p _ rfl rfl
 have r1:=h5 1 v _ rfl rfl
 have hT:t=T∧(p=.pointer none∨p=.pointer (some ⟨b,0,none⟩)):=by
  have hs:=bA h2
  cases r0 with
  | selfn l t' m b' hb hm=>
   rw [h1] at hb; cases hb
   rw [hs] at hm; cases hm
   exact ⟨rfl,.inl rfl⟩
  | selfp l t' m b' hb hm=>
   rw [h1] at hb; cases hb
   rw [hs] at hm; cases hm
   exact ⟨rfl,.inr rfl⟩
 obtain ⟨rfl,hp⟩:=hT
 refine ⟨b,p,v,fz,h1,⟨h2,h3,hp⟩,?_⟩
 have hl:(Lib.byteCells bs).length=bs.length*1:=by simp only [Lib.byteCells,List.length_map,Nat.mul_one]
 generalize hn:bs.length=n at r1
 cases r1 with
 | hdrn=>
  refine ⟨⟨by rw [hl,hn],.inl ⟨rfl,rfl⟩⟩,fun a m c hv=>by simp at hv,fun g hg=>by simp [Value.ownBlock] at hg,fun _ _=>rfl⟩
 | hdrs m e' n' g cap hb hm hnc hcm hc0=>
  subst hn
  rcases SN (h.obj 0 _ rfl) with ⟨_,k2⟩|⟨g',cur,k1,k2,k3,k4,k5⟩
  ·rw [k2] at hb; cases hb
  ·rw [k1] at hb; cases hb
   rw [bA k2] at hm; cases hm
   refine ⟨⟨hl,.inr ⟨g,cur.size,cur,rfl,Nat.zero_le _,k2,hnc,hcm,by simp,by rw [Nat.mul_one]; exact k4⟩⟩,fun a m c hv=>?_,fun g hg=>?_,fun hg hb=>absurd hb (k5 hg)⟩
   ·simp at hv; omega
   ·simp [Value.ownBlock] at hg; subst hg; exact k1

theorem rE {gr gr' : Bool}{w w' : World}{ok:Nat→Prop}{β:Loc}{N T e:Nat}{bs:List UInt8}{b:Nat}{v p' v' : Value}{fz:Nat×Nat}{bs' : List UInt8}(hN:N≤w.heap.size)(h:HRep N w ok β (Bld gr T e bs))
  (hβ:β 1=some (b,0)) (hv:∀ g,v.ownBlock=some g→β 0=some (g,0)) (hs:Beside w w' b v.ownBlock) (hd:Hd w' b T p' v' fz)
  (hown:w'.ownsRow 0 e 1 v' bs'.length (Lib.byteCells bs')) (hro:jX v') (hw:∀ g,v'.ownBlock=some g→v.ownBlock=some g∨w.heap.size≤g) (hne:gr' = false→v'.ownBlock≠none→bs' ≠ []) :
  ∃ β' : Loc,Ev w ok β w' ok β' ∧ HRep N w' ok β' (Bld gr' T e bs')∧β' 1=β 1∧∀ k,k<N→w'.heap[k]?=w.heap[k]?:=by
 have hlt1:=(h.lt 1 b 0 hβ)
 have hvb:∀ g,v'.ownBlock=some g→g≠b:=fun g hg e=>by
  subst e
  rcases hw g hg with q|q
  ·have:=h.inj 0 1 g 0 0 (hv g q) hβ; omega
  ·omega
 let β' : Loc:=fun l=>if l=0 then v'.ownBlock.map (·,0) else β l
 have b0:∀ g o,β' 0=some (g,o)→v'.ownBlock=some g∧o=0:=fun g o hg=>by
  simp only [β',if_true] at hg
  cases hq:v'.ownBlock with
  | none=>rw [hq] at hg; simp at hg
  | some g' => rw [hq] at hg; simp at hg; exact ⟨by rw [hg.1],hg.2.symm⟩
 have bn:∀ l,l≠0→β' l=β l:=fun l hl=>by simp [β',hl]
 have out2:∀ l,2≤l→β l=none:=fun l hl=>h.out l (by simpa [Bld] using hl)
 refine ⟨β',⟨hs.os,hs.tape,hs.output,hs.size,fun k hk hn=>?_,fun l x hx=>?_,fun _ h=>h,fun _ h=>.inl h,hs.shape⟩,⟨?_,?_,?_,?_,fun k hk=>Nat.lt_of_lt_of_le (h.okl k hk) hs.size,?_⟩,bn 1 (by omega),fun k hk=>?_⟩
 ·refine hs.block k hk (fun e=>hn 1 _ hβ (by rw [e])) (fun e=>hn 0 _ (hv k e) rfl)
 ·by_cases hl:l=0
  ·subst hl
   obtain ⟨g,o⟩:=x
   obtain ⟨q1,_⟩:=b0 g o hx
   rcases hw g q1 with q|q
   ·exact .inl ⟨0,_,hv g q,rfl⟩
   ·exact .inr q
  ·rw [bn l hl] at hx; exact .inl ⟨l,x,hx,rfl⟩
 ·intro l hl
  have hl:2≤l:=by simpa [Bld] using hl
  rw [bn l (by omega)]; exact out2 l hl
 ·intro l l' c o o' h1 h2
  have key:∀ l,l≠0→∀ c o o',β' 0=some (c,o)→β' l=some (c,o')→False:=fun l hl c o o' h1 h2=>by
   rw [bn l hl] at h2
   rcases hw c (b0 c o h1).1 with q|q
   ·exact hl (h.inj 0 l c 0 o' (hv c q) h2).symm
   ·have:=(h.lt l c o' h2).2; omega
  by_cases hl:l=0
  ·by_cases hl' : l' = 0
   ·rw [hl,hl']
   ·subst hl; exact (key l' hl' c o o' h1 h2).elim
  ·by_cases hl' : l' = 0
   ·subst hl'; exact (key l hl c o' o h2 h1).elim
   ·rw [bn l hl] at h1; rw [bn l' hl'] at h2; exact h.inj l l' c o o' h1 h2
 ·intro l c o hx
  by_cases hl:l=0
  ·subst hl
   obtain ⟨q1,_⟩:=b0 c o hx
   refine ⟨?_,(hown.lt c q1).2⟩
   rcases hw c q1 with q|q
   ·exact (h.lt 0 c 0 (hv c q)).1
   ·omega
  ·rw [bn l hl] at hx; have:=h.lt l c o hx; exact ⟨this.1,Nat.lt_of_lt_of_le this.2 hs.size⟩
 ·intro l c o hx hok
  by_cases hl:l=0
  ·subst hl
   rcases hw c (b0 c o hx).1 with q|q
   ·exact h.dis 0 c 0 (hv c q) hok
   ·have:=h.okl c hok; omega
  ·rw [bn l hl] at hx; exact h.dis l c o hx hok
 ·intro l o ho
  match l,ho with
  | 0,ho=>
   simp [Bld] at ho; subst ho
   refine aCv ?_
   rcases hown.2 with ⟨rfl,h0⟩|⟨g,cap,cur,rfl,_,a3,a4,a5,a6,a7⟩
   ·exact .inl ⟨List.eq_nil_of_length_eq_zero h0,by simp [β',Value.ownBlock]⟩
   ·refine .inr ⟨g,cur,by simp [β',Value.ownBlock],a3,by omega,?_,fun hg=>hne hg (by simp [Value.ownBlock])⟩
    rw [Nat.mul_one] at a7; exact a7
  | 1,ho=>
   simp [Bld] at ho; subst ho
   refine ⟨b,#[p',v'],T,fz,(bn 1 (by omega)).trans hβ,hd.1,hd.2.1,rfl,fun i u d hu hd' => ?_⟩
   match i,hu,hd' with
   | 0,hu,hd' =>
    simp at hu hd'; subst hu; subst hd'
    rcases hd.2.2 with rfl|rfl
    ·exact .selfn 1 T 2 b ((bn 1 (by omega)).trans hβ) (bA hd.1)
    ·exact .selfp 1 T 2 b ((bn 1 (by omega)).trans hβ) (bA hd.1)
   | 1,hu,hd' =>
    simp at hu hd'; subst hu; subst hd'
    rcases hown.2 with ⟨rfl,h0⟩|⟨g,cap,cur,rfl,_,a3,a4,a5,a6,a7⟩
    ·rw [h0]; exact .hdrn 0 e
    ·refine .hdrs 0 e _ g cap (by simp [β',Value.ownBlock]) ?_ a4 a5 (hro _ _ _ rfl)
     rw [bA a3,a6,Nat.mul_one]
 ·refine hs.block k (by omega) (fun e=>by omega) (fun e=>?_)
  have:=h.lt 0 k 0 (hv k e); omega

theorem WZ {E:Env}{ρ:Ren}(L:Lays.n166 E.P ρ)(X:Builder.Extra E.P ρ){f:Nat}(hf:ρ.f 166=f){T e:Nat}(hT:ρ.t 72=T)(he:ρ.t 5=e)(hent:Ent E.P f)(gr:Bool)(bs s:List UInt8)(hlen:bs.length+s.length≤140737488355328) :
  ACalls E f (Bld gr T e bs) [.ptr 1 0,.str s] (fun h' d=>h' = Bld gr T e (bs++s)∧d=.undef):=by
 subst hf; subst hT; subst he
 refine ⟨hent,fun w ok β vs hG hN hH hl hv=>?_⟩
 match vs,hl with
 | [v0,v1],_=>
 have r0:=hv 0 v0 _ rfl rfl
 have r1:=hv 1 v1 _ rfl rfl
 obtain ⟨b,p,v,fz,h1,h2,h3,h4,h5,h6⟩:=jJ hH
 cases r0 with
 | ptr l o b' x hb=>
 rw [h1] at hb; cases hb
 cases r1 with
 | str s=>
 have hsz:s.size=s.data.toList.length:=(Array.length_toList (xs:=s.data)).symm
 have hbl:(Lib.byteCells bs).length=bs.length:=by simp only [Lib.byteCells,List.length_map]
 refine (zO L X s h2 (bs:=Lib.byteCells bs) (by rw [hbl]; exact h3) h4 (by rw [hbl,hsz]; exact hlen)).mono ?_
 rintro e w' ⟨rfl,v',k1,k2,k3,k4,k5,k6⟩
 have hbs:Lib.byteCells bs++Lib.strCells s=Lib.byteCells (bs++s.data.toList):=by simp only [Lib.byteCells,Lib.strCells,List.map_append]
 have hln:(Lib.byteCells bs).length+s.size=(bs++s.data.toList).length:=by rw [hbl,List.length_append,hsz]
 rw [hbs,hln] at k2
 obtain ⟨β',e1,e2,e3,e4⟩:=rE (gr' := gr) hN hH h1 h5 k3 k1 k2 k5 k4 (fun hg hne hnil=>by
  have hnil:=List.append_eq_nil_iff.1 hnil
  rcases k6 hne with q|q
  ·rw [h6 hg hnil.1] at q; exact q rfl
  ·rw [hsz,hnil.2] at q; exact q rfl)
 exact ⟨_,ok,β',_,_,rfl,⟨rfl,rfl⟩,E.stable w w' hG e4,e1,e2,.undef _,fun l cs hl=>by
  match l,hl with
  | 0,hl=>cases gr <;> simp [Bld,Buf] at hl
  | 1,hl=>exact ⟨e3,_,rfl⟩,by simp [Bld],fun h=>by cases h⟩

theorem PZ {E:Env}{ρ:Ren}(L:Lays.n169 E.P ρ)(X:Builder.Extra E.P ρ){f:Nat}(hf:ρ.f 169=f){T e:Nat}(hT:ρ.t 72=T)(he:ρ.t 5=e)(hent:Ent E.P f)(gr:Bool)(bs:List UInt8) :
  ACalls E f (Bld gr T e bs) [.ptr 1 0] (fun h' d=>h' = [.dead,.box [.undef,.undef]]∧d=.str bs):=by
 subst hf; subst hT; subst he
 refine ⟨hent,fun w ok β vs hG hN hH hl hv=>?_⟩
 match vs,hl with
 | [v0],_=>
 have r0:=hv 0 v0 _ rfl rfl
 obtain ⟨b,p,v,fz,h1,h2,h3,h4,h5,_⟩:=jJ hH
 cases r0 with
 | ptr l o b' x hb=>
 rw [h1] at hb; cases hb
 refine (wH L X bs h2 h3 h4).mono ?_
 rintro e w' ⟨rfl,k3,k4⟩
 have hlt1:=(hH.lt 1 b 0 h1)
 refine ⟨_,ok,β,_,_,rfl,⟨rfl,rfl⟩,E.stable w w' hG (fun k hk=>k3.block k (by omega) (fun e=>by omega) (fun e=>by have:=hH.lt 0 k 0 (h5 k e); omega)),
  ⟨k3.os,k3.tape,k3.output,k3.size,fun k hk hn=>k3.block k hk (fun e=>hn 1 _ h1 (by rw [e])) (fun e=>hn 0 _ (h5 k e) rfl),fun l x hx=>.inl ⟨l,x,hx,rfl⟩,fun _ h=>h,fun _ h=>.inl h,k3.shape⟩,
  ⟨fun l hl=>hH.out l (by simpa [Bld] using hl),hH.inj,fun l c o hx=>⟨(hH.lt l c o hx).1,Nat.lt_of_lt_of_le (hH.lt l c o hx).2 k3.size⟩,hH.dis,fun k hk=>Nat.lt_of_lt_of_le (hH.okl k hk) k3.size,fun l o ho=>?_⟩,?_,fun l cs hl=>?_,by simp [Bld],fun h=>by cases h⟩
 ·match l,ho with
  | 0,ho=>simp at ho; subst ho; trivial
  | 1,ho=>
   simp at ho; subst ho
   refine ⟨b,#[p,v],ρ.t 72,fz,h1,k4.trans h2.1,h2.2.1,rfl,fun i u d hu hd' => ?_⟩
   match i,hd' with
   | 0,hd' => simp at hd'; subst hd'; exact .undef _
   | 1,hd' => simp at hd'; subst hd'; exact .undef _
 ·have:=Rep.str (w:=w') (ok:=ok) (β:=β) ⟨bs.toArray⟩
  simpa using this
 ·match l,hl with
  | 0,hl=>cases gr <;> simp [Bld,Buf] at hl
  | 1,hl=>exact ⟨rfl,_,rfl⟩

theorem sZ {E:Env}{L:List (Nat×DV)}{h:List AObj}{f T e:Nat}{gr:Bool}{bs:List UInt8}{o1:AObj}{c0 c1 c0' c1' : DV}{xs:List DV}{D:DV}{K:DV→St→Prop}{m l:Nat}(hm:h[m]?=some (Buf gr e bs))(hl:h[l]?=some (.box [.self l T 2,.hdr m e bs.length]))
  (hx:xs.all DV.closed=true) (hc:ACalls E f (Bld gr T e bs) (.ptr 1 0::xs) (fun h' d=>h' = [o1,.box [c0,c1]]∧d=D)) (ho:∀ ρ,aR ρ o1=o1)
  (hr:∀ n,[c0,c1].map (DV.ren (upL n [m,l]))=[c0',c1']) (hD:∀ ρ,D.ren ρ=D) (hk:K D (sta (iZ m L) (((eA m h).set m o1).set l (.box [c0',c1'])))):acall E true f (.ptr l 0::xs) K (sta L h):=by
 obtain ⟨f1,f2,f3,f4⟩:=@Buf_fix gr e bs
 have hne:m≠l:=fun e=>by
  subst e; rw [hm] at hl
  injection hl with hl
  rw [hl] at f4; cases f4
 have hlt1:m<h.length:=(List.getElem?_eq_some_iff.1 hm).1
 have hlt2:l<h.length:=(List.getElem?_eq_some_iff.1 hl).1
 have g1:h.getD m .dead=Buf gr e bs:=by simp [hm]
 have g2:h.getD l .dead=.box [.self l T 2,.hdr m e bs.length]:=by simp [hl]
 have i0:[m,l].idxOf? m=some 0:=by simp [List.idxOf?,List.findIdx?_cons]
 have i1:[m,l].idxOf? l=some 1:=by simp [List.idxOf?,List.findIdx?_cons,hne]
 refine .go ?_
 refine .inr (.inr ⟨false,[m,l],fun h' d=>h' = [o1,.box [c0,c1]]∧d=D,.inl rfl,by simpa using hne,fun k hk=>?_,?_,fun h' d hp=>?_⟩)
 ·simp at hk; rcases hk with rfl | rfl
  ·exact hlt1
  ·exact hlt2
 ·have e1:(DV.ptr l 0::xs).map (DV.dn [m,l] (sta L h).h)=.ptr 1 0::xs:=by
   rw [List.map_cons]
   refine congr (congrArg _ ?_) (cJ fun d hd=>cY (List.all_eq_true.1 hx d hd))
   simp only [DV.dn,DV.low,i1]
  have e2:([m,l].map fun l_1=>jV (fun l_2=>[m,l].idxOf? l_2) h (h.getD l_1 .dead))=Bld gr T e bs:=by
   rw [List.map_cons,List.map_cons,List.map_nil,g1,g2,f1]
   simp only [jV,List.map_cons,List.map_nil,DV.low,i0,i1]
   rfl
  rw [e1,show (sta L h).h=h from rfl,e2]
  exact hc
 ·obtain ⟨rfl,rfl⟩:=hp
  refine ⟨.inl ?_,?_⟩
  ·rw [Bool.and_eq_true]
   refine ⟨?_,?_⟩
   ·rw [List.all_cons,Bool.and_eq_true]
    refine ⟨by simp [DV.inL],List.all_eq_true.2 fun d hd=>bC (List.all_eq_true.1 hx d hd)⟩
   ·simp only [show (sta L h).h=h from rfl,List.all_cons,List.all_nil,Bool.and_true,g1,g2,f3]
    simp [inO,DV.inL]
  ·rw [hD]
   have e:(sta L h).handed false [m,l] [o1,.box [c0,c1]]=sta (iZ m L) (((eA m h).set m o1).set l (.box [c0',c1'])):=by
    unfold St.handed
    have e1:(List.filter (fun l => !dP (sta L h).h[l]?) [m,l])=[m]:=by
     simp only [show (sta L h).h=h from rfl,List.filter_cons,hm,hl,f4]
     rfl
    simp only [e1,List.isEmpty_cons,Bool.or_self,Bool.false_eq_true,if_false]
    have e2:(sta L h).kill [m].contains=sta (iZ m L) (eA m h):=by
     have:([m].contains)=fun l=>l == m:=mA m
     rw [this]; exact iV
    rw [e2]
    have er:[o1,AObj.box [c0,c1]].map (aR (upL (sta L h).h.length [m,l]))=[o1,.box [c0',c1']]:=by
     rw [List.map_cons,List.map_cons,List.map_nil,ho]
     exact congrArg (fun q=>[o1,AObj.box q]) (hr _)
    rw [er]
    simp only [List.length_cons,List.length_nil,List.drop_succ_cons,List.drop_zero,List.map_nil,List.append_nil,bB]
    rfl
   rw [e]; exact hk
theorem cI {E:Env}{L:List (Nat×DV)}{h:List AObj}{f T e:Nat}{gr gr' : Bool}{bs bs' : List UInt8}{xs:List DV}{K:DV→St→Prop}{m l:Nat}(hm:h[m]?=some (Buf gr e bs))(hl:h[l]?=some (.box [.self l T 2,.hdr m e bs.length]))
  (hx:xs.all DV.closed=true) (hc:ACalls E f (Bld gr T e bs) (.ptr 1 0::xs) (fun h' d=>h' = Bld gr' T e bs' ∧ d=.undef))
  (hk:K .undef (sta (iZ m L) (((eA m h).set m (Buf gr' e bs')).set l (.box [.self l T 2,.hdr m e bs'.length])))):acall E true f (.ptr l 0::xs) K (sta L h):=
 sZ hm hl hx hc Buf_fix.2.1 (fun _=>rfl) (fun _=>rfl) hk
theorem jO {E:Env}{L:List (Nat×DV)}{h:List AObj}{f T e:Nat}{gr:Bool}{bs:List UInt8}{K:DV→St→Prop}{m l:Nat}(hm:h[m]?=some (Buf gr e bs))(hl:h[l]?=some (.box [.self l T 2,.hdr m e bs.length]))
  (hc:ACalls E f (Bld gr T e bs) [.ptr 1 0] (fun h' d=>h' = [.dead,.box [.undef,.undef]]∧d=.str bs))
  (hk:K (.str bs) (sta (iZ m L) (((eA m h).set m .dead).set l (.box [.undef,.undef])))):acall E true f [.ptr l 0] K (sta L h):=
 sZ hm hl rfl hc (fun _=>rfl) (fun _=>rfl) (fun _=>rfl) hk
end Go.Ai

namespace Go.Ai
theorem sT {p q r:Nat→Bool}(hr:∀ l,r l=(p l||q l)):∀ {d:DV},(d.kill p).kill q=d.kill r:=by
  intro d
  refine DV.rec (motive_1:=fun d=>(d.kill p).kill q=d.kill r) (motive_2:=fun l=>DV.kill.killAll q (DV.kill.killAll p l)=DV.kill.killAll r l) (motive_3:=fun _=>True)
    ?_ ?_ ?_ ?_ ?_ ?_ ?_ ?_ ?_ ?_ ?_ ?_ ?_ ?_ ?_ ?_ ?_ ?_ ?_ ?_ ?_ ?_ ?_ ?_ ?_ ?_ d
  all_goals first
    | (intros; rfl)
    | (intros; simp_all [DV.kill,DV.kill.killAll]; done)
    | (intro l
       intros
       have h3:=hr l
       cases hp:p l <;> cases hq:q l <;> simp [DV.kill,hp,hq,hp▸hq▸h3]; done)
    | (intro l
       intros
       have h3:=hr l
       cases hp:p l <;> cases hq:q l <;> (rw [hp,hq] at h3; simp [DV.kill,hp,hq,h3]); done)
    | (intro _ l
       intros
       have h3:=hr l
       cases hp:p l <;> cases hq:q l <;> (rw [hp,hq] at h3; simp [DV.kill,hp,hq,h3]); done)
    | skip
theorem wT {p q r:Nat→Bool}(hr:∀ l,r l=(p l||q l))(o:AObj):nF q (nF p o)=nF r o:=by
 cases o with
 | box cs=>
  simp only [nF,List.map_map]
  exact congrArg AObj.box (List.map_congr_left fun d _=>sT hr)
 | _=>rfl
end Go.Ai
