/- What the library does for csv: where a sign stands, what is ahead of it, what a builder holds. -/
import Derived.Test.YtgamnnfndidclaaGreatDoorCAiBld
import Derived.Test.YtgamnnfndidclaaGreatDoorCYFoUtD
import Derived.Test.YtgamnnfndidclaaGreatDoorCYFoUtF
import Derived.Test.YtgamnnfndidclaaGreatDoorCYPrB
import Derived.Shelf.Strings.Count
import Derived.Shelf.Strings.IndexAnyAll
import Derived.Shelf.Lays
import Derived.Ground.NamesProg
import Derived.Test.YtgamnnfndidclaaGreatDoorProg
import Derived.Test.YtgamnnfndidclaaGreatDoorCLawJid
open Nat renaming reduceBEq → qA,reduceAdd → qB,reduceSub → qC,reduceLeDiff → qD,reduceMul → qE
open Int renaming reduceLE → qF,reduceLT → qG,reduceNe → qH,reduceToNat → qI
set_option linter.all false
namespace Go.Proofs.Ut
open Go.Ai Classical Go.Shelf Go.RowKit
set_option linter.unusedSimpArgs false
set_option maxHeartbeats 1000000
set_option maxRecDepth 100000
theorem yG {f:Nat}{args:List DV}{r:DV}(hent:Ent Tryz.prog f)(h:∀ (w:World)(ok:Nat→Prop)(β:Ai.Loc)(vs:List Value),vs.length=args.length→(∀ (i:Nat) v d,vs[i]?=some v→args[i]?=some d→Rep w ok β v d) →
  ∃ v,(∀ w ok β,Rep w ok β v r)∧Calls Tryz.prog f vs.toArray w fun e w' => e=.returned v∧Below w.heap.size w w'):aU f args r:=by
 refine ⟨hent,fun w ok β vs hg hn hh hl hv=>?_⟩
 obtain ⟨v,hr,hc⟩:=h w ok β vs hl hv
 refine hc.mono ?_
 rintro e w' ⟨rfl,hb⟩
 exact ⟨_,ok,β,[],_,rfl,⟨rfl,rfl⟩,jV hg hn hb,Ev.below hb,uT hh hb.size,hr _ _ _,fun l cs q=>by simp at q,Nat.le_refl _,fun _ _ _=>rfl⟩
theorem dB {w:World}{ok:Nat→Prop}{β:Ai.Loc}{v:Value}{s:List UInt8}(h:Rep w ok β v (.str s)):v=.string ⟨s.toArray⟩:=by
 generalize hd:DV.str s=d at h
 cases h <;> try cases hd
 rfl
theorem VC {w:World}{ok:Nat→Prop}{β:Ai.Loc}{v:Value}{k:IntKind}{n:Int}(h:Rep w ok β v (.int k n)):v=.int k n:=by
 cases h; rfl
theorem RF (w:World)(ok:Nat→Prop)(β:Ai.Loc)(s:List UInt8):Rep w ok β (.string ⟨s.toArray⟩) (.str s):=by
 have:=Rep.str (w:=w) (ok:=ok) (β:=β) ⟨s.toArray⟩
 simpa using this
theorem two {vs:List Value}{a b:DV}(h:vs.length=[a,b].length):∃ u v,vs=[u,v]:=by
 match vs,h with
 | [u,v],_=>exact ⟨u,v,rfl⟩
theorem SJ (s:List UInt8)(c:UInt8):aU 166 [.str s,.str [c]] (.int .i64 (Lib.indexByte s c)):=by
 refine yG ⟨Tryz.f166,Tryz.func166,by kernel_rfl,by kernel_rfl⟩ fun w ok β vs hl hv=>?_
 obtain ⟨u,v,rfl⟩:=two hl
 obtain rfl:=dB (hv 0 u _ rfl rfl)
 obtain rfl:=dB (hv 1 v _ rfl rfl)
 refine ⟨_,fun _ _ _=>.int _ _,(Any.stringslite_Index_one Tryz.lays219 ⟨s.toArray⟩ c w).mono ?_⟩
 rintro e w' ⟨rfl,rfl⟩
 exact ⟨rfl,Below.refl _ _⟩
theorem QL (s:List UInt8)(c:UInt8):aU 126 [.str s,.str [c]] (.int .i64 (Lib.indexByte s c)):=by
 refine yG ⟨Tryz.f126,Tryz.func126,by kernel_rfl,by kernel_rfl⟩ fun w ok β vs hl hv=>?_
 obtain ⟨u,v,rfl⟩:=two hl
 obtain rfl:=dB (hv 0 u _ rfl rfl)
 obtain rfl:=dB (hv 1 v _ rfl rfl)
 refine ⟨_,fun _ _ _=>.int _ _,(Any.strings_Index_one Tryz.lays143 ⟨s.toArray⟩ c w).mono ?_⟩
 rintro e w' ⟨rfl,rfl⟩
 exact ⟨rfl,Below.refl _ _⟩
theorem ZX (s:List UInt8)(c:Int):aU 212 [.str s,.int .u8 c] (.int .i64 (Lib.indexByte s c.toNat.toUInt8)):=by
 refine yG ⟨Tryz.f212,Tryz.func212,by kernel_rfl,by kernel_rfl⟩ fun w ok β vs hl hv=>?_
 obtain ⟨u,v,rfl⟩:=two hl
 obtain rfl:=dB (hv 0 u _ rfl rfl)
 obtain rfl:=VC (hv 1 v _ rfl rfl)
 refine ⟨_,fun _ _ _=>.int _ _,(Any.stringslite_IndexByte Tryz.lays217 ⟨s.toArray⟩ c w).mono ?_⟩
 rintro e w' ⟨rfl,rfl⟩
 exact ⟨rfl,Below.refl _ _⟩
theorem IJ (s:List UInt8)(c:Int):aU 305 [.str s,.int .u8 c] (.int .i64 (Lib.indexByte s c.toNat.toUInt8)):=by
 refine aA c305 (by simp [f305]) ?_
 simp only [f305,↓gos,gop,qA,qB,qC,qD,qE,qF,qG,qH,qI]
 refine aB (ZX s c) rfl rfl ?_
 simp only [↓gos,gop,qA,qB,qC,qD,qE,qF,qG,qH,qI]
 exact mK rfl
theorem FA (gr:Bool)(bs s:List UInt8)(hlen:bs.length+s.length≤140737488355328):ACalls ED 174 (Bld gr 169 5 bs) [.ptr 1 0,.str s] (fun h' d=>h' = Bld gr 169 5 (bs++s)∧d=.undef):=
 aBz (E:=ED) Tryz.lays166 Tryz.extra166 rfl rfl rfl ⟨Tryz.f174,Tryz.func174,by kernel_rfl,by kernel_rfl⟩ gr bs s hlen
theorem WR (gr:Bool)(bs:List UInt8):ACalls ED 175 (Bld gr 169 5 bs) [.ptr 1 0] (fun h' d=>h' = [.dead,.box [.undef,.undef]]∧d=.str bs):=
 QJ (E:=ED) Tryz.lays169 Tryz.extra169 rfl rfl rfl ⟨Tryz.f175,Tryz.func175,by kernel_rfl,by kernel_rfl⟩ gr bs
def cut (c:UInt8):List UInt8→List UInt8×List UInt8×Bool
 | []=>([],[],false)
 | x::s=>if x=c then ([],s,true) else (x::(cut c s).1,(cut c s).2.1,(cut c s).2.2)
theorem lX (c:UInt8):∀ s:List UInt8,(Lib.indexByte s c<0∧cut c s=(s,[],false))∨(∃ n:Nat,Lib.indexByte s c=n∧n<s.length∧cut c s=(s.take n,s.drop (n+1),true))
 | []=>.inl ⟨by simp [Lib.indexByte],rfl⟩
 | x::s=>by
  unfold Lib.indexByte cut
  by_cases hx:x=c
  ·rw [if_pos hx,if_pos (by simp [hx])]
   exact .inr ⟨0,rfl,by simp,rfl⟩
  ·rw [if_neg hx,if_neg (by simp [hx])]
   rcases lX c s with ⟨h1,h2⟩|⟨n,h1,h2,h3⟩
   ·have:=Lib.indexByte_ge s c
    have e:Lib.indexByte s c = -1:=by omega
    rw [h2,if_pos (by rw [e]; rfl)]
    exact .inl ⟨by omega,rfl⟩
   ·rw [h3,h1,if_neg (by first | (simp; done) | (simp; omega))]
    exact .inr ⟨n+1,by omega,by simpa using h2,rfl⟩
theorem aEd (s:List UInt8)(c:UInt8)(hs:s.length<1000000000000):aU 224 [.str s,.str [c]] (.tup [.str (cut c s).1,.str (cut c s).2.1,.bool (cut c s).2.2]):=by
 refine aA c224 (by simp [f224]) ?_
 simp only [f224,↓gos,gop,qA,qB,qC,qD,qE,qF,qG,qH,qI]
 refine aB (SJ s c) rfl rfl ?_
 simp only [↓gos,gop,qA,qB,qC,qD,qE,qF,qG,qH,qI]
 rcases lX c s with ⟨h1,h2⟩|⟨n,h1,h2,h3⟩
 ·refine ⟨fun h=>absurd h (by omega),fun _=>?_⟩
  rw [h2]
  exact aD rfl ⟨rfl,rfl⟩
 ·rw [h1]
  refine ⟨fun _=>⟨by omega,by omega,fun v hv=>?_⟩,fun h=>absurd h (by omega)⟩
  rw [wrap_i64 (by omega) (by omega)] at hv
  subst hv
  refine ⟨by omega,by omega,?_⟩
  rw [h3]
  refine aD rfl ⟨rfl,?_⟩
  have e1:((n:Int)).toNat=n:=by omega
  have e2:((n:Int)+1).toNat=n+1:=by omega
  rw [e1,e2,List.take_of_length_le (l:=s.drop (n+1)) (by simp)]
  rfl
theorem yU (s:List UInt8)(c:UInt8)(hs:s.length<1000000000000):aU 183 [.str s,.str [c]] (.tup [.str (cut c s).1,.str (cut c s).2.1,.bool (cut c s).2.2]):=by
 refine aA c183 (by simp [f183]) ?_
 simp only [f183,↓gos,gop,qA,qB,qC,qD,qE,qF,qG,qH,qI]
 refine aB (aEd s c hs) rfl rfl ?_
 simp only [↓gos,gop,qA,qB,qC,qD,qE,qF,qG,qH,qI]
 exact aD rfl ⟨rfl,rfl⟩
theorem TG (s p:List UInt8)(hs:s.length<1000000000000)(hp:p.length<1000000000000):aU 232 [.str s,.str p] (.bool (p.isPrefixOf s)):=by
 refine aA c232 (by simp [f232]) ?_
 simp only [f232,↓gos,gop,qA,qB,qC,qD,qE,qF,qG,qH,qI]
 have hiff:p.isPrefixOf s=true↔s.take p.length=p:=by
  rw [List.isPrefixOf_iff_prefix,List.prefix_iff_eq_take]
  exact eq_comm
 refine ⟨fun h=>⟨h,fun q=>aG ?_,fun q=>aG ?_⟩,fun h=>aG ?_⟩
 ·rw [hiff.2 q]
 ·cases hp:p.isPrefixOf s
  ·rfl
  ·exact absurd (hiff.1 hp) q
 ·cases hp:p.isPrefixOf s
  ·rfl
  ·have:=congrArg List.length (hiff.1 hp)
   rw [List.length_take] at this
   omega
theorem aFG (s p:List UInt8)(hs:s.length<1000000000000)(hp:p.length<1000000000000):aU 250 [.str s,.str p] (.bool (p.isPrefixOf s)):=by
 refine aA c250 (by simp [f250]) ?_
 simp only [f250,↓gos,gop,qA,qB,qC,qD,qE,qF,qG,qH,qI]
 refine aB (TG s p hs hp) rfl rfl ?_
 simp only [↓gos,gop,qA,qB,qC,qD,qE,qF,qG,qH,qI]
 exact aG rfl
def gQ (p s:List UInt8):List UInt8×Bool:=if p.isPrefixOf s then (s.drop p.length,true) else (s,false)
theorem aCL (s p:List UInt8)(hs:s.length<1000000000000)(hp:p.length<1000000000000):aU 195 [.str s,.str p] (.tup [.str (gQ p s).1,.bool (gQ p s).2]):=by
 refine aA c195 (by simp [f195]) ?_
 simp only [f195,↓gos,gop,qA,qB,qC,qD,qE,qF,qG,qH,qI]
 refine aB (TG s p hs hp) rfl rfl ?_
 unfold gQ
 cases h:p.isPrefixOf s
 ·simp only [↓gos,gop,qA,qB,qC,qD,qE,qF,qG,qH,qI]
  exact aD rfl ⟨rfl,rfl⟩
 ·have hle:p.length≤s.length:=(List.isPrefixOf_iff_prefix.1 h).length_le
  simp only [↓gos,gop,qA,qB,qC,qD,qE,qF,qG,qH,qI]
  refine ⟨by omega,aD rfl ⟨rfl,?_⟩⟩
  rw [List.take_of_length_le (l:=s.drop p.length) (by simp)]
  rfl
theorem aGj (s p:List UInt8)(hs:s.length<1000000000000)(hp:p.length<1000000000000):aU 154 [.str s,.str p] (.tup [.str (gQ p s).1,.bool (gQ p s).2]):=by
 refine aA c154 (by simp [f154]) ?_
 simp only [f154,↓gos,gop,qA,qB,qC,qD,qE,qF,qG,qH,qI]
 refine aB (aCL s p hs hp) rfl rfl ?_
 simp only [↓gos,gop,qA,qB,qC,qD,qE,qF,qG,qH,qI]
 exact aD rfl ⟨rfl,rfl⟩
theorem kH (c:UInt8)(s:List UInt8):(cut c s).1.length≤s.length∧(cut c s).2.1.length≤s.length:=by
 rcases lX c s with ⟨_,h⟩|⟨n,_,_,h⟩ <;> rw [h] <;> simp <;> omega
set_option linter.unusedVariables false
theorem aGM (n:Int):aU 271 [.int .i64 n] (.bool (decide (8<n))):=by
 refine aA c271 (by simp [f271]) ?_
 simp only [f271,↓gos,gop,qA,qB,qC,qD,qE,qF,qG,qH,qI]
 repeat' (first | refine And.intro ?_ ?_ | intro _)
 all_goals first
  | (refine aG ?_; simp; omega)
  | (refine aG ?_; simp [*])
  | exact aG rfl
theorem VO (c:Nat)(h:okC c):aU 306 [.int .i32 c] (.bool true):=by
 refine aA c306 (by simp [f306]) ?_
 simp only [f306,↓gos,gop,qA,qB,qC,qD,qE,qF,qG,qH,qI]
 unfold okC at h
 repeat' (first | refine And.intro ?_ ?_ | intro _)
 all_goals first
  | exact aG rfl
  | (exfalso; omega)
theorem QQ (s:List UInt8)(i:Nat):(by_ s i<128∧D s i=(by_ s i,1))∨(128≤by_ s i∧128≤(D s i).1∧∀ q,i≤q→q<i+(D s i).2→128≤by_ s q):=by
 by_cases h0:by_ s i<128
 ·exact .inl ⟨h0,D1 h0⟩
 ·refine .inr ⟨by omega,?_⟩
  have hb:=xG s i
  have z:128≤((65533,1):Nat×Nat).1∧∀ q,i≤q→q<i+((65533,1):Nat×Nat).2→128≤by_ s q:=⟨by simp,fun q h1 h2=>by
   have:q=i:=by simp at h2; omega
   subst this; omega⟩
  rw [AW,if_neg h0]
  split
  ·rename_i h
   split
   ·rename_i hc
    refine ⟨hc,fun q h1 h2=>?_⟩
    simp only at h2
    have:q=i∨q=i+1:=by omega
    rcases this with rfl|rfl <;> omega
   ·exact z
  ·split
   ·rename_i h
    split
    ·rename_i hc
     refine ⟨by have:=hc.1; simp only; omega,fun q h1 h2=>?_⟩
     simp only at h2
     have:q=i∨q=i+1∨q=i+2:=by omega
     rcases this with rfl|rfl|rfl <;> omega
    ·exact z
   ·split
    ·rename_i h
     split
     ·rename_i hc
      refine ⟨by have:=hc.1; simp only; omega,fun q h1 h2=>?_⟩
      simp only at h2
      have:q=i∨q=i+1∨q=i+2∨q=i+3:=by omega
      rcases this with rfl|rfl|rfl|rfl <;> omega
     ·exact z
    ·exact z
theorem MU (c:Nat)(h:okC c)(h1:128≤c):(∃ x y,(Utf8.encode (c:Int)).data.toList=[x,y]∧128≤y.toNat)∨(∃ x y z,(Utf8.encode (c:Int)).data.toList=[x,y,z]∧128≤z.toNat) ∨
  (∃ x y z t,(Utf8.encode (c:Int)).data.toList=[x,y,z,t]∧128≤t.toNat):=by
 have e:=mQ h
 unfold en at e
 rw [e,if_neg (by omega)]
 have hm:128≤(UInt8.ofNat (128+c % 64)).toNat:=by rw [cW _ (by omega)]; omega
 split
 ·exact .inl ⟨_,_,rfl,hm⟩
 ·split
  ·exact .inr (.inl ⟨_,_,_,rfl,hm⟩)
  ·exact .inr (.inr ⟨_,_,_,_,rfl,hm⟩)
theorem DY (l:List UInt8)(b:UInt8)(hl:∀ x∈l,x.toNat<128)(hb:128≤b.toNat):Lib.indexByte l b = -1:=by
 induction l with
 | nil=>rfl
 | cons x l ih=>
  unfold Lib.indexByte
  have hx:(x == b)=false:=by
   have:=hl x (by simp)
   simp only [beq_eq_false_iff_ne,ne_eq]
   intro e; subst e; omega
  rw [hx,ih fun y hy=>hl y (by simp [hy])]
  rfl
def Sg (S:List UInt8):Prop:=2≤S.length∧S.length<1000∧∀ x∈S,x.toNat<128
theorem VV (c:Nat)(h:okC c)(h1:128≤c):2≤(Utf8.encode (c:Int)).data.toList.length∧(Utf8.encode (c:Int)).data.toList.length≤4∧128≤by_ (Utf8.encode (c:Int)).data.toList ((Utf8.encode (c:Int)).data.toList.length - 1):=by
 rcases MU c h h1 with ⟨x,y,e,hb⟩|⟨x,y,z,e,hb⟩|⟨x,y,z,t,e,hb⟩ <;> rw [e] <;> exact ⟨by simp,by simp,hb⟩
theorem aHu (S:List UInt8)(hS:Sg S)(c:Nat)(h:okC c):aU 270 [.str S,.int .i32 c] (.int .i64 (if c<128 then Lib.indexByte S (UInt8.ofNat c) else -1)):=by
 obtain ⟨g1,g2,g3⟩:=hS
 refine aA c270 (by simp [f270]) ?_
 simp only [f270,↓gos,gop,qA,qB,qC,qD,qE,qF,qG,qH,qI]
 refine ⟨fun hc=>fun v hv=>?_,fun hc=>⟨fun h3=>?_,fun h3=>?_⟩⟩
 ·have hv:v=(c:Int):=by rw [hv]; simp [IntKind.wrap,IntKind.bits,IntKind.signed]; omega
  subst hv
  refine aB (IJ S c) rfl rfl ?_
  simp only [↓gos,gop,qA,qB,qC,qD,qE,qF,qG,qH,qI]
  rw [if_pos (by omega)]
  exact mK rfl
 ·rw [if_neg (by omega)]
  refine aJ (γ:=Nat) (fun p=>[(175,.ptr 0 0)]) (fun p=>[.iter S p]) (fun p=>p≤S.length) (fun p=>S.length - p) 0 (wks rfl (by simp) ⟨rfl,trivial⟩) (by simp) fun p hp=>?_
  simp only [f270l0,↓gos,gop,qA,qB,qC,qD,qE,qF,qG,qH,qI]
  refine ⟨fun h4=>?_,fun h4=>mK rfl⟩
  have hb:by_ S p<128:=by
   unfold by_
   rw [List.getD_eq_getElem?_getD,List.getElem?_eq_getElem h4]
   exact g3 _ (List.getElem_mem _)
  have hd:=D1 hb
  unfold D at hd
  rw [hd]
  refine ⟨fun h5=>by exfalso; omega,fun h5=>?_⟩
  exact aN (p+1) rfl (by simp) ⟨rfl,trivial⟩ (by omega) (by omega)
 ·rw [if_neg (by omega)]
  refine aB (VO c h) rfl rfl ?_
  simp only [↓gos,gop,qA,qB,qC,qD,qE,qF,qG,qH,qI]
  have hc:128≤c:=by omega
  obtain ⟨n1,n2,n3⟩:=VV c h hc
  generalize (Utf8.encode (c:Int)).data.toList=rs at n1 n2 n3 ⊢
  intro v hv
  rw [wrap_i64 (by omega) (by omega)] at hv
  have hv:v=((rs.length - 1:Nat):Int):=by omega
  subst hv
  refine aJ (γ:=Unit) (fun _=>[(9,.int .i64 ((rs.length - 1:Nat):Int)),(8,.int .i64 ((rs.length - 1:Nat):Int)),(7,.str rs),(0,.str S)]) (fun _=>[]) (fun _=>True) (fun _=>0) () (wks rfl (by simp) ⟨rfl,rfl,rfl,rfl,trivial⟩) trivial fun _ _=>?_
  simp only [f270l2,↓gos,gop,qA,qB,qC,qD,qE,qF,qG,qH,qI]
  refine ⟨fun h1=>⟨by omega,by omega,fun _ v hv2=>?_,fun q=>?_⟩,fun h1=>mK rfl⟩
  ·rw [wrap_i64 (by omega) (by omega)] at hv2
   subst hv2
   refine ⟨by omega,by omega,by omega,aB (IJ _ _) rfl rfl ?_⟩
   have e:Lib.indexByte (List.take (S.length - (((rs.length - 1:Nat):Int)+1).toNat) (List.drop (((rs.length - 1:Nat):Int)+1).toNat S)) (bt rs (rs.length - 1)).toNat.toUInt8 = -1:=by
    refine DY _ _ (fun x hx=>g3 x (List.mem_of_mem_drop (List.mem_of_mem_take hx))) ?_
    rw [xR,Int.toNat_natCast]
    have:=xG rs (rs.length - 1)
    show 128≤(UInt8.ofNat _).toNat
    rw [cW _ this]; exact n3
   rw [e]
   simp only [↓gos,gop,qA,qB,qC,qD,qE,qF,qG,qH,qI]
   exact mK rfl
  ·exfalso
   rw [xR,xR] at q
   have hb:by_ S (rs.length - 1)<128:=by
    unfold by_
    rw [List.getD_eq_getElem?_getD,List.getElem?_eq_getElem (show rs.length - 1<S.length by omega)]
    exact g3 _ (List.getElem_mem _)
   omega
theorem aGE {SG s:List UInt8}{p:Nat}(hp:p<s.length)(h:∀ q,q<p→SG.contains (s.getD q 0)=false)(h1:SG.contains (s.getD p 0)=true):Lib.indexAny s SG=p:=by
 induction s generalizing p with
 | nil=>simp at hp
 | cons x s ih=>
  unfold Lib.indexAny
  cases p with
  | zero=>rw [if_pos (by simpa using h1)]; rfl
  | succ p=>
   have h0:=h 0 (by omega)
   have hx:SG.contains x=false:=by simpa using h0
   rw [hx,ih (p:=p) (by simpa using hp) (fun q hq=>by have:=h (q+1) (by omega); simpa using this) (by simpa using h1)]
   rw [if_neg (by simp),if_neg (by first | (simp; done) | (simp; omega))]
   omega
theorem aFJ {SG s:List UInt8}(h:∀ q,q<s.length→SG.contains (s.getD q 0)=false):Lib.indexAny s SG = -1:=by
 induction s with
 | nil=>rfl
 | cons x s ih=>
  unfold Lib.indexAny
  have h0:=h 0 (by simp)
  have hx:SG.contains x=false:=by simpa using h0
  rw [hx,ih fun q hq=>by have:=h (q+1) (by simpa using hq); simpa using this]
  rfl
theorem BP (SG:List UInt8)(b:UInt8):(0≤Lib.indexByte SG b)↔SG.contains b=true:=by
 induction SG with
 | nil=>simp [Lib.indexByte]
 | cons x l ih=>
  unfold Lib.indexByte
  by_cases hx:x=b
  ·subst hx; simp
  ·rw [if_neg (by simpa using hx),List.contains_cons]
   have hb:(b == x)=false:=by simpa using Ne.symm hx
   rw [hb,Bool.false_or,← ih]
   have:=Lib.indexByte_ge l b
   by_cases e:Lib.indexByte l b = -1
   ·rw [e]; simp
   ·rw [if_neg (by simpa using e)]; omega
theorem XO (SG:List UInt8)(hS:Sg SG)(s:List UInt8)(hs:s.length<1000000000):aU 222 [.str s,.str SG] (.int .i64 (Lib.indexAny s SG)):=by
 by_cases h8:8<s.length
 ·refine yG ⟨Tryz.f222,Tryz.func222,by kernel_rfl,by kernel_rfl⟩ fun w ok β vs hl hv=>?_
  obtain ⟨u,v,rfl⟩:=two hl
  obtain rfl:=dB (hv 0 u _ rfl rfl)
  obtain rfl:=dB (hv 1 v _ rfl rfl)
  have hcs:∀ (j:Nat) (b:UInt8),SG[j]?=some b→b.toNat<128:=fun j b hj=>hS.2.2 b (List.mem_of_getElem? hj)
  have hS1:=hS.1
  have hS2:=hS.2.1
  refine ⟨_,fun _ _ _=>.int _ _,(Any.strings_IndexAny_long Tryz.lays153 (zero_of_info Tryz.set153).1 (zero_of_info Tryz.set153).2 ⟨s.toArray⟩ ⟨SG.toArray⟩ w (by simp [ByteArray.size]; omega) (by simp [ByteArray.size]; omega) (by simp [ByteArray.size]; omega) (by simp [ByteArray.size]; omega) (by simpa using hcs)).mono ?_⟩
  rintro e w' ⟨rfl,rfl⟩
  exact ⟨rfl,((Below.refl _ w).alloc (Nat.le_refl _) _).alloc (by simp) _⟩
 ·refine aA c222 (by simp [f222]) ?_
  simp only [f222,↓gos,gop,qA,qB,qC,qD,qE,qF,qG,qH,qI]
  have hS1:=hS.1
  refine ⟨fun h=>(by exfalso; subst h; simp at hS1),fun _=>⟨fun h=>(by omega),fun _=>aB (aGM _) rfl rfl ?_⟩⟩
  rw [decide_eq_false (by omega)]
  simp only [↓gos,gop,qA,qB,qC,qD,qE,qF,qG,qH,qI]
  refine aJ (γ:=Nat) (fun p=>[(45,.ptr 0 0),(0,.str s),(1,.str SG)]) (fun p=>[.iter s p]) (fun p=>p≤s.length∧∀ q,q<p→SG.contains (s.getD q 0)=false) (fun p=>s.length - p) 0
   (wks rfl (by simp) ⟨rfl,rfl,rfl,trivial⟩) ⟨by omega,fun q h=>by omega⟩ fun p hp=>?_
  obtain ⟨hp,hq⟩:=hp
  simp only [f222l1,↓gos,gop,qA,qB,qC,qD,qE,qF,qG,qH,qI]
  refine ⟨fun h1=>?_,fun h1=>?_⟩
  ·have hl:=eC s p h1
   refine aB (aHu SG hS _ hl.2.2) rfl rfl ?_
   have hd:Utf8.decode ⟨s.toArray⟩ p=D s p:=rfl
   rw [hd]
   rcases QQ s p with ⟨h2,h3⟩|⟨h2,h3,h4⟩
   ·rw [h3]
    have hb:UInt8.ofNat (by_ s p)=s.getD p 0:=by unfold by_; exact UInt8.ofNat_toNat
    simp only [h2,if_true,hb]
    have hg:=BP SG (s.getD p 0)
    cases hc:SG.contains (s.getD p 0)
    ·rw [hc] at hg
     simp only [↓gos,gop,qA,qB,qC,qD,qE,qF,qG,qH,qI]
     refine ⟨fun h=>?_,fun h=>?_⟩
     ·have:=hg.1 h; cases this
     ·refine aN (p+1) rfl (by simp) ⟨rfl,rfl,rfl,trivial⟩ ⟨by omega,fun q hq' => ?_⟩ (by omega)
      by_cases e:q=p
      ·subst e; exact hc
      ·exact hq q (by omega)
    ·rw [hc] at hg
     simp only [↓gos,gop,qA,qB,qC,qD,qE,qF,qG,qH,qI]
     refine ⟨fun h=>mK ?_,fun h=>?_⟩
     ·exact (aGE h1 hq hc).symm
     ·exact absurd (hg.2 rfl) h
   ·rw [if_neg (by omega)]
    simp only [↓gos,gop,qA,qB,qC,qD,qE,qF,qG,qH,qI]
    refine aN (p+(D s p).2) rfl (by simp) ⟨rfl,rfl,rfl,trivial⟩ ⟨hl.2.1,fun q hq' => ?_⟩ (by have:=hl.1; omega)
    by_cases e:q<p
    ·exact hq q e
    ·have h5:=h4 q (by omega) hq'
     unfold by_ at h5
     cases hc:SG.contains (s.getD q 0)
     ·rfl
     ·have hm:s.getD q 0∈SG:=List.contains_iff_mem.1 hc
      have:=hS.2.2 _ hm
      omega
  ·refine mK ?_
   exact (aFJ fun q h=>hq q (by omega)).symm
theorem YZ (SG s:List UInt8):(0≤Lib.indexAny s SG)↔s.any SG.contains=true:=by
 induction s with
 | nil=>simp [Lib.indexAny]
 | cons x s ih=>
  unfold Lib.indexAny
  cases hx:SG.contains x
  ·simp only [Bool.false_eq_true,if_false,List.any_cons,hx,Bool.false_or]
   rw [← ih]
   have:=Lib.indexAny_ge SG s
   by_cases e:Lib.indexAny s SG = -1
   ·rw [e]; simp
   ·rw [if_neg (by simpa using e)]; omega
  ·rw [if_pos rfl]
   simp only [List.any_cons,hx,Bool.true_or]
   decide
theorem aDd (SG:List UInt8)(hS:Sg SG)(s:List UInt8)(hs:s.length<1000000000):aU 172 [.str s,.str SG] (.bool (s.any SG.contains)):=by
 refine aA c172 (by simp [f172]) ?_
 simp only [f172,↓gos,gop,qA,qB,qC,qD,qE,qF,qG,qH,qI]
 refine aB (XO SG hS s hs) rfl rfl ?_
 simp only [↓gos,gop,qA,qB,qC,qD,qE,qF,qG,qH,qI]
 have:=YZ SG s
 refine ⟨fun h=>aG ?_,fun h=>aG ?_⟩
 ·rw [this.1 h]
 ·cases hc:s.any SG.contains
  ·rfl
  ·exact absurd (this.2 hc) h
def sv (s:List UInt8):List DV:=[.str s]
theorem aKT (x y:List UInt8):aU 59 [.str x,.str y] (.bool (decide (x=y))):=by
 refine aA c59 (by simp [f59]) ?_
 simp only [f59,↓gos,gop,qA,qB,qC,qD,qE,qF,qG,qH,qI]
 exact ⟨fun h=>aG (by simp [h]),fun h=>aG (by simp [h])⟩
theorem aAm {α:Type} [DecidableEq α](a b:List α)(d:α)(hl:a.length=b.length)(h:∀ j,j<a.length→a.getD j d=b.getD j d):a=b:=by
 apply List.ext_getElem hl
 intro i h1 h2
 have:=h i h1
 simpa [List.getD_eq_getElem?_getD,h1,h2] using this
theorem aEn (a b:List (List UInt8))(ha:a.length<100000000)(hb:b.length<100000000):aU 58 [.sl 1 (a.map sv),.sl 1 (b.map sv),.fn 59 []] (.bool (decide (a=b))):=by
 refine aA c58 (by simp [f58]) ?_
 simp only [f58,↓gos,gop,qA,qB,qC,qD,qE,qF,qG,qH,qI]
 refine ⟨fun h=>?_,fun h=>?_⟩
 ·refine aG ?_
  rw [decide_eq_false (fun e=>h (by rw [e]))]
 ·refine aJ (γ:=Nat) (fun i=>[(7,.int .i64 (i:Nat)),(0,.sl 1 (a.map sv)),(1,.sl 1 (b.map sv)),(2,.fn 59 [])]) (fun _=>[]) (fun i=>i≤a.length∧∀ j,j<i→a.getD j []=b.getD j []) (fun i=>a.length - i) 0
   (wks rfl (by simp) ⟨rfl,rfl,rfl,rfl,trivial⟩) ⟨by simp,fun j hj=>by omega⟩ fun i hi=>?_
  obtain ⟨p1,p2⟩:=hi
  simp only [f58l0,↓gos,gop,qA,qB,qC,qD,qE,qF,qG,qH,qI]
  refine ⟨fun h1=>aL [] (by omega) ?_,fun h1=>?_⟩
  ·simp only [sv,↓gos,gop,qA,qB,qC,qD,qE,qF,qG,qH,qI]
   refine aL [] (by omega) ?_
   refine aB (aKT _ _) rfl rfl ?_
   simp only [↓gos,gop,qA,qB,qC,qD,qE,qF,qG,qH,qI]
   refine ⟨fun h2=>aG ?_,fun h2 v hv=>?_⟩
   ·rw [decide_eq_false (fun e=>h2 (by rw [e]))]
   ·rw [wrap_i64 (by omega) (by omega)] at hv
    have hv:v=((i+1:Nat):Int):=by omega
    subst hv
    refine aN (i+1) rfl (by simp) ⟨rfl,rfl,rfl,rfl,trivial⟩ ⟨by omega,fun j hj=>?_⟩ (by omega)
    by_cases e:j=i
    ·subst e; exact h2
    ·exact p2 j (by omega)
  ·refine aG ?_
   rw [decide_eq_true (aAm a b [] (by omega) fun j hj=>p2 j (by omega))]
theorem aAx (a b:List (List UInt8))(ha:a.length<100000000)(hb:b.length<100000000):aU 29 [.sl 1 (a.map sv),.sl 1 (b.map sv)] (.bool (decide (a=b))):=by
 refine aA c29 (by simp [f29]) ?_
 simp only [f29,↓gos,gop,qA,qB,qC,qD,qE,qF,qG,qH,qI]
 refine aB (aEn a b ha hb) rfl rfl ?_
 simp only [↓gos,gop,qA,qB,qC,qD,qE,qF,qG,qH,qI]
 exact aG rfl
end Go.Proofs.Ut

namespace Go.Proofs
open Go.Shelf
def Tryz.lays138_ren:Go.Shelf.Ren:=⟨fun | 138=>326 | 195=>338 | 218=>339 | 143=>126 | 219=>166 | 217=>212 | 225=>213 | 224=>214 | 267=>215 | 266=>260 | 314=>261 | n=>n,fun | 9=>9 | 3=>3 | 4=>4 | 5=>5 | 0=>0 | 46=>22 | 146=>253 | 51=>218 | n=>n,fun | 1=>2 | n=>n⟩
theorem Tryz.lays138:Go.Proofs.Lays.n138 Tryz.prog Tryz.lays138_ren:={
 mixed:=by kernel_rfl
 f138:=Go.Ai.tS Tryz.func326 (by kernel_rfl)
 f143:=Go.Ai.tS Tryz.func126 (by kernel_rfl)
 f195:=Go.Ai.tS Tryz.func338 (by kernel_rfl)
 f217:=Go.Ai.tS Tryz.func212 (by kernel_rfl)
 f218:=Go.Ai.tS Tryz.func339 (by kernel_rfl)
 f219:=Go.Ai.tS Tryz.func166 (by kernel_rfl)
 f224:=Go.Ai.tS Tryz.func214 (by kernel_rfl)
 f225:=Go.Ai.tS Tryz.func213 (by kernel_rfl)
 f266:=Go.Ai.tS Tryz.func260 (by kernel_rfl)
 f267:=Go.Ai.tS Tryz.func215 (by kernel_rfl)
 f314:=Go.Ai.tS Tryz.func261 (by kernel_rfl)
 t0:=Tryz.underlying0
 a0:=Tryz.isAgg0
 z0:=Tryz.sizeOf0
 v0:=Tryz.zeroValue0
 t3:=Tryz.underlying3
 a3:=Tryz.isAgg3
 z3:=Tryz.sizeOf3
 v3:=Tryz.zeroValue3
 t4:=Tryz.underlying4
 a4:=Tryz.isAgg4
 z4:=Tryz.sizeOf4
 v4:=Tryz.zeroValue4
 t5:=Tryz.underlying5
 a5:=Tryz.isAgg5
 z5:=Tryz.sizeOf5
 v5:=Tryz.zeroValue5
 t9:=Tryz.underlying9
 a9:=Tryz.isAgg9
 z9:=Tryz.sizeOf9
 v9:=Tryz.zeroValue9
 t46:=Tryz.underlying22
 a46:=Tryz.isAgg22
 z46:=Tryz.sizeOf22
 v46:=Tryz.zeroValue22
 t51:=Tryz.underlying218
 a51:=Tryz.isAgg218
 z51:=Tryz.sizeOf218
 v51:=Tryz.zeroValue218
 t146:=Tryz.underlying253
 a146:=Tryz.isAgg253
 z146:=Tryz.sizeOf253
 v146:=Tryz.zeroValue253
 g1:=by kernel_rfl }
end Go.Proofs

namespace Go.Ai
theorem aK {p q:Prop}(h:p)(k:q):chk p q:=⟨h,k⟩
def Un (E:Env)(m0:Nat)(post:AExit→St→Prop)(ks:List Fr)(b:ACode)(n:Nat)(st' : St):Prop:=
 ∃ g:Nat×St,∃ _:g.1<n,Wk m0 st' g.2∧awp E m0 b (fun e s=>match e with | .normal=>Un E m0 post ks b g.1 s | e=>eH E m0 post ks e s) g.2
termination_by n
section
variable {E:Env} {m0:Nat} {post:AExit→St→Prop} {ks:List Fr} {b:ACode} {n:Nat} {L:List (Nat×DV)} {h:List AObj}
theorem zA:eH E m0 post (.inv (Un E m0 post ks b n)::ks)=fun e s=>match e with | .normal=>Un E m0 post ks b n s | e=>eH E m0 post ks e s:=by
 funext e s; cases e <;> rfl
theorem IP (m0:Nat)(st:St):Wk m0 st st:=
 ⟨.inl ⟨max m0 st.h.length,Nat.le_max_left _ _,(List.take_of_length_le (Nat.le_max_right _ _)).symm,fun _=>.inr ⟨rfl,fun h=>absurd h (Nat.not_lt.2 (Nat.le_max_right _ _))⟩,fun h=>absurd h (Nat.not_lt.2 (Nat.le_max_right _ _))⟩⟩
theorem vY (n:Nat)(h0:goN E m0 post (.inv (Un E m0 post ks b n)::ks) b L h):goN E m0 post ks (.loop b) L h:=by
 refine ⟨Nat×St,fun g=>g.2,fun g=>awp E m0 b (eH E m0 post (.inv (Un E m0 post ks b g.1)::ks)) g.2,fun g=>g.1,⟨(n,sta L h),IP m0 _,h0⟩,fun g hg=>?_⟩
 have e:(fun (e:AExit) (s:St)=>match e with | .normal=>∃ g' : Nat×St,Wk m0 s g'.2∧awp E m0 b (eH E m0 post (.inv (Un E m0 post ks b g'.1)::ks)) g'.2∧g'.1<g.1 | e=>eH E m0 post ks e s)=eH E m0 post (.inv (Un E m0 post ks b g.1)::ks):=by
  funext e s
  cases e <;> first | rfl | skip
  show _=Un E m0 post ks b g.1 s
  rw [Un]
  apply propext
  constructor
  ·rintro ⟨g',h1,h2,h3⟩; exact ⟨g',h3,h1,by rw [← zA]; exact h2⟩
  ·rintro ⟨g',h3,h1,h2⟩; exact ⟨g',h1,by rw [zA]; exact h2,h3⟩
 show awp E m0 b (fun e s=>match e with | .normal=>∃ g' : Nat×St,Wk m0 s g'.2∧awp E m0 b (eH E m0 post (.inv (Un E m0 post ks b g'.1)::ks)) g'.2∧g'.1<g.1 | e=>eH E m0 post ks e s) g.2
 rw [e]
 exact hg
theorem aKx {L' : List (Nat×DV)}{h' : List AObj}(hw:Wk m0 (sta L h) (sta L' h'))(hk:goN E m0 post (.inv (Un E m0 post ks b n)::ks) b L' h'):Un E m0 post ks b (n+1) (sta L h):=by
 rw [Un]
 exact ⟨(n,sta L' h'),Nat.lt_succ_self n,hw,by rw [← zA]; exact hk⟩
theorem gW (hk:goN E m0 post (.inv (Un E m0 post ks b n)::ks) b L h):Un E m0 post ks b (n+1) (sta L h):=aKx (IP m0 _) hk
theorem fF {l:List AOper}{dst:Option Nat}{e:Bool}{k:Nat}{st:St}:knm E m0 post ks dst l (.emp e k) st=kgo E m0 post ks dst l (.emp e k) st:=rfl
end
theorem JN {E:Env}{L:List (Nat×DV)}{h:List AObj}{sz i off n:Nat}{c:Option Nat}{z:List DV}{es:List (List DV)}{K:DV→St→Prop}(hi:h[i]?=some (.arr sz es))(hb:off+n≤es.length)
  (hk:K (.tup []) (sta L (h.set i (.arr sz (es.take off++List.replicate n z++es.drop (off+n)))))):zE sz z (.osl sz i off n c) K (sta L h):=⟨rfl,es,hi,hb,hk⟩
theorem aV {E:Env}{L:List (Nat×DV)}{h:List AObj}{b:Bool}{f:Nat}{ds:List DV}{D:DV}{K:DV→St→Prop}(hc:ACalls E f [] ds fun h d=>h=[]∧d=D)(hcl:ds.all DV.closed=true)(hD:D.closed=true)(hk:K D (sta L h)):acall E b f ds K (sta L h):=
 .go (.inr (.inl ⟨_,hc,fun d hd=>List.all_eq_true.1 hcl d hd,⟨[],D,rfl,rfl⟩,fun h' d hp=>by
  obtain ⟨rfl,rfl⟩:=hp
  rw [aZ hD]
  have e:({ sta L h with h:=(sta L h).h++([]:List AObj).map (aS ((sta L h).h.length + ·)) }:St)=sta L h:=by simp [sta]
  rw [e]; exact hk⟩))
theorem sU {F:List Nat}{h:List AObj}{sz i n:Nat}{es:List (List DV)}{c:Option Nat}(hi:h[i]?=some (.arr sz es))(hn:n=es.length)(hF:F.contains i=true):rvd (eE F h [.osl sz i 0 n c])=.sl sz es:=by
 subst hn
 have hF' : i∈F:=by simpa using hF
 simp [rvd,eE,cJ,DV.low,frz,hF',hi]
def wB (m0:Nat)(post:List AObj→DV→Prop)(o:Option (List DV))(h:List AObj):Prop:=∃ ds,o=some ds∧∃ F:List Nat,(∀ l∈F,m0≤l)∧aCg m0 post (eE F h ds) (fA F h 0 h)
@[congr] theorem aDj {m0:Nat} {post:List AObj→DV→Prop} {o o' : Option (List DV)} {h:List AObj} (e:o=o'):wB m0 post o h=wB m0 post o' h:=by rw [e]
section
variable {E:Env} {m0:Nat} {res:List RV} {post:List AObj→DV→Prop} {L:List (Nat×DV)} {h:List AObj}
theorem aE:vX m0 res post .ret (sta L h)=wB m0 post (rvl (sta L h) res) h:=by
 unfold vX wB
 simp only [iT]; rfl
theorem aC:vX m0 res post .normal (sta L h)=wB m0 post (rvl (sta L h) res) h:=by
 unfold vX wB
 simp only [iT]; rfl
theorem bB {f:Nat}{af:AFun}{h:List AObj}{args:List DV}{post:List AObj→DV→Prop}(hc:aF E.P f=some af)(hle:args.length≤af.nt)
  (hk:goN E h.length (vX h.length af.res post) [] af.body (args.zipIdx.map fun p=>(p.2,p.1)) h):ACalls E f h args post:=by
 refine uG hc hle ?_
 have e:(⟨fun s=>args.getD s .undef,h⟩:St)=sta (args.zipIdx.map fun p=>(p.2,p.1)) h:=by
  have e2:(fun s=>args.getD s .undef)=slots (args.zipIdx.map fun p=>(p.2,p.1)):=by
   funext s
   have key:∀ (l:List DV) (k:Nat),slots ((l.zipIdx k).map fun p=>(p.2,p.1)) (k+s)=l.getD s .undef:=by
    intro l
    induction l generalizing s with
    | nil=>intro k; simp [slots]
    | cons d l ih=>
     intro k
     rw [List.zipIdx_cons,List.map_cons]
     simp only [slots]
     cases s with
     | zero=>simp
     | succ s=>
      have:¬ k+(s+1)=k:=by omega
      rw [if_neg this]
      have:=ih s (k+1)
      rw [show k+1+s=k+(s+1) by omega] at this
      rw [this]; simp
   have:=key args 0
   rw [Nat.zero_add] at this
   exact this.symm
  rw [e2]; rfl
 rw [e]
 exact hk
theorem QM {ds:List DV}(hf:eK m0 post (some ds) h):aCg m0 post ds h:=by
 obtain ⟨ds',e,hf⟩:=hf
 cases e
 exact hf
theorem bH (F:List Nat){ds:List DV}{D:DV}(hD:rvd (eE F h ds)=D)(hc:D.closed=true)(hp:post [] D):wB 0 post (some ds) h:=by
 subst hD
 exact ⟨ds,rfl,F,fun _ _=>Nat.zero_le _,QM (aD hc hp)⟩
end
def BW (m0:Nat)(post:List AObj→DV→Prop)(h0:List AObj)(args:List DV)(o:Option (List DV))(L:List (Nat×DV))(h:List AObj):Prop:=
 eK m0 post o h∧∀ l,l<m0→(∃ cs,h0[l]?=some (.box cs))∨∃ i sz off n c,slots L (1000000+i)=.osl sz l off n c∧0<n∧args[i]?=some (.osl sz l off n c)
@[congr] theorem aDB {m0:Nat} {post:List AObj→DV→Prop} {h0:List AObj} {args:List DV} {o o' : Option (List DV)} {L:List (Nat×DV)} {h:List AObj} (e:o=o'):BW m0 post h0 args o L h=BW m0 post h0 args o' L h:=by rw [e]
section
variable {E:Env} {m0:Nat} {res:List RV} {post:List AObj→DV→Prop} {L:List (Nat×DV)} {h h0:List AObj} {args:List DV}
theorem iM:UO m0 res post h0 args .ret (sta L h)=BW m0 post h0 args (rvl (sta L h) res) L h:=rfl
theorem fK:UO m0 res post h0 args .normal (sta L h)=BW m0 post h0 args (rvl (sta L h) res) L h:=rfl
theorem xX (l:List DV):∀ (k s:Nat),slots ((l.zipIdx k).map fun p=>(p.2,p.1)) (k+s)=l.getD s .undef:=by
 induction l with
 | nil=>intro k s; simp [slots]
 | cons d l ih=>
  intro k s
  rw [List.zipIdx_cons,List.map_cons]
  simp only [slots]
  cases s with
  | zero=>simp
  | succ s=>
   have:¬ k+(s+1)=k:=by omega
   rw [if_neg this]
   have:=ih (k+1) s
   rw [show k+1+s=k+(s+1) by omega] at this
   rw [this]; simp
theorem wU (A B:List (Nat×DV))(s:Nat)(h:∀ p∈A,p.1≠s):slots (A++B) s=slots B s:=by
 induction A with
 | nil=>rfl
 | cons p A ih=>
  obtain ⟨t,d⟩:=p
  simp only [List.cons_append,slots]
  rw [if_neg (fun e=>h (t,d) (by simp) e.symm)]
  exact ih fun q hq=>h q (by simp [hq])
theorem EZ (B:List (Nat×DV))(s:Nat)(h:∀ p∈B,p.1≠s):slots B s=.undef:=by
 have:=wU B [] s h
 rw [List.append_nil] at this
 exact this
theorem HP (A B:List (Nat×DV))(s:Nat)(h:∀ p∈B,p.1≠s):slots (A++B) s=slots A s:=by
 induction A with
 | nil=>rw [List.nil_append,EZ B s h]; rfl
 | cons p A ih=>
  obtain ⟨t,d⟩:=p
  simp only [List.cons_append,slots]
  rw [ih]
theorem KA {l:List DV}{k:Nat}{p:Nat×DV}(h:p∈(l.zipIdx k).map fun p=>(p.2,p.1)):k≤p.1∧p.1<k+l.length:=by
 obtain ⟨q,hq,rfl⟩:=List.mem_map.1 h
 have:=List.mem_zipIdx hq
 omega
theorem mV {f:Nat}{af:AFun}{h:List AObj}{args:List DV}{post:List AObj→DV→Prop}(hc:aF E.P f=some af)(hle:args.length≤af.nt)(hsm:args.length<1000000)
  (hk:goN E h.length (UO h.length af.res post h args) [] af.body (((args.zipIdx 1000000).map fun p=>(p.2,p.1))++(args.zipIdx.map fun p=>(p.2,p.1))) h):fN E true f h args post:=by
 refine tB hc hle ?_
 have e:(fun s=>if s<1000000 then args.getD s .undef else args.getD (s - 1000000) .undef)=slots (((args.zipIdx 1000000).map fun p=>(p.2,p.1))++(args.zipIdx.map fun p=>(p.2,p.1))):=by
  funext s
  split
  ·rename_i hs
   rw [wU _ _ s (fun p hp=>by have:=KA hp; omega)]
   have:=xX args 0 s
   rw [Nat.zero_add] at this
   exact this.symm
  ·rename_i hs
   rw [HP _ _ s (fun p hp=>by have:=KA hp; omega)]
   have:=xX args 1000000 (s - 1000000)
   rw [show 1000000+(s - 1000000)=s by omega] at this
   exact this.symm
 rw [e]
 exact hk
theorem GI {ds:List DV}{sz n off:Nat}{c:Option Nat}{es:List (List DV)}(hs:(rvd ds).closed=true)(hi:h[0]?=some (.arr sz es))(hp:post [.arr sz es] (rvd ds))(hg:slots L 1000000=.osl sz 0 off n c)(hn:0<n)
  (ha:args[0]?=some (.osl sz 0 off n c)):BW 1 post h0 args (some ds) L h:=
 ⟨aCV hs hi hp,fun l hl=>by
  obtain rfl:l=0:=by omega
  exact .inr ⟨0,sz,off,n,c,hg,hn,ha⟩⟩
end
end Go.Ai
