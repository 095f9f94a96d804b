/- Addresses are kept as they are: plain law. -/
import Derived.Test.YtgamnnfndidclaaGreatDoorGYY1
import Derived.Test.YtgamnnfndidclaaGreatDoorGLawJid
import Derived.Test.YtgamnnfndidclaaGreatDoorGYM
import Derived.Test.YtgamnnfndidclaaGreatDoorGYO2
set_option linter.all false
namespace Go.Proofs.Ut
open Go.Ai
set_option maxRecDepth 100000
def iW (x:List UInt8):List (List UInt8)→List (List UInt8)
 | []=>[x]
 | y::r=>if Op.bytesLess y x=true then y::iW x r else if y=x then y::r else x::y::r
def gK (x:List UInt8):List (List UInt8)→Nat
 | []=>0
 | y::r=>if Op.bytesLess y x=true then gK x r+1 else 0
def gin (out:List (List UInt8))(x:List UInt8):List (List UInt8):=if x=[] then out else iW x out
def bG (l:List (List UInt8)):List (List UInt8):=l.foldl gin []
theorem YN (x:List UInt8):∀ (out:List (List UInt8))(k:Nat),(∀ j,j<k→Op.bytesLess (out.getD j []) x=true)→k≤out.length→(k=out.length∨Op.bytesLess (out.getD k []) x=false)→gK x out=k
 | [],k,_,h2,_=>by simp at h2; subst h2; rfl
 | y::r,k,h1,h2,h3=>by
  unfold gK
  cases k with
  | zero=>
   rcases h3 with h3|h3
   ·simp at h3
   ·have h4:Op.bytesLess y x=false:=h3
    rw [if_neg (by rw [h4]; decide)]
  | succ k=>
   have h4:Op.bytesLess y x=true:=h1 0 (by omega)
   rw [if_pos h4,YN x r k (fun j hj=>h1 (j+1) (by omega)) (by simpa using h2) (by simpa using h3)]
theorem JQ (x:List UInt8):∀ out:List (List UInt8),iW x out=if gK x out<out.length∧out.getD (gK x out) []=x then out else out.take (gK x out)++(x::out.drop (gK x out))
 | []=>by simp [iW,gK]
 | y::r=>by
  have ih:=JQ x r
  unfold iW gK
  by_cases h:Op.bytesLess y x=true
  ·rw [if_pos h,if_pos h,ih]
   simp only [List.length_cons,List.getD_cons_succ,List.take_succ_cons,List.drop_succ_cons,Nat.add_lt_add_iff_right]
   split
   ·rfl
   ·rfl
  ·rw [if_neg h,if_neg h]
   by_cases h2:y=x
   ·rw [if_pos h2,if_pos ⟨by simp,h2⟩]
   ·rw [if_neg h2,if_neg (fun q=>h2 q.2)]; rfl
theorem oJ (x:List UInt8):∀ (out:List (List UInt8))(z:List UInt8),z∈iW x out→z=x∨z∈out
 | [],z,h=>by simp [iW] at h; exact .inl h
 | y::r,z,h=>by
  unfold iW at h
  split at h
  ·rcases List.mem_cons.1 h with h|h
   ·exact .inr (by simp [h])
   ·rcases oJ x r z h with h|h
    ·exact .inl h
    ·exact .inr (by simp [h])
  ·split at h
   ·exact .inr h
   ·rcases List.mem_cons.1 h with h|h
    ·exact .inl h
    ·exact .inr h
theorem ER (x:List UInt8):∀ out:List (List UInt8),(iW x out).length≤out.length+1
 | []=>by simp [iW]
 | y::r=>by
  have:=ER x r
  unfold iW
  split
  ·simp only [List.length_cons]; omega
  ·split <;> simp
theorem QS (x:List UInt8):∀ {out:List (List UInt8)},St2 Op.bytesLess out→St2 Op.bytesLess (iW x out)
 | [],_=>List.pairwise_singleton _ _
 | y::r,h=>by
  obtain ⟨h1,h2⟩:=List.pairwise_cons.1 h
  unfold iW
  split
  ·rename_i hy
   refine List.pairwise_cons.2 ⟨fun z hz=>?_,QS x h2⟩
   rcases oJ x r z hz with rfl|hz
   ·exact hy
   ·exact h1 z hz
  ·rename_i hy
   split
   ·exact h
   ·rename_i hne
    have hyx:Op.bytesLess y x=false:=by cases q:Op.bytesLess y x <;> simp_all
    have hxy:Op.bytesLess x y=true:=by
     cases q:Op.bytesLess x y
     ·exact absurd (vA x y hyx q).symm hne
     ·rfl
    refine List.pairwise_cons.2 ⟨fun z hz=>?_,h⟩
    rcases List.mem_cons.1 hz with rfl|hz
    ·exact hxy
    ·cases q:Op.bytesLess x z
     ·have:=JR z x y q hyx
      rw [h1 z hz] at this; cases this
     ·rfl
theorem eE (l:List (List UInt8)):St2 Op.bytesLess (bG l)∧(bG l).length≤l.length∧∀ x∈bG l,x∈l∧x≠[]:=by
 have key:∀ (l out:List (List UInt8)),St2 Op.bytesLess out→(∀ x∈out,x≠[])→St2 Op.bytesLess (l.foldl gin out)∧(l.foldl gin out).length≤out.length+l.length∧∀ x∈l.foldl gin out,(x∈out∨x∈l)∧x≠[]:=fun l=>by
  induction l with
  | nil=>exact fun out h1 h2=>⟨h1,by simp,fun x hx=>⟨.inl hx,h2 x hx⟩⟩
  | cons y l ih=>
   intro out h1 h2
   rw [List.foldl_cons]
   unfold gin
   split
   ·obtain ⟨a,b,c⟩:=ih out h1 h2
    exact ⟨a,by simp only [List.length_cons]; unfold gin at b; omega,fun x hx=>⟨(c x hx).1.imp id fun q=>by simp [q],(c x hx).2⟩⟩
   ·rename_i hy
    obtain ⟨a,b,c⟩:=ih (iW y out) (QS y h1) fun x hx=>(oJ y out x hx).elim (fun e=>e▸hy) (h2 x)
    have:=ER y out
    refine ⟨a,by simp only [List.length_cons]; unfold gin at b; omega,fun x hx=>⟨?_,(c x hx).2⟩⟩
    rcases (c x hx).1 with q|q
    ·rcases oJ y out x q with e|e
     ·exact .inr (by simp [e])
     ·exact .inl e
    ·exact .inr (by simp [q])
 obtain ⟨a,b,c⟩:=key l [] .nil (by simp)
 exact ⟨a,by have b' : (bG l).length≤0+l.length:=b; omega,fun x hx=>⟨(c x hx).1.resolve_left (by simp),(c x hx).2⟩⟩
theorem AF {l:List (List UInt8)}(h:St2 Op.bytesLess l)(h8:l.length≤8)(hl:∀ x∈l,x≠[]∧fA x=true):dU l=true:=by
 unfold dU
 rw [Bool.and_eq_true,Bool.and_eq_true]
 refine ⟨⟨?_,decide_eq_true h8⟩,List.all_eq_true.2 fun x hx=>(hl x hx).2⟩
 unfold UH
 refine List.all_eq_true.2 fun i hi=>?_
 have hi:i<l.length:=by simpa using hi
 have hm:l.getD i []∈l:=by rw [List.getD_eq_getElem?_getD,List.getElem?_eq_getElem hi]; exact List.getElem_mem hi
 unfold xS
 rw [decide_eq_false (hl _ hm).1,Bool.not_false,Bool.true_and]
 rcases Nat.eq_zero_or_pos i with h0|h0
 ·rw [decide_eq_true h0]; rfl
 ·have hlt:Op.bytesLess (l.getD (i - 1) []) (l.getD i [])=true:=by
   have:=List.pairwise_iff_getElem.1 h (i - 1) i (by omega) hi (by omega)
   simp only [List.getD_eq_getElem?_getD,List.getElem?_eq_getElem hi,List.getElem?_eq_getElem (show i - 1<l.length by omega)]
   exact this
  have hne:l.getD i []≠l.getD (i - 1) []:=fun e=>by rw [e,bl_tot.irr] at hlt; cases hlt
  rw [uT _ _ hlt,decide_eq_false hne]; simp
theorem VN (s:List UInt8)(m:Nat)(hm:m≤100):fA (eZ s m)=true:=by
 have h:=mI s m
 unfold fA
 rw [h.1,Bool.true_and]
 exact decide_eq_true (by have:=h.2; omega)
theorem NH {c:CT}(h1:c.name≠[])(h2:nA c.jid=true)(h3:c.other=[])(h4:lC c.note=true)(h5:dU c.groups=true)(h6:sB c=true):cV c=true:=by
 have hw:(iL [([]:List PR)]).2=0:=by decide +kernel
 unfold cV
 rw [decide_eq_false h1,h2,h3,h4,h5,h6,hw]; rfl
theorem vL (x:List UInt8):∀ (out:List (List UInt8))(z:List UInt8),z=x∨z∈out→z∈iW x out
 | [],z,h=>by simpa [iW] using h
 | y::r,z,h=>by
  have ih:=vL x r z
  unfold iW
  split
  ·rcases h with h|h
   ·exact List.mem_cons_of_mem _ (ih (.inl h))
   ·rcases List.mem_cons.1 h with h|h
    ·exact h▸List.mem_cons_self ..
    ·exact List.mem_cons_of_mem _ (ih (.inr h))
  ·split
   ·rename_i e
    rcases h with h|h
    ·rw [h,← e]; exact List.mem_cons_self ..
    ·exact h
   ·rcases h with h|h
    ·rw [h]; exact List.mem_cons_self ..
    ·exact List.mem_cons_of_mem _ h
theorem BE {x:List UInt8}(h0:x≠[]):∀ {l:List (List UInt8)},x∈l→x∈bG l:=by
 have key:∀ (l out:List (List UInt8)),x∈out∨x∈l→x∈l.foldl gin out:=fun l=>by
  induction l with
  | nil=>exact fun out h=>h.resolve_right (by simp)
  | cons y l ih=>
   intro out h
   rw [List.foldl_cons]
   refine ih _ ?_
   rcases h with h|h
   ·refine .inl ?_
    unfold gin
    split
    ·exact h
    ·exact vL y out x (.inr h)
   ·rcases List.mem_cons.1 h with h|h
    ·refine .inl ?_
     subst h
     unfold gin
     rw [if_neg h0]
     exact vL x out x (.inl rfl)
    ·exact .inr h
 exact fun {l} h=>key l [] (.inr h)
theorem VJ (l:List (List UInt8)):xA (eM l)=bG l:=by
 have h:=KM (d0:=([]:List UInt8)) bl_tot (uJ bl_tot (eM l))
 rw [vS] at h
 obtain ⟨f1,_,f3⟩:=eE l
 refine LL bl_tot h.1 f1 fun x=>?_
 rw [show x∈xA (eM l)↔_ from h.2 x,(iK _).mem_iff]
 unfold eM
 rw [List.mem_filter]
 constructor
 ·rintro ⟨a,b⟩
  exact BE (by simpa using b) a
 ·intro q
  exact ⟨(f3 x q).1,by simpa using (f3 x q).2⟩
def sG (gs:List (List UInt8)):List UInt8:=EI 44 (gs.map bN)
theorem nL:∀ (gs:List (List UInt8))(cur:List UInt8),aS 44 false cur (gE 44 (gs.map bN))=cur::gs.map bN
 | [],cur=>rfl
 | g::gs,cur=>by
  have e:gE 44 ((g::gs).map bN)=44::(bN g++gE 44 (gs.map bN)):=by simp [gE]
  rw [e,aS,if_pos (by simp),show kQ false 44=false from rfl,mT 44 (.inl rfl),nL gs]
  rfl
theorem zE (gs:List (List UInt8)):aS 44 false [] (sG gs)=if gs=[] then [[]] else gs.map bN:=by
 cases gs with
 | nil=>rfl
 | cons g gs=>
  rw [if_neg (by simp)]
  show aS 44 false [] (bN g++gE 44 (gs.map bN))=_
  rw [mT 44 (.inl rfl),nL]
  rfl
theorem pP:∀ gs:List (List UInt8),bJ (gs.map bN)=some (gs.map lJ)
 | []=>rfl
 | g::gs=>by simp only [List.map_cons,bJ,tH,pP gs]; rfl
theorem RR (gs:List (List UInt8))(g:List UInt8):sG (gs++[g])=(if gs=[] then sG gs else sG gs++[44])++bN g:=by
 cases gs with
 | nil=>simp [sG,EI,gE]
 | cons x gs=>
  rw [if_neg (by simp)]
  simp [sG,EI,gE]
theorem OZ (gs:List (List UInt8))(h:∀ g∈gs,g.length≤80):(sG gs).length≤161*gs.length:=by
 have key:∀ gs:List (List UInt8),(∀ g∈gs,g.length≤80)→(gE 44 (gs.map bN)).length≤161*gs.length:=fun gs=>by
  induction gs with
  | nil=>exact fun _=>Nat.le_refl _
  | cons g gs ih=>
   intro h
   have h1:=ih fun x hx=>h x (by simp [hx])
   have h2:=h g (by simp)
   have h3:=rU g
   have e:gE 44 ((g::gs).map bN)=44::(bN g++gE 44 (gs.map bN)):=by simp [gE]
   rw [e]
   simp only [List.length_append,List.length_cons]
   omega
 cases gs with
 | nil=>exact Nat.le_refl _
 | cons g gs=>
  have h1:=key gs fun x hx=>h x (by simp [hx])
  have h2:=h g (by simp)
  have h3:=rU g
  show (bN g++gE 44 (gs.map bN)).length≤_
  simp only [List.length_append,List.length_cons]
  omega
def lG (l:List (List UInt8)):List (List UInt8):=(l.take 6).map fun s=>eZ s 20
theorem wS (l:List (List UInt8)):(lG l).length≤6∧∀ g∈lG l,g.length≤80∧lJ g=g∧fA g=true:=by
 refine ⟨by rw [lG,List.length_map,List.length_take]; omega,fun g hg=>?_⟩
 obtain ⟨s,_,rfl⟩:=List.mem_map.1 hg
 exact ⟨zC s 20,GD s 20,VN s 20 (by omega)⟩
theorem aCY (gs:List (List UInt8))(hb:∀ g∈gs,lJ g=g):sL C0 (sG gs)=({ C0 with groups:=bG gs },List.replicate ((eM gs).length - (bG gs).length) [.str []],0):=by
 have hp:bJ (aS 44 false [] (sG gs))=some (if gs=[] then [[]] else gs):=by
  rw [zE]
  split
  ·rfl
  ·rw [pP]
   congr 1
   exact (List.map_congr_left hb).trans (List.map_id _)
 unfold sL
 rw [hp]
 have e:eM (if gs=[] then [[]] else gs)=eM gs:=by
  split
  ·rename_i h; subst h; rfl
  ·rfl
 simp only [e,VJ]
def BO:List UInt8:=[67,65,84,69,71,79,82,73,69,83]
def l6 (s:List UInt8):List PR:=[⟨[],BO,[],s⟩,⟨[],[70,78],[],[110]⟩]
def l7 (s:List UInt8):List PR:=[⟨[],[70,78],[],[110]⟩,⟨[],BO,[],s⟩]
theorem aEw (gs:List (List UInt8))(hb:∀ g∈gs,lJ g=g):ofK (l6 (sG gs)) 2=({ Cn with groups:=bG gs },[BO,[70,78]],0):=by
 have k0:knI BO 9=6:=by decide +kernel
 have k1:knI [70,78] 9=0:=by decide +kernel
 have p0:plE [110]=0:=by decide +kernel
 have p1:plS [110]=[110]:=by decide +kernel
 have h1:ofK (l6 (sG gs)) 1=({ C0 with groups:=bG gs },[BO],0):=by
  show (if (0:Int)=0 then iP C0 [] ⟨[],BO,[],sG gs⟩ else _)=_
  rw [if_pos rfl,iP]
  simp only [k0]
  simp [cA,aCY gs hb]
 show (if (ofK (l6 (sG gs)) 1).2.2=0 then iP (ofK (l6 (sG gs)) 1).1 (ofK (l6 (sG gs)) 1).2.1 ⟨[],[70,78],[],[110]⟩ else _)=_
 rw [h1,if_pos rfl,iP]
 simp only [k1]
 simp [cA,p0,p1,Cn,C0,BO]
theorem aBN (l:List (List UInt8)):cV { Cn with groups:=bG (lG l) }=true:=by
 obtain ⟨h1,h2⟩:=wS l
 obtain ⟨g1,g2,g3⟩:=eE (lG l)
 refine NH (by simp [Cn]) rfl rfl (show lC []=true by decide +kernel) (AF g1 (by show (bG (lG l)).length≤8; omega) fun x hx=>⟨(g3 x hx).2,(h2 x (g3 x hx).1).2.2⟩) ?_
 show sB Cn=true
 decide +kernel
theorem of6 (l:List (List UInt8)):ofR (l6 (sG (lG l)))=({ Cn with groups:=bG (lG l) },0):=by
 unfold ofR
 rw [show (l6 (sG (lG l))).length=2 from rfl,aEw _ fun g hg=>((wS l).2 g hg).2.1]
 rw [if_pos rfl,if_pos (aBN l)]
theorem aFo (l:List (List UInt8)):aY 27 [.sl 4 ((l6 (sG (lG l))).map pvn)] (.tup [.agg (ctv { Cn with groups:=bG (lG l) }),.int .i64 0]):=by
  obtain ⟨h1,h2⟩:=wS l
  obtain ⟨g1,g2,g3⟩:=eE (lG l)
  have hlen:=OZ (lG l) fun g hg=>(h2 g hg).1
  have hq:=aFa (l6 (sG (lG l))) (by simp [l6]) (fun p hp=>by
      simp only [l6,List.mem_cons,List.not_mem_nil,or_false] at hp
      rcases hp with rfl|rfl
      · exact ⟨by show (sG (lG l)).length<100000000; omega,by show (0:Nat)<1000000000; decide⟩
      · exact ⟨by decide,by decide⟩) (fun p hp hn=>by
      simp only [l6,List.mem_cons,List.not_mem_nil,or_false] at hp
      rcases hp with rfl|rfl
      · show (aS 44 false [] (sG (lG l))).length≤12
        rw [zE]
        split
        · decide
        · rw [List.length_map]; omega
      · exact absurd hn (by decide)) (fun h=>by
      rw [show (l6 (sG (lG l))).length=2 from rfl,aEw _ fun g hg=>((wS l).2 g hg).2.1]
      have h0:([]:List UInt8).length<100000000:=by decide
      refine ⟨show ([110]:List UInt8).length<100000000 by decide,h0,h0,h0,h0,h0,h0,h0,h0,?_,fun s hs=>?_,show ([]:List PR).length<1000000000 by decide,fun p hp=>by cases hp⟩
      · show (bG (lG l)).length<_; omega
      · have:=(h2 s (g3 s hs).1).1; omega)
  rw [of6] at hq
  exact MN hq fun p hp=>by
    simp only [l6,List.mem_cons,List.not_mem_nil,or_false] at hp
    rcases hp with rfl|rfl <;> rfl
def tn (n:Nat):List UInt8:=EI 44 ((List.range n).map fun i=>[97+UInt8.ofNat i])
theorem RP:∀ i,i<10→tn (i+2)=tn (i+1)++[44]++[97+UInt8.ofNat (i+1)]:=by decide +kernel
theorem aDC:∀ k,k<5→((ofR (l7 (tn (6+k)))).2,if 6+k≤8 then (ofR (l7 (tn (6+k)))).1.groups.length else 0)=if 6+k≤8 then (0,6+k) else (12,0):=by decide +kernel
theorem aFl:∀ k,k<5→UV (l7 (tn (6+k)))=true:=by decide +kernel
end Go.Proofs.Ut

namespace Go.Proofs.Ut
open Go.Ai Go.Shelf Go.RowKit
set_option linter.unusedSimpArgs false
set_option linter.unusedVariables false
set_option maxHeartbeats 1000000
set_option maxRecDepth 100000
end Go.Proofs.Ut
