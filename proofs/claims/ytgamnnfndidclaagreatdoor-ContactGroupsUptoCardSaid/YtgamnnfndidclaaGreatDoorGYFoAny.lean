/- A list alone in a variable, handed down; what points into its row, handed back. -/
import Derived.Test.YtgamnnfndidclaaGreatDoorGAiHand
import Derived.Test.YtgamnnfndidclaaGreatDoorGYFoUtF
import Derived.Test.YtgamnnfndidclaaGreatDoorGAiUn
import Derived.Test.YtgamnnfndidclaaGreatDoorGLawJid
import Derived.Test.YtgamnnfndidclaaGreatDoorGYFoUtD
import Derived.Shelf.Strings.Count
import Derived.Shelf.Strings.IndexAnyAll
open Nat renaming reduceBEq → qA,reduceAdd → qB,reduceSub → qC,reduceLeDiff → qD,reduceMul → qE
open Int renaming reduceLE → qF,reduceLT → qG,reduceNe → qH,reduceToNat → qI
set_option linter.all false
namespace Go.Ai
theorem DS {E:Env}{L:List (Nat×DV)}{h:List AObj}{f sz n n' : Nat}{es es' : List (List DV)}{xs:List DV}{D DR:DV}{K:DV→St→Prop}{m l:Nat}(hm:h[m]?=some (.arr sz es))(hl:h[l]?=some (.box [.osl sz m 0 n none]))
  (hx:xs.all DV.closed=true) (hc:ACalls E f [.arr sz es,.box [.osl sz 0 0 n none]] (.ptr 1 0::xs) (fun h' d=>h' = [.arr sz es',.box [.osl sz 0 0 n' none]]∧d=D)) (hD:D.ren (upL h.length [m,l])=DR)
  (hk:K DR (sta (iZ m L) (((eA m h).set m (.arr sz es')).set l (.box [.osl sz m 0 n' none])))):acall E true f (.ptr l 0::xs) K (sta L h):=by
 have hne:m≠l:=fun e=>by subst e; rw [hm] at hl; cases hl
 have hlt1:m<h.length:=(List.getElem?_eq_some_iff.1 hm).1
 have hlt2:l<h.length:=(List.getElem?_eq_some_iff.1 hl).1
 have g1:h.getD m .dead=.arr sz es:=by simp [hm]
 have g2:h.getD l .dead=.box [.osl sz m 0 n none]:=by simp [hl]
 have i0:[m,l].idxOf? m=some 0:=by simp [List.idxOf?,List.findIdx?_cons]
 have i1:[m,l].idxOf? l=some 1:=by simp [List.idxOf?,List.findIdx?_cons,hne]
 refine .go ?_
 refine .inr (.inr ⟨false,[m,l],fun h' d=>h' = [.arr sz es',.box [.osl sz 0 0 n' none]]∧d=D,.inl rfl,by simpa using hne,fun k hk=>?_,?_,fun h' d hp=>?_⟩)
 ·simp at hk; rcases hk with rfl | rfl
  ·exact hlt1
  ·exact hlt2
 ·have e1:(DV.ptr l 0::xs).map (DV.dn [m,l] (sta L h).h)=.ptr 1 0::xs:=by
   rw [List.map_cons]
   refine congr (congrArg _ ?_) (cJ fun d hd=>cY (List.all_eq_true.1 hx d hd))
   simp only [DV.dn,DV.low,i1]
  rw [e1,show (sta L h).h=h from rfl]
  simp only [List.map_cons,List.map_nil,g1,g2,jV,DV.low,i0,i1]
  exact hc
 ·obtain ⟨rfl,rfl⟩:=hp
  refine ⟨.inl ?_,?_⟩
  ·rw [Bool.and_eq_true]
   refine ⟨?_,?_⟩
   ·rw [List.all_cons,Bool.and_eq_true]
    refine ⟨by simp [DV.inL],List.all_eq_true.2 fun d hd=>bC (List.all_eq_true.1 hx d hd)⟩
   ·simp only [show (sta L h).h=h from rfl,List.all_cons,List.all_nil,Bool.and_true,g1,g2,inO,DV.inL]
    simp
  ·rw [show (sta L h).h=h from rfl,hD]
   have e:(sta L h).handed false [m,l] [.arr sz es',.box [.osl sz 0 0 n' none]]=sta (iZ m L) (((eA m h).set m (.arr sz es')).set l (.box [.osl sz m 0 n' none])):=by
    unfold St.handed
    have e1:(List.filter (fun l => !dP (sta L h).h[l]?) [m,l])=[m]:=by simp [show (sta L h).h=h from rfl,hm,hl,dP]
    simp only [e1,List.isEmpty_cons,Bool.or_self,Bool.false_eq_true,if_false]
    have e2:(sta L h).kill [m].contains=sta (iZ m L) (eA m h):=by
     have:([m].contains)=fun l=>l == m:=mA m
     rw [this]; exact iV
    rw [e2]
    simp only [List.map_cons,List.map_nil,aR,DV.ren,List.length_cons,List.length_nil,List.drop_succ_cons,List.drop_zero,List.append_nil,bB]
    rfl
   rw [e]; exact hk
theorem aCc {post:List AObj→DV→Prop}{sz n:Nat}{es:List (List DV)}{tl:List AObj}{ds:List DV}(hds:(rvd ds).closed=true)
  (hp:post [.arr sz es,.box [.osl sz 0 0 n none]] (rvd ds)):dY 2 post (some ds) (.arr sz es::.box [.osl sz 0 0 n none]::tl):=by
 refine ⟨ds,rfl,[0,1],by simp,Nat.le_refl _,fun i h=>?_,fun l hl=>?_,bC hds,fun l hl=>?_,?_⟩
 ·have:i=0∨i=1:=by omega
  rcases this with rfl|rfl <;> rfl
 ·simp at hl; rcases hl with rfl | rfl <;> simp
 ·simp at hl; rcases hl with rfl | rfl
  ·rfl
  ·simp [inO,DV.inL]
 ·rw [bD hds]
  have e:[0,1].map (fun l=>aR (fun x=>List.idxOf x [0,1]) ((.arr sz es::.box [.osl sz 0 0 n none]::tl).getD l .dead))=[.arr sz es,.box [.osl sz 0 0 n none]]:=by
   simp [aR,DV.ren]
  rw [e]; exact hp
theorem VD (st:St){p q r:Nat→Bool}(hr:∀ l,r l=(p l||q l)):(st.kill p).kill q=st.kill r:=by
 unfold St.kill
 congr 1
 ·funext s
  exact sT hr
 ·simp only [List.map_map]
  exact List.map_congr_left fun o _=>wT hr o
theorem sX:∀ (ks:List Nat)(L:List (Nat×DV))(h:List AObj),ks≠[]→(sta L h).kill ks.contains=sta (ks.foldl (fun L i=>iZ i L) L) (ks.foldl (fun h i=>eA i h) h)
 | [],_,_,h=>absurd rfl h
 | [i],L,h,_=>by
  have:([i].contains)=fun l=>l == i:=mA i
  rw [this]; exact iV
 | i::j::ks,L,h,_=>by
  have hr:∀ l,(i::j::ks).contains l=((l == i)||(j::ks).contains l):=fun l=>by
   rw [List.contains_cons]
  rw [← VD _ hr,iV,sX (j::ks) _ _ (by simp)]
  rfl
theorem zG {L:List (Nat×DV)}{h:List AObj}{ls:List Nat}{h' : List AObj}(ks:List Nat)(hks:ls.filter (fun l => !dP h[l]?)=ks) :
  (sta L h).handed false ls h' = sta (ks.foldl (fun L i=>iZ i L) L) (bB (ks.foldl (fun h i=>eA i h) h) ls (h'.map (aR (upL h.length ls)))++(h'.drop ls.length).map (aR (upL h.length ls))):=by
 unfold St.handed
 rw [show (sta L h).h=h from rfl,hks]
 cases ks with
 | nil=>rfl
 | cons i ks=>
  simp only [List.isEmpty_cons,Bool.or_self,Bool.false_eq_true,if_false]
  rw [sX _ _ _ (by simp)]
  rfl
theorem fL {E:Env}{L:List (Nat×DV)}{h:List AObj}{f:Nat}{ds ds1:List DV}{h1 h1' : List AObj}{D DR:DV}{K:DV→St→Prop}(ls ks:List Nat)(hnd:ls.Nodup)(hlt:∀ l∈ls,l<h.length)
  (hks:ls.filter (fun l => !dP h[l]?)=ks)
  (hlow:(ls.map fun l=>jV (fun l=>ls.idxOf? l) h (h.getD l .dead))=h1) (hds:ds.map (DV.dn ls h)=ds1)
  (hin:(ds.all (DV.inL ls.contains)&&ls.all (fun l=>inO ls.contains (h.getD l .dead)))=true)
  (hc:ACalls E f h1 ds1 (fun h' d=>h' = h1' ∧ d=D)) (hD:D.ren (upL h.length ls)=DR)
  (hk:K DR (sta (ks.foldl (fun L i=>iZ i L) L) (bB (ks.foldl (fun h i=>eA i h) h) ls (h1'.map (aR (upL h.length ls)))++(h1'.drop ls.length).map (aR (upL h.length ls))))):acall E true f ds K (sta L h):=by
 refine .go ?_
 refine .inr (.inr ⟨false,ls,fun h' d=>h' = h1' ∧ d=D,.inl rfl,hnd,hlt,?_,fun h' d hp=>?_⟩)
 ·rw [show (sta L h).h=h from rfl,hlow,hds]; exact hc
 ·obtain ⟨rfl,rfl⟩:=hp
  refine ⟨.inl hin,?_⟩
  rw [show (sta L h).h=h from rfl,hD,zG ks hks]
  exact hk
theorem dZ {E:Env}{L:List (Nat×DV)}{h:List AObj}{f i:Nat}{cs cs' xs:List DV}{D:DV}{K:DV→St→Prop}(hi:h[i]?=some (.box cs))(hcl:cs.all DV.closed=true)(hcl' : cs'.all DV.closed=true)(hD:D.closed=true)(hx:xs.all DV.closed=true)
  (hc:ACalls E f [.box cs] (.ptr 0 0::xs) (fun h' d=>h' = [.box cs']∧d=D)) (hk:K D (sta L (h.set i (.box cs')))):acall E true f (.ptr i 0::xs) K (sta L h):=by
 refine fF (ds' := .ptr 0 0::xs) hi hcl hc ?_ ?_ ?_
 ·rw [List.map_cons]
  refine congr (congrArg _ ?_) (cJ fun d hd=>cY (List.all_eq_true.1 hx d hd))
  simp [DV.dn,DV.low,List.idxOf?,List.findIdx?_cons]
 ·rw [List.all_cons,Bool.and_eq_true]
  exact ⟨by simp [DV.inL],List.all_eq_true.2 fun d hd=>bC (List.all_eq_true.1 hx d hd)⟩
 ·rintro h' d ⟨rfl,rfl⟩
  exact ⟨cs',rfl,hcl',hD,hk⟩
theorem gT {post:List AObj→DV→Prop}{cs:List DV}{tl:List AObj}{ds:List DV}(hcs:cs.all DV.closed=true)(hds:(rvd ds).closed=true)(hp:post [.box cs] (rvd ds)):dY 1 post (some ds) (.box cs::tl):=by
 refine ⟨ds,rfl,[0],by simp,Nat.le_refl _,fun i h=>?_,fun l hl=>?_,bC hds,fun l hl=>?_,?_⟩
 ·have:i=0:=by omega
  subst this; rfl
 ·simp at hl; subst hl; simp
 ·simp at hl; subst hl
  show inO _ (.box cs)=true
  exact List.all_eq_true.2 fun d hd=>bC (List.all_eq_true.1 hcs d hd)
 ·rw [bD hds]
  have e:[0].map (fun l=>aR (fun x=>List.idxOf x [0]) ((AObj.box cs::tl).getD l .dead))=[.box cs]:=by
   simp only [List.map_cons,List.map_nil,List.getD_cons_zero,aR]
   rw [cJ fun d hd=>bD (List.all_eq_true.1 hcs d hd)]
  rw [e]; exact hp
theorem iS {E:Env}{L:List (Nat×DV)}{h:List AObj}{f:Nat}{ds:List DV}{K:DV→St→Prop}(F:List Nat)(hF:F.all (fun l=>cP h[l]?)=true)
  (hk:acall E true f (dM F h ds) K (sta (rD F h L) (dR F h 0 h))):acall E true f ds K (sta L h):=by
 refine .frz F rfl (fun l hl=>List.all_eq_true.1 hF l hl) ?_
 rw [fI]
 exact hk
theorem tV {post:List AObj→DV→Prop}{ds:List DV}{h:List AObj}{m0:Nat}(ρ:List Nat)(hnd:ρ.Nodup)(hm:m0≤ρ.length)(hid:∀ i,i<m0→ρ[i]?=some i)(hlt:∀ l∈ρ,l<h.length)(hin:(rvd ds).inL ρ.contains=true)
  (hbox:∀ l∈ρ,inO ρ.contains (h.getD l .dead)=true) {H:List AObj} {D:DV} (hH:ρ.map (fun l=>aR (ρ.idxOf ·) (h.getD l .dead))=H) (hD:(rvd ds).ren (ρ.idxOf ·)=D) (hp:post H D):dY m0 post (some ds) h:=by
 subst hH; subst hD
 exact ⟨ds,rfl,ρ,hnd,hm,hid,hlt,hin,hbox,hp⟩
end Go.Ai

namespace Go.Proofs.Ut
open Go.Ai
set_option maxRecDepth 100000
def st1 (s:List UInt8):List DV:=[.str s]
end Go.Proofs.Ut

namespace Go.Proofs.Ut
open Go.Ai Classical Go.Shelf Go.RowKit
set_option linter.unusedSimpArgs false
set_option maxHeartbeats 1000000
set_option maxRecDepth 100000
theorem yZ {f:Nat}{args:List DV}{r:DV}(hent:Ent Tryz.prog f)(h:∀ (w:World)(ok:Nat→Prop)(β:Ai.Loc)(vs:List Value),vs.length=args.length→(∀ (i:Nat) v d,vs[i]?=some v→args[i]?=some d→Rep w ok β v d) →
  ∃ v,(∀ w ok β,Rep w ok β v r)∧Calls Tryz.prog f vs.toArray w fun e w' => e=.returned v∧Below w.heap.size w w'):aY f args r:=by
 refine ⟨hent,fun w ok β vs hg hn hh hl hv=>?_⟩
 obtain ⟨v,hr,hc⟩:=h w ok β vs hl hv
 refine hc.mono ?_
 rintro e w' ⟨rfl,hb⟩
 exact ⟨_,ok,β,[],_,rfl,⟨rfl,rfl⟩,gX hg hn hb,Ev.below hb,qJ hh hb.size,hr _ _ _,fun l cs q=>by simp at q,Nat.le_refl _,fun _ _ _=>rfl⟩
theorem cU {w:World}{ok:Nat→Prop}{β:Ai.Loc}{v:Value}{s:List UInt8}(h:Rep w ok β v (.str s)):v=.string ⟨s.toArray⟩:=by
 generalize hd:DV.str s=d at h
 cases h <;> try cases hd
 rfl
theorem KG {w:World}{ok:Nat→Prop}{β:Ai.Loc}{v:Value}{k:IntKind}{n:Int}(h:Rep w ok β v (.int k n)):v=.int k n:=by
 cases h; rfl
theorem OD (w:World)(ok:Nat→Prop)(β:Ai.Loc)(s:List UInt8):Rep w ok β (.string ⟨s.toArray⟩) (.str s):=by
 have:=Rep.str (w:=w) (ok:=ok) (β:=β) ⟨s.toArray⟩
 simpa using this
theorem two {vs:List Value}{a b:DV}(h:vs.length=[a,b].length):∃ u v,vs=[u,v]:=by
 match vs,h with
 | [u,v],_=>exact ⟨u,v,rfl⟩
theorem MK (s:List UInt8)(c:UInt8):aY 166 [.str s,.str [c]] (.int .i64 (Lib.indexByte s c)):=by
 refine yZ ⟨Tryz.f166,Tryz.func166,by kernel_rfl,by kernel_rfl⟩ fun w ok β vs hl hv=>?_
 obtain ⟨u,v,rfl⟩:=two hl
 obtain rfl:=cU (hv 0 u _ rfl rfl)
 obtain rfl:=cU (hv 1 v _ rfl rfl)
 refine ⟨_,fun _ _ _=>.int _ _,(Any.stringslite_Index_one Tryz.lays219 ⟨s.toArray⟩ c w).mono ?_⟩
 rintro e w' ⟨rfl,rfl⟩
 exact ⟨rfl,Below.refl _ _⟩
theorem NF (s:List UInt8)(c:UInt8):aY 126 [.str s,.str [c]] (.int .i64 (Lib.indexByte s c)):=by
 refine yZ ⟨Tryz.f126,Tryz.func126,by kernel_rfl,by kernel_rfl⟩ fun w ok β vs hl hv=>?_
 obtain ⟨u,v,rfl⟩:=two hl
 obtain rfl:=cU (hv 0 u _ rfl rfl)
 obtain rfl:=cU (hv 1 v _ rfl rfl)
 refine ⟨_,fun _ _ _=>.int _ _,(Any.strings_Index_one Tryz.lays143 ⟨s.toArray⟩ c w).mono ?_⟩
 rintro e w' ⟨rfl,rfl⟩
 exact ⟨rfl,Below.refl _ _⟩
theorem YC (s:List UInt8)(c:Int):aY 212 [.str s,.int .u8 c] (.int .i64 (Lib.indexByte s c.toNat.toUInt8)):=by
 refine yZ ⟨Tryz.f212,Tryz.func212,by kernel_rfl,by kernel_rfl⟩ fun w ok β vs hl hv=>?_
 obtain ⟨u,v,rfl⟩:=two hl
 obtain rfl:=cU (hv 0 u _ rfl rfl)
 obtain rfl:=KG (hv 1 v _ rfl rfl)
 refine ⟨_,fun _ _ _=>.int _ _,(Any.stringslite_IndexByte Tryz.lays217 ⟨s.toArray⟩ c w).mono ?_⟩
 rintro e w' ⟨rfl,rfl⟩
 exact ⟨rfl,Below.refl _ _⟩
theorem FA (s:List UInt8)(c:Int):aY 305 [.str s,.int .u8 c] (.int .i64 (Lib.indexByte s c.toNat.toUInt8)):=by
 refine aA c305 (by simp [f305]) ?_
 simp only [f305,↓gos,gop,qA,qB,qC,qD,qE,qF,qG,qH,qI]
 refine aB (YC s c) rfl rfl ?_
 simp only [↓gos,gop,qA,qB,qC,qD,qE,qF,qG,qH,qI]
 exact qK rfl
theorem sI (gr:Bool)(bs s:List UInt8)(hlen:bs.length+s.length≤140737488355328):ACalls ED 174 (Bld gr 169 5 bs) [.ptr 1 0,.str s] (fun h' d=>h' = Bld gr 169 5 (bs++s)∧d=.undef):=
 WZ (E:=ED) Tryz.lays166 Tryz.extra166 rfl rfl rfl ⟨Tryz.f174,Tryz.func174,by kernel_rfl,by kernel_rfl⟩ gr bs s hlen
theorem EN (gr:Bool)(bs:List UInt8):ACalls ED 175 (Bld gr 169 5 bs) [.ptr 1 0] (fun h' d=>h' = [.dead,.box [.undef,.undef]]∧d=.str bs):=
 PZ (E:=ED) Tryz.lays169 Tryz.extra169 rfl rfl rfl ⟨Tryz.f175,Tryz.func175,by kernel_rfl,by kernel_rfl⟩ gr bs
def cut (c:UInt8):List UInt8→List UInt8×List UInt8×Bool
 | []=>([],[],false)
 | x::s=>if x=c then ([],s,true) else (x::(cut c s).1,(cut c s).2.1,(cut c s).2.2)
theorem jP (c:UInt8):∀ s:List UInt8,(Lib.indexByte s c<0∧cut c s=(s,[],false))∨(∃ n:Nat,Lib.indexByte s c=n∧n<s.length∧cut c s=(s.take n,s.drop (n+1),true))
 | []=>.inl ⟨by simp [Lib.indexByte],rfl⟩
 | x::s=>by
  unfold Lib.indexByte cut
  by_cases hx:x=c
  ·rw [if_pos hx,if_pos (by simp [hx])]
   exact .inr ⟨0,rfl,by simp,rfl⟩
  ·rw [if_neg hx,if_neg (by simp [hx])]
   rcases jP c s with ⟨h1,h2⟩|⟨n,h1,h2,h3⟩
   ·have:=Lib.indexByte_ge s c
    have e:Lib.indexByte s c = -1:=by omega
    rw [h2,if_pos (by rw [e]; rfl)]
    exact .inl ⟨by omega,rfl⟩
   ·rw [h3,h1,if_neg (by first | (simp; done) | (simp; omega))]
    exact .inr ⟨n+1,by omega,by simpa using h2,rfl⟩
theorem aDk (s:List UInt8)(c:UInt8)(hs:s.length<1000000000000):aY 224 [.str s,.str [c]] (.tup [.str (cut c s).1,.str (cut c s).2.1,.bool (cut c s).2.2]):=by
 refine aA c224 (by simp [f224]) ?_
 simp only [f224,↓gos,gop,qA,qB,qC,qD,qE,qF,qG,qH,qI]
 refine aB (MK s c) rfl rfl ?_
 simp only [↓gos,gop,qA,qB,qC,qD,qE,qF,qG,qH,qI]
 rcases jP c s with ⟨h1,h2⟩|⟨n,h1,h2,h3⟩
 ·refine ⟨fun h=>absurd h (by omega),fun _=>?_⟩
  rw [h2]
  exact aC rfl ⟨rfl,rfl⟩
 ·rw [h1]
  refine ⟨fun _=>⟨by omega,by omega,fun v hv=>?_⟩,fun h=>absurd h (by omega)⟩
  rw [wrap_i64 (by omega) (by omega)] at hv
  subst hv
  refine ⟨by omega,by omega,?_⟩
  rw [h3]
  refine aC rfl ⟨rfl,?_⟩
  have e1:((n:Int)).toNat=n:=by omega
  have e2:((n:Int)+1).toNat=n+1:=by omega
  rw [e1,e2,List.take_of_length_le (l:=s.drop (n+1)) (by simp)]
  rfl
theorem uD (s:List UInt8)(c:UInt8)(hs:s.length<1000000000000):aY 183 [.str s,.str [c]] (.tup [.str (cut c s).1,.str (cut c s).2.1,.bool (cut c s).2.2]):=by
 refine aA c183 (by simp [f183]) ?_
 simp only [f183,↓gos,gop,qA,qB,qC,qD,qE,qF,qG,qH,qI]
 refine aB (aDk s c hs) rfl rfl ?_
 simp only [↓gos,gop,qA,qB,qC,qD,qE,qF,qG,qH,qI]
 exact aC rfl ⟨rfl,rfl⟩
theorem ME (s p:List UInt8)(hs:s.length<1000000000000)(hp:p.length<1000000000000):aY 232 [.str s,.str p] (.bool (p.isPrefixOf s)):=by
 refine aA c232 (by simp [f232]) ?_
 simp only [f232,↓gos,gop,qA,qB,qC,qD,qE,qF,qG,qH,qI]
 have hiff:p.isPrefixOf s=true↔s.take p.length=p:=by
  rw [List.isPrefixOf_iff_prefix,List.prefix_iff_eq_take]
  exact eq_comm
 refine ⟨fun h=>⟨h,fun q=>aJ ?_,fun q=>aJ ?_⟩,fun h=>aJ ?_⟩
 ·rw [hiff.2 q]
 ·cases hp:p.isPrefixOf s
  ·rfl
  ·exact absurd (hiff.1 hp) q
 ·cases hp:p.isPrefixOf s
  ·rfl
  ·have:=congrArg List.length (hiff.1 hp)
   rw [List.length_take] at this
   omega
theorem aCf (s p:List UInt8)(hs:s.length<1000000000000)(hp:p.length<1000000000000):aY 250 [.str s,.str p] (.bool (p.isPrefixOf s)):=by
 refine aA c250 (by simp [f250]) ?_
 simp only [f250,↓gos,gop,qA,qB,qC,qD,qE,qF,qG,qH,qI]
 refine aB (ME s p hs hp) rfl rfl ?_
 simp only [↓gos,gop,qA,qB,qC,qD,qE,qF,qG,qH,qI]
 exact aJ rfl
def cB (p s:List UInt8):List UInt8×Bool:=if p.isPrefixOf s then (s.drop p.length,true) else (s,false)
theorem SJ (s p:List UInt8)(hs:s.length<1000000000000)(hp:p.length<1000000000000):aY 195 [.str s,.str p] (.tup [.str (cB p s).1,.bool (cB p s).2]):=by
 refine aA c195 (by simp [f195]) ?_
 simp only [f195,↓gos,gop,qA,qB,qC,qD,qE,qF,qG,qH,qI]
 refine aB (ME s p hs hp) rfl rfl ?_
 unfold cB
 cases h:p.isPrefixOf s
 ·simp only [↓gos,gop,qA,qB,qC,qD,qE,qF,qG,qH,qI]
  exact aC rfl ⟨rfl,rfl⟩
 ·have hle:p.length≤s.length:=(List.isPrefixOf_iff_prefix.1 h).length_le
  simp only [↓gos,gop,qA,qB,qC,qD,qE,qF,qG,qH,qI]
  refine ⟨by omega,aC rfl ⟨rfl,?_⟩⟩
  rw [List.take_of_length_le (l:=s.drop p.length) (by simp)]
  rfl
theorem PQ (s p:List UInt8)(hs:s.length<1000000000000)(hp:p.length<1000000000000):aY 154 [.str s,.str p] (.tup [.str (cB p s).1,.bool (cB p s).2]):=by
 refine aA c154 (by simp [f154]) ?_
 simp only [f154,↓gos,gop,qA,qB,qC,qD,qE,qF,qG,qH,qI]
 refine aB (SJ s p hs hp) rfl rfl ?_
 simp only [↓gos,gop,qA,qB,qC,qD,qE,qF,qG,qH,qI]
 exact aC rfl ⟨rfl,rfl⟩
theorem lF (c:UInt8)(s:List UInt8):(cut c s).1.length≤s.length∧(cut c s).2.1.length≤s.length:=by
 rcases jP c s with ⟨_,h⟩|⟨n,_,_,h⟩ <;> rw [h] <;> simp <;> omega
set_option linter.unusedVariables false
theorem aCV (n:Int):aY 271 [.int .i64 n] (.bool (decide (8<n))):=by
 refine aA c271 (by simp [f271]) ?_
 simp only [f271,↓gos,gop,qA,qB,qC,qD,qE,qF,qG,qH,qI]
 repeat' (first | refine And.intro ?_ ?_ | intro _)
 all_goals first
  | (refine aJ ?_; simp; omega)
  | (refine aJ ?_; simp [*])
  | exact aJ rfl
theorem MB (c:Nat)(h:okC c):aY 306 [.int .i32 c] (.bool true):=by
 refine aA c306 (by simp [f306]) ?_
 simp only [f306,↓gos,gop,qA,qB,qC,qD,qE,qF,qG,qH,qI]
 unfold okC at h
 repeat' (first | refine And.intro ?_ ?_ | intro _)
 all_goals first
  | exact aJ rfl
  | (exfalso; omega)
theorem LC (s:List UInt8)(i:Nat):(by_ s i<128∧D s i=(by_ s i,1))∨(128≤by_ s i∧128≤(D s i).1∧∀ q,i≤q→q<i+(D s i).2→128≤by_ s q):=by
 by_cases h0:by_ s i<128
 ·exact .inl ⟨h0,D1 h0⟩
 ·refine .inr ⟨by omega,?_⟩
  have hb:=tN s i
  have z:128≤((65533,1):Nat×Nat).1∧∀ q,i≤q→q<i+((65533,1):Nat×Nat).2→128≤by_ s q:=⟨by simp,fun q h1 h2=>by
   have:q=i:=by simp at h2; omega
   subst this; omega⟩
  rw [yJ,if_neg h0]
  split
  ·rename_i h
   split
   ·rename_i hc
    refine ⟨hc,fun q h1 h2=>?_⟩
    simp only at h2
    have:q=i∨q=i+1:=by omega
    rcases this with rfl|rfl <;> omega
   ·exact z
  ·split
   ·rename_i h
    split
    ·rename_i hc
     refine ⟨by have:=hc.1; simp only; omega,fun q h1 h2=>?_⟩
     simp only at h2
     have:q=i∨q=i+1∨q=i+2:=by omega
     rcases this with rfl|rfl|rfl <;> omega
    ·exact z
   ·split
    ·rename_i h
     split
     ·rename_i hc
      refine ⟨by have:=hc.1; simp only; omega,fun q h1 h2=>?_⟩
      simp only at h2
      have:q=i∨q=i+1∨q=i+2∨q=i+3:=by omega
      rcases this with rfl|rfl|rfl|rfl <;> omega
     ·exact z
    ·exact z
theorem GZ (c:Nat)(h:okC c)(h1:128≤c):(∃ x y,(Utf8.encode (c:Int)).data.toList=[x,y]∧128≤y.toNat)∨(∃ x y z,(Utf8.encode (c:Int)).data.toList=[x,y,z]∧128≤z.toNat) ∨
  (∃ x y z t,(Utf8.encode (c:Int)).data.toList=[x,y,z,t]∧128≤t.toNat):=by
 have e:=lI h
 unfold en at e
 rw [e,if_neg (by omega)]
 have hm:128≤(UInt8.ofNat (128+c % 64)).toNat:=by rw [bV _ (by omega)]; omega
 split
 ·exact .inl ⟨_,_,rfl,hm⟩
 ·split
  ·exact .inr (.inl ⟨_,_,_,rfl,hm⟩)
  ·exact .inr (.inr ⟨_,_,_,_,rfl,hm⟩)
theorem BY (l:List UInt8)(b:UInt8)(hl:∀ x∈l,x.toNat<128)(hb:128≤b.toNat):Lib.indexByte l b = -1:=by
 induction l with
 | nil=>rfl
 | cons x l ih=>
  unfold Lib.indexByte
  have hx:(x == b)=false:=by
   have:=hl x (by simp)
   simp only [beq_eq_false_iff_ne,ne_eq]
   intro e; subst e; omega
  rw [hx,ih fun y hy=>hl y (by simp [hy])]
  rfl
def Sg (S:List UInt8):Prop:=2≤S.length∧S.length<1000∧∀ x∈S,x.toNat<128
theorem MS (c:Nat)(h:okC c)(h1:128≤c):2≤(Utf8.encode (c:Int)).data.toList.length∧(Utf8.encode (c:Int)).data.toList.length≤4∧128≤by_ (Utf8.encode (c:Int)).data.toList ((Utf8.encode (c:Int)).data.toList.length - 1):=by
 rcases GZ c h h1 with ⟨x,y,e,hb⟩|⟨x,y,z,e,hb⟩|⟨x,y,z,t,e,hb⟩ <;> rw [e] <;> exact ⟨by simp,by simp,hb⟩
theorem aCB (S:List UInt8)(hS:Sg S)(c:Nat)(h:okC c):aY 270 [.str S,.int .i32 c] (.int .i64 (if c<128 then Lib.indexByte S (UInt8.ofNat c) else -1)):=by
 obtain ⟨g1,g2,g3⟩:=hS
 refine aA c270 (by simp [f270]) ?_
 simp only [f270,↓gos,gop,qA,qB,qC,qD,qE,qF,qG,qH,qI]
 refine ⟨fun hc=>fun v hv=>?_,fun hc=>⟨fun h3=>?_,fun h3=>?_⟩⟩
 ·have hv:v=(c:Int):=by rw [hv]; simp [IntKind.wrap,IntKind.bits,IntKind.signed]; omega
  subst hv
  refine aB (FA S c) rfl rfl ?_
  simp only [↓gos,gop,qA,qB,qC,qD,qE,qF,qG,qH,qI]
  rw [if_pos (by omega)]
  exact qK rfl
 ·rw [if_neg (by omega)]
  refine aM (γ:=Nat) (fun p=>[(175,.ptr 0 0)]) (fun p=>[.iter S p]) (fun p=>p≤S.length) (fun p=>S.length - p) 0 (wks rfl (by simp) ⟨rfl,trivial⟩) (by simp) fun p hp=>?_
  simp only [f270l0,↓gos,gop,qA,qB,qC,qD,qE,qF,qG,qH,qI]
  refine ⟨fun h4=>?_,fun h4=>qK rfl⟩
  have hb:by_ S p<128:=by
   unfold by_
   rw [List.getD_eq_getElem?_getD,List.getElem?_eq_getElem h4]
   exact g3 _ (List.getElem_mem _)
  have hd:=D1 hb
  unfold D at hd
  rw [hd]
  refine ⟨fun h5=>by exfalso; omega,fun h5=>?_⟩
  exact aQ (p+1) rfl (by simp) ⟨rfl,trivial⟩ (by omega) (by omega)
 ·rw [if_neg (by omega)]
  refine aB (MB c h) rfl rfl ?_
  simp only [↓gos,gop,qA,qB,qC,qD,qE,qF,qG,qH,qI]
  have hc:128≤c:=by omega
  obtain ⟨n1,n2,n3⟩:=MS c h hc
  generalize (Utf8.encode (c:Int)).data.toList=rs at n1 n2 n3 ⊢
  intro v hv
  rw [wrap_i64 (by omega) (by omega)] at hv
  have hv:v=((rs.length - 1:Nat):Int):=by omega
  subst hv
  refine aM (γ:=Unit) (fun _=>[(9,.int .i64 ((rs.length - 1:Nat):Int)),(8,.int .i64 ((rs.length - 1:Nat):Int)),(7,.str rs),(0,.str S)]) (fun _=>[]) (fun _=>True) (fun _=>0) () (wks rfl (by simp) ⟨rfl,rfl,rfl,rfl,trivial⟩) trivial fun _ _=>?_
  simp only [f270l2,↓gos,gop,qA,qB,qC,qD,qE,qF,qG,qH,qI]
  refine ⟨fun h1=>⟨by omega,by omega,fun _ v hv2=>?_,fun q=>?_⟩,fun h1=>qK rfl⟩
  ·rw [wrap_i64 (by omega) (by omega)] at hv2
   subst hv2
   refine ⟨by omega,by omega,by omega,aB (FA _ _) rfl rfl ?_⟩
   have e:Lib.indexByte (List.take (S.length - (((rs.length - 1:Nat):Int)+1).toNat) (List.drop (((rs.length - 1:Nat):Int)+1).toNat S)) (bt rs (rs.length - 1)).toNat.toUInt8 = -1:=by
    refine BY _ _ (fun x hx=>g3 x (List.mem_of_mem_drop (List.mem_of_mem_take hx))) ?_
    rw [tQ,Int.toNat_natCast]
    have:=tN rs (rs.length - 1)
    show 128≤(UInt8.ofNat _).toNat
    rw [bV _ this]; exact n3
   rw [e]
   simp only [↓gos,gop,qA,qB,qC,qD,qE,qF,qG,qH,qI]
   exact qK rfl
  ·exfalso
   rw [tQ,tQ] at q
   have hb:by_ S (rs.length - 1)<128:=by
    unfold by_
    rw [List.getD_eq_getElem?_getD,List.getElem?_eq_getElem (show rs.length - 1<S.length by omega)]
    exact g3 _ (List.getElem_mem _)
   omega
theorem aAQ {SG s:List UInt8}{p:Nat}(hp:p<s.length)(h:∀ q,q<p→SG.contains (s.getD q 0)=false)(h1:SG.contains (s.getD p 0)=true):Lib.indexAny s SG=p:=by
 induction s generalizing p with
 | nil=>simp at hp
 | cons x s ih=>
  unfold Lib.indexAny
  cases p with
  | zero=>rw [if_pos (by simpa using h1)]; rfl
  | succ p=>
   have h0:=h 0 (by omega)
   have hx:SG.contains x=false:=by simpa using h0
   rw [hx,ih (p:=p) (by simpa using hp) (fun q hq=>by have:=h (q+1) (by omega); simpa using this) (by simpa using h1)]
   rw [if_neg (by simp),if_neg (by first | (simp; done) | (simp; omega))]
   omega
theorem aBv {SG s:List UInt8}(h:∀ q,q<s.length→SG.contains (s.getD q 0)=false):Lib.indexAny s SG = -1:=by
 induction s with
 | nil=>rfl
 | cons x s ih=>
  unfold Lib.indexAny
  have h0:=h 0 (by simp)
  have hx:SG.contains x=false:=by simpa using h0
  rw [hx,ih fun q hq=>by have:=h (q+1) (by simpa using hq); simpa using this]
  rfl
theorem xJ (SG:List UInt8)(b:UInt8):(0≤Lib.indexByte SG b)↔SG.contains b=true:=by
 induction SG with
 | nil=>simp [Lib.indexByte]
 | cons x l ih=>
  unfold Lib.indexByte
  by_cases hx:x=b
  ·subst hx; simp
  ·rw [if_neg (by simpa using hx),List.contains_cons]
   have hb:(b == x)=false:=by simpa using Ne.symm hx
   rw [hb,Bool.false_or,← ih]
   have:=Lib.indexByte_ge l b
   by_cases e:Lib.indexByte l b = -1
   ·rw [e]; simp
   ·rw [if_neg (by simpa using e)]; omega
theorem PX (SG:List UInt8)(hS:Sg SG)(s:List UInt8)(hs:s.length<1000000000):aY 222 [.str s,.str SG] (.int .i64 (Lib.indexAny s SG)):=by
 by_cases h8:8<s.length
 ·refine yZ ⟨Tryz.f222,Tryz.func222,by kernel_rfl,by kernel_rfl⟩ fun w ok β vs hl hv=>?_
  obtain ⟨u,v,rfl⟩:=two hl
  obtain rfl:=cU (hv 0 u _ rfl rfl)
  obtain rfl:=cU (hv 1 v _ rfl rfl)
  have hcs:∀ (j:Nat) (b:UInt8),SG[j]?=some b→b.toNat<128:=fun j b hj=>hS.2.2 b (List.mem_of_getElem? hj)
  have hS1:=hS.1
  have hS2:=hS.2.1
  refine ⟨_,fun _ _ _=>.int _ _,(Any.strings_IndexAny_long Tryz.lays153 (zero_of_info Tryz.set153).1 (zero_of_info Tryz.set153).2 ⟨s.toArray⟩ ⟨SG.toArray⟩ w (by simp [ByteArray.size]; omega) (by simp [ByteArray.size]; omega) (by simp [ByteArray.size]; omega) (by simp [ByteArray.size]; omega) (by simpa using hcs)).mono ?_⟩
  rintro e w' ⟨rfl,rfl⟩
  exact ⟨rfl,((Below.refl _ w).alloc (Nat.le_refl _) _).alloc (by simp) _⟩
 ·refine aA c222 (by simp [f222]) ?_
  simp only [f222,↓gos,gop,qA,qB,qC,qD,qE,qF,qG,qH,qI]
  have hS1:=hS.1
  refine ⟨fun h=>(by exfalso; subst h; simp at hS1),fun _=>⟨fun h=>(by omega),fun _=>aB (aCV _) rfl rfl ?_⟩⟩
  rw [decide_eq_false (by omega)]
  simp only [↓gos,gop,qA,qB,qC,qD,qE,qF,qG,qH,qI]
  refine aM (γ:=Nat) (fun p=>[(45,.ptr 0 0),(0,.str s),(1,.str SG)]) (fun p=>[.iter s p]) (fun p=>p≤s.length∧∀ q,q<p→SG.contains (s.getD q 0)=false) (fun p=>s.length - p) 0
   (wks rfl (by simp) ⟨rfl,rfl,rfl,trivial⟩) ⟨by omega,fun q h=>by omega⟩ fun p hp=>?_
  obtain ⟨hp,hq⟩:=hp
  simp only [f222l1,↓gos,gop,qA,qB,qC,qD,qE,qF,qG,qH,qI]
  refine ⟨fun h1=>?_,fun h1=>?_⟩
  ·have hl:=dE s p h1
   refine aB (aCB SG hS _ hl.2.2) rfl rfl ?_
   have hd:Utf8.decode ⟨s.toArray⟩ p=D s p:=rfl
   rw [hd]
   rcases LC s p with ⟨h2,h3⟩|⟨h2,h3,h4⟩
   ·rw [h3]
    have hb:UInt8.ofNat (by_ s p)=s.getD p 0:=by unfold by_; exact UInt8.ofNat_toNat
    simp only [h2,if_true,hb]
    have hg:=xJ SG (s.getD p 0)
    cases hc:SG.contains (s.getD p 0)
    ·rw [hc] at hg
     simp only [↓gos,gop,qA,qB,qC,qD,qE,qF,qG,qH,qI]
     refine ⟨fun h=>?_,fun h=>?_⟩
     ·have:=hg.1 h; cases this
     ·refine aQ (p+1) rfl (by simp) ⟨rfl,rfl,rfl,trivial⟩ ⟨by omega,fun q hq' => ?_⟩ (by omega)
      by_cases e:q=p
      ·subst e; exact hc
      ·exact hq q (by omega)
    ·rw [hc] at hg
     simp only [↓gos,gop,qA,qB,qC,qD,qE,qF,qG,qH,qI]
     refine ⟨fun h=>qK ?_,fun h=>?_⟩
     ·exact (aAQ h1 hq hc).symm
     ·exact absurd (hg.2 rfl) h
   ·rw [if_neg (by omega)]
    simp only [↓gos,gop,qA,qB,qC,qD,qE,qF,qG,qH,qI]
    refine aQ (p+(D s p).2) rfl (by simp) ⟨rfl,rfl,rfl,trivial⟩ ⟨hl.2.1,fun q hq' => ?_⟩ (by have:=hl.1; omega)
    by_cases e:q<p
    ·exact hq q e
    ·have h5:=h4 q (by omega) hq'
     unfold by_ at h5
     cases hc:SG.contains (s.getD q 0)
     ·rfl
     ·have hm:s.getD q 0∈SG:=List.contains_iff_mem.1 hc
      have:=hS.2.2 _ hm
      omega
  ·refine qK ?_
   exact (aBv fun q h=>hq q (by omega)).symm
theorem TS (SG s:List UInt8):(0≤Lib.indexAny s SG)↔s.any SG.contains=true:=by
 induction s with
 | nil=>simp [Lib.indexAny]
 | cons x s ih=>
  unfold Lib.indexAny
  cases hx:SG.contains x
  ·simp only [Bool.false_eq_true,if_false,List.any_cons,hx,Bool.false_or]
   rw [← ih]
   have:=Lib.indexAny_ge SG s
   by_cases e:Lib.indexAny s SG = -1
   ·rw [e]; simp
   ·rw [if_neg (by simpa using e)]; omega
  ·rw [if_pos rfl]
   simp only [List.any_cons,hx,Bool.true_or]
   decide
theorem ZB (SG:List UInt8)(hS:Sg SG)(s:List UInt8)(hs:s.length<1000000000):aY 172 [.str s,.str SG] (.bool (s.any SG.contains)):=by
 refine aA c172 (by simp [f172]) ?_
 simp only [f172,↓gos,gop,qA,qB,qC,qD,qE,qF,qG,qH,qI]
 refine aB (PX SG hS s hs) rfl rfl ?_
 simp only [↓gos,gop,qA,qB,qC,qD,qE,qF,qG,qH,qI]
 have:=TS SG s
 refine ⟨fun h=>aJ ?_,fun h=>aJ ?_⟩
 ·rw [this.1 h]
 ·cases hc:s.any SG.contains
  ·rfl
  ·exact absurd (this.2 hc) h
end Go.Proofs.Ut
