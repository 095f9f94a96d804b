/- What the library does for cards, as contracts. -/
import Derived.Test.YtgamnnfndidclaaGreatDoorCYVcS
import Derived.Test.YtgamnnfndidclaaGreatDoorCAiHand2
open Nat renaming reduceBEq → qA,reduceAdd → qB,reduceSub → qC,reduceLeDiff → qD,reduceMul → qE
open Int renaming reduceLE → qF,reduceLT → qG,reduceNe → qH,reduceToNat → qI
set_option linter.all false
namespace Go.Proofs.Ut
open Go.Ai Go.Shelf Go.RowKit
set_option linter.unusedSimpArgs false
set_option linter.unusedVariables false
set_option maxHeartbeats 1000000
set_option maxRecDepth 100000
theorem WC (c:Nat):0≤mP c∧(c<128→mP c<65536):=by
 unfold mP
 refine ⟨?_,fun h=>?_⟩
 ·repeat' split
  all_goals omega
 ·repeat' split
  all_goals omega
theorem CN (c:Nat)(hc:c<128):aU 221 [.int .i32 c] (.int .i32 (mP c)):=by
 refine RZ ⟨Tryz.f221,Tryz.func221,by kernel_rfl,by kernel_rfl⟩ fun w ok β vs hg hl hv=>?_
 obtain ⟨u,rfl⟩:=one hl
 obtain rfl:=VC (hv 0 u _ rfl rfl)
 have hb:=WC c
 refine ⟨_,fun _ _ _=>.int _ _,(Any.unicode_SimpleFold_ascii Tryz.lays239 c (mP c) w hc hb.1 (hb.2 hc) (hg.fold c hc)).mono ?_⟩
 rintro e w' ⟨rfl,rfl⟩
 exact ⟨rfl,Below.refl _ _⟩
theorem SM:Builder.Extra Tryz.prog Tryz.lays158_ren:={
 sizeBuilder:=by kernel_rfl
 liesBuilder:=by kernel_rfl
 t5:=Tryz.underlying5
 a5:=Tryz.isAgg5
 z5:=Tryz.sizeOf5
 v5:=Tryz.zeroValue5
 infoByte:=by kernel_rfl
 cellsByte:=by kernel_rfl
 sizeByte:=by kernel_rfl
 neB5:=by decide }
theorem JE (s:List UInt8)(hs:s.length<1000000000)(ha:∀ b∈s,b.toNat<128):aU 218 [.str s] (.str (up s)):=by
 refine yG ⟨Tryz.f218,Tryz.func218,by kernel_rfl,by kernel_rfl⟩ fun w ok β vs hl hv=>?_
 obtain ⟨u,rfl⟩:=one hl
 obtain rfl:=dB (hv 0 u _ rfl rfl)
 refine ⟨_,fun w ok β=>RF w ok β _,(Any.strings_ToUpper_ascii Tryz.lays158 SM ⟨s.toArray⟩ w (by simp [ByteArray.size]; omega) (fun j b hj=>ha b (List.mem_of_getElem? (by simpa using hj)))).mono ?_⟩
 rintro e w' ⟨rfl,hb⟩
 exact ⟨rfl,hb⟩
theorem aFg (s:List UInt8):aU 262 [.str s,.str SGN] (.str (cG s)):=by
 refine yG ⟨Tryz.f262,Tryz.func262,by kernel_rfl,by kernel_rfl⟩ fun w ok β vs hl hv=>?_
 obtain ⟨u,v,rfl⟩:=two hl
 obtain rfl:=dB (hv 0 u _ rfl rfl)
 obtain rfl:=dB (hv 1 v _ rfl rfl)
 refine ⟨_,fun w ok β=>RF w ok β _,(Any.strings_TrimLeft_laid Tryz.lays161 (by kernel_rfl) ⟨s.toArray⟩ ⟨SGN.toArray⟩ w (by decide) (ascii_of_all (by decide))).mono ?_⟩
 rintro e w' ⟨rfl,hb⟩
 exact ⟨rfl,hb⟩
def RL (t:List UInt8):Prop:=∀ b∈t,b.toNat<128∧b.toNat≠75∧b.toNat≠107∧b.toNat≠83∧b.toNat≠115
theorem aEi (a b:Nat)(ha:a<256)(hb:b<256):(128≤IntKind.u8.wrap ((BitVec.ofInt IntKind.u8.bits (a:Int) ||| BitVec.ofInt IntKind.u8.bits (b:Int)).toNat:Int)↔128≤a∨128≤b):=by
 have e:(BitVec.ofInt IntKind.u8.bits (a:Int) ||| BitVec.ofInt IntKind.u8.bits (b:Int)).toNat=a ||| b:=by
  rw [BitVec.toNat_or,BitVec.toNat_ofInt,BitVec.toNat_ofInt]
  have e1:((a:Int) % (2 ^ IntKind.u8.bits:Nat)).toNat=a:=by simp [IntKind.bits]; omega
  have e2:((b:Int) % (2 ^ IntKind.u8.bits:Nat)).toNat=b:=by simp [IntKind.bits]; omega
  rw [e1,e2]
 have hlt:a ||| b<256:=Nat.or_lt_two_pow (n:=8) ha hb
 have h1:a≤a ||| b:=Nat.left_le_or
 have h2:b≤a ||| b:=Nat.right_le_or
 rw [e,wrap_u8 (by omega) (by omega)]
 constructor
 ·intro h
  by_cases h3:a<128∧b<128
  ·have:=Nat.or_lt_two_pow (n:=7) h3.1 h3.2
   omega
  ·omega
 ·intro h; omega
theorem aCD (x y:UInt8):Lib.foldEq x y=decide (x.toNat=y.toNat∨(65≤x.toNat∧x.toNat≤90∧y.toNat=x.toNat+32)∨(65≤y.toNat∧y.toNat≤90∧x.toNat=y.toNat+32)):=rfl
theorem II (s:List UInt8)(i:Nat)(h:i<s.length):s.drop i=s.getD i 0::s.drop (i+1):=by
 rw [List.drop_eq_getElem_cons h,List.getD_eq_getElem?_getD,List.getElem?_eq_getElem h]; rfl
theorem GT (c:Nat)(h:c<128)(h1:c≠75∧c≠107∧c≠83∧c≠115):∃ r:Nat,mP c=r∧r<128∧mP r=c:=by
 unfold mP
 by_cases h2:65≤c∧c≤90
 ·rw [if_pos h2]
  refine ⟨c+32,rfl,by omega,?_⟩
  rw [if_neg (by omega),if_neg (by omega),if_neg (by omega),if_pos (by omega)]; omega
 ·rw [if_neg h2,if_neg (by omega),if_neg (by omega)]
  by_cases h3:97≤c∧c≤122
  ·rw [if_pos h3]
   refine ⟨c - 32,by omega,by omega,?_⟩
   rw [if_pos (by omega)]; omega
  ·rw [if_neg h3]
   refine ⟨c,rfl,h,?_⟩
   rw [if_neg h2,if_neg (by omega),if_neg (by omega),if_neg h3]
theorem aKI (s t:List UInt8)(hs:s.length<1000000000)(ht:t.length<1000)(hp:RL t):aU 171 [.str s,.str t] (.bool (ef s t)):=by
 refine aA c171 (by simp [f171]) ?_
 simp only [f171,↓gos,gop,qA,qB,qC,qD,qE,qF,qG,qH,qI]
 intro n hn
 have hn:n=((min s.length t.length:Nat):Int):=by rw [hn]; split <;> omega
 subst hn
 refine aJ (γ:=Nat) (fun i=>[(5,.int .i64 i),(6,.int .i64 ((min s.length t.length:Nat):Int)),(0,.str s),(1,.str t)]) (fun _=>[]) (fun i=>i≤min s.length t.length∧ef (s.drop i) (t.drop i)=ef s t) (fun i=>s.length - i) 0
  (wks rfl (by simp) ⟨rfl,rfl,rfl,rfl,trivial⟩) ⟨by omega,by simp⟩ fun i hi=>?_
 obtain ⟨hi,he⟩:=hi
 simp only [f171l0,↓gos,gop,qA,qB,qC,qD,qE,qF,qG,qH,qI]
 refine ⟨fun h=>?_,fun h=>?_⟩
 ·have hi1:i<s.length:=by omega
  have hi2:i<t.length:=by omega
  have hd1:=II s i hi1
  have hd2:=II t i hi2
  have htm:t.getD i 0∈t:=by
   rw [List.getD_eq_getElem?_getD,List.getElem?_eq_getElem hi2]; exact List.getElem_mem _
  have hpt:=hp _ htm
  have eb1:bt s i=((s.getD i 0).toNat:Int):=rfl
  have eb2:bt t i=((t.getD i 0).toNat:Int):=rfl
  rw [ef,hd1,hd2,Lib.equalFold,aCD] at he
  have b1:=UInt8.toNat_lt (s.getD i 0)
  have nx:ef (s.drop (i+1)) (t.drop (i+1))=Lib.equalFold (s.drop (i+1)) (t.drop (i+1)):=rfl
  have htb:=UInt8.toNat_lt (t.getD i 0)
  have yes:((s.getD i 0).toNat=(t.getD i 0).toNat∨(65≤(s.getD i 0).toNat∧(s.getD i 0).toNat≤90∧(t.getD i 0).toNat=(s.getD i 0).toNat+32)∨(65≤(t.getD i 0).toNat∧(t.getD i 0).toNat≤90∧(s.getD i 0).toNat=(t.getD i 0).toNat+32))→ef (s.drop (i+1)) (t.drop (i+1))=ef s t:=fun h=>by
   rw [← he,decide_eq_true h,Bool.true_and]; rfl
  have no:¬ ((s.getD i 0).toNat=(t.getD i 0).toNat∨(65≤(s.getD i 0).toNat∧(s.getD i 0).toNat≤90∧(t.getD i 0).toNat=(s.getD i 0).toNat+32)∨(65≤(t.getD i 0).toNat∧(t.getD i 0).toNat≤90∧(s.getD i 0).toNat=(t.getD i 0).toNat+32))→false=ef s t:=fun h=>by
   rw [← he,decide_eq_false h,Bool.false_and]
  refine ⟨by omega,by omega,fun v hv=>?_⟩
  rw [eb1,eb2] at hv ⊢
  have hor:=aEi _ _ b1 htb
  rw [← hv] at hor
  clear hv eb1 eb2 he
  generalize ha:(s.getD i 0).toNat=a at *
  generalize hb:(t.getD i 0).toNat=b at *
  refine ⟨fun h128=>?_,fun h128=>?_⟩
  ·have ha128:128≤a:=by have:=hor.1 h128; omega
   refine ⟨by omega,by omega,?_⟩
   rw [List.take_of_length_le (l:=s.drop i) (by simp),List.take_of_length_le (l:=t.drop i) (by simp)]
   have hne1:s.drop i≠[]:=by rw [hd1]; simp
   have hne2:t.drop i≠[]:=by rw [hd2]; simp
   have hy1:by_ (s.drop i) 0=a:=by rw [hd1,← ha]; rfl
   have hy2:by_ (t.drop i) 0=b:=by rw [hd2,← hb]; rfl
   have hD2:D (t.drop i) 0=(b,1):=by rw [D1 (by omega),hy2]
   have hD1:128≤(D (s.drop i) 0).1:=by
    rcases QQ (s.drop i) 0 with ⟨h1,_⟩|⟨_,h2,_⟩
    ·omega
    ·exact h2
   have hok:=(eC (s.drop i) 0 (List.length_pos_iff.2 hne1)).2.2
   have h0:0<(s.drop i).length:=List.length_pos_iff.2 hne1
   have ht1:1≤(t.drop i).length:=List.length_pos_iff.2 hne2
   have hlt2:(t.drop i).length<1000:=by simp; omega
   generalize hs' : s.drop i=s' at *
   generalize ht' : t.drop i=t' at *
   refine aJ (γ:=Unit) (fun _=>[(67,.ptr 0 0),(1,.str t')]) (fun _=>[.iter s' 0]) (fun _=>True) (fun _=>0) () (wks rfl (by simp) ⟨rfl,rfl,trivial⟩) trivial fun _ _=>?_
   simp only [f171l4,↓gos,gop,qA,qB,qC,qD,qE,qF,qG,qH,qI]
   refine ⟨fun _=>⟨fun h=>by exfalso; omega,fun _=>?_⟩,fun h=>absurd h0 h⟩
   refine aB (AY t' hne2) rfl rfl ?_
   rw [hD2]
   have hd:Utf8.decode ⟨s'.toArray⟩ 0=D s' 0:=rfl
   rw [hd]
   generalize D s' 0=d at hD1 hok
   simp only [↓gos,gop,qA,qB,qC,qD,qE,qF,qG,qH,qI]
   obtain ⟨r,r1,r2,r3⟩:=GT b (by omega) hpt.2
   refine ⟨by omega,fun h=>by exfalso; omega,fun _=>⟨fun _=>⟨fun h=>by exfalso; omega,fun _=>?_⟩,fun h=>by exfalso; omega⟩⟩
   refine aB (CN b (by omega)) rfl rfl ?_
   rw [r1]
   simp only [↓gos,gop,qA,qB,qC,qD,qE,qF,qG,qH,qI]
   have ff:false=ef s t:=no (by omega)
   refine aJ (γ:=Nat) (fun x=>[(13,.int .i32 x),(10,.int .i32 b),(11,.int .i32 d.1)]) (fun _=>[.iter s' d.2]) (fun x=>x<128∧(x=b∨(x=r∧r≠b))) (fun x=>if x=b then 0 else 1) r (wks rfl (by simp) ⟨rfl,rfl,rfl,trivial⟩)
    ⟨r2,by by_cases h:r=b <;> simp [h]⟩ fun x hx=>?_
   simp only [f171l3,↓gos,gop,qA,qB,qC,qD,qE,qF,qG,qH,qI]
   refine ⟨fun q=>⟨fun q2=>aB (CN x hx.1) rfl rfl ?_,fun q2=>?_⟩,fun q=>?_⟩
   ·have hx1:x=r∧r≠b:=by
     rcases hx.2 with h|h
     ·exact absurd (by rw [h]) q
     ·exact h
    rw [hx1.1,r3]
    simp only [↓gos,gop,qA,qB,qC,qD,qE,qF,qG,qH,qI]
    exact aN b rfl (by simp) ⟨rfl,rfl,rfl,trivial⟩ ⟨by omega,.inl rfl⟩ (by rw [if_pos rfl,if_neg hx1.2]; omega)
   ·exact ⟨fun h=>by exfalso; omega,fun _=>aG ff⟩
   ·exact ⟨fun h=>by exfalso; omega,fun _=>aG ff⟩
  ·refine ⟨fun q v3 hv3=>?_,fun q=>⟨fun q2=>⟨fun q3=>⟨fun q4 v1 hv1 v2 hv2=>⟨fun q5 v3 hv3=>?_,fun q5=>aG (no ?_)⟩,fun q4=>aG (no ?_)⟩,fun q3=>aG (no ?_)⟩,fun q2=>⟨fun q3=>⟨fun q4 v1 hv1 v2 hv2=>⟨fun q5 v3 hv3=>?_,fun q5=>aG (no ?_)⟩,fun q4=>aG (no ?_)⟩,fun q3=>aG (no ?_)⟩⟩⟩
   ·rw [wrap_i64 (by omega) (by omega)] at hv3
    subst hv3
    exact aN (i+1) rfl (by simp) ⟨rfl,rfl,rfl,rfl,trivial⟩ ⟨by omega,yes (by omega)⟩ (by omega)
   ·rw [wrap_u8 (by omega) (by omega)] at hv1
    rw [wrap_u8 (by omega) (by omega)] at hv2
    rw [wrap_i64 (by omega) (by omega)] at hv3
    subst hv3
    exact aN (i+1) rfl (by simp) ⟨rfl,rfl,rfl,rfl,trivial⟩ ⟨by omega,yes (by omega)⟩ (by omega)
   ·rw [wrap_u8 (by omega) (by omega)] at hv1
    rw [wrap_u8 (by omega) (by omega)] at hv2
    omega
   ·omega
   ·omega
   ·rw [wrap_u8 (by omega) (by omega)] at hv1
    rw [wrap_u8 (by omega) (by omega)] at hv2
    rw [wrap_i64 (by omega) (by omega)] at hv3
    subst hv3
    exact aN (i+1) rfl (by simp) ⟨rfl,rfl,rfl,rfl,trivial⟩ ⟨by omega,yes (by omega)⟩ (by omega)
   ·rw [wrap_u8 (by omega) (by omega)] at hv1
    rw [wrap_u8 (by omega) (by omega)] at hv2
    omega
   ·omega
   ·omega
 ·have hend:s.drop i=[]∨t.drop i=[]:=by
   by_cases h1:s.length≤i
   ·exact .inl (List.drop_eq_nil_of_le h1)
   ·exact .inr (List.drop_eq_nil_of_le (by omega))
  rw [ef,Lib.equalFold_end _ _ hend] at he
  rw [List.length_drop,List.length_drop] at he
  refine ⟨fun h=>aG ?_,fun h=>aG ?_⟩
  ·rw [← he,decide_eq_true (by omega)]
  ·rw [← he,decide_eq_false (by omega)]
end Go.Proofs.Ut

namespace Go.Ai
theorem aAz (st:St){p q r:Nat→Bool}(hr:∀ l,r l=(p l||q l)):(st.kill p).kill q=st.kill r:=by
 unfold St.kill
 congr 1
 ·funext s
  exact wT hr
 ·simp only [List.map_map]
  exact List.map_congr_left fun o _=>CQ hr o
theorem xY:∀ (ks:List Nat)(L:List (Nat×DV))(h:List AObj),ks≠[]→(sta L h).kill ks.contains=sta (ks.foldl (fun L i=>fB i L) L) (ks.foldl (fun h i=>eZ i h) h)
 | [],_,_,h=>absurd rfl h
 | [i],L,h,_=>by
  have:([i].contains)=fun l=>l == i:=qN i
  rw [this]; exact lS
 | i::j::ks,L,h,_=>by
  have hr:∀ l,(i::j::ks).contains l=((l == i)||(j::ks).contains l):=fun l=>by
   rw [List.contains_cons]
  rw [← aAz _ hr,lS,xY (j::ks) _ _ (by simp)]
  rfl
theorem HG {L:List (Nat×DV)}{h:List AObj}{ls:List Nat}{h' : List AObj}(ks:List Nat)(hks:ls.filter (fun l => !eO h[l]?)=ks) :
  (sta L h).handed false ls h' = sta (ks.foldl (fun L i=>fB i L) L) (bP (ks.foldl (fun h i=>eZ i h) h) ls (h'.map (aS (upL h.length ls)))++(h'.drop ls.length).map (aS (upL h.length ls))):=by
 unfold St.handed
 rw [show (sta L h).h=h from rfl,hks]
 cases ks with
 | nil=>rfl
 | cons i ks=>
  simp only [List.isEmpty_cons,Bool.or_self,Bool.false_eq_true,if_false]
  rw [xY _ _ _ (by simp)]
  rfl
theorem nP {E:Env}{L:List (Nat×DV)}{h:List AObj}{f:Nat}{ds ds1:List DV}{h1 h1' : List AObj}{D DR:DV}{K:DV→St→Prop}(ls ks:List Nat)(hnd:ls.Nodup)(hlt:∀ l∈ls,l<h.length)
  (hks:ls.filter (fun l => !eO h[l]?)=ks)
  (hlow:(ls.map fun l=>iU (fun l=>ls.idxOf? l) h (h.getD l .dead))=h1) (hds:ds.map (DV.dn ls h)=ds1)
  (hin:(ds.all (DV.inL ls.contains)&&ls.all (fun l=>inO ls.contains (h.getD l .dead)))=true)
  (hc:ACalls E f h1 ds1 (fun h' d=>h' = h1' ∧ d=D)) (hD:D.ren (upL h.length ls)=DR)
  (hk:K DR (sta (ks.foldl (fun L i=>fB i L) L) (bP (ks.foldl (fun h i=>eZ i h) h) ls (h1'.map (aS (upL h.length ls)))++(h1'.drop ls.length).map (aS (upL h.length ls))))):acall E true f ds K (sta L h):=by
 refine .go ?_
 refine .inr (.inr ⟨false,ls,fun h' d=>h' = h1' ∧ d=D,.inl rfl,hnd,hlt,?_,fun h' d hp=>?_⟩)
 ·rw [show (sta L h).h=h from rfl,hlow,hds]; exact hc
 ·obtain ⟨rfl,rfl⟩:=hp
  refine ⟨.inl hin,?_⟩
  rw [show (sta L h).h=h from rfl,hD,HG ks hks]
  exact hk
theorem eU {E:Env}{L:List (Nat×DV)}{h:List AObj}{f i:Nat}{cs cs' xs:List DV}{D:DV}{K:DV→St→Prop}(hi:h[i]?=some (.box cs))(hcl:cs.all DV.closed=true)(hcl' : cs'.all DV.closed=true)(hD:D.closed=true)(hx:xs.all DV.closed=true)
  (hc:ACalls E f [.box cs] (.ptr 0 0::xs) (fun h' d=>h' = [.box cs']∧d=D)) (hk:K D (sta L (h.set i (.box cs')))):acall E true f (.ptr i 0::xs) K (sta L h):=by
 refine iC (ds' := .ptr 0 0::xs) hi hcl hc ?_ ?_ ?_
 ·rw [List.map_cons]
  refine congr (congrArg _ ?_) (bM fun d hd=>cK (List.all_eq_true.1 hx d hd))
  simp [DV.dn,DV.low,List.idxOf?,List.findIdx?_cons]
 ·rw [List.all_cons,Bool.and_eq_true]
  exact ⟨by simp [DV.inL],List.all_eq_true.2 fun d hd=>bA (List.all_eq_true.1 hx d hd)⟩
 ·rintro h' d ⟨rfl,rfl⟩
  exact ⟨cs',rfl,hcl',hD,hk⟩
theorem fE {post:List AObj→DV→Prop}{cs:List DV}{tl:List AObj}{ds:List DV}(hcs:cs.all DV.closed=true)(hds:(rvd ds).closed=true)(hp:post [.box cs] (rvd ds)):eK 1 post (some ds) (.box cs::tl):=by
 refine ⟨ds,rfl,[0],by simp,Nat.le_refl _,fun i h=>?_,fun l hl=>?_,bA hds,fun l hl=>?_,?_⟩
 ·have:i=0:=by omega
  subst this; rfl
 ·simp at hl; subst hl; simp
 ·simp at hl; subst hl
  show inO _ (.box cs)=true
  exact List.all_eq_true.2 fun d hd=>bA (List.all_eq_true.1 hcs d hd)
 ·rw [aZ hds]
  have e:[0].map (fun l=>aS (fun x=>List.idxOf x [0]) ((AObj.box cs::tl).getD l .dead))=[.box cs]:=by
   simp only [List.map_cons,List.map_nil,List.getD_cons_zero,aS]
   rw [bM fun d hd=>aZ (List.all_eq_true.1 hcs d hd)]
  rw [e]; exact hp
theorem gM {E:Env}{L:List (Nat×DV)}{h:List AObj}{f:Nat}{ds:List DV}{K:DV→St→Prop}(F:List Nat)(hF:F.all (fun l=>dV h[l]?)=true)
  (hk:acall E true f (eE F h ds) K (sta (uJ F h L) (fA F h 0 h))):acall E true f ds K (sta L h):=by
 refine .frz F rfl (fun l hl=>List.all_eq_true.1 hF l hl) ?_
 rw [iT]
 exact hk
theorem iZ {post:List AObj→DV→Prop}{ds:List DV}{h:List AObj}{m0:Nat}(ρ:List Nat)(hnd:ρ.Nodup)(hm:m0≤ρ.length)(hid:∀ i,i<m0→ρ[i]?=some i)(hlt:∀ l∈ρ,l<h.length)(hin:(rvd ds).inL ρ.contains=true)
  (hbox:∀ l∈ρ,inO ρ.contains (h.getD l .dead)=true) {H:List AObj} {D:DV} (hH:ρ.map (fun l=>aS (ρ.idxOf ·) (h.getD l .dead))=H) (hD:(rvd ds).ren (ρ.idxOf ·)=D) (hp:post H D):eK m0 post (some ds) h:=by
 subst hH; subst hD
 exact ⟨ds,rfl,ρ,hnd,hm,hid,hlt,hin,hbox,hp⟩
end Go.Ai

namespace Go.Proofs.Ut
open Go.Ai Go.Shelf Go.RowKit
set_option linter.unusedSimpArgs false
set_option linter.unusedVariables false
set_option maxHeartbeats 1000000
set_option maxRecDepth 100000
theorem EH (s:List UInt8)(hs:s.length<1000000000):ACalls ED 216 [.box [.str s]] [.ptr 0 0] (fun h' d=>h' = [.box [.str (cG s)]]∧d=.str (eM s)):=by
 refine aA c216 (by simp [f216]) ?_
 simp only [f216,↓gos,gop,qA,qB,qC,qD,qE,qF,qG,qH,qI]
 refine aB (aFg s) rfl rfl ?_
 simp only [↓gos,gop,qA,qB,qC,qD,qE,qF,qG,qH,qI]
 have hl:=iF s
 have hw:=congrArg List.length (xD s)
 rw [List.length_append] at hw
 intro v hv
 rw [wrap_i64 (by omega) (by omega)] at hv
 have hv:v=((eM s).length:Int):=by omega
 subst hv
 refine ⟨by omega,by omega,fE rfl rfl ⟨rfl,?_⟩⟩
 simp only [rvd,Int.toNat_natCast]
 have:=List.take_left (l₁:=eM s) (l₂:=cG s)
 rw [xD] at this
 rw [this]
theorem NF (s p:List UInt8)(hs:s.length<1000000000)(hp:p.length<1000000000):ACalls ED 217 [.box [.str s]] [.ptr 0 0,.str p] (fun h' d=>h' = [.box [.str (gQ p s).1]]∧d=.bool (gQ p s).2):=by
 refine aA c217 (by simp [f217]) ?_
 simp only [f217,↓gos,gop,qA,qB,qC,qD,qE,qF,qG,qH,qI]
 refine aB (aGj s p (by omega) (by omega)) rfl rfl ?_
 simp only [↓gos,gop,qA,qB,qC,qD,qE,qF,qG,qH,qI]
 exact fE rfl rfl ⟨rfl,rfl⟩
theorem nZ (c:UInt8)(s:List UInt8):gQ [c] s=if s.head?=some c then (s.tail,true) else (s,false):=by
 unfold gQ
 cases s with
 | nil=>simp
 | cons x t=>
  simp only [List.isPrefixOf,Bool.and_true,List.head?_cons,Option.some.injEq]
  by_cases h:c=x
  ·subst h; simp
  ·rw [if_neg (by simpa using h),if_neg (Ne.symm h)]
theorem aLh (s:List UInt8):(Lib.indexAny s A4 = -1∧s.takeWhile (fun c => !A4.contains c)=s∧s.dropWhile (fun c => !A4.contains c)=[]) ∨
  ∃ n:Nat,Lib.indexAny s A4=n∧n≤s.length∧s.takeWhile (fun c => !A4.contains c)=s.take n∧s.dropWhile (fun c => !A4.contains c)=s.drop n:=by
 induction s with
 | nil=>exact .inl ⟨rfl,rfl,rfl⟩
 | cons x s ih=>
  unfold Lib.indexAny
  rw [List.takeWhile_cons,List.dropWhile_cons]
  cases hx:A4.contains x with
  | true=>exact .inr ⟨0,by simp,by simp,by simp,by simp⟩
  | false=>
   simp only [Bool.false_eq_true,if_false,Bool.not_false,if_true]
   rcases ih with ⟨h1,h2,h3⟩|⟨n,h1,h2,h3,h4⟩
   ·rw [h1,h2,h3]
    exact .inl ⟨by simp,rfl,rfl⟩
   ·rw [h1,h3,h4]
    have:((n:Int) == -1)=false:=by simp
    refine .inr ⟨n+1,by rw [this]; simp,by simpa using h2,by simp,by simp⟩
theorem UX (s:List UInt8)(hs:s.length<1000000000):ACalls ED 266 [.box [.str s]] [.ptr 0 0] (fun h' d=>h' = [.box [.str (jH s).2.1]]∧d=.tup [.str (jH s).1,.bool (jH s).2.2]):=by
 refine aA c266 (by simp [f266]) ?_
 simp only [f266,↓gos,gop,qA,qB,qC,qD,qE,qF,qG,qH,qI]
 refine eU (xs:=[.str [34]]) rfl rfl rfl rfl rfl (NF s [34] hs (by simp)) ?_
 rw [nZ]
 simp only [↓gos,gop,qA,qB,qC,qD,qE,qF,qG,qH,qI]
 have hv:jH s=if s.head?=some 34 then cut 34 s.tail else (s.takeWhile (fun c => !A4.contains c),s.dropWhile (fun c => !A4.contains c),true):=by
  unfold jH
  cases s with
  | nil=>rfl
  | cons x t=>
   simp only [List.head?_cons,Option.some.injEq,List.tail_cons]
 rw [hv]
 by_cases h:s.head?=some 34
 ·simp only [if_pos h,↓gos,gop,qA,qB,qC,qD,qE,qF,qG,qH,qI]
  refine aB (yU s.tail 34 (by simp; omega)) rfl rfl ?_
  simp only [↓gos,gop,qA,qB,qC,qD,qE,qF,qG,qH,qI]
  exact fE rfl rfl ⟨rfl,rfl⟩
 ·simp only [if_neg h,↓gos,gop,qA,qB,qC,qD,qE,qF,qG,qH,qI]
  refine aB (XO A4 ⟨by decide,by decide,by decide⟩ s hs) rfl rfl ?_
  rcases aLh s with ⟨h1,h2,h3⟩|⟨n,h1,h2,h3,h4⟩
  ·rw [h1]
   simp only [↓gos,gop,qA,qB,qC,qD,qE,qF,qG,qH,qI]
   exact ⟨by omega,by omega,fE rfl rfl ⟨by rw [h3]; simp,by rw [h2]; rfl⟩⟩
  ·rw [h1]
   simp only [↓gos,gop,qA,qB,qC,qD,qE,qF,qG,qH,qI]
   exact ⟨by omega,by omega,fE rfl rfl ⟨by rw [h4,List.take_of_length_le (l:=s.drop n) (by simp)],by rw [h3]; rfl⟩⟩
theorem pD (s:List UInt8):∀ b∈eM s,b.toNat<128:=fun b hb=>(aJB b (TI s b hb)).1
theorem vW (s:List UInt8):(eM s).length≤s.length:=(List.takeWhile_sublist _).length_le
theorem aBU (s:List UInt8)(hs:s.length<1000000000):ACalls ED 219 [.box [.str s]] [.ptr 0 0] (fun h' d=>h' = [.box [.str (cQ s).2.1]]∧d=.tup [.agg [.str (cQ s).1.1,.str (cQ s).1.2],.bool (cQ s).2.2]):=by
 have hwl:=vW s
 have hrl:=iF s
 refine aA c219 (by simp [f219]) ?_
 simp only [f219,↓gos,gop,qA,qB,qC,qD,qE,qF,qG,qH,qI]
 refine eU (xs:=[]) rfl rfl rfl rfl rfl (EH s hs) ?_
 simp only [↓gos,gop,qA,qB,qC,qD,qE,qF,qG,qH,qI]
 refine aB (JE (eM s) (by omega) (pD s)) rfl rfl ?_
 simp only [↓gos,gop,qA,qB,qC,qD,qE,qF,qG,qH,qI]
 unfold cQ
 refine ⟨fun h=>?_,fun h=>?_⟩
 ·rw [if_pos h]
  exact fE rfl rfl ⟨rfl,rfl⟩
 ·rw [if_neg h]
  refine eU (xs:=[.str [61]]) rfl rfl rfl rfl rfl (NF (cG s) [61] (by omega) (by simp)) ?_
  rw [nZ]
  cases hr:cG s with
  | nil=>
   simp only [List.head?_nil,reduceCtorEq,if_false,↓gos,gop,qA,qB,qC,qD,qE,qF,qG,qH,qI]
   exact fE rfl rfl ⟨rfl,rfl⟩
  | cons x t=>
   rw [hr] at hrl
   by_cases hx:x=61
   ·subst hx
    simp only [List.head?_cons,if_true,List.tail_cons,↓gos,gop,qA,qB,qC,qD,qE,qF,qG,qH,qI]
    refine eU (xs:=[]) rfl rfl rfl rfl rfl (UX t (by simp at hrl; omega)) ?_
    simp only [↓gos,gop,qA,qB,qC,qD,qE,qF,qG,qH,qI]
    exact fE rfl rfl ⟨rfl,rfl⟩
   ·simp only [List.head?_cons,Option.some.injEq,hx,if_false,↓gos,gop,qA,qB,qC,qD,qE,qF,qG,qH,qI]
    exact fE rfl rfl ⟨rfl,rfl⟩
def av (a:List UInt8×List UInt8):List DV:=[.str a.1,.str a.2]
def pv (p:PR):List DV:=[.str p.g,.str p.n,.sl 2 (p.ps.map av),.str p.v]
def f168t:ACode:=tl (tl (tl (tl f168.body)))
theorem f168e:f168.body=.seq (hd f168.body) (.seq (hd (tl f168.body)) (.seq (hd (tl (tl f168.body))) (.seq (hd (tl (tl (tl f168.body)))) f168t))):=rfl
def uL (g n r:List UInt8):PR×Bool:=
 if up n=[] then (⟨g,[],[],(kT r).1⟩,false) else
 if (fR [] r).2.2=false then (⟨g,up n,(fR [] r).1,[]⟩,false) else
 (⟨g,up n,(fR [] r).1,(kT (fR [] r).2.1).1⟩,(kT (fR [] r).2.1).2)
theorem GK (s:List UInt8):tL s=uL (fH s).1 (fH s).2.1 (fH s).2.2:=rfl
abbrev WL (x:PR×Bool):List AObj→DV→Prop:=fun h' d=>h' = [.arr 2 (x.1.ps.map av)]∧d=.tup [.agg [.str x.1.g,.str x.1.n,.osl 2 0 0 x.1.ps.length none,.str x.1.v],.bool x.2]
theorem SY {h:List AObj}{g n v:List UInt8}{ps:List (List UInt8×List UInt8)}{b:Bool}{x:PR×Bool}(hi:h[5]?=some (.arr 2 (ps.map av)))(hx:x=(⟨g,n,ps,v⟩,b)) :
  eK 0 (WL x) (some [.agg [.str g,.str n,.osl 2 5 0 ps.length none,.str v],.bool b]) h:=by
 subst hx
 have hlt:5<h.length:=(List.getElem?_eq_some_iff.1 hi).1
 have hg:h.getD 5 .dead=.arr 2 (ps.map av):=by rw [List.getD_eq_getElem?_getD,hi]; rfl
 refine iZ [5] (by simp) (by simp) (fun i h=>by omega) (fun l hl=>by simp at hl; omega) (by simp [rvd,DV.inL,DV.inL.inAll]) (fun l hl=>?_) rfl rfl ⟨?_,?_⟩
 ·simp only [List.mem_singleton] at hl
  subst hl; rw [hg]; rfl
 ·simp only [List.map_cons,List.map_nil,hg,aS]
 ·simp [rvd,DV.ren,DV.ren.renAll]
theorem JS (r:List UInt8):gQ [58] r=kT r:=by rw [nZ]; rfl
theorem qU (L:List (Nat×DV))(g n r:List UInt8)(hr:r.length<1000000000)(hn:n.length<1000000000)(ha:∀ b∈n,b.toNat<128)(h2:slots L 2=.ptr 1 0)(h4:slots L 4=.ptr 2 0)(h5:slots L 5=.ptr 4 0)(h6:slots L 6=.str n) :
  goN ED 0 (fin 0 f168.res (WL (uL g n r))) [] f168t L [.arr 2 [],.box [.str [],.str [],.osl 2 0 0 0 none,.str []],.box [.str r],.arr 2 [],.box [.str g,.str [],.osl 2 5 0 0 none,.str []],.arr 2 []]:=by
 simp only [f168t,f168,gT,h2,h4,h5,h6,↓gos,gop,qA,qB,qC,qD,qE,qF,qG,qH,qI]
 refine aB (JE n hn ha) rfl rfl ?_
 simp only [h2,h4,h5,h6,↓gos,gop,qA,qB,qC,qD,qE,qF,qG,qH,qI]
 refine aJ (γ:=List (List UInt8×List UInt8)×List UInt8) (fun q=>[(4,.ptr 2 0),(5,.ptr 4 0),(2,.ptr 1 0)]) (fun q=>[.arr 2 [],.box [.str [],.str [],.osl 2 0 0 0 none,.str []],.box [.str q.2],.arr 2 [],.box [.str g,.str (up n),.osl 2 5 0 q.1.length none,.str []],.arr 2 (q.1.map av)])
  (fun q=>fR q.1 q.2=fR [] r∧q.1.length+q.2.length≤r.length∧(up n=[]→q=([],r))) (fun q=>q.2.length) ([],r)
  (wks rfl (by simp) ⟨h4,h5,h2,trivial⟩) ⟨rfl,by simp,fun _=>rfl⟩ fun q hq=>?_
 obtain ⟨acc,t⟩:=q
 obtain ⟨q1,q2,q3⟩:=hq
 simp only at q1 q2 q3
 simp only [f168l0,↓gos,gop,qA,qB,qC,qD,qE,qF,qG,qH,qI]
 refine ⟨fun hne=>?_,fun he=>?_⟩
 ·refine eU (xs:=[.str [59]]) rfl rfl rfl rfl rfl (NF t [59] (by omega) (by simp)) ?_
  rw [nZ]
  by_cases h59:t.head?=some 59
  ·obtain ⟨u,rfl⟩:∃ u,t=59::u:=by
    cases t with
    | nil=>simp at h59
    | cons x u=>simp at h59; exact ⟨u,by rw [h59]⟩
   simp only [List.length_cons] at q2
   simp only [List.head?_cons,if_true,List.tail_cons,↓gos,gop,qA,qB,qC,qD,qE,qF,qG,qH,qI]
   have hlp:=mI u
   refine eU (xs:=[]) rfl rfl rfl rfl rfl (aBU u (by omega)) ?_
   rw [uP] at q1
   generalize cQ u=p at q1 hlp ⊢
   obtain ⟨⟨an,avv⟩,rest,ok⟩:=p
   simp only at q1 hlp ⊢
   cases ok
   ·simp only [↓gos,gop,qA,qB,qC,qD,qE,qF,qG,qH,qI]
    rw [if_neg (by simp)] at q1
    refine SY rfl ?_
    unfold uL
    rw [if_neg hne,← q1]
    rfl
   ·simp only [↓gos,gop,qA,qB,qC,qD,qE,qF,qG,qH,qI]
    rw [if_pos rfl] at q1
    refine ⟨by omega,by omega,?_⟩
    refine cI 6 (acc++[(an,avv)],rest) ?_ (by simp) ⟨rfl,rfl,rfl,rfl,rfl,rfl,trivial⟩ ?_ ⟨q1,by simp; omega,fun h=>absurd h hne⟩ (by simp; omega)
    ·simp [av]
    ·simp [inO,DV.inL]
  ·simp only [if_neg h59,↓gos,gop,qA,qB,qC,qD,qE,qF,qG,qH,qI]
   refine eU (xs:=[.str [58]]) rfl rfl rfl rfl rfl (NF t [58] (by omega) (by simp)) ?_
   rw [JS]
   simp only [↓gos,gop,qA,qB,qC,qD,qE,qF,qG,qH,qI]
   rw [wS _ _ h59] at q1
   have he:uL g n r=(⟨g,up n,acc,(kT t).1⟩,(kT t).2):=by
    unfold uL
    rw [if_neg hne,← q1]
    rfl
   rw [he]
   generalize kT t=lt
   obtain ⟨v,b⟩:=lt
   simp only [if_pos hne,↓gos,gop,qA,qB,qC,qD,qE,qF,qG,qH,qI]
   exact ⟨fun _=>SY rfl rfl,fun h=>absurd h hne⟩
 ·obtain ⟨rfl,rfl⟩:=Prod.mk.inj (q3 he)
  refine eU (xs:=[.str [58]]) rfl rfl rfl rfl rfl (NF t [58] (by omega) (by simp)) ?_
  rw [JS]
  simp only [↓gos,gop,qA,qB,qC,qD,qE,qF,qG,qH,qI]
  have hp:uL g n t=(⟨g,[],[],(kT t).1⟩,false):=by
   unfold uL
   rw [if_pos he]
  rw [hp]
  generalize kT t=lt
  obtain ⟨v,b⟩:=lt
  simp only [he,↓gos,gop,qA,qB,qC,qD,qE,qF,qG,qH,qI]
  exact SY (ps:=[]) rfl rfl
theorem aEM (s:List UInt8)(hs:s.length<1000000000):ACalls ED 168 [] [.str s] (WL (tL s)):=by
 have hwl:=vW s
 have hrl:=iF s
 refine aA c168 (by simp [f168]) ?_
 rw [f168e]
 simp only [f168,kB,gT,↓gos,gop,qA,qB,qC,qD,qE,qF,qG,qH,qI]
 refine eU (xs:=[]) rfl rfl rfl rfl rfl (EH s hs) ?_
 simp only [↓gos,gop,qA,qB,qC,qD,qE,qF,qG,qH,qI]
 rw [GK]
 unfold fH
 refine ⟨fun h=>?_,fun h=>?_⟩
 ·refine eU (xs:=[.str [46]]) rfl rfl rfl rfl rfl (NF (cG s) [46] (by omega) (by simp)) ?_
  rw [nZ]
  by_cases h46:(cG s).head?=some 46
  ·simp only [if_pos h46,↓gos,gop,qA,qB,qC,qD,qE,qF,qG,qH,qI]
   have h1:=iF (cG s).tail
   have h2:=vW (cG s).tail
   have h3:(cG s).tail.length≤(cG s).length:=by simp
   refine eU (xs:=[]) rfl rfl rfl rfl rfl (EH (cG s).tail (by omega)) ?_
   simp only [↓gos,gop,qA,qB,qC,qD,qE,qF,qG,qH,qI]
   rw [if_pos ⟨h,h46⟩]
   exact qU _ (eM s) (eM (cG s).tail) (cG (cG s).tail) (by omega) (by omega) (pD _) rfl rfl rfl rfl
  ·simp only [if_neg h46,↓gos,gop,qA,qB,qC,qD,qE,qF,qG,qH,qI]
   rw [if_neg (fun q=>h46 q.2)]
   exact qU _ [] (eM s) (cG s) (by omega) (by omega) (pD _) rfl rfl rfl rfl
 ·rw [if_neg (fun q=>q.1 h)]
  exact qU _ [] (eM s) (cG s) (by omega) (by omega) (pD _) rfl rfl rfl rfl
def wtA (l:List (List UInt8×List UInt8)):Nat:=(l.map fun a=>a.1.length+a.2.length+5).sum
def wtP (p:PR):Nat:=p.g.length+p.n.length+p.v.length+5+wtA p.ps
theorem ZZ (v:List UInt8):(NN v).length≤v.length+2:=by unfold NN; split <;> simp
theorem XP (a:List UInt8×List UInt8):(sE a).length≤a.1.length+a.2.length+4:=by
 have:=ZZ a.2
 unfold sE; simp; omega
theorem vK (a:List UInt8×List UInt8)(l:List (List UInt8×List UInt8)):wtA (a::l)=a.1.length+a.2.length+5+wtA l:=by simp [wtA]
theorem sT (a b:List (List UInt8×List UInt8)):wtA (a++b)=wtA a+wtA b:=by simp [wtA]
theorem iO:∀ l:List (List UInt8×List UInt8),(l.flatMap sE).length≤wtA l∧l.length≤wtA l
 | []=>by simp [wtA]
 | a::l=>by
  have:=iO l
  have h2:=XP a
  rw [List.flatMap_cons,List.length_append,vK,List.length_cons]
  omega
theorem sA (p:PR):(aT p).length≤wtP p:=by
 have:=(iO p.ps).1
 unfold aT pX wtP
 split <;> (simp only [List.length_append,List.length_cons]; omega)
theorem PK (p:PR)(i:Nat)(h:i<p.ps.length):p.ps.take (i+1)=p.ps.take i++[p.ps.getD i default]:=by
 rw [List.take_add_one,List.getD_eq_getElem?_getD,List.getElem?_eq_getElem h]; rfl
def f131t:ACode:=tl (tl (tl f131.body))
theorem f131e:f131.body=.seq (hd f131.body) (.seq (hd (tl f131.body)) (.seq (hd (tl (tl f131.body))) f131t)):=rfl
theorem xQ (p:PR)(hp:wtP p<1000000000):aU 131 [.agg (pv p)] (.str (aT p)):=by
  have ha:=iO p.ps
  have hw:p.g.length+p.n.length+p.v.length+5+wtA p.ps<1000000000:=hp
  refine aA c131 (by simp [f131]) ?_
  have key:∀ (L:List (Nat×DV)) (x:List UInt8),x=pX p→slots L 1=.ptr 0 0→slots L 3=.str x→goN ED 0 (fin 0 f131.res fun h d=>h=[]∧d=.str (aT p)) [] f131t L [.box (pv p)]:=fun L x hx h1 h3=>by
    have hxl:x.length≤p.g.length+p.n.length+1:=by rw [hx]; unfold pX; split <;> first | omega | (simp only [List.length_append,List.length_cons]; omega)
    simp only [f131t,f131,gT,pv,h1,h3,↓gos,gop,qA,qB,qC,qD,qE,qF,qG,qH,qI]
    refine aJ (γ:=Nat) (fun i=>[(20,.int .i64 i),(19,.int .i64 p.ps.length),(18,.sl 2 (p.ps.map av)),(1,.ptr 0 0),(3,.str (x++(p.ps.take i).flatMap sE))]) (fun _=>[.box (pv p)]) (fun i=>i≤p.ps.length) (fun i=>p.ps.length - i) 0
      (wks rfl (by simp) ⟨rfl,rfl,rfl,h1,(by simp [slots,h3]),trivial⟩) (by omega) fun i hi=>?_
    have hti:((p.ps.take i).flatMap sE).length≤wtA p.ps:=by
      have e:=sT (p.ps.take i) (p.ps.drop i)
      rw [List.take_append_drop] at e
      have:=(iO (p.ps.take i)).1
      omega
    simp only [f131l0,pv,↓gos,gop,qA,qB,qC,qD,qE,qF,qG,qH,qI]
    refine ⟨fun h=>?_,fun h=>?_⟩
    · have hi2:i<p.ps.length:=by omega
      refine aL default (by simpa using hi2) ?_
      have hat:=PK p i hi2
      have hal:p.ps.getD i default∈p.ps:=by
        rw [List.getD_eq_getElem?_getD,List.getElem?_eq_getElem hi2]; exact List.getElem_mem _
      generalize p.ps.getD i default=a at hat hal ⊢
      simp only [av,↓gos,gop,qA,qB,qC,qD,qE,qF,qG,qH,qI]
      have hr:p.ps.take i++[a]=p.ps.take (i+1):=hat.symm
      have haw:a.1.length+a.2.length+5+wtA (p.ps.take i)≤wtA p.ps:=by
        have e:=sT (p.ps.take (i+1)) (p.ps.drop (i+1))
        rw [List.take_append_drop,← hr,sT,vK] at e
        omega
      have hti:=(iO (p.ps.take i)).1
      have fin:∀ (L' : List (Nat×DV)) (y:List UInt8),y=x++(p.ps.take i).flatMap sE++sE a→slots L' 20=.int .i64 ((i+1:Nat):Int)→slots L' 19=.int .i64 p.ps.length→slots L' 18=.sl 2 (p.ps.map av)→slots L' 1=.ptr 0 0→slots L' 3=.str y →
          rnd 0 (fun (i:Nat)=>[(20,.int .i64 i),(19,.int .i64 p.ps.length),(18,.sl 2 (p.ps.map av)),(1,.ptr 0 0),(3,.str (x++(p.ps.take i).flatMap sE))]) (fun _=>[.box [.str p.g,.str p.n,.sl 2 (p.ps.map av),.str p.v]]) (fun (i:Nat)=>i≤p.ps.length) (fun (i:Nat)=>p.ps.length - i) (p.ps.length - i)
            (sta L' [.box [.str p.g,.str p.n,.sl 2 (p.ps.map av),.str p.v],.box [.str a.1,.str a.2]]):=fun L' y hy k1 k2 k3 k4 k5=>by
        refine cI 1 (i+1) rfl (by simp) ⟨k1,rfl,k2,rfl,k3,rfl,k4,rfl,?_,rfl,trivial⟩ (by simp [inO,DV.inL]) (by omega) (by omega)
        rw [k5,hy,hat,List.flatMap_append]
        simp
      refine ⟨fun he=>?_,fun he=>?_⟩
      · repeat (refine ⟨by first | omega | (simp only [List.length_append,List.length_cons,List.length_nil]; omega),?_⟩)
        intro v hv
        rw [wrap_i64 (by omega) (by omega)] at hv
        subst hv
        refine fin _ _ ?_ rfl rfl rfl rfl rfl
        simp [sE,NN,he]
      · refine aB (aDd A3 ⟨by decide,by decide,by decide⟩ a.2 (by omega)) rfl rfl ?_
        cases hc:a.2.any A3.contains
        · simp only [↓gos,gop,qA,qB,qC,qD,qE,qF,qG,qH,qI]
          repeat (refine ⟨by first | omega | (simp only [List.length_append,List.length_cons,List.length_nil]; omega),?_⟩)
          intro v hv
          rw [wrap_i64 (by omega) (by omega)] at hv
          subst hv
          refine fin _ _ ?_ rfl rfl rfl rfl rfl
          rw [sE,NN,if_neg (by rw [hc]; simp [he])]
          simp
        · simp only [↓gos,gop,qA,qB,qC,qD,qE,qF,qG,qH,qI]
          repeat (refine ⟨by first | omega | (simp only [List.length_append,List.length_cons,List.length_nil]; omega),?_⟩)
          intro v hv
          rw [wrap_i64 (by omega) (by omega)] at hv
          subst hv
          refine fin _ _ ?_ rfl rfl rfl rfl rfl
          rw [sE,NN,if_pos (.inr hc)]
          simp
    · have hi2:i=p.ps.length:=by omega
      subst hi2
      rw [List.take_length] at hti ⊢
      repeat (refine ⟨by first | omega | (simp only [List.length_append,List.length_cons,List.length_nil]; omega),?_⟩)
      refine gS ?_
      rw [aT,hx]
      simp
  rw [f131e]
  simp only [f131,kB,gT,pv,↓gos,gop,qA,qB,qC,qD,qE,qF,qG,qH,qI]
  refine ⟨fun hg=>?_,fun hg=>?_⟩
  · refine ⟨by omega,by simp only [List.length_append,List.length_cons,List.length_nil]; omega,?_⟩
    refine key _ _ ?_ rfl rfl
    rw [pX,if_neg hg]; simp
  · refine key _ _ ?_ rfl rfl
    rw [pX,if_pos hg]
end Go.Proofs.Ut
