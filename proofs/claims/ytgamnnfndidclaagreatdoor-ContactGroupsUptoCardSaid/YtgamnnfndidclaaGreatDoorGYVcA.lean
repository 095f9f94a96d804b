/- Cards: texts cut at plain signs; lines of cards, read and written. -/
import Derived.Test.YtgamnnfndidclaaGreatDoorGYFoJ
import Derived.Test.YtgamnnfndidclaaGreatDoorGYO2
import Derived.Test.YtgamnnfndidclaaGreatDoorGYFoUtD
import Derived.Shelf.Strings.OnBuilder
import Derived.Shelf.Strings.SlTrimAscii
open Nat renaming reduceBEq → qA,reduceAdd → qB,reduceSub → qC,reduceLeDiff → qD,reduceMul → qE
open Int renaming reduceLE → qF,reduceLT → qG,reduceNe → qH,reduceToNat → qI
set_option linter.all false
namespace Go.Proofs.Ut
open Go.Ai
set_option linter.unusedSimpArgs false
set_option linter.unusedVariables false
set_option maxRecDepth 100000
def Cl (s:List UInt8):Prop:=aW bR s 0=true∧∀ x∈s,x≠13∧x≠10
def BEG:List UInt8:=[66,69,71,73,78,58,86,67,65,82,68]
def END:List UInt8:=[69,78,68,58,86,67,65,82,68]
def VER:List UInt8:=[86,69,82,83,73,79,78]
def FIR:List UInt8:=[66,69,71,73,78]
def V40:List UInt8:=[52,46,48]
def ef (s t:List UInt8):Bool:=Lib.equalFold s t
def MC (p:PR):Bool := !decide (p.n=FIR) && !decide (p.n=VER)
def fT (p:PR):Bool:=(rP (aL p)).2&&decide ((rP (aL p)).1=p)&&MC p && !ef (aL p) END&&aW bR (aL p) 0 && !OG (aL p)
def bS (l:List (List PR)):List (List UInt8):=l.flatMap fun c=>[BEG,VER++58::V40]++c.map aL++[END]
def okW (l:List (List PR)):Bool:=decide (l.length≤60)&&l.all fun c=>decide (c.length≤40)&&c.all fT
def iL (l:List (List PR)):List UInt8×Int:=if okW l=false then ([],12) else if 20000<(eY (bS l)).length then ([],4) else (eY (bS l),0)
end Go.Proofs.Ut

namespace Go.Proofs
open Go.Shelf Go.RowKit Go.Lib
set_option maxHeartbeats 2000000 in
set_option maxRecDepth 1000000 in
theorem Any.unicode_SimpleFold_ascii {P:Program}{ρ:Ren}(L:Lays.n239 P ρ)(c:Nat)(v:Int)(w:World)(hc:c<128)(hv0:0≤v)(hv:v<65536)(hcell:w.cell? ⟨ρ.g 11,c,none⟩=some (.int .u16 v)) :
  Calls P (ρ.f 239) #[.int .i32 c] w fun e w' => e=.returned (.int .i32 v)∧w' = w:=by
 have hcz:(c:Int)≤1114111:=by omega
 have hcz2:(c:Int)<128:=by omega
 have hw:IntKind.i32.wrap v=v:=by simp [IntKind.wrap,IntKind.bits,IntKind.signed]; omega
 have t4:=L.t4; have a4:=L.a4; have z4:=L.z4; have v4:=L.v4
 have t3:=L.t3; have a3:=L.a3; have z3:=L.z3; have v3:=L.v3
 have t21:=L.t21; have a21:=L.a21; have z21:=L.z21; have v21:=L.v21
 have t49:=L.t49; have a49:=L.a49; have z49:=L.z49; have v49:=L.v49
 have t156:=L.t156; have a156:=L.a156; have z156:=L.z156
 go_enter L.f239,Body.n239_ntmps ρ
 go_wp2
 all_goals (first | (go_ret; exact ⟨by simp [hw],rfl⟩) | (exfalso; omega) | skip)
end Go.Proofs

namespace Go.Proofs.Ut
open Go.Ai Go.Shelf Go.RowKit
set_option linter.unusedSimpArgs false
set_option linter.unusedVariables false
set_option maxHeartbeats 1000000
set_option maxRecDepth 100000
theorem PD (c:Nat):0≤kB c∧(c<128→kB c<65536):=by
 unfold kB
 refine ⟨?_,fun h=>?_⟩
 ·repeat' split
  all_goals omega
 ·repeat' split
  all_goals omega
theorem xY (c:Nat)(hc:c<128):aY 221 [.int .i32 c] (.int .i32 (kB c)):=by
 refine PE ⟨Tryz.f221,Tryz.func221,by kernel_rfl,by kernel_rfl⟩ fun w ok β vs hg hl hv=>?_
 obtain ⟨u,rfl⟩:=one hl
 obtain rfl:=KG (hv 0 u _ rfl rfl)
 have hb:=PD c
 refine ⟨_,fun _ _ _=>.int _ _,(Any.unicode_SimpleFold_ascii Tryz.lays239 c (kB c) w hc hb.1 (hb.2 hc) (hg.fold c hc)).mono ?_⟩
 rintro e w' ⟨rfl,rfl⟩
 exact ⟨rfl,Below.refl _ _⟩
theorem MH:Builder.Extra Tryz.prog Tryz.lays158_ren:={
 sizeBuilder:=by kernel_rfl
 liesBuilder:=by kernel_rfl
 t5:=Tryz.underlying5
 a5:=Tryz.isAgg5
 z5:=Tryz.sizeOf5
 v5:=Tryz.zeroValue5
 infoByte:=by kernel_rfl
 cellsByte:=by kernel_rfl
 sizeByte:=by kernel_rfl
 neB5:=by decide }
theorem EQ (s:List UInt8)(hs:s.length<1000000000)(ha:∀ b∈s,b.toNat<128):aY 218 [.str s] (.str (up s)):=by
 refine yZ ⟨Tryz.f218,Tryz.func218,by kernel_rfl,by kernel_rfl⟩ fun w ok β vs hl hv=>?_
 obtain ⟨u,rfl⟩:=one hl
 obtain rfl:=cU (hv 0 u _ rfl rfl)
 refine ⟨_,fun w ok β=>OD w ok β _,(Any.strings_ToUpper_ascii Tryz.lays158 MH ⟨s.toArray⟩ w (by simp [ByteArray.size]; omega) (fun j b hj=>ha b (List.mem_of_getElem? (by simpa using hj)))).mono ?_⟩
 rintro e w' ⟨rfl,hb⟩
 exact ⟨rfl,hb⟩
theorem aAW (s:List UInt8):aY 262 [.str s,.str SGN] (.str (bP s)):=by
 refine yZ ⟨Tryz.f262,Tryz.func262,by kernel_rfl,by kernel_rfl⟩ fun w ok β vs hl hv=>?_
 obtain ⟨u,v,rfl⟩:=two hl
 obtain rfl:=cU (hv 0 u _ rfl rfl)
 obtain rfl:=cU (hv 1 v _ rfl rfl)
 refine ⟨_,fun w ok β=>OD w ok β _,(Any.strings_TrimLeft_laid Tryz.lays161 (by kernel_rfl) ⟨s.toArray⟩ ⟨SGN.toArray⟩ w (by decide) (ascii_of_all (by decide))).mono ?_⟩
 rintro e w' ⟨rfl,hb⟩
 exact ⟨rfl,hb⟩
def QB (t:List UInt8):Prop:=∀ b∈t,b.toNat<128∧b.toNat≠75∧b.toNat≠107∧b.toNat≠83∧b.toNat≠115
theorem aCH (a b:Nat)(ha:a<256)(hb:b<256):(128≤IntKind.u8.wrap ((BitVec.ofInt IntKind.u8.bits (a:Int) ||| BitVec.ofInt IntKind.u8.bits (b:Int)).toNat:Int)↔128≤a∨128≤b):=by
 have e:(BitVec.ofInt IntKind.u8.bits (a:Int) ||| BitVec.ofInt IntKind.u8.bits (b:Int)).toNat=a ||| b:=by
  rw [BitVec.toNat_or,BitVec.toNat_ofInt,BitVec.toNat_ofInt]
  have e1:((a:Int) % (2 ^ IntKind.u8.bits:Nat)).toNat=a:=by simp [IntKind.bits]; omega
  have e2:((b:Int) % (2 ^ IntKind.u8.bits:Nat)).toNat=b:=by simp [IntKind.bits]; omega
  rw [e1,e2]
 have hlt:a ||| b<256:=Nat.or_lt_two_pow (n:=8) ha hb
 have h1:a≤a ||| b:=Nat.left_le_or
 have h2:b≤a ||| b:=Nat.right_le_or
 rw [e,wrap_u8 (by omega) (by omega)]
 constructor
 ·intro h
  by_cases h3:a<128∧b<128
  ·have:=Nat.or_lt_two_pow (n:=7) h3.1 h3.2
   omega
  ·omega
 ·intro h; omega
theorem XW (x y:UInt8):Lib.foldEq x y=decide (x.toNat=y.toNat∨(65≤x.toNat∧x.toNat≤90∧y.toNat=x.toNat+32)∨(65≤y.toNat∧y.toNat≤90∧x.toNat=y.toNat+32)):=rfl
theorem FM (s:List UInt8)(i:Nat)(h:i<s.length):s.drop i=s.getD i 0::s.drop (i+1):=by
 rw [List.drop_eq_getElem_cons h,List.getD_eq_getElem?_getD,List.getElem?_eq_getElem h]; rfl
theorem zH (c:Nat)(h:c<128)(h1:c≠75∧c≠107∧c≠83∧c≠115):∃ r:Nat,kB c=r∧r<128∧kB r=c:=by
 unfold kB
 by_cases h2:65≤c∧c≤90
 ·rw [if_pos h2]
  refine ⟨c+32,rfl,by omega,?_⟩
  rw [if_neg (by omega),if_neg (by omega),if_neg (by omega),if_pos (by omega)]; omega
 ·rw [if_neg h2,if_neg (by omega),if_neg (by omega)]
  by_cases h3:97≤c∧c≤122
  ·rw [if_pos h3]
   refine ⟨c - 32,by omega,by omega,?_⟩
   rw [if_pos (by omega)]; omega
  ·rw [if_neg h3]
   refine ⟨c,rfl,h,?_⟩
   rw [if_neg h2,if_neg (by omega),if_neg (by omega),if_neg h3]
theorem aGG (s t:List UInt8)(hs:s.length<1000000000)(ht:t.length<1000)(hp:QB t):aY 171 [.str s,.str t] (.bool (ef s t)):=by
 refine aA c171 (by simp [f171]) ?_
 simp only [f171,↓gos,gop,qA,qB,qC,qD,qE,qF,qG,qH,qI]
 intro n hn
 have hn:n=((min s.length t.length:Nat):Int):=by rw [hn]; split <;> omega
 subst hn
 refine aM (γ:=Nat) (fun i=>[(5,.int .i64 i),(6,.int .i64 ((min s.length t.length:Nat):Int)),(0,.str s),(1,.str t)]) (fun _=>[]) (fun i=>i≤min s.length t.length∧ef (s.drop i) (t.drop i)=ef s t) (fun i=>s.length - i) 0
  (wks rfl (by simp) ⟨rfl,rfl,rfl,rfl,trivial⟩) ⟨by omega,by simp⟩ fun i hi=>?_
 obtain ⟨hi,he⟩:=hi
 simp only [f171l0,↓gos,gop,qA,qB,qC,qD,qE,qF,qG,qH,qI]
 refine ⟨fun h=>?_,fun h=>?_⟩
 ·have hi1:i<s.length:=by omega
  have hi2:i<t.length:=by omega
  have hd1:=FM s i hi1
  have hd2:=FM t i hi2
  have htm:t.getD i 0∈t:=by
   rw [List.getD_eq_getElem?_getD,List.getElem?_eq_getElem hi2]; exact List.getElem_mem _
  have hpt:=hp _ htm
  have eb1:bt s i=((s.getD i 0).toNat:Int):=rfl
  have eb2:bt t i=((t.getD i 0).toNat:Int):=rfl
  rw [ef,hd1,hd2,Lib.equalFold,XW] at he
  have b1:=UInt8.toNat_lt (s.getD i 0)
  have nx:ef (s.drop (i+1)) (t.drop (i+1))=Lib.equalFold (s.drop (i+1)) (t.drop (i+1)):=rfl
  have htb:=UInt8.toNat_lt (t.getD i 0)
  have yes:((s.getD i 0).toNat=(t.getD i 0).toNat∨(65≤(s.getD i 0).toNat∧(s.getD i 0).toNat≤90∧(t.getD i 0).toNat=(s.getD i 0).toNat+32)∨(65≤(t.getD i 0).toNat∧(t.getD i 0).toNat≤90∧(s.getD i 0).toNat=(t.getD i 0).toNat+32))→ef (s.drop (i+1)) (t.drop (i+1))=ef s t:=fun h=>by
   rw [← he,decide_eq_true h,Bool.true_and]; rfl
  have no:¬ ((s.getD i 0).toNat=(t.getD i 0).toNat∨(65≤(s.getD i 0).toNat∧(s.getD i 0).toNat≤90∧(t.getD i 0).toNat=(s.getD i 0).toNat+32)∨(65≤(t.getD i 0).toNat∧(t.getD i 0).toNat≤90∧(s.getD i 0).toNat=(t.getD i 0).toNat+32))→false=ef s t:=fun h=>by
   rw [← he,decide_eq_false h,Bool.false_and]
  refine ⟨by omega,by omega,fun v hv=>?_⟩
  rw [eb1,eb2] at hv ⊢
  have hor:=aCH _ _ b1 htb
  rw [← hv] at hor
  clear hv eb1 eb2 he
  generalize ha:(s.getD i 0).toNat=a at *
  generalize hb:(t.getD i 0).toNat=b at *
  refine ⟨fun h128=>?_,fun h128=>?_⟩
  ·have ha128:128≤a:=by have:=hor.1 h128; omega
   refine ⟨by omega,by omega,?_⟩
   rw [List.take_of_length_le (l:=s.drop i) (by simp),List.take_of_length_le (l:=t.drop i) (by simp)]
   have hne1:s.drop i≠[]:=by rw [hd1]; simp
   have hne2:t.drop i≠[]:=by rw [hd2]; simp
   have hy1:by_ (s.drop i) 0=a:=by rw [hd1,← ha]; rfl
   have hy2:by_ (t.drop i) 0=b:=by rw [hd2,← hb]; rfl
   have hD2:D (t.drop i) 0=(b,1):=by rw [D1 (by omega),hy2]
   have hD1:128≤(D (s.drop i) 0).1:=by
    rcases LC (s.drop i) 0 with ⟨h1,_⟩|⟨_,h2,_⟩
    ·omega
    ·exact h2
   have hok:=(dE (s.drop i) 0 (List.length_pos_iff.2 hne1)).2.2
   have h0:0<(s.drop i).length:=List.length_pos_iff.2 hne1
   have ht1:1≤(t.drop i).length:=List.length_pos_iff.2 hne2
   have hlt2:(t.drop i).length<1000:=by simp; omega
   generalize hs' : s.drop i=s' at *
   generalize ht' : t.drop i=t' at *
   refine aM (γ:=Unit) (fun _=>[(67,.ptr 0 0),(1,.str t')]) (fun _=>[.iter s' 0]) (fun _=>True) (fun _=>0) () (wks rfl (by simp) ⟨rfl,rfl,trivial⟩) trivial fun _ _=>?_
   simp only [f171l4,↓gos,gop,qA,qB,qC,qD,qE,qF,qG,qH,qI]
   refine ⟨fun _=>⟨fun h=>by exfalso; omega,fun _=>?_⟩,fun h=>absurd h0 h⟩
   refine aB (yB t' hne2) rfl rfl ?_
   rw [hD2]
   have hd:Utf8.decode ⟨s'.toArray⟩ 0=D s' 0:=rfl
   rw [hd]
   generalize D s' 0=d at hD1 hok
   simp only [↓gos,gop,qA,qB,qC,qD,qE,qF,qG,qH,qI]
   obtain ⟨r,r1,r2,r3⟩:=zH b (by omega) hpt.2
   refine ⟨by omega,fun h=>by exfalso; omega,fun _=>⟨fun _=>⟨fun h=>by exfalso; omega,fun _=>?_⟩,fun h=>by exfalso; omega⟩⟩
   refine aB (xY b (by omega)) rfl rfl ?_
   rw [r1]
   simp only [↓gos,gop,qA,qB,qC,qD,qE,qF,qG,qH,qI]
   have ff:false=ef s t:=no (by omega)
   refine aM (γ:=Nat) (fun x=>[(13,.int .i32 x),(10,.int .i32 b),(11,.int .i32 d.1)]) (fun _=>[.iter s' d.2]) (fun x=>x<128∧(x=b∨(x=r∧r≠b))) (fun x=>if x=b then 0 else 1) r (wks rfl (by simp) ⟨rfl,rfl,rfl,trivial⟩)
    ⟨r2,by by_cases h:r=b <;> simp [h]⟩ fun x hx=>?_
   simp only [f171l3,↓gos,gop,qA,qB,qC,qD,qE,qF,qG,qH,qI]
   refine ⟨fun q=>⟨fun q2=>aB (xY x hx.1) rfl rfl ?_,fun q2=>?_⟩,fun q=>?_⟩
   ·have hx1:x=r∧r≠b:=by
     rcases hx.2 with h|h
     ·exact absurd (by rw [h]) q
     ·exact h
    rw [hx1.1,r3]
    simp only [↓gos,gop,qA,qB,qC,qD,qE,qF,qG,qH,qI]
    exact aQ b rfl (by simp) ⟨rfl,rfl,rfl,trivial⟩ ⟨by omega,.inl rfl⟩ (by rw [if_pos rfl,if_neg hx1.2]; omega)
   ·exact ⟨fun h=>by exfalso; omega,fun _=>aJ ff⟩
   ·exact ⟨fun h=>by exfalso; omega,fun _=>aJ ff⟩
  ·refine ⟨fun q v3 hv3=>?_,fun q=>⟨fun q2=>⟨fun q3=>⟨fun q4 v1 hv1 v2 hv2=>⟨fun q5 v3 hv3=>?_,fun q5=>aJ (no ?_)⟩,fun q4=>aJ (no ?_)⟩,fun q3=>aJ (no ?_)⟩,fun q2=>⟨fun q3=>⟨fun q4 v1 hv1 v2 hv2=>⟨fun q5 v3 hv3=>?_,fun q5=>aJ (no ?_)⟩,fun q4=>aJ (no ?_)⟩,fun q3=>aJ (no ?_)⟩⟩⟩
   ·rw [wrap_i64 (by omega) (by omega)] at hv3
    subst hv3
    exact aQ (i+1) rfl (by simp) ⟨rfl,rfl,rfl,rfl,trivial⟩ ⟨by omega,yes (by omega)⟩ (by omega)
   ·rw [wrap_u8 (by omega) (by omega)] at hv1
    rw [wrap_u8 (by omega) (by omega)] at hv2
    rw [wrap_i64 (by omega) (by omega)] at hv3
    subst hv3
    exact aQ (i+1) rfl (by simp) ⟨rfl,rfl,rfl,rfl,trivial⟩ ⟨by omega,yes (by omega)⟩ (by omega)
   ·rw [wrap_u8 (by omega) (by omega)] at hv1
    rw [wrap_u8 (by omega) (by omega)] at hv2
    omega
   ·omega
   ·omega
   ·rw [wrap_u8 (by omega) (by omega)] at hv1
    rw [wrap_u8 (by omega) (by omega)] at hv2
    rw [wrap_i64 (by omega) (by omega)] at hv3
    subst hv3
    exact aQ (i+1) rfl (by simp) ⟨rfl,rfl,rfl,rfl,trivial⟩ ⟨by omega,yes (by omega)⟩ (by omega)
   ·rw [wrap_u8 (by omega) (by omega)] at hv1
    rw [wrap_u8 (by omega) (by omega)] at hv2
    omega
   ·omega
   ·omega
 ·have hend:s.drop i=[]∨t.drop i=[]:=by
   by_cases h1:s.length≤i
   ·exact .inl (List.drop_eq_nil_of_le h1)
   ·exact .inr (List.drop_eq_nil_of_le (by omega))
  rw [ef,Lib.equalFold_end _ _ hend] at he
  rw [List.length_drop,List.length_drop] at he
  refine ⟨fun h=>aJ ?_,fun h=>aJ ?_⟩
  ·rw [← he,decide_eq_true (by omega)]
  ·rw [← he,decide_eq_false (by omega)]
end Go.Proofs.Ut
