/- The functions that the laws of sheet and contact reach. -/
import Derived.Test.YtgamnnfndidclaaGreatDoorGYFuns1
import Derived.Test.YtgamnnfndidclaaGreatDoorGYFuns2
import Derived.Test.YtgamnnfndidclaaGreatDoorGYFuns3
import Derived.Test.YtgamnnfndidclaaGreatDoorGYFuns4
import Derived.Test.YtgamnnfndidclaaGreatDoorGLawJid
import Derived.Lib.ValidU
import Derived.Shelf.Unicode.DecodeSlow
import Derived.Lib.TrimUEq
open Nat renaming reduceBEq → qA,reduceAdd → qB,reduceSub → qC,reduceLeDiff → qD,reduceMul → qE
open Int renaming reduceLE → qF,reduceLT → qG,reduceNe → qH,reduceToNat → qI
set_option linter.all false

namespace Go.Proofs.Ut
open Go.Ai Classical
set_option linter.unusedSimpArgs false
set_option maxHeartbeats 1000000
set_option maxRecDepth 100000
theorem aCG:∀ n:Nat,n<256→IntKind.u8.wrap ((BitVec.ofInt IntKind.u8.bits (n:Int) &&& BitVec.ofInt IntKind.u8.bits 192).toNat:Int)=((n / 64*64:Nat):Int):=by decide +kernel
theorem aED:∀ n:Nat,n<256→IntKind.u8.wrap ((BitVec.ofInt IntKind.u8.bits (n:Int) &&& BitVec.ofInt IntKind.u8.bits 63).toNat:Int)=((n % 64:Nat):Int):=by decide +kernel
theorem aEq:∀ n:Nat,n<256→IntKind.i64.wrap ((BitVec.ofInt IntKind.i64.bits (n:Int) &&& BitVec.ofInt IntKind.i64.bits 31).toNat:Int)=((n % 32:Nat):Int):=by decide +kernel
theorem aEB:∀ n:Nat,n<256→IntKind.i64.wrap ((BitVec.ofInt IntKind.i64.bits (n:Int) &&& BitVec.ofInt IntKind.i64.bits 15).toNat:Int)=((n % 16:Nat):Int):=by decide +kernel
theorem aGt:∀ n:Nat,n<256→IntKind.i64.wrap ((BitVec.ofInt IntKind.i64.bits (n:Int) &&& BitVec.ofInt IntKind.i64.bits 7).toNat:Int)=((n % 8:Nat):Int):=by decide +kernel
theorem aGF (c b:Nat)(hc:c<16777216)(hb:b<64):IntKind.i64.wrap ((BitVec.ofInt IntKind.i64.bits ((c*64:Nat):Int) ||| BitVec.ofInt IntKind.i64.bits (b:Int)).toNat:Int)=((c*64+b:Nat):Int):=by
 have h1:(BitVec.ofInt IntKind.i64.bits ((c*64:Nat):Int)).toNat=c*64:=by
  simp [IntKind.bits,BitVec.toNat_ofInt]; omega
 have h2:(BitVec.ofInt IntKind.i64.bits (b:Int)).toNat=b:=by
  simp [IntKind.bits,BitVec.toNat_ofInt]; omega
 rw [BitVec.toNat_or,h1,h2]
 have:c*64 ||| b=c*64+b:=by
  have:=Nat.shiftLeft_add_eq_or_of_lt (i:=6) (b:=b) (by omega) c
  rw [Nat.shiftLeft_eq] at this
  exact this.symm
 rw [this]
 exact wrap_i64 (by omega) (by omega)
def by_ (s:List UInt8)(i:Nat):Nat:=(s.getD i 0).toNat
theorem tQ (s:List UInt8)(i:Nat):bt s i=(by_ s i:Int):=rfl
theorem tN (s:List UInt8)(i:Nat):by_ s i<256:=UInt8.toNat_lt _
def eN (s:List UInt8)(i c0:Nat):Nat→Nat
 | 0=>c0
 | k+1=>eN s i c0 k*64+by_ s (i+k+1) % 64
noncomputable def eS (s:List UInt8)(i n least c0:Nat):Nat×Nat:=
 if i+n>s.length then (0,0) else
 if ∀ k,1≤k→k<n→by_ s (i+k) / 64=2 then
  if eN s i c0 (n - 1)<least∨eN s i c0 (n - 1)>1114111∨(55296≤eN s i c0 (n - 1)∧eN s i c0 (n - 1)≤57343) then (0,0) else (eN s i c0 (n - 1),n)
 else (0,0)
theorem vP {k k' : IntKind}{a b a' b' : Int}{h:List AObj}(e1:a=a')(e2:b=b'):dY 0 (fun h d=>h=[]∧d=.tup [.int k a',.int k' b']) (some [.int k a,.int k' b]) h:=aC rfl ⟨rfl,by rw [e1,e2]; rfl⟩
def f179t:ACode:=tl (tl (tl (tl f179.body)))
def f179s:ACode:=hd (tl (tl (tl f179.body)))
theorem f179e:f179.body=.seq (hd f179.body) (.seq (hd (tl f179.body)) (.seq (hd (tl (tl f179.body))) (.seq f179s f179t))):=rfl
abbrev rC (x:Nat×Nat):List AObj→DV→Prop:=fun h d=>h=[]∧d=.tup [.int .i64 (x.1:Int),.int .i64 (x.2:Int)]
theorem f65_tail {E:Env}(L:List (Nat×DV))(s:List UInt8)(i n least c0:Nat)(hi:i<s.length)(hs:s.length<100000000000)(hn:1≤n∧n≤4)(hc:c0<256)
  (h0:slots L 0=.str s) (h1:slots L 1=.int .i64 i) (h6:slots L 6=.int .i64 c0) (h7:slots L 7=.int .i64 n) (h8:slots L 8=.int .i64 least) :
  goN E 0 (fin 0 f179.res (rC (eS s i n least c0))) [] f179t L []:=by
 simp only [f179t,f179,eU,h0,h1,h6,h7,h8,↓gos,gop,qA,qB,qC,qD,qE,qF,qG,qH,qI]
 intro v hv
 rw [wrap_i64 (by omega) (by omega)] at hv
 refine ⟨fun g1=>vP ?_ ?_,fun g1=>?_⟩
 ·unfold eS; rw [if_pos (by omega)]; rfl
 ·unfold eS; rw [if_pos (by omega)]; rfl
 have accb:∀ k,k<4→eN s i c0 k<256*64 ^ k:=by
  intro k hk
  have step:∀ k,eN s i c0 k<256*64 ^ k→eN s i c0 (k+1)<256*64 ^ (k+1):=fun k h=>by
   simp only [eN,Nat.pow_succ]
   have:by_ s (i+k+1) % 64<64:=Nat.mod_lt _ (by omega)
   omega
  induction k with
  | zero=>simpa [eN] using hc
  | succ k ih=>exact step k (ih (by omega))
 refine aM (γ:=Nat) (fun k=>[(0,.str s),(1,.int .i64 i),(6,.int .i64 (eN s i c0 (k - 1):Nat)),(7,.int .i64 n),(8,.int .i64 least),(9,.int .i64 k)]) (fun _=>[]) (fun k=>1≤k∧k≤n∧∀ j,1≤j→j<k→by_ s (i+j) / 64=2) (fun k=>n - k) 1
  (wks rfl (Nat.zero_le _) ⟨?_,?_,?_,?_,?_,rfl,trivial⟩) ⟨by omega,by omega,fun j h1 h2=>by omega⟩ fun k hk=>?_
 ·simp only [↓gos,gop,qA,qB,qC,qD,qE,qF,qG,qH,qI]; exact h0
 ·simp only [↓gos,gop,qA,qB,qC,qD,qE,qF,qG,qH,qI]; exact h1
 ·simp only [↓gos,gop,qA,qB,qC,qD,qE,qF,qG,qH,qI]; exact h6
 ·simp only [↓gos,gop,qA,qB,qC,qD,qE,qF,qG,qH,qI]; exact h7
 ·simp only [↓gos,gop,qA,qB,qC,qD,qE,qF,qG,qH,qI]; exact h8
 obtain ⟨k1,k2,k3⟩:=hk
 simp only [f179l0,↓gos,gop,qA,qB,qC,qD,qE,qF,qG,qH,qI]
 have hA:=accb (k - 1) (by omega)
 have hA4:256*64 ^ (k - 1)≤67108864:=by
  have:k - 1=0∨k - 1=1∨k - 1=2∨k - 1=3:=by omega
  rcases this with e|e|e|e <;> rw [e] <;> omega
 refine ⟨fun g2 v1 hv1=>?_,fun g2=>?_⟩
 ·rw [wrap_i64 (by omega) (by omega)] at hv1
  refine ⟨by omega,by omega,fun v2 hv2=>?_⟩
  have e1:v1.toNat=i+k:=by omega
  have hb:=tN s (i+k)
  rw [e1,tQ,aCG _ hb] at hv2
  refine ⟨fun g3=>?_,fun g3 v3 hv3 v4 hv4=>?_⟩
  ·have:eS s i n least c0=(0,0):=by
    unfold eS
    rw [if_neg (by omega),if_neg]
    intro h
    have:=h k k1 (by omega)
    omega
   exact vP (by rw [this]; rfl) (by rw [this]; rfl)
  ·rw [wrap_i64 (by omega) (by omega)] at hv4
   refine ⟨by omega,by omega,fun v5 hv5 v6 hv6 v7 hv7 v8 hv8=>?_⟩
   have e2:v4.toNat=i+k:=by omega
   rw [e2,tQ,aED _ hb] at hv5
   have hm:by_ s (i+k) % 64<64:=Nat.mod_lt _ (by omega)
   rw [wrap_i64 (by omega) (by omega)] at hv6
   have hk3:eN s i c0 (k - 1)<16777216:=by
    have:256*64 ^ (k - 1)≤1048576:=by
     have:k - 1=0∨k - 1=1∨k - 1=2:=by omega
     rcases this with e|e|e <;> rw [e] <;> omega
    omega
   have h64:(2:Int) ^ min 6 IntKind.i64.bits=64:=by decide
   rw [h64,wrap_i64 (by omega) (by omega)] at hv3
   have e3:v3=((eN s i c0 (k - 1)*64:Nat):Int):=by rw [hv3]; simp
   rw [e3,hv6,hv5,aGF _ _ hk3 hm] at hv7
   rw [wrap_i64 (by omega) (by omega)] at hv8
   have e4:eN s i c0 k=eN s i c0 (k - 1)*64+by_ s (i+k) % 64:=by
    obtain ⟨k',rfl⟩:∃ k',k=k' + 1:=⟨k - 1,by omega⟩
    rfl
   refine aQ (k+1) rfl (Nat.zero_le _) ⟨rfl,rfl,?_,rfl,rfl,?_,trivial⟩ ⟨by omega,by omega,fun j h1 h2=>?_⟩ (by omega)
   ·show DV.int .i64 v7=_
    rw [hv7,Nat.add_sub_cancel,e4]
   ·show DV.int .i64 v8=_
    rw [hv8]; rfl
   ·by_cases hj:j=k
    ·subst hj; omega
    ·exact k3 j h1 (by omega)
 ·obtain rfl:k=n:=by omega
  have hT:eS s i k least c0=if eN s i c0 (k - 1)<least∨eN s i c0 (k - 1)>1114111∨(55296≤eN s i c0 (k - 1)∧eN s i c0 (k - 1)≤57343) then (0,0) else (eN s i c0 (k - 1),k):=by
   unfold eS
   rw [if_neg (by omega),if_pos k3]
  rw [hT]
  generalize eN s i c0 (k - 1)=c at hA
  have bad:c<least∨c>1114111∨(55296≤c∧c≤57343)→dY 0 (rC (if c<least∨c>1114111∨(55296≤c∧c≤57343) then (0,0) else (c,k))) (some [DV.int IntKind.i64 0,DV.int IntKind.i64 0]) []:=fun h=>by
   rw [if_pos h]; exact vP rfl rfl
  have good:¬ (c<least∨c>1114111∨(55296≤c∧c≤57343))→dY 0 (rC (if c<least∨c>1114111∨(55296≤c∧c≤57343) then (0,0) else (c,k))) (some [DV.int IntKind.i64 c,DV.int IntKind.i64 k]) []:=fun h=>by
   rw [if_neg h]; exact vP rfl rfl
  exact ⟨fun q1=>bad (by omega),fun q1=>⟨fun q2=>bad (by omega),fun q2=>⟨fun q3=>⟨fun q4=>bad (by omega),fun q4=>good (by omega)⟩,fun q3=>good (by omega)⟩⟩⟩
noncomputable def nV (s:List UInt8)(i:Nat):Nat×Nat:=
 if by_ s i<128 then eS s i 1 0 (by_ s i)
 else if 192≤by_ s i∧by_ s i<224 then eS s i 2 128 (by_ s i % 32)
 else if 224≤by_ s i∧by_ s i<240 then eS s i 3 2048 (by_ s i % 16)
 else if 240≤by_ s i∧by_ s i<248 then eS s i 4 65536 (by_ s i % 8)
 else (0,0)
theorem f65_go {E:Env}(s:List UInt8)(i:Nat)(hi:i<s.length)(hs:s.length<100000000000):goN E 0 (fin 0 f179.res (rC (nV s i))) [] f179.body [(0,.str s),(1,.int .i64 i)] []:=by
  rw [f179e]
  have hb:=tN s i
  simp only [f179,gU,eU,↓gos,gop,qA,qB,qC,qD,qE,qF,qG,qH,qI]
  refine ⟨by omega,fun v hv=>?_⟩
  rw [tQ,wrap_i64 (by omega) (by omega)] at hv
  subst hv
  have ht:∀ (L:List (Nat×DV)) (n least c0:Nat),nV s i=eS s i n least c0→1≤n∧n≤4→c0<256→slots L 0=.str s→slots L 1=.int .i64 i→slots L 6=.int .i64 c0→slots L 7=.int .i64 n→slots L 8=.int .i64 least →
      goN E 0 (fin 0 [RV.t 4,RV.t 5] (rC (nV s i))) [] f179t L []:=fun L n least c0 he hn hc h0 h1 h6 h7 h8=>by
    rw [he]; exact f65_tail L s i n least c0 hi hs hn hc h0 h1 h6 h7 h8
  by_cases b1:by_ s i<128
  · simp only [f179s,f179,gU,eU,show ((by_ s i:Int)<128)=True by simp; omega,↓gos,gop,qA,qB,qC,qD,qE,qF,qG,qH,qI]
    exact ht _ 1 0 (by_ s i) (by unfold nV; rw [if_pos b1]) (by omega) (by omega) rfl rfl rfl rfl rfl
  have n1:((by_ s i:Int)<128)=False:=by simp; omega
  by_cases b2:192≤by_ s i∧by_ s i<224
  · simp only [f179s,f179,gU,eU,n1,show (192≤(by_ s i:Int))=True by simp; omega,show ((by_ s i:Int)<224)=True by simp; omega,aEq _ hb,↓gos,gop,qA,qB,qC,qD,qE,qF,qG,qH,qI]
    rintro v rfl
    exact ht _ 2 128 _ (by unfold nV; rw [if_neg b1,if_pos b2]) (by omega) (by omega) rfl rfl rfl rfl rfl
  by_cases b3:224≤by_ s i∧by_ s i<240
  · simp only [f179s,f179,gU,eU,n1,show (192≤(by_ s i:Int))=True by simp; omega,show ((by_ s i:Int)<224)=False by simp; omega,show (224≤(by_ s i:Int))=True by simp; omega,show ((by_ s i:Int)<240)=True by simp; omega,aEB _ hb,↓gos,gop,qA,qB,qC,qD,qE,qF,qG,qH,qI]
    rintro v rfl
    exact ht _ 3 2048 _ (by unfold nV; rw [if_neg b1,if_neg b2,if_pos b3]) (by omega) (by omega) rfl rfl rfl rfl rfl
  by_cases b4:240≤by_ s i∧by_ s i<248
  · simp only [f179s,f179,gU,eU,n1,show (192≤(by_ s i:Int))=True by simp; omega,show ((by_ s i:Int)<224)=False by simp; omega,show (224≤(by_ s i:Int))=True by simp; omega,show ((by_ s i:Int)<240)=False by simp; omega,
      show (240≤(by_ s i:Int))=True by simp; omega,show ((by_ s i:Int)<248)=True by simp; omega,aGt _ hb,↓gos,gop,qA,qB,qC,qD,qE,qF,qG,qH,qI]
    rintro v rfl
    exact ht _ 4 65536 _ (by unfold nV; rw [if_neg b1,if_neg b2,if_neg b3,if_pos b4]) (by omega) (by omega) rfl rfl rfl rfl rfl
  have hz:nV s i=(0,0):=by unfold nV; rw [if_neg b1,if_neg b2,if_neg b3,if_neg b4]
  rw [hz]
  by_cases b5:by_ s i<192
  · simp only [f179s,f179,gU,eU,n1,show (192≤(by_ s i:Int))=False by simp; omega,show (224≤(by_ s i:Int))=False by simp; omega,show (240≤(by_ s i:Int))=False by simp; omega,↓gos,gop,qA,qB,qC,qD,qE,qF,qG,qH,qI]
    exact vP rfl rfl
  · simp only [f179s,f179,gU,eU,n1,show (192≤(by_ s i:Int))=True by simp; omega,show ((by_ s i:Int)<224)=False by simp; omega,show (224≤(by_ s i:Int))=True by simp; omega,show ((by_ s i:Int)<240)=False by simp; omega,
      show (240≤(by_ s i:Int))=True by simp; omega,show ((by_ s i:Int)<248)=False by simp; omega,↓gos,gop,qA,qB,qC,qD,qE,qF,qG,qH,qI]
    exact vP rfl rfl
def r32 (n:Int):List DV:=[.int .i32 n]
def nD (s:List UInt8):List Int:=bF s s.length 0
theorem jM (s:List UInt8):∀ n i,(bF s n i).length≤n
 | 0,_=>by simp [bF]
 | n+1,i=>by
  simp only [bF]
  split
  ·have:=jM s n (i+(Utf8.decode ⟨s.toArray⟩ i).2)
   simp; omega
  ·simp
section
variable {E:Env} (hP:E.P=Tryz.prog)
include hP
theorem ZC (lo hi c:Int):ACalls E 211 [] [.agg [.int .i32 lo,.int .i32 hi],.int .i32 c] fun h d=>h=[]∧d=.bool (decide (lo≤c)&&decide (c≤hi)):=by
 refine aA (hP▸c211) (by simp [f211]) ?_
 simp only [f211,↓gos,gop,qA,qB,qC,qD,qE,qF,qG,qH,qI]
 exact ⟨fun h1=>⟨fun h2=>aJ (by simp [h1,h2]),fun h2=>aJ (by simp [h1,h2])⟩,fun h1=>aJ (by simp [h1])⟩
def cG (c:Int):Bool:=(decide (32≤c)&&decide (c≤65533))||(decide (65536≤c)&&decide (c≤1114111))
def bR (c:Int):Bool:=decide (c=9)||decide (c=10)||decide (c=13)||cG c
theorem DI (c:Int):ACalls E 165 [] [.int .i32 c] fun h d=>h=[]∧d=.bool (cG c):=by
 refine aA (hP▸c165) (by simp [f165]) ?_
 simp only [f165,↓gos,gop,qA,qB,qC,qD,qE,qF,qG,qH,qI]
 refine aB (ZC hP 32 65533 c) rfl rfl ?_
 cases h1:(decide (32≤c)&&decide (c≤65533))
 ·simp only [↓gos,gop,qA,qB,qC,qD,qE,qF,qG,qH,qI]
  refine aB (ZC hP 65536 1114111 c) rfl rfl ?_
  simp only [↓gos,gop,qA,qB,qC,qD,qE,qF,qG,qH,qI]
  exact aJ (by simp only [cG,h1,Bool.false_or])
 ·simp only [↓gos,gop,qA,qB,qC,qD,qE,qF,qG,qH,qI]
  exact aJ (by simp only [cG,h1,Bool.true_or])
theorem aDZ (c:Int):ACalls E 125 [] [.int .i32 c] fun h d=>h=[]∧d=.bool (bR c):=by
 refine aA (hP▸c125) (by simp [f125]) ?_
 simp only [f125,↓gos,gop,qA,qB,qC,qD,qE,qF,qG,qH,qI]
 refine ⟨fun h1=>aJ (by simp [bR,h1]),fun h1=>⟨fun h2=>aJ (by simp [bR,h2]),fun h2=>⟨fun h3=>aJ (by simp [bR,h3]),fun h3=>aB (DI hP c) rfl rfl ?_⟩⟩⟩
 simp only [↓gos,gop,qA,qB,qC,qD,qE,qF,qG,qH,qI]
 exact aJ (by simp [bR,h1,h2,h3])
def FE (c:Int):Bool:=decide (c=9)||decide (c=10)||decide (c=13)||(decide (32≤c)&&decide (c<55296))||(decide (57343<c)&&decide (c<65534))||(decide (65535<c)&&decide (c≤1114111))
theorem aDj (c:Int):ACalls E 180 [] [.int .i64 c] fun h d=>h=[]∧d=.bool (FE c):=by
 refine aA (hP▸c180) (by simp [f180]) ?_
 simp only [f180,↓gos,gop,qA,qB,qC,qD,qE,qF,qG,qH,qI]
 repeat' (first | refine And.intro (fun h=>?_) (fun h=>?_) | refine aJ ?_)
 all_goals simp only [FE, *,decide_true,decide_false,Bool.true_or,Bool.or_true,Bool.false_or,Bool.or_false,Bool.and_true,Bool.true_and,Bool.false_and,Bool.and_false]
def Tst (E:Env)(g:Nat)(p:Int→Bool):Prop:=∀ c,ACalls E g [] [.int .i32 c] fun h d=>h=[]∧d=.bool (p c)
theorem aEe {g:Nat}{p:Int→Bool}(hg:Tst E g p)(c:Int):ACalls E 210 [.box [.fn g []]] [.int .i32 c,.ptr 0 0] fun h d=>h=[.box [.fn g []]]∧d=.bool (!p c):=by
 refine aA (hP▸c210) (by simp [f210]) ?_
 simp only [f210,↓gos,gop,qA,qB,qC,qD,qE,qF,qG,qH,qI]
 refine aB (hg c) rfl rfl ?_
 cases h1:p c
 ·simp only [↓gos,gop,qA,qB,qC,qD,qE,qF,qG,qH,qI]
  exact cH rfl rfl rfl ⟨rfl,rfl⟩
 ·simp only [↓gos,gop,qA,qB,qC,qD,qE,qF,qG,qH,qI]
  exact cH rfl rfl rfl ⟨rfl,rfl⟩
theorem MU {g:Nat}{p:Int→Bool}(hg:Tst E g p)(l:List Int)(hl:l.length<1000000000000):ACalls E 259 [.box [.fn g []]] [.sl 1 (l.map r32),.fn 210 [.ptr 0 0]] fun h d=>h=[.box [.fn g []]]∧∃ n:Int,d=.int .i64 n∧(0≤n↔l.all p=false):=by
 refine aA (hP▸c259) (by simp [f259]) ?_
 simp only [f259,↓gos,gop,qA,qB,qC,qD,qE,qF,qG,qH,qI]
 refine aM (γ:=Nat) (fun i=>[(0,.sl 1 (l.map r32)),(1,.fn 210 [.ptr 0 0]),(7,.int .i64 l.length),(8,.int .i64 i)]) (fun _=>[.box [.fn g []]]) (fun i=>i≤l.length∧∀ j,j<i→p (l.getD j 0)=true) (fun i=>l.length - i) 0
  (wks rfl (by simp) ⟨rfl,rfl,rfl,rfl,trivial⟩) (by simp) fun i hi=>?_
 obtain ⟨hi,hp⟩:=hi
 simp only [f259l0,r32,↓gos,gop,qA,qB,qC,qD,qE,qF,qG,qH,qI]
 refine ⟨fun h1=>aU 0 (by omega) (fF (i:=0) rfl rfl (aEe hP hg (l.getD i 0)) rfl rfl fun h' d hq=>?_),fun h1=>cH rfl rfl rfl ⟨rfl,_,rfl,?_⟩⟩
 ·obtain ⟨rfl,rfl⟩:=hq
  refine ⟨_,rfl,rfl,rfl,?_⟩
  cases h2:p (l.getD i 0)
  ·simp only [↓gos,gop,qA,qB,qC,qD,qE,qF,qG,qH,qI]
   refine cH rfl rfl rfl ⟨rfl,_,rfl,?_⟩
   refine ⟨fun _=>?_,fun _=>by omega⟩
   rw [List.all_eq_false]
   exact ⟨l.getD i 0,by simp [show i<l.length by omega],by rw [h2]; simp⟩
  ·simp only [↓gos,gop,qA,qB,qC,qD,qE,qF,qG,qH,qI]
   intro v hv
   rw [wrap_i64 (by omega) (by omega)] at hv
   refine aQ (i+1) rfl (by simp) ⟨rfl,rfl,rfl,by show DV.int .i64 v=_; rw [hv]; rfl,trivial⟩ ⟨by omega,fun j hj=>?_⟩ (by omega)
   by_cases hji:j=i
   ·subst hji; exact h2
   ·exact hp j (by omega)
 ·refine ⟨fun h=>by omega,fun h=>?_⟩
  rw [List.all_eq_false] at h
  obtain ⟨x,hx,hn⟩:=h
  obtain ⟨j,hj,rfl⟩:=List.getElem_of_mem hx
  have:=hp j (by omega)
  simp [hj] at this
  exact absurd this hn
theorem zS {g:Nat}{p:Int→Bool}(hg:Tst E g p)(l:List Int)(hl:l.length<1000000000000):ACalls E 209 [.box [.fn g []]] [.sl 1 (l.map r32),.fn 210 [.ptr 0 0]] fun h d=>h=[.box [.fn g []]]∧d=.bool (!l.all p):=by
 refine aA (hP▸c209) (by simp [f209]) ?_
 simp only [f209,↓gos,gop,qA,qB,qC,qD,qE,qF,qG,qH,qI]
 refine fF (i:=0) rfl rfl (MU hP hg l hl) rfl rfl fun h' d hq=>?_
 obtain ⟨rfl,n,rfl,hn⟩:=hq
 refine ⟨_,rfl,rfl,rfl,?_⟩
 simp only [↓gos,gop,qA,qB,qC,qD,qE,qF,qG,qH,qI]
 refine ⟨fun h=>cH rfl rfl rfl ⟨rfl,?_⟩,fun h=>cH rfl rfl rfl ⟨rfl,?_⟩⟩
 ·rw [hn.1 h]; rfl
 ·cases h2:l.all p
  ·exact absurd (hn.2 h2) h
  ·rfl
theorem aCo {g:Nat}{p:Int→Bool}(hg:Tst E g p)(l:List Int)(hl:l.length<1000000000000):ACalls E 164 [] [.sl 1 (l.map r32),.fn g []] fun h d=>h=[]∧d=.bool (l.all p):=by
 refine aA (hP▸c164) (by simp [f164]) ?_
 simp only [f164,↓gos,gop,qA,qB,qC,qD,qE,qF,qG,qH,qI]
 refine fF (i:=0) rfl rfl (zS hP hg l hl) rfl rfl fun h' d hq=>?_
 obtain ⟨rfl,rfl⟩:=hq
 refine ⟨_,rfl,rfl,rfl,?_⟩
 cases h1:l.all p
 ·simp only [↓gos,gop,qA,qB,qC,qD,qE,qF,qG,qH,qI]
  exact aJ rfl
 ·simp only [↓gos,gop,qA,qB,qC,qD,qE,qF,qG,qH,qI]
  exact aJ rfl
def pW (E:Env):Prop:=∀ s:List UInt8,s.length≤9223372036854775807→ACalls E 163 [] [.str s] fun h d=>h=[]∧d=.bool (Lib.validD s)
theorem JV (hv:pW E){g:Nat}{p:Int→Bool}(hg:Tst E g p)(s:List UInt8)(hs:s.length<1000000000000):ACalls E 124 [] [.str s,.fn g []] fun h d=>h=[]∧d=.bool (Lib.validD s&&(nD s).all p):=by
 refine aA (hP▸c124) (by simp [f124]) ?_
 simp only [f124,↓gos,gop,qA,qB,qC,qD,qE,qF,qG,qH,qI]
 refine aB (hv s (by omega)) rfl rfl ?_
 have hlen:=jM s s.length 0
 cases h1:Lib.validD s
 ·simp only [↓gos,gop,qA,qB,qC,qD,qE,qF,qG,qH,qI]
  exact aJ rfl
 ·simp only [↓gos,gop,qA,qB,qC,qD,qE,qF,qG,qH,qI]
  refine aB (aCo hP hg (nD s) (by unfold nD; omega)) (by rw [List.map_cons]; erw [pZ (es:=(nD s).map r32) (i:=0) rfl (by simp [nD])]; rfl) rfl ?_
  simp only [↓gos,gop,qA,qB,qC,qD,qE,qF,qG,qH,qI]
  exact aJ (by simp)
theorem FB (hv:pW E)(s:List UInt8)(hs:s.length<1000000000000):ACalls E 64 [] [.str s] fun h d=>h=[]∧d=.bool (Lib.validD s&&(nD s).all bR):=by
 refine aA (hP▸c64) (by simp [f64]) ?_
 simp only [f64,↓gos,gop,qA,qB,qC,qD,qE,qF,qG,qH,qI]
 refine aB (JV hP hv (fun c=>aDZ hP c) s hs) rfl rfl ?_
 simp only [↓gos,gop,qA,qB,qC,qD,qE,qF,qG,qH,qI]
 exact aJ rfl
end
def D (s:List UInt8)(i:Nat):Nat×Nat:=Utf8.decode ⟨s.toArray⟩ i
theorem aCr (s:List UInt8)(i:Nat):((⟨s.toArray⟩:ByteArray).get! i).toNat=by_ s i:=by
 simp [ByteArray.get!,by_]
 rfl
def okC (c:Nat):Prop:=c<55296∨(57344≤c∧c≤1114111)
theorem tM (c:Nat):Utf8.valid (c:Int)=true↔okC c:=by
 simp [Utf8.valid,okC]; omega
theorem yJ (s:List UInt8)(i:Nat):D s i =
    (if by_ s i<128 then (by_ s i,1)
     else if by_ s i / 32=6∧i+1<s.length∧by_ s (i+1) / 64=2 then
       (if by_ s i % 32*64+by_ s (i+1) % 64≥128 then (by_ s i % 32*64+by_ s (i+1) % 64,2) else (65533,1))
     else if by_ s i / 16=14∧(i+1<s.length∧by_ s (i+1) / 64=2)∧i+2<s.length∧by_ s (i+2) / 64=2 then
       (if by_ s i % 16*4096+by_ s (i+1) % 64*64+by_ s (i+2) % 64≥2048∧okC (by_ s i % 16*4096+by_ s (i+1) % 64*64+by_ s (i+2) % 64) then (by_ s i % 16*4096+by_ s (i+1) % 64*64+by_ s (i+2) % 64,3) else (65533,1))
     else if by_ s i / 8=30∧(i+1<s.length∧by_ s (i+1) / 64=2)∧(i+2<s.length∧by_ s (i+2) / 64=2)∧i+3<s.length∧by_ s (i+3) / 64=2 then
       (if by_ s i % 8*262144+by_ s (i+1) % 64*4096+by_ s (i+2) % 64*64+by_ s (i+3) % 64≥65536∧okC (by_ s i % 8*262144+by_ s (i+1) % 64*4096+by_ s (i+2) % 64*64+by_ s (i+3) % 64) then (by_ s i % 8*262144+by_ s (i+1) % 64*4096+by_ s (i+2) % 64*64+by_ s (i+3) % 64,4) else (65533,1))
     else (65533,1)):=by
  unfold D Utf8.decode
  simp only [aCr,Nat.add_zero,Bool.and_eq_true,decide_eq_true_eq,beq_iff_eq,and_assoc,Utf8.runeError,tM,ge_iff_le]
  rfl
theorem D1 {s:List UInt8}{i:Nat}(h:by_ s i<128):D s i=(by_ s i,1):=by rw [yJ,if_pos h]
theorem D2 {s:List UInt8}{i:Nat}(h:192≤by_ s i∧by_ s i<224):D s i=if i+1<s.length∧by_ s (i+1) / 64=2 then
  (if by_ s i % 32*64+by_ s (i+1) % 64≥128 then (by_ s i % 32*64+by_ s (i+1) % 64,2) else (65533,1)) else (65533,1):=by
 have n1:¬ by_ s i<128:=by omega
 have n2:¬ by_ s i / 16=14:=by omega
 have n3:¬ by_ s i / 8=30:=by omega
 have e:by_ s i / 32=6:=by omega
 rw [yJ,if_neg n1]
 by_cases c:i+1<s.length∧by_ s (i+1) / 64=2
 ·rw [if_pos ⟨e,c⟩,if_pos c]
 ·rw [if_neg (fun q=>c q.2),if_neg (fun q=>n2 q.1),if_neg (fun q=>n3 q.1),if_neg c]
theorem D3 {s:List UInt8}{i:Nat}(h:224≤by_ s i∧by_ s i<240):D s i=if (i+1<s.length∧by_ s (i+1) / 64=2)∧i+2<s.length∧by_ s (i+2) / 64=2 then
  (if by_ s i % 16*4096+by_ s (i+1) % 64*64+by_ s (i+2) % 64≥2048∧okC (by_ s i % 16*4096+by_ s (i+1) % 64*64+by_ s (i+2) % 64) then (by_ s i % 16*4096+by_ s (i+1) % 64*64+by_ s (i+2) % 64,3) else (65533,1)) else (65533,1):=by
 have n1:¬ by_ s i<128:=by omega
 have n2:¬ by_ s i / 32=6:=by omega
 have n3:¬ by_ s i / 8=30:=by omega
 have e:by_ s i / 16=14:=by omega
 rw [yJ,if_neg n1,if_neg (fun q=>n2 q.1)]
 by_cases c:(i+1<s.length∧by_ s (i+1) / 64=2)∧i+2<s.length∧by_ s (i+2) / 64=2
 ·rw [if_pos ⟨e,c⟩,if_pos c]
 ·rw [if_neg (fun q=>c q.2),if_neg (fun q=>n3 q.1),if_neg c]
theorem D4 {s:List UInt8}{i:Nat}(h:240≤by_ s i∧by_ s i<248):D s i=if (i+1<s.length∧by_ s (i+1) / 64=2)∧(i+2<s.length∧by_ s (i+2) / 64=2)∧i+3<s.length∧by_ s (i+3) / 64=2 then
  (if by_ s i % 8*262144+by_ s (i+1) % 64*4096+by_ s (i+2) % 64*64+by_ s (i+3) % 64≥65536∧okC (by_ s i % 8*262144+by_ s (i+1) % 64*4096+by_ s (i+2) % 64*64+by_ s (i+3) % 64) then (by_ s i % 8*262144+by_ s (i+1) % 64*4096+by_ s (i+2) % 64*64+by_ s (i+3) % 64,4) else (65533,1)) else (65533,1):=by
 have n1:¬ by_ s i<128:=by omega
 have n2:¬ by_ s i / 32=6:=by omega
 have n3:¬ by_ s i / 16=14:=by omega
 have e:by_ s i / 8=30:=by omega
 rw [yJ,if_neg n1,if_neg (fun q=>n2 q.1),if_neg (fun q=>n3 q.1)]
 by_cases c:(i+1<s.length∧by_ s (i+1) / 64=2)∧(i+2<s.length∧by_ s (i+2) / 64=2)∧i+3<s.length∧by_ s (i+3) / 64=2
 ·rw [if_pos ⟨e,c⟩,if_pos c]
 ·rw [if_neg (fun q=>c q.2),if_neg c]
theorem D0 {s:List UInt8}{i:Nat}(h1:¬ by_ s i<128)(h2:¬ (192≤by_ s i∧by_ s i<248))(hb:by_ s i<256):D s i=(65533,1):=by
 have n2:¬ by_ s i / 32=6:=by omega
 have n3:¬ by_ s i / 16=14:=by omega
 have n4:¬ by_ s i / 8=30:=by omega
 rw [yJ,if_neg h1,if_neg (fun q=>n2 q.1),if_neg (fun q=>n3 q.1),if_neg (fun q=>n4 q.1)]
theorem gB {x:Nat×Nat}(h:x=(65533,1)):(0,0)=if x=(65533,1) then (0,0) else x:=by rw [if_pos h]
theorem oK {x:Nat×Nat}(h:x.2≠1∨x.1≠65533):x=if x=(65533,1) then (0,0) else x:=by
 rw [if_neg]
 rintro rfl
 rcases h with h|h <;> exact h rfl
theorem ZP (s:List UInt8)(i:Nat)(hi:i<s.length):nV s i=if D s i=(65533,1) then (0,0) else D s i:=by
 have hb:=tN s i
 unfold nV
 by_cases b1:by_ s i<128
 ·have hD:=D1 b1
  rw [if_pos b1]
  have hT:eS s i 1 0 (by_ s i)=(by_ s i,1):=by
   unfold eS
   rw [if_neg (by omega),if_pos (fun k h1 h2=>by omega),if_neg (by simp [eN]; omega)]
   rfl
  rw [hT,← hD]
  exact oK (.inr (by rw [hD]; simp only; omega))
 rw [if_neg b1]
 by_cases b2:192≤by_ s i∧by_ s i<224
 ·have hD:=D2 b2
  rw [if_pos b2]
  have ea:eN s i (by_ s i % 32) (2 - 1)=by_ s i % 32*64+by_ s (i+1) % 64:=rfl
  have hall:(∀ k,1≤k→k<2→by_ s (i+k) / 64=2)↔by_ s (i+1) / 64=2:=by
   constructor
   ·exact fun h=>h 1 (by omega) (by omega)
   ·intro h k h1 h2
    obtain rfl:k=1:=by omega
    exact h
  unfold eS
  rw [ea]
  have m0:by_ s i % 32<32:=Nat.mod_lt _ (by omega)
  have m1:by_ s (i+1) % 64<64:=Nat.mod_lt _ (by omega)
  generalize hg:by_ s i % 32*64+by_ s (i+1) % 64=c at hD
  by_cases hc:i+1<s.length∧by_ s (i+1) / 64=2
  ·rw [if_pos hc] at hD
   rw [if_neg (by omega),if_pos (hall.2 hc.2)]
   by_cases h8:c≥128
   ·rw [if_pos h8] at hD
    rw [if_neg (by omega),← hD]
    exact oK (.inl (by rw [hD]; simp))
   ·rw [if_neg h8] at hD
    rw [if_pos (by omega)]; exact gB hD
  ·rw [if_neg hc] at hD
   by_cases hl:i+2>s.length
   ·rw [if_pos hl]; exact gB hD
   ·rw [if_neg hl,if_neg (fun h=>hc ⟨by omega,hall.1 h⟩)]; exact gB hD
 rw [if_neg b2]
 by_cases b3:224≤by_ s i∧by_ s i<240
 ·have hD:=D3 b3
  rw [if_pos b3]
  have hall:(∀ k,1≤k→k<3→by_ s (i+k) / 64=2)↔by_ s (i+1) / 64=2∧by_ s (i+2) / 64=2:=by
   constructor
   ·exact fun h=>⟨h 1 (by omega) (by omega),h 2 (by omega) (by omega)⟩
   ·intro h k h1 h2
    have:k=1∨k=2:=by omega
    rcases this with rfl|rfl
    ·exact h.1
    ·exact h.2
  have ea:eN s i (by_ s i % 16) (3 - 1)=by_ s i % 16*4096+by_ s (i+1) % 64*64+by_ s (i+2) % 64:=by
   show (by_ s i % 16*64+by_ s (i+1) % 64)*64+by_ s (i+2) % 64=_
   omega
  unfold eS
  rw [ea]
  generalize hg:by_ s i % 16*4096+by_ s (i+1) % 64*64+by_ s (i+2) % 64=c at hD
  by_cases hc:(i+1<s.length∧by_ s (i+1) / 64=2)∧i+2<s.length∧by_ s (i+2) / 64=2
  ·rw [if_pos hc] at hD
   rw [if_neg (by omega),if_pos (hall.2 ⟨hc.1.2,hc.2.2⟩)]
   by_cases h8:c≥2048∧okC c
   ·rw [if_pos h8] at hD
    rw [if_neg (by unfold okC at h8; omega),← hD]
    exact oK (.inl (by rw [hD]; simp))
   ·rw [if_neg h8] at hD
    rw [if_pos (by unfold okC at h8; omega)]; exact gB hD
  ·rw [if_neg hc] at hD
   by_cases hl:i+3>s.length
   ·rw [if_pos hl]; exact gB hD
   ·rw [if_neg hl,if_neg (fun h=>hc ⟨⟨by omega,(hall.1 h).1⟩,by omega,(hall.1 h).2⟩)]; exact gB hD
 rw [if_neg b3]
 by_cases b4:240≤by_ s i∧by_ s i<248
 ·have hD:=D4 b4
  rw [if_pos b4]
  have hall:(∀ k,1≤k→k<4→by_ s (i+k) / 64=2)↔by_ s (i+1) / 64=2∧by_ s (i+2) / 64=2∧by_ s (i+3) / 64=2:=by
   constructor
   ·exact fun h=>⟨h 1 (by omega) (by omega),h 2 (by omega) (by omega),h 3 (by omega) (by omega)⟩
   ·intro h k h1 h2
    have:k=1∨k=2∨k=3:=by omega
    rcases this with rfl|rfl|rfl
    ·exact h.1
    ·exact h.2.1
    ·exact h.2.2
  have ea:eN s i (by_ s i % 8) (4 - 1)=by_ s i % 8*262144+by_ s (i+1) % 64*4096+by_ s (i+2) % 64*64+by_ s (i+3) % 64:=by
   show ((by_ s i % 8*64+by_ s (i+1) % 64)*64+by_ s (i+2) % 64)*64+by_ s (i+3) % 64=_
   omega
  unfold eS
  rw [ea]
  generalize hg:by_ s i % 8*262144+by_ s (i+1) % 64*4096+by_ s (i+2) % 64*64+by_ s (i+3) % 64=c at hD
  by_cases hc:(i+1<s.length∧by_ s (i+1) / 64=2)∧(i+2<s.length∧by_ s (i+2) / 64=2)∧i+3<s.length∧by_ s (i+3) / 64=2
  ·rw [if_pos hc] at hD
   rw [if_neg (by omega),if_pos (hall.2 ⟨hc.1.2,hc.2.1.2,hc.2.2.2⟩)]
   by_cases h8:c≥65536∧okC c
   ·rw [if_pos h8] at hD
    rw [if_neg (by unfold okC at h8; omega),← hD]
    exact oK (.inl (by rw [hD]; simp))
   ·rw [if_neg h8] at hD
    rw [if_pos (by unfold okC at h8; omega)]; exact gB hD
  ·rw [if_neg hc] at hD
   by_cases hl:i+4>s.length
   ·rw [if_pos hl]; exact gB hD
   ·rw [if_neg hl,if_neg (fun h=>hc ⟨⟨by omega,(hall.1 h).1⟩,⟨by omega,(hall.1 h).2.1⟩,by omega,(hall.1 h).2.2⟩)]; exact gB hD
 rw [if_neg b4]
 exact gB (D0 b1 (by omega) hb)
theorem dE (s:List UInt8)(i:Nat)(hi:i<s.length):1≤(D s i).2∧i+(D s i).2≤s.length∧okC (D s i).1:=by
 have hb:=tN s i
 have m1:by_ s (i+1) % 64<64:=Nat.mod_lt _ (by omega)
 rw [yJ]
 by_cases b1:by_ s i<128
 ·rw [if_pos b1]; exact ⟨by simp,by simp; omega,by unfold okC; simp only; omega⟩
 rw [if_neg b1]
 have z:1≤((65533,1):Nat×Nat).2∧i+((65533,1):Nat×Nat).2≤s.length∧okC ((65533,1):Nat×Nat).1:=⟨by simp,by simp; omega,by unfold okC; simp⟩
 by_cases c2:by_ s i / 32=6∧i+1<s.length∧by_ s (i+1) / 64=2
 ·rw [if_pos c2]
  split
  ·exact ⟨by simp,by simp; omega,by
    have:by_ s i % 32<32:=Nat.mod_lt _ (by omega)
    unfold okC; simp only; omega⟩
  ·exact z
 rw [if_neg c2]
 by_cases c3:by_ s i / 16=14∧(i+1<s.length∧by_ s (i+1) / 64=2)∧i+2<s.length∧by_ s (i+2) / 64=2
 ·rw [if_pos c3]
  split
  ·rename_i h; exact ⟨by simp,by simp; omega,h.2⟩
  ·exact z
 rw [if_neg c3]
 by_cases c4:by_ s i / 8=30∧(i+1<s.length∧by_ s (i+1) / 64=2)∧(i+2<s.length∧by_ s (i+2) / 64=2)∧i+3<s.length∧by_ s (i+3) / 64=2
 ·rw [if_pos c4]
  split
  ·rename_i h; exact ⟨by simp,by simp; omega,h.2⟩
  ·exact z
 rw [if_neg c4]; exact z
def run (p:Int→Bool)(s:List UInt8):Nat→Nat→Bool
 | 0,_=>true
 | n+1,i=>if i<s.length then (if D s i=(65533,1) then false else p (D s i).1&&run p s n (i+(D s i).2)) else true
theorem wJ (p:Int→Bool)(s:List UInt8):∀ n m i,s.length - i≤n→s.length - i≤m→run p s n i=run p s m i
 | 0,0,_,_,_=>rfl
 | 0,m+1,i,h,_=>by simp only [run]; rw [if_neg (by omega)]
 | n+1,0,i,_,h=>by simp only [run]; rw [if_neg (by omega)]
 | n+1,m+1,i,h1,h2=>by
  simp only [run]
  by_cases hi:i<s.length
  ·have:=dE s i hi
   rw [if_pos hi,if_pos hi,wJ p s n m (i+(D s i).2) (by omega) (by omega)]
  ·rw [if_neg hi,if_neg hi]
def aW (p:Int→Bool)(s:List UInt8)(i:Nat):Bool:=run p s (s.length - i) i
theorem cX (p:Int→Bool)(s:List UInt8)(i:Nat)(hi:i<s.length):aW p s i=if D s i=(65533,1) then false else p (D s i).1&&aW p s (i+(D s i).2):=by
 have:=dE s i hi
 unfold aW
 obtain ⟨n,hn⟩:∃ n,s.length - i=n+1:=⟨s.length - i - 1,by omega⟩
 rw [hn]
 simp only [run]
 rw [if_pos hi,wJ p s n (s.length - (i+(D s i).2)) _ (by omega) (Nat.le_refl _)]
theorem dC (p:Int→Bool)(s:List UInt8)(i:Nat)(hi:¬ i<s.length):aW p s i=true:=by
 unfold aW
 rw [show s.length - i=0 by omega]; rfl
theorem EH (s:List UInt8):∀ n m i,s.length - i≤n→s.length - i≤m→bF s n i=bF s m i
 | 0,0,_,_,_=>rfl
 | 0,m+1,i,h,_=>by simp only [bF]; rw [if_neg (by omega)]
 | n+1,0,i,_,h=>by simp only [bF]; rw [if_neg (by omega)]
 | n+1,m+1,i,h1,h2=>by
  simp only [bF]
  by_cases hi:i<s.length
  ·have:1≤(D s i).2:=(dE s i hi).1
   rw [if_pos hi,if_pos hi]
   show _::bF s n (i+(D s i).2)=_::bF s m (i+(D s i).2)
   rw [EH s n m (i+(D s i).2) (by omega) (by omega)]
  ·rw [if_neg hi,if_neg hi]
def gH (s:List UInt8)(i:Nat):List Int:=bF s (s.length - i) i
theorem eH (s:List UInt8)(i:Nat)(hi:i<s.length):gH s i=((D s i).1:Int)::gH s (i+(D s i).2):=by
 have:=(dE s i hi).1
 unfold gH
 obtain ⟨n,hn⟩:∃ n,s.length - i=n+1:=⟨s.length - i - 1,by omega⟩
 rw [hn]
 simp only [bF]
 rw [if_pos hi]
 show _::bF s n (i+(D s i).2)=_
 rw [EH s n (s.length - (i+(D s i).2)) _ (by omega) (Nat.le_refl _)]
 rfl
theorem cK (s:List UInt8)(i:Nat)(hi:¬ i<s.length):gH s i=[]:=by
 unfold gH
 rw [show s.length - i=0 by omega]; rfl
theorem kI (s:List UInt8)(i:Nat):Lib.decodeL (s.drop i)=D s i:=by
 have:=Lib.decodeL_drop ⟨s.toArray⟩ i
 simpa [D] using this
theorem nJ (s:List UInt8):∀ n i,s.length - i≤n→Lib.validGoD n (s.drop i)=run (fun _=>true) s n i
 | 0,_,_=>rfl
 | n+1,i,h=>by
  simp only [Lib.validGoD,run]
  by_cases hi:i<s.length
  ·have hne:¬ s.drop i=[]:=by simp; omega
   have:=dE s i hi
   rw [if_neg hne,if_pos hi,kI,List.drop_drop,nJ s n (i+(D s i).2) (by omega),Bool.true_and]
   have e:((D s i).1=65533∧(D s i).2=1)↔D s i=(65533,1):=by rw [Prod.ext_iff]
   by_cases hb:D s i=(65533,1)
   ·rw [if_pos hb,if_pos (e.2 hb)]
   ·rw [if_neg hb,if_neg (fun q=>hb (e.1 q))]
  ·have hne:s.drop i=[]:=by simp; omega
   rw [if_pos hne,if_neg hi]
theorem EP (p:Int→Bool)(s:List UInt8):∀ n i,(run (fun _=>true) s n i&&(bF s n i).all p)=run p s n i
 | 0,_=>rfl
 | n+1,i=>by
  simp only [run,bF]
  by_cases hi:i<s.length
  ·rw [if_pos hi,if_pos hi,if_pos hi]
   by_cases hb:D s i=(65533,1)
   ·rw [if_pos hb,if_pos hb]; rfl
   ·rw [if_neg hb,if_neg hb,← EP p s n (i+(D s i).2),List.all_cons,Bool.true_and]
    show (_&&(p (D s i).1&&(bF s n (i+(D s i).2)).all p))=_
    cases p (D s i).1 <;> cases run (fun _=>true) s n (i+(D s i).2) <;> rfl
  ·rw [if_neg hi,if_neg hi,if_neg hi]; rfl
theorem jA (p:Int→Bool)(s:List UInt8):(Lib.validD s&&(nD s).all p)=aW p s 0:=by
 have h:=nJ s s.length 0 (by omega)
 rw [List.drop_zero] at h
 unfold Lib.validD nD aW
 rw [h,EP,Nat.sub_zero]
theorem KI {c:Nat}(h:okC c):FE c=bR c:=by
 unfold okC at h
 unfold FE bR cG
 rw [Bool.eq_iff_iff]
 simp only [Bool.or_eq_true,Bool.and_eq_true,decide_eq_true_eq]
 omega
end Go.Proofs.Ut
