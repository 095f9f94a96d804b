/- Ranges, at the Door program (written by wip/tools/prnum.py out of RgA, RgB). -/
import Derived.Test.YtgamnnfndidclaaGreatDoorCYFoUtD
import Derived.Test.YtgamnnfndidclaaGreatDoorCYFoUtF
open Nat renaming reduceBEq → qA,reduceAdd → qB,reduceSub → qC,reduceLeDiff → qD,reduceMul → qE
open Int renaming reduceLE → qF,reduceLT → qG,reduceNe → qH,reduceToNat → qI
set_option linter.all false
namespace Go.Proofs.Ut
open Go.Ai Classical
set_option linter.unusedSimpArgs false
set_option maxHeartbeats 1000000
set_option maxRecDepth 100000
def rg (r:Int×Int):List DV:=[.int .i64 r.1,.int .i64 r.2]
abbrev Ret (f:Nat)(args:List DV)(D:DV):Prop:=ACalls ED f [] args fun h d=>h=[]∧d=D
abbrev Row (f:Nat)(args:List DV)(L:List (Int×Int)):Prop:=ACalls ED f [] args fun h d=>h=[.arr 2 (L.map rg)]∧d=.osl 2 0 0 L.length none
def fQ (r:Int×Int)(c:Int):Bool:=decide (r.1≤c)&&decide (c≤r.2)
theorem LY (r:Int×Int)(c:Int):Ret 291 [.agg (rg r),.int .i64 c] (.bool (fQ r c)):=by
 refine aA c291 (by simp [f291]) ?_
 simp only [f291,rg,↓gos,gop,qA,qB,qC,qD,qE,qF,qG,qH,qI]
 exact ⟨fun h1=>⟨fun h2=>aG (by simp [h1,h2,fQ]),fun h2=>aG (by simp [h1,h2,fQ])⟩,fun h1=>aG (by simp [h1,fQ])⟩
theorem BS (l:List (Int×Int))(c:Int)(hl:l.length<1000000000000):Ret 290 [.sl 2 (l.map rg),.int .i64 c,.fn 291 []] (.bool (l.any (fQ · c))):=by
 refine aA c290 (by simp [f290]) ?_
 simp only [f290,rg,↓gos,gop,qA,qB,qC,qD,qE,qF,qG,qH,qI]
 refine aJ (γ:=Nat) (fun i=>[(1,.int .i64 c),(2,.fn 291 []),(9,.sl 2 (l.map rg)),(10,.int .i64 l.length),(11,.int .i64 i)]) (fun _=>[]) (fun i=>i≤l.length∧∀ j,j<i→fQ (l.getD j (0,0)) c=false) (fun i=>l.length - i) 0 (wks rfl (Nat.le_refl _) ⟨rfl,rfl,rfl,rfl,rfl,trivial⟩) (by simp) fun i hi=>?_
 simp only [f290l0,rg,↓gos,gop,qA,qB,qC,qD,qE,qF,qG,qH,qI]
 obtain ⟨hi,hP⟩:=hi
 refine ⟨fun h1=>aL (0,0) (by omega) (aB (LY _ c) rfl rfl ?_),fun h1=>aG ?_⟩
 ·cases hb:fQ (l.getD i (0,0)) c
  ·simp only [↓gos,gop,qA,qB,qC,qD,qE,qF,qG,qH,qI]
   intro v hv
   rw [wrap_i64 (by omega) (by omega)] at hv
   refine cI 0 (i+1) rfl (Nat.le_refl _) ⟨rfl,rfl,rfl,rfl,rfl,rfl,rfl,rfl,by simp [hv,slots],rfl,trivial⟩ rfl ⟨by omega,fun j hj=>?_⟩ (by omega)
   by_cases hji:j=i
   ·subst hji; exact hb
   ·exact hP j (by omega)
  ·simp only [↓gos,gop,qA,qB,qC,qD,qE,qF,qG,qH,qI]
   refine aG ?_
   symm
   rw [List.any_eq_true]
   exact ⟨l.getD i (0,0),by simp [show i<l.length by omega],hb⟩
 ·symm
  rw [List.any_eq_false]
  intro x hx
  obtain ⟨j,hj,rfl⟩:=List.getElem_of_mem hx
  have:=hP j (by omega)
  simpa [hj] using this
theorem jM (l:List (Int×Int))(c:Int)(hl:l.length<1000000000000):Ret 245 [.sl 2 (l.map rg),.int .i64 c] (.bool (l.any (fQ · c))):=by
 refine aA c245 (by simp [f245]) ?_
 simp only [f245,↓gos,gop,qA,qB,qC,qD,qE,qF,qG,qH,qI]
 refine aB (BS l c hl) rfl rfl ?_
 simp only [↓gos,gop,qA,qB,qC,qD,qE,qF,qG,qH,qI]
 exact aG rfl
theorem dJ (l:List (Int×Int))(c:Int)(hl:l.length<1000000000000):Ret 315 [.sl 2 (l.map rg),.int .i64 c] (.bool (l.any (fQ · c))):=by
 refine aA c315 (by simp [f315]) ?_
 simp only [f315,↓gos,gop,qA,qB,qC,qD,qE,qF,qG,qH,qI]
 refine aJ (γ:=Nat) (fun i=>[(0,.sl 2 (l.map rg)),(1,.int .i64 c),(5,.int .i64 i)]) (fun _=>[]) (fun i=>i≤l.length∧∀ j,j<i→fQ (l.getD j (0,0)) c=false) (fun i=>l.length - i) 0 (wks rfl (Nat.le_refl _) ⟨rfl,rfl,rfl,trivial⟩) (by simp) fun i hi=>?_
 simp only [f315l0,rg,↓gos,gop,qA,qB,qC,qD,qE,qF,qG,qH,qI]
 obtain ⟨hi,hP⟩:=hi
 refine ⟨fun h1=>aL (0,0) (by omega) ⟨fun h2=>aL (0,0) (by omega) ⟨fun h3=>aG ?_,fun h3 v hv=>?_⟩,fun h2 v hv=>?_⟩,fun h1=>aG ?_⟩
 ·symm
  rw [List.any_eq_true]
  exact ⟨l.getD i (0,0),by simp [show i<l.length by omega],by unfold fQ; rw [decide_eq_true h2,decide_eq_true h3]; rfl⟩
 ·rw [wrap_i64 (by omega) (by omega)] at hv
  refine aN (i+1) rfl (Nat.le_refl _) ⟨rfl,rfl,by simp [hv,slots],trivial⟩ ⟨by omega,fun j hj=>?_⟩ (by omega)
  by_cases hji:j=i
  ·subst hji; simp only [fQ,h3,decide_false,Bool.and_false]
  ·exact hP j (by omega)
 ·rw [wrap_i64 (by omega) (by omega)] at hv
  refine aN (i+1) rfl (Nat.le_refl _) ⟨rfl,rfl,by simp [hv,slots],trivial⟩ ⟨by omega,fun j hj=>?_⟩ (by omega)
  by_cases hji:j=i
  ·subst hji; simp only [fQ,h2,decide_false,Bool.false_and]
  ·exact hP j (by omega)
 ·symm
  rw [List.any_eq_false]
  intro x hx
  obtain ⟨j,hj,rfl⟩:=List.getElem_of_mem hx
  have:=hP j (by omega)
  simpa [hj] using this
theorem GA (a b:Int):Ret 324 [.int .i64 a,.int .i64 b] (.agg (rg (a,b))):=by
 refine aA c324 (by simp [f324]) ?_
 simp only [f324,rg,↓gos,gop,qA,qB,qC,qD,qE,qF,qG,qH,qI]
 exact YV rfl rfl
def prs:List Int→List (Int×Int)
 | a::b::l=>(a,b)::prs l
 | _=>[]
theorem CS (l:List Int)(hl:l.length<10000):Row 323 [.agg [.sl 1 (l.map num)],.fn 324 []] (prs l):=by
 refine aA c323 (by simp [f323]) ?_
 simp only [f323,↓gos,gop,qA,qB,qC,qD,qE,qF,qG,qH,qI]
 refine aJ (γ:=List (Int×Int)×List Int) (fun g=>[(1,.fn 324 []),(5,.osl 2 2 0 g.1.length none),(6,.sl 1 (g.2.map num))]) (fun g=>[.box [.sl 1 (l.map num)],.arr 2 [],.arr 2 (g.1.map rg)]) (fun g=>g.1++prs g.2=prs l∧g.1.length+g.2.length≤l.length) (fun g=>g.2.length) ([],l) (wks rfl (Nat.zero_le _) ⟨rfl,rfl,rfl,trivial⟩) (by simp) fun g hg=>?_
 obtain ⟨acc,rest⟩:=g
 obtain ⟨hg,hlen⟩:=hg
 rcases rest with _|⟨a,_|⟨b,r⟩⟩
 ·simp only [f323l0,num,↓gos,gop,qA,qB,qC,qD,qE,qF,qG,qH,qI]
  exact bJ rfl (by simpa [prs] using congrArg (List.map rg) hg) (by simpa [prs] using congrArg List.length hg)
 ·simp only [f323l0,num,↓gos,gop,qA,qB,qC,qD,qE,qF,qG,qH,qI]
  exact bJ rfl (by simpa [prs] using congrArg (List.map rg) hg) (by simpa [prs] using congrArg List.length hg)
 ·simp only [f323l0,num,↓gos,gop,qA,qB,qC,qD,qE,qF,qG,qH,qI]
  refine ⟨fun _=>aB (GA a b) rfl rfl ?_,fun h=>by omega⟩
  simp only [rg,↓gos,gop,qA,qB,qC,qD,qE,qF,qG,qH,qI]
  have hd:acc.length+(r.length+2)≤l.length:=by simpa using hlen
  refine ⟨by omega,by omega,by omega,?_⟩
  refine cI 3 (acc++[(a,b)],r) ?_ (Nat.zero_le _) ⟨rfl,rfl,?_,rfl,?_,rfl,trivial⟩ rfl ⟨?_,?_⟩ (by simp; omega)
  ·simp [rg,num]
  ·simp [slots]
  ·have e:List.take (r.length+1+1 - 2) (r.map num)=r.map num:=List.take_of_length_le (by simp)
   rw [e]; rfl
  ·simpa [prs] using hg
  ·simp; omega
theorem kJ (l:List Int)(hl:l.length<10000):Row 292 [.sl 1 (l.map num)] (prs l):=by
 refine aA c292 (by simp [f292]) ?_
 simp only [f292,↓gos,gop,qA,qB,qC,qD,qE,qF,qG,qH,qI]
 refine iS (CS l hl) (by simp [DV.closed,DV.closed.closedAll]) ?_
 simp only [DV.ren,aS,↓gos,gop,qA,qB,qC,qD,qE,qF,qG,qH,qI]
 exact bJ rfl rfl rfl
theorem jC (l:List Int)(hl:l.length<10000)(he:l.length % 2=0):Row 337 [.sl 1 (l.map num)] (prs l):=by
 refine aA c337 (by simp [f337]) ?_
 simp only [f337,↓gos,gop,qA,qB,qC,qD,qE,qF,qG,qH,qI]
 refine aJ (γ:=List (Int×Int)×Nat) (fun g=>[(0,.sl 1 (l.map num)),(3,.osl 2 1 0 g.1.length none),(4,.int .i64 (g.2:Nat))]) (fun g=>[.arr 2 [],.arr 2 (g.1.map rg)]) (fun g=>g.1++prs (l.drop g.2)=prs l∧g.2≤l.length∧g.2 % 2=0∧g.1.length≤g.2) (fun g=>l.length - g.2) ([],0) (wks rfl (Nat.zero_le _) ⟨rfl,rfl,rfl,trivial⟩) (by simp) fun g hg=>?_
 simp only [f337l0,num,rg,↓gos,gop,qA,qB,qC,qD,qE,qF,qG,qH,qI]
 obtain ⟨acc,k⟩:=g
 obtain ⟨hg,hk,hm,hlen⟩:=hg
 simp only at hg hk hm hlen ⊢
 refine ⟨fun h1=>aL 0 (by omega) fun v hv=>⟨?_,aL 0 ?_ ⟨by omega,by omega,fun v2 hv2=>?_⟩⟩,fun h1=>?_⟩
 ·rw [wrap_i64 (by omega) (by omega)] at hv; omega
 ·rw [wrap_i64 (by omega) (by omega)] at hv; omega
 ·rw [wrap_i64 (by omega) (by omega)] at hv hv2
  have e1:v.toNat=k+1:=by omega
  rw [e1]
  have hdr:l.drop k=l.getD k 0::l.getD (k+1) 0::l.drop (k+2):=by
   have h2:k<l.length:=by omega
   have h3:k+1<l.length:=by omega
   rw [List.drop_eq_getElem_cons h2,List.drop_eq_getElem_cons h3]
   simp [h2,h3]
  refine cI 2 (acc++[(l.getD k 0,l.getD (k+1) 0)],k+2) ?_ (Nat.zero_le _) ⟨rfl,rfl,?_,rfl,?_,rfl,trivial⟩ rfl ⟨?_,?_⟩ (by simp; omega)
  ·simp [rg]
  ·simp [slots]
  ·simp [slots,hv2]
  ·rw [hdr] at hg
   simpa [prs] using hg
  ·simp; omega
 ·have:l.drop k=[]:=by simp; omega
  rw [this] at hg
  exact bJ rfl (by simpa [prs] using congrArg (List.map rg) hg) (by simpa [prs] using congrArg List.length hg)
def cB:List Int:=[65,90,97,122,192,214,216,246,248,591,880,1327,19968,40959]
theorem kQ:Row 246 [] (prs cB):=by
 refine aA c246 (by simp [f246]) ?_
 simp only [f246,↓gos,gop,qA,qB,qC,qD,qE,qF,qG,qH,qI]
 refine aX (kJ cB (by decide)) rfl rfl ?_
 simp only [DV.ren,aS,↓gos,gop,qA,qB,qC,qD,qE,qF,qG,qH,qI]
 exact bJ rfl rfl rfl
theorem fV:Row 319 [] (prs cB):=by
 refine aA c319 (by simp [f319]) ?_
 simp only [f319,↓gos,gop,qA,qB,qC,qD,qE,qF,qG,qH,qI]
 refine aX (jC cB (by decide) (by decide)) rfl rfl ?_
 simp only [DV.ren,aS,↓gos,gop,qA,qB,qC,qD,qE,qF,qG,qH,qI]
 exact bJ rfl rfl rfl
def gB:List Int:=[0,31,127,160,5760,5760,8192,8202,8232,8239,8287,8287,12288,12288,57344,63743,65533,65535,917504,917631,983040,1114111]
theorem tO:Row 256 [] (prs gB):=by
 refine aA c256 (by simp [f256]) ?_
 simp only [f256,↓gos,gop,qA,qB,qC,qD,qE,qF,qG,qH,qI]
 refine aX (kJ gB (by decide)) rfl rfl ?_
 simp only [DV.ren,aS,↓gos,gop,qA,qB,qC,qD,qE,qF,qG,qH,qI]
 exact bJ rfl rfl rfl
theorem lI:Row 317 [] (prs gB):=by
 refine aA c317 (by simp [f317]) ?_
 simp only [f317,↓gos,gop,qA,qB,qC,qD,qE,qF,qG,qH,qI]
 refine aX (jC gB (by decide) (by decide)) rfl rfl ?_
 simp only [DV.ren,aS,↓gos,gop,qA,qB,qC,qD,qE,qF,qG,qH,qI]
 exact bJ rfl rfl rfl
def bE:List Int:=[1424,1535,1536,1791,64285,64335]
theorem jA:Row 247 [] (prs bE):=by
 refine aA c247 (by simp [f247]) ?_
 simp only [f247,↓gos,gop,qA,qB,qC,qD,qE,qF,qG,qH,qI]
 refine aX (kJ bE (by decide)) rfl rfl ?_
 simp only [DV.ren,aS,↓gos,gop,qA,qB,qC,qD,qE,qF,qG,qH,qI]
 exact bJ rfl rfl rfl
theorem dA:Row 320 [] (prs bE):=by
 refine aA c320 (by simp [f320]) ?_
 simp only [f320,↓gos,gop,qA,qB,qC,qD,qE,qF,qG,qH,qI]
 refine aX (jC bE (by decide) (by decide)) rfl rfl ?_
 simp only [DV.ren,aS,↓gos,gop,qA,qB,qC,qD,qE,qF,qG,qH,qI]
 exact bJ rfl rfl rfl
def gY:List Int:=[173,173,847,847,6150,6150,8203,8205,8288,8288,65024,65039,65279,65279]
theorem yI:Row 258 [] (prs gY):=by
 refine aA c258 (by simp [f258]) ?_
 simp only [f258,↓gos,gop,qA,qB,qC,qD,qE,qF,qG,qH,qI]
 refine aX (kJ gY (by decide)) rfl rfl ?_
 simp only [DV.ren,aS,↓gos,gop,qA,qB,qC,qD,qE,qF,qG,qH,qI]
 exact bJ rfl rfl rfl
theorem AD:Row 316 [] (prs gY):=by
 refine aA c316 (by simp [f316]) ?_
 simp only [f316,↓gos,gop,qA,qB,qC,qD,qE,qF,qG,qH,qI]
 refine aX (jC gY (by decide) (by decide)) rfl rfl ?_
 simp only [DV.ren,aS,↓gos,gop,qA,qB,qC,qD,qE,qF,qG,qH,qI]
 exact bJ rfl rfl rfl
theorem AB (a b:List UInt8)(j:Nat):D (a++b) (a.length+j)=D b j:=by
 rw [← nJ,← nJ,List.drop_append,List.drop_eq_nil_of_le (by omega),Nat.add_sub_cancel_left,List.nil_append]
theorem qZ (p:Int→Bool)(a b:List UInt8):∀ n j,b.length - j≤n→bC p (a++b) (a.length+j)=bC p b j:=fun n=>by
 have hl:(a++b).length=a.length+b.length:=List.length_append
 induction n with
 | zero=>intro j h; rw [dZ _ _ _ (by omega),dZ _ _ _ (by omega)]
 | succ n ih=>
  intro j h
  by_cases hj:j<b.length
  ·have:=eC b j hj
   rw [dT p (a++b) _ (by omega),dT p b j hj,AB,Nat.add_assoc,ih _ (by omega)]
  ·rw [dZ _ _ _ (by omega),dZ _ _ _ (by omega)]
theorem HO (a b:List UInt8):∀ n j,b.length - j≤n→jP (a++b) (a.length+j)=jP b j:=fun n=>by
 have hl:(a++b).length=a.length+b.length:=List.length_append
 induction n with
 | zero=>intro j h; rw [dG _ _ (by omega),dG _ _ (by omega)]
 | succ n ih=>
  intro j h
  by_cases hj:j<b.length
  ·have:=eC b j hj
   rw [fY (a++b) _ (by omega),fY b j hj,AB,Nat.add_assoc,ih _ (by omega)]
  ·rw [dG _ _ (by omega),dG _ _ (by omega)]
def en (c:Int):List UInt8:=(Utf8.encode c).data.toList
theorem mQ {c:Nat}(h:okC c):en c=if c<128 then [UInt8.ofNat c] else if c<2048 then [UInt8.ofNat (192+c / 64),UInt8.ofNat (128+c % 64)] else if c<65536 then [UInt8.ofNat (224+c / 4096),UInt8.ofNat (128+c / 64 % 64),UInt8.ofNat (128+c % 64)] else [UInt8.ofNat (240+c / 262144),UInt8.ofNat (128+c / 4096 % 64),UInt8.ofNat (128+c / 64 % 64),UInt8.ofNat (128+c % 64)]:=by
 unfold en Utf8.encode
 rw [if_pos ((xV c).2 h)]
 simp only [Int.toNat_natCast]
 split
 ·rfl
 ·split
  ·rfl
  ·split <;> rfl
theorem cW (n:Nat)(h:n<256):(UInt8.ofNat n).toNat=n:=by simp; omega
theorem aGN (c:Nat)(h:okC c)(t:List UInt8):D (en c++t) 0=(c,(en c).length):=by
 have ho:=h
 unfold okC at ho
 rw [mQ h]
 split
 ·rename_i h1
  have b0:by_ ([UInt8.ofNat c]++t) 0=c:=cW c (by omega)
  rw [D1 (by rw [b0]; exact h1),b0]; rfl
 split
 ·rename_i h1 h2
  have b0:by_ ([UInt8.ofNat (192+c / 64),UInt8.ofNat (128+c % 64)]++t) 0=192+c / 64:=cW _ (by omega)
  have b1:by_ ([UInt8.ofNat (192+c / 64),UInt8.ofNat (128+c % 64)]++t) (0+1)=128+c % 64:=cW _ (by omega)
  rw [D2 (by rw [b0]; omega),b0,b1,if_pos ⟨by simp,by omega⟩,if_pos (by omega)]
  exact Prod.ext (by simp only; omega) rfl
 split
 ·rename_i h1 h2 h3
  have b0:by_ ([UInt8.ofNat (224+c / 4096),UInt8.ofNat (128+c / 64 % 64),UInt8.ofNat (128+c % 64)]++t) 0=224+c / 4096:=cW _ (by omega)
  have b1:by_ ([UInt8.ofNat (224+c / 4096),UInt8.ofNat (128+c / 64 % 64),UInt8.ofNat (128+c % 64)]++t) (0+1)=128+c / 64 % 64:=cW _ (by omega)
  have b2:by_ ([UInt8.ofNat (224+c / 4096),UInt8.ofNat (128+c / 64 % 64),UInt8.ofNat (128+c % 64)]++t) (0+2)=128+c % 64:=cW _ (by omega)
  have e:(224+c / 4096) % 16*4096+(128+c / 64 % 64) % 64*64+(128+c % 64) % 64=c:=by omega
  rw [D3 (by rw [b0]; omega),b0,b1,b2,if_pos ⟨⟨by simp,by omega⟩,by simp,by omega⟩,e,if_pos ⟨by omega,h⟩]
  rfl
 ·rename_i h1 h2 h3
  have b0:by_ ([UInt8.ofNat (240+c / 262144),UInt8.ofNat (128+c / 4096 % 64),UInt8.ofNat (128+c / 64 % 64),UInt8.ofNat (128+c % 64)]++t) 0=240+c / 262144:=cW _ (by omega)
  have b1:by_ ([UInt8.ofNat (240+c / 262144),UInt8.ofNat (128+c / 4096 % 64),UInt8.ofNat (128+c / 64 % 64),UInt8.ofNat (128+c % 64)]++t) (0+1)=128+c / 4096 % 64:=cW _ (by omega)
  have b2:by_ ([UInt8.ofNat (240+c / 262144),UInt8.ofNat (128+c / 4096 % 64),UInt8.ofNat (128+c / 64 % 64),UInt8.ofNat (128+c % 64)]++t) (0+2)=128+c / 64 % 64:=cW _ (by omega)
  have b3:by_ ([UInt8.ofNat (240+c / 262144),UInt8.ofNat (128+c / 4096 % 64),UInt8.ofNat (128+c / 64 % 64),UInt8.ofNat (128+c % 64)]++t) (0+3)=128+c % 64:=cW _ (by omega)
  have e:(240+c / 262144) % 8*262144+(128+c / 4096 % 64) % 64*4096+(128+c / 64 % 64) % 64*64+(128+c % 64) % 64=c:=by omega
  rw [D4 (by rw [b0]; omega),b0,b1,b2,b3,if_pos ⟨⟨by simp,by omega⟩,⟨by simp,by omega⟩,by simp,by omega⟩,e,if_pos ⟨by omega,h⟩]
  rfl
theorem yS {c:Nat}(h:okC c):1≤(en c).length∧(en c).length≤4∧(2≤(en c).length↔128≤c):=by
 rw [mQ h]
 split
 ·simp; omega
 split
 ·simp; omega
 split
 ·simp; omega
 ·simp; omega
theorem XQ {c:Nat}(h:okC c)(t:List UInt8):D (en c++t) 0≠(65533,1):=by
 rw [aGN c h t]
 intro q
 obtain ⟨q1,q2⟩:=Prod.mk.inj q
 have:=(yS h).2.2
 omega
theorem aHt (p:Int→Bool){c:Nat}(h:okC c)(t:List UInt8):bC p (en c++t) 0=(p c&&bC p t 0):=by
 have:=yS h
 rw [dT p _ 0 (by simp; omega),if_neg (XQ h t),aGN c h t,Nat.zero_add]
 have:=qZ p (en c) t _ 0 (Nat.le_refl _)
 rw [Nat.add_zero] at this
 rw [this]
theorem aIx {c:Nat}(h:okC c)(t:List UInt8):jP (en c++t) 0=(c:Int)::jP t 0:=by
 have:=yS h
 rw [fY _ 0 (by simp; omega),aGN c h t,Nat.zero_add]
 have:=HO (en c) t _ 0 (Nat.le_refl _)
 rw [Nat.add_zero] at this
 rw [this]
theorem zY (p:Int→Bool)(t:List UInt8):∀ cs:List Nat,(∀ c∈cs,okC c)→bC p (cs.flatMap (fun c:Nat=>en c)++t) 0=(cs.all (fun c:Nat=>p c)&&bC p t 0)
 | [],_=>by simp
 | c::cs,h=>by
  rw [List.flatMap_cons,List.append_assoc,aHt p (h c (by simp)),zY p t cs (fun x hx=>h x (by simp [hx])),List.all_cons,Bool.and_assoc]
theorem zN (t:List UInt8):∀ cs:List Nat,(∀ c∈cs,okC c)→jP (cs.flatMap (fun c:Nat=>en c)++t) 0=cs.map (fun c:Nat=>(c:Int))++jP t 0
 | [],_=>by simp
 | c::cs,h=>by
  rw [List.flatMap_cons,List.append_assoc,aIx (h c (by simp)),zN t cs (fun x hx=>h x (by simp [hx])),List.map_cons,List.cons_append]
theorem JU (p:Int→Bool):bC p [] 0=true:=rfl
theorem HW:jP [] 0=[]:=rfl
theorem pM (c:Int):cU c=(bQ c&&decide (32≤c)):=by
 unfold bQ cU
 rw [Bool.eq_iff_iff]
 simp only [Bool.or_eq_true,Bool.and_eq_true,decide_eq_true_eq]
 omega
theorem aAo (p q:Int→Bool)(s:List UInt8):∀ n i,s.length - i≤n→bC (fun c=>p c&&q c) s i=(bC p s i&&(jP s i).all q):=fun n=>by
 induction n with
 | zero=>intro i h; rw [dZ _ _ _ (by omega),dZ _ _ _ (by omega),dG _ _ (by omega)]; rfl
 | succ n ih=>
  intro i h
  by_cases hi:i<s.length
  ·have:=eC s i hi
   rw [dT _ s i hi,dT p s i hi,fY s i hi]
   by_cases hb:D s i=(65533,1)
   ·rw [if_pos hb,if_pos hb]; rfl
   ·rw [if_neg hb,if_neg hb,ih _ (by omega),List.all_cons]
    cases p (D s i).1 <;> cases q (D s i).1 <;> cases bC p s (i+(D s i).2) <;> rfl
  ·rw [dZ _ _ _ hi,dZ _ _ _ hi,dG _ _ hi]; rfl
theorem pU (s:List UInt8):bC cU s 0=(bC bQ s 0&&(rs s).all (fun c=>decide (32≤c))):=by
 rw [show cU=fun c=>bQ c&&decide (32≤c) from funext pM,aAo _ _ s _ 0 (Nat.le_refl _)]
 unfold rs
 cases bC bQ s 0 <;> rfl
abbrev aU (f:Nat)(args:List DV)(D:DV):Prop:=ACalls ED f [] args fun h d=>h=[]∧d=D
theorem yQ (s:List UInt8)(hs:s.length<100000000000):aU 64 [.str s] (.bool (bC bQ s 0)):=by
 have:=KC rfl vED s (by omega)
 rw [iY] at this
 exact this
theorem rO:∀ s:List UInt8,(∀ b∈s,b.toNat<128)→s=(s.map (·.toNat)).flatMap (fun c:Nat=>en c)
 | [],_=>rfl
 | b::s,h=>by
  have hb:=h b (by simp)
  rw [List.map_cons,List.flatMap_cons,← rO s (fun x hx=>h x (by simp [hx])),mQ (by unfold okC; omega),if_pos hb]
  simp
theorem pN (p:Int→Bool)(s:List UInt8)(h:∀ b∈s,b.toNat<128):bC p s 0=s.all (fun b=>p b.toNat)∧jP s 0=s.map (fun b=>(b.toNat:Int)):=by
 have e:=rO s h
 have ho:∀ c∈s.map (·.toNat),okC c:=fun c hc=>by
  obtain ⟨b,hb,rfl⟩:=List.mem_map.1 hc
  have:=h b hb
  unfold okC; omega
 constructor
 ·conv=>lhs; rw [e]
  have:=zY p [] _ ho
  rw [List.append_nil,JU,Bool.and_true] at this
  rw [this,List.all_map]; rfl
 ·conv=>lhs; rw [e]
  have:=zN [] _ ho
  rw [List.append_nil,HW,List.append_nil] at this
  rw [this,List.map_map]; rfl
theorem UD (s:List UInt8)(h:∀ b∈s,b.toNat<128)(hm:s.all (fun b=>bQ b.toNat)=true):rs s=s.map (fun b=>(b.toNat:Int)):=by
 unfold rs
 rw [(pN bQ s h).1,hm,(pN bQ s h).2]; rfl
theorem DZ (s:List UInt8):(rs s).length≤s.length:=by
 unfold rs; split
 ·exact mB s _ 0
 ·simp
theorem aGf {h:List AObj}{i n:Nat}{l:List Int}{c:Option Nat}(hi:h[i]?=some (.arr 1 (l.map num)))(hn:n=l.length):DV.dn [] h (.osl 1 i 0 n c)=.sl 1 (l.map num):=iQ hi (by simpa using hn)
def inR (L:List Int)(c:Int):Bool:=(prs L).any (fQ · c)
theorem gX {h:List AObj}{i n:Nat}{l:List (Int×Int)}{c:Option Nat}(hi:h[i]?=some (.arr 2 (l.map rg)))(hn:n=l.length):DV.dn [] h (.osl 2 i 0 n c)=.sl 2 (l.map rg):=iQ hi (by simpa using hn)
theorem cO (l:List (Int×Int)):((DV.osl 2 0 0 l.length none).free&&[AObj.arr 2 (l.map rg)].all iP)=true:=by simp [DV.free,iP,rg]
abbrev NR (f:Nat)(args:List DV)(L:List Int):Prop:=aGc ED f args L
def eQ (c:Int):List Int:=if inR gY c then [] else [c]
theorem VS (c:Int):NR 206 [.int .i64 c] (eQ c):=by
 refine aA c206 (by simp [f206]) ?_
 simp only [f206,↓gos,gop,qA,qB,qC,qD,qE,qF,qG,qH,qI]
 refine aX yI rfl (cO _) ?_
 simp only [DV.ren,aS,↓gos,gop,qA,qB,qC,qD,qE,qF,qG,qH,qI]
 refine aB (jM (prs gY) c (by decide)) (by rw [List.map_cons,gX (i:=1) rfl rfl]; rfl) rfl ?_
 unfold eQ
 cases hg:inR gY c
 ·unfold inR at hg
  rw [hg]
  simp only [↓gos,gop,qA,qB,qC,qD,qE,qF,qG,qH,qI]
  exact bJ rfl rfl rfl
 ·unfold inR at hg
  rw [hg]
  simp only [↓gos,gop,qA,qB,qC,qD,qE,qF,qG,qH,qI]
  exact bJ rfl rfl rfl
def ZI (c:Int):Bool:=(decide (65≤c)&&decide (c≤90))||(decide (192≤c)&&decide (c≤222) && !decide (c=215))
def bR (c:Int):List Int:=if ZI c then [c+32] else if c=223 then [115,115] else eQ c
theorem dE (c:Int):ZI c=true↔(65≤c∧c≤90)∨(192≤c∧c≤222∧c≠215):=by
 unfold ZI
 simp only [Bool.or_eq_true,Bool.and_eq_true,decide_eq_true_eq,Bool.not_eq_true',decide_eq_false_iff_not]
 omega
theorem aHi {c v:Int}(hv:v=IntKind.i64.wrap (c+32))(hc:(65≤c∧c≤90)∨(192≤c∧c≤222∧c≠215)):eK 0 (fun h d=>h=[.arr 1 ((bR c).map num)]∧d=.osl 1 0 0 (bR c).length none) (some [.osl 1 1 0 1 none]) [.arr 1 [],.arr 1 [[.int .i64 v]]]:=by
 unfold bR
 rw [if_pos ((dE c).2 hc)]
 rw [wrap_i64 (by omega) (by omega)] at hv
 subst hv
 exact bJ rfl rfl rfl
theorem aEZ {c:Int}(hc:¬ ((65≤c∧c≤90)∨(192≤c∧c≤222∧c≠215)))(h2:c=223):eK 0 (fun h d=>h=[.arr 1 ((bR c).map num)]∧d=.osl 1 0 0 (bR c).length none) (some [.osl 1 1 0 2 none]) [.arr 1 [],.arr 1 [[.int .i64 115],[.int .i64 115]]]:=by
 unfold bR
 rw [if_neg (fun q=>hc ((dE c).1 q)),if_pos h2]
 exact bJ rfl rfl rfl
theorem yY {c:Int}(hc:¬ ((65≤c∧c≤90)∨(192≤c∧c≤222∧c≠215)))(h2:¬ c=223):bR c=eQ c:=by
 unfold bR
 rw [if_neg (fun q=>hc ((dE c).1 q)),if_neg h2]
theorem KF (c:Int):NR 202 [.int .i64 c] (bR c):=by
  refine aA c202 (by simp [f202]) ?_
  simp only [f202,↓gos,gop,qA,qB,qC,qD,qE,qF,qG,qH,qI]
  repeat' (first | refine And.intro ?_ ?_ | intro _)
  all_goals first
    | exact aHi ‹_› (by omega)
    | exact aEZ (by omega) (by omega)
    | (refine aX (VS c) rfl (fG _) ?_
       simp only [DV.ren,aS,↓gos,gop,qA,qB,qC,qD,qE,qF,qG,qH,qI]
       rw [yY (by omega) (by omega)]
       exact bJ rfl rfl rfl)
def nN (c:Int):Bool:=inR gB c
theorem BA (c:Int):Ret 204 [.int .i64 c] (.bool (nN c)):=by
 refine aA c204 (by simp [f204]) ?_
 simp only [f204,↓gos,gop,qA,qB,qC,qD,qE,qF,qG,qH,qI]
 refine aX tO rfl (cO _) ?_
 simp only [DV.ren,aS,↓gos,gop,qA,qB,qC,qD,qE,qF,qG,qH,qI]
 refine aB (jM (prs gB) c (by decide)) (by rw [List.map_cons,gX (i:=0) rfl rfl]; rfl) rfl ?_
 simp only [↓gos,gop,qA,qB,qC,qD,qE,qF,qG,qH,qI]
 exact aG rfl
def eG (c:Int):Bool:=inR bE c
def pW (c:Int):Bool:=inR cB c
theorem HJ (c:Int):Ret 296 [.int .i64 c] (.bool (eG c)):=by
 refine aA c296 (by simp [f296]) ?_
 simp only [f296,↓gos,gop,qA,qB,qC,qD,qE,qF,qG,qH,qI]
 refine aX jA rfl (cO _) ?_
 simp only [DV.ren,aS,↓gos,gop,qA,qB,qC,qD,qE,qF,qG,qH,qI]
 refine aB (jM (prs bE) c (by decide)) (by rw [List.map_cons,gX (i:=0) rfl rfl]; rfl) rfl ?_
 simp only [↓gos,gop,qA,qB,qC,qD,qE,qF,qG,qH,qI]
 exact aG rfl
theorem RH (c:Int):Ret 297 [.int .i64 c] (.bool (pW c)):=by
 refine aA c297 (by simp [f297]) ?_
 simp only [f297,↓gos,gop,qA,qB,qC,qD,qE,qF,qG,qH,qI]
 refine aX kQ rfl (cO _) ?_
 simp only [DV.ren,aS,↓gos,gop,qA,qB,qC,qD,qE,qF,qG,qH,qI]
 refine aB (jM (prs cB) c (by decide)) (by rw [List.map_cons,gX (i:=0) rfl rfl]; rfl) rfl ?_
 simp only [↓gos,gop,qA,qB,qC,qD,qE,qF,qG,qH,qI]
 exact aG rfl
theorem aKp (c:Int):Ret 207 [.int .i64 c] (.bool (!nN c)):=by
 refine aA c207 (by simp [f207]) ?_
 simp only [f207,↓gos,gop,qA,qB,qC,qD,qE,qF,qG,qH,qI]
 refine aB (BA c) rfl rfl ?_
 cases h:nN c
 ·simp only [↓gos,gop,qA,qB,qC,qD,qE,qF,qG,qH,qI]
  exact aG rfl
 ·simp only [↓gos,gop,qA,qB,qC,qD,qE,qF,qG,qH,qI]
  exact aG rfl
theorem ZA (l:List Int)(c:Int)(hl:l.length<1000000000000):ACalls ED 257 [] [.sl 1 (l.map num),.int .i64 c] fun h d=>h=[]∧∃ n:Int,d=.int .i64 n∧(0≤n↔l.contains c=true):=by
 refine aA c257 (by simp [f257]) ?_
 simp only [f257,↓gos,gop,qA,qB,qC,qD,qE,qF,qG,qH,qI]
 refine aJ (γ:=Nat) (fun i=>[(0,.sl 1 (l.map num)),(1,.int .i64 c),(7,.int .i64 l.length),(8,.int .i64 i)]) (fun _=>[]) (fun i=>i≤l.length∧∀ j,j<i→l.getD j 0≠c) (fun i=>l.length - i) 0
  (wks rfl (Nat.zero_le _) ⟨rfl,rfl,rfl,rfl,trivial⟩) (by simp) fun i hi=>?_
 obtain ⟨hi,hp⟩:=hi
 simp only [f257l0,num,↓gos,gop,qA,qB,qC,qD,qE,qF,qG,qH,qI]
 refine ⟨fun h1=>aL 0 (by omega) ⟨fun h2=>aD rfl ⟨rfl,_,rfl,?_⟩,fun h2 v hv=>?_⟩,fun h1=>aD rfl ⟨rfl,_,rfl,?_⟩⟩
 ·refine ⟨fun _=>?_,fun _=>by omega⟩
  rw [List.contains_iff_mem,h2]
  simp [show i<l.length by omega]
 ·rw [wrap_i64 (by omega) (by omega)] at hv
  refine aN (i+1) rfl (Nat.zero_le _) ⟨rfl,rfl,rfl,by show DV.int .i64 v=_; rw [hv]; rfl,trivial⟩ ⟨by omega,fun j hj=>?_⟩ (by omega)
  by_cases hji:j=i
  ·subst hji; exact fun q=>h2 q.symm
  ·exact hp j (by omega)
 ·refine ⟨fun h=>by omega,fun h=>?_⟩
  rw [List.contains_iff_mem] at h
  obtain ⟨j,hj,rfl⟩:=List.getElem_of_mem h
  have:=hp j (by omega)
  simp [hj] at this
theorem FY (l:List Int)(c:Int)(hl:l.length<1000000000000):Ret 205 [.sl 1 (l.map num),.int .i64 c] (.bool (l.contains c)):=by
 refine aA c205 (by simp [f205]) ?_
 simp only [f205,↓gos,gop,qA,qB,qC,qD,qE,qF,qG,qH,qI]
 refine kZ (ZA l c hl) rfl ?_ fun d hd=>?_
 ·cases hc:l.contains c
  ·exact ⟨_,-1,rfl,by omega,fun h=>by cases h⟩
  ·exact ⟨_,0,rfl,fun _=>rfl,by omega⟩
 ·obtain ⟨n,rfl,hn⟩:=hd
  refine ⟨rfl,?_⟩
  simp only [↓gos,gop,qA,qB,qC,qD,qE,qF,qG,qH,qI]
  refine ⟨fun h=>aG ?_,fun h=>aG ?_⟩
  ·rw [hn.1 h]
  ·cases hc:l.contains c
   ·rfl
   ·exact absurd (hn.2 hc) h
def signs:List Int:=[32,34,38,39,47,58,60,62,64]
def lT (c:Int):Bool := !nN c && !signs.contains c
theorem aFB (c:Int):Ret 203 [.int .i64 c] (.bool (lT c)):=by
 refine aA c203 (by simp [f203]) ?_
 simp only [f203,↓gos,gop,qA,qB,qC,qD,qE,qF,qG,qH,qI]
 refine aB (BA c) rfl rfl ?_
 unfold lT
 cases h:nN c
 ·simp only [↓gos,gop,qA,qB,qC,qD,qE,qF,qG,qH,qI]
  refine aB (FY signs c (by decide)) rfl rfl ?_
  cases h2:signs.contains c
  ·simp only [↓gos,gop,qA,qB,qC,qD,qE,qF,qG,qH,qI]
   exact aG rfl
  ·simp only [↓gos,gop,qA,qB,qC,qD,qE,qF,qG,qH,qI]
   exact aG rfl
 ·simp only [↓gos,gop,qA,qB,qC,qD,qE,qF,qG,qH,qI]
  exact aG rfl
def kV (c:Int):Bool:=(decide (48≤c)&&decide (c≤57))||decide (c=45)||decide (c=46)||pW c||eG c
theorem aFC (c:Int):Ret 244 [.int .i64 c] (.bool (kV c)):=by
  refine aA c244 (by simp [f244]) ?_
  simp only [f244,↓gos,gop,qA,qB,qC,qD,qE,qF,qG,qH,qI]
  unfold kV
  repeat' (first | refine And.intro ?_ ?_ | intro _)
  all_goals first
    | (refine aG ?_; simp [*]; done)
    | (refine aX kQ rfl (cO _) ?_
       simp only [DV.ren,aS,↓gos,gop,qA,qB,qC,qD,qE,qF,qG,qH,qI]
       refine aB (jM (prs cB) c (by decide)) (by rw [List.map_cons,gX (i:=0) rfl rfl]; rfl) rfl ?_
       rw [show ((prs cB).any fun x=>fQ x c)=pW c from rfl]
       cases h1:pW c
       · simp only [↓gos,gop,qA,qB,qC,qD,qE,qF,qG,qH,qI]
         refine aX jA rfl (cO _) ?_
         simp only [DV.ren,aS,↓gos,gop,qA,qB,qC,qD,qE,qF,qG,qH,qI]
         refine aB (jM (prs bE) c (by decide)) (by rw [List.map_cons,gX (i:=1) rfl rfl]; rfl) rfl ?_
         rw [show ((prs bE).any fun x=>fQ x c)=eG c from rfl]
         cases h2:eG c
         · simp only [↓gos,gop,qA,qB,qC,qD,qE,qF,qG,qH,qI]
           refine aG ?_
           simp [*]
         · simp only [↓gos,gop,qA,qB,qC,qD,qE,qF,qG,qH,qI]
           refine aG ?_
           simp [*]
       · simp only [↓gos,gop,qA,qB,qC,qD,qE,qF,qG,qH,qI]
         refine aG ?_
         simp [*])
end Go.Proofs.Ut
