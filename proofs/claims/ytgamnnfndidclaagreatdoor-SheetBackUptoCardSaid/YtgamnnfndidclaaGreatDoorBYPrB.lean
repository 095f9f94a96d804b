/- Ranges, at the Door program (written by wip/tools/prnum.py out of RgA, RgB). -/
import Derived.Test.YtgamnnfndidclaaGreatDoorBYFoUtD
import Derived.Test.YtgamnnfndidclaaGreatDoorBYFoUtF
open Nat renaming reduceBEq → qA,reduceAdd → qB,reduceSub → qC,reduceLeDiff → qD,reduceMul → qE
open Int renaming reduceLE → qF,reduceLT → qG,reduceNe → qH,reduceToNat → qI
set_option linter.all false
namespace Go.Proofs.Ut
open Go.Ai Classical
set_option linter.unusedSimpArgs false
set_option maxHeartbeats 1000000
set_option maxRecDepth 100000
def rg (r:Int×Int):List DV:=[.int .i64 r.1,.int .i64 r.2]
abbrev Ret (f:Nat)(args:List DV)(D:DV):Prop:=ACalls ED f [] args fun h d=>h=[]∧d=D
abbrev Row (f:Nat)(args:List DV)(L:List (Int×Int)):Prop:=ACalls ED f [] args fun h d=>h=[.arr 2 (L.map rg)]∧d=.osl 2 0 0 L.length none
def hasB (r:Int×Int)(c:Int):Bool:=decide (r.1≤c)&&decide (c≤r.2)
theorem has_calls (r:Int×Int)(c:Int):Ret 291 [.agg (rg r),.int .i64 c] (.bool (hasB r c)):=by
 refine acalls_go c291 (by simp [f291]) ?_
 simp only [f291,rg,↓gos,gop,qA,qB,qC,qD,qE,qF,qG,qH,qI]
 exact ⟨fun h1=>⟨fun h2=>endb (by simp [h1,h2,hasB]),fun h2=>endb (by simp [h1,h2,hasB])⟩,fun h1=>endb (by simp [h1,hasB])⟩
theorem found_calls (l:List (Int×Int))(c:Int)(hl:l.length<1000000000000):Ret 290 [.sl 2 (l.map rg),.int .i64 c,.fn 291 []] (.bool (l.any (hasB · c))):=by
 refine acalls_go c290 (by simp [f290]) ?_
 simp only [f290,rg,↓gos,gop,qA,qB,qC,qD,qE,qF,qG,qH,qI]
 refine goN_lp (γ:=Nat) (fun i=>[(1,.int .i64 c),(2,.fn 291 []),(9,.sl 2 (l.map rg)),(10,.int .i64 l.length),(11,.int .i64 i)]) (fun _=>[]) (fun i=>i≤l.length∧∀ j,j<i→hasB (l.getD j (0,0)) c=false) (fun i=>l.length - i) 0 (wks rfl (Nat.le_refl _) ⟨rfl,rfl,rfl,rfl,rfl,trivial⟩) (by simp) fun i hi=>?_
 simp only [f290l0,rg,↓gos,gop,qA,qB,qC,qD,qE,qF,qG,qH,qI]
 obtain ⟨hi,hP⟩:=hi
 refine ⟨fun h1=>optP_at (0,0) (by omega) (call_ret (has_calls _ c) rfl rfl ?_),fun h1=>endb ?_⟩
 ·cases hb:hasB (l.getD i (0,0)) c
  ·simp only [↓gos,gop,qA,qB,qC,qD,qE,qF,qG,qH,qI]
   intro v hv
   rw [wrap_i64 (by omega) (by omega)] at hv
   refine rnd_d 0 (i+1) rfl (Nat.le_refl _) ⟨rfl,rfl,rfl,rfl,rfl,rfl,rfl,rfl,by simp [hv,slots],rfl,trivial⟩ rfl ⟨by omega,fun j hj=>?_⟩ (by omega)
   by_cases hji:j=i
   ·subst hji; exact hb
   ·exact hP j (by omega)
  ·simp only [↓gos,gop,qA,qB,qC,qD,qE,qF,qG,qH,qI]
   refine endb ?_
   symm
   rw [List.any_eq_true]
   exact ⟨l.getD i (0,0),by simp [show i<l.length by omega],hb⟩
 ·symm
  rw [List.any_eq_false]
  intro x hx
  obtain ⟨j,hj,rfl⟩:=List.getElem_of_mem hx
  have:=hP j (by omega)
  simpa [hj] using this
theorem in_calls (l:List (Int×Int))(c:Int)(hl:l.length<1000000000000):Ret 245 [.sl 2 (l.map rg),.int .i64 c] (.bool (l.any (hasB · c))):=by
 refine acalls_go c245 (by simp [f245]) ?_
 simp only [f245,↓gos,gop,qA,qB,qC,qD,qE,qF,qG,qH,qI]
 refine call_ret (found_calls l c hl) rfl rfl ?_
 simp only [↓gos,gop,qA,qB,qC,qD,qE,qF,qG,qH,qI]
 exact endb rfl
theorem in2_calls (l:List (Int×Int))(c:Int)(hl:l.length<1000000000000):Ret 315 [.sl 2 (l.map rg),.int .i64 c] (.bool (l.any (hasB · c))):=by
 refine acalls_go c315 (by simp [f315]) ?_
 simp only [f315,↓gos,gop,qA,qB,qC,qD,qE,qF,qG,qH,qI]
 refine goN_lp (γ:=Nat) (fun i=>[(0,.sl 2 (l.map rg)),(1,.int .i64 c),(5,.int .i64 i)]) (fun _=>[]) (fun i=>i≤l.length∧∀ j,j<i→hasB (l.getD j (0,0)) c=false) (fun i=>l.length - i) 0 (wks rfl (Nat.le_refl _) ⟨rfl,rfl,rfl,trivial⟩) (by simp) fun i hi=>?_
 simp only [f315l0,rg,↓gos,gop,qA,qB,qC,qD,qE,qF,qG,qH,qI]
 obtain ⟨hi,hP⟩:=hi
 refine ⟨fun h1=>optP_at (0,0) (by omega) ⟨fun h2=>optP_at (0,0) (by omega) ⟨fun h3=>endb ?_,fun h3 v hv=>?_⟩,fun h2 v hv=>?_⟩,fun h1=>endb ?_⟩
 ·symm
  rw [List.any_eq_true]
  exact ⟨l.getD i (0,0),by simp [show i<l.length by omega],by unfold hasB; rw [decide_eq_true h2,decide_eq_true h3]; rfl⟩
 ·rw [wrap_i64 (by omega) (by omega)] at hv
  refine rnd_s (i+1) rfl (Nat.le_refl _) ⟨rfl,rfl,by simp [hv,slots],trivial⟩ ⟨by omega,fun j hj=>?_⟩ (by omega)
  by_cases hji:j=i
  ·subst hji; simp only [hasB,h3,decide_false,Bool.and_false]
  ·exact hP j (by omega)
 ·rw [wrap_i64 (by omega) (by omega)] at hv
  refine rnd_s (i+1) rfl (Nat.le_refl _) ⟨rfl,rfl,by simp [hv,slots],trivial⟩ ⟨by omega,fun j hj=>?_⟩ (by omega)
  by_cases hji:j=i
  ·subst hji; simp only [hasB,h2,decide_false,Bool.false_and]
  ·exact hP j (by omega)
 ·symm
  rw [List.any_eq_false]
  intro x hx
  obtain ⟨j,hj,rfl⟩:=List.getElem_of_mem hx
  have:=hP j (by omega)
  simpa [hj] using this
theorem pair_calls (a b:Int):Ret 324 [.int .i64 a,.int .i64 b] (.agg (rg (a,b))):=by
 refine acalls_go c324 (by simp [f324]) ?_
 simp only [f324,rg,↓gos,gop,qA,qB,qC,qD,qE,qF,qG,qH,qI]
 exact end1 rfl rfl
def prs:List Int→List (Int×Int)
 | a::b::l=>(a,b)::prs l
 | _=>[]
theorem pairs_calls (l:List Int)(hl:l.length<10000):Row 323 [.agg [.sl 1 (l.map num)],.fn 324 []] (prs l):=by
 refine acalls_go c323 (by simp [f323]) ?_
 simp only [f323,↓gos,gop,qA,qB,qC,qD,qE,qF,qG,qH,qI]
 refine goN_lp (γ:=List (Int×Int)×List Int) (fun g=>[(1,.fn 324 []),(5,.osl 2 2 0 g.1.length none),(6,.sl 1 (g.2.map num))]) (fun g=>[.box [.sl 1 (l.map num)],.arr 2 [],.arr 2 (g.1.map rg)]) (fun g=>g.1++prs g.2=prs l∧g.1.length+g.2.length≤l.length) (fun g=>g.2.length) ([],l) (wks rfl (Nat.zero_le _) ⟨rfl,rfl,rfl,trivial⟩) (by simp) fun g hg=>?_
 obtain ⟨acc,rest⟩:=g
 obtain ⟨hg,hlen⟩:=hg
 rcases rest with _|⟨a,_|⟨b,r⟩⟩
 ·simp only [f323l0,num,↓gos,gop,qA,qB,qC,qD,qE,qF,qG,qH,qI]
  exact end_row rfl (by simpa [prs] using congrArg (List.map rg) hg) (by simpa [prs] using congrArg List.length hg)
 ·simp only [f323l0,num,↓gos,gop,qA,qB,qC,qD,qE,qF,qG,qH,qI]
  exact end_row rfl (by simpa [prs] using congrArg (List.map rg) hg) (by simpa [prs] using congrArg List.length hg)
 ·simp only [f323l0,num,↓gos,gop,qA,qB,qC,qD,qE,qF,qG,qH,qI]
  refine ⟨fun _=>call_ret (pair_calls a b) rfl rfl ?_,fun h=>by omega⟩
  simp only [rg,↓gos,gop,qA,qB,qC,qD,qE,qF,qG,qH,qI]
  have hd:acc.length+(r.length+2)≤l.length:=by simpa using hlen
  refine ⟨by omega,by omega,by omega,?_⟩
  refine rnd_d 3 (acc++[(a,b)],r) ?_ (Nat.zero_le _) ⟨rfl,rfl,?_,rfl,?_,rfl,trivial⟩ rfl ⟨?_,?_⟩ (by simp; omega)
  ·simp [rg,num]
  ·simp [slots]
  ·have e:List.take (r.length+1+1 - 2) (r.map num)=r.map num:=List.take_of_length_le (by simp)
   rw [e]; rfl
  ·simpa [prs] using hg
  ·simp; omega
theorem made_calls (l:List Int)(hl:l.length<10000):Row 292 [.sl 1 (l.map num)] (prs l):=by
 refine acalls_go c292 (by simp [f292]) ?_
 simp only [f292,↓gos,gop,qA,qB,qC,qD,qE,qF,qG,qH,qI]
 refine call_new (pairs_calls l hl) (by simp [DV.closed,DV.closed.closedAll]) ?_
 simp only [DV.ren,renO,↓gos,gop,qA,qB,qC,qD,qE,qF,qG,qH,qI]
 exact end_row rfl rfl rfl
theorem table_calls (l:List Int)(hl:l.length<10000)(he:l.length % 2=0):Row 337 [.sl 1 (l.map num)] (prs l):=by
 refine acalls_go c337 (by simp [f337]) ?_
 simp only [f337,↓gos,gop,qA,qB,qC,qD,qE,qF,qG,qH,qI]
 refine goN_lp (γ:=List (Int×Int)×Nat) (fun g=>[(0,.sl 1 (l.map num)),(3,.osl 2 1 0 g.1.length none),(4,.int .i64 (g.2:Nat))]) (fun g=>[.arr 2 [],.arr 2 (g.1.map rg)]) (fun g=>g.1++prs (l.drop g.2)=prs l∧g.2≤l.length∧g.2 % 2=0∧g.1.length≤g.2) (fun g=>l.length - g.2) ([],0) (wks rfl (Nat.zero_le _) ⟨rfl,rfl,rfl,trivial⟩) (by simp) fun g hg=>?_
 simp only [f337l0,num,rg,↓gos,gop,qA,qB,qC,qD,qE,qF,qG,qH,qI]
 obtain ⟨acc,k⟩:=g
 obtain ⟨hg,hk,hm,hlen⟩:=hg
 simp only at hg hk hm hlen ⊢
 refine ⟨fun h1=>optP_at 0 (by omega) fun v hv=>⟨?_,optP_at 0 ?_ ⟨by omega,by omega,fun v2 hv2=>?_⟩⟩,fun h1=>?_⟩
 ·rw [wrap_i64 (by omega) (by omega)] at hv; omega
 ·rw [wrap_i64 (by omega) (by omega)] at hv; omega
 ·rw [wrap_i64 (by omega) (by omega)] at hv hv2
  have e1:v.toNat=k+1:=by omega
  rw [e1]
  have hdr:l.drop k=l.getD k 0::l.getD (k+1) 0::l.drop (k+2):=by
   have h2:k<l.length:=by omega
   have h3:k+1<l.length:=by omega
   rw [List.drop_eq_getElem_cons h2,List.drop_eq_getElem_cons h3]
   simp [h2,h3]
  refine rnd_d 2 (acc++[(l.getD k 0,l.getD (k+1) 0)],k+2) ?_ (Nat.zero_le _) ⟨rfl,rfl,?_,rfl,?_,rfl,trivial⟩ rfl ⟨?_,?_⟩ (by simp; omega)
  ·simp [rg]
  ·simp [slots]
  ·simp [slots,hv2]
  ·rw [hdr] at hg
   simpa [prs] using hg
  ·simp; omega
 ·have:l.drop k=[]:=by simp; omega
  rw [this] at hg
  exact end_row rfl (by simpa [prs] using congrArg (List.map rg) hg) (by simpa [prs] using congrArg List.length hg)
def lettersL:List Int:=[65,90,97,122,192,214,216,246,248,591,880,1327,19968,40959]
theorem letters51_calls:Row 246 [] (prs lettersL):=by
 refine acalls_go c246 (by simp [f246]) ?_
 simp only [f246,↓gos,gop,qA,qB,qC,qD,qE,qF,qG,qH,qI]
 refine call_lend (made_calls lettersL (by decide)) rfl rfl ?_
 simp only [DV.ren,renO,↓gos,gop,qA,qB,qC,qD,qE,qF,qG,qH,qI]
 exact end_row rfl rfl rfl
theorem letters100_calls:Row 319 [] (prs lettersL):=by
 refine acalls_go c319 (by simp [f319]) ?_
 simp only [f319,↓gos,gop,qA,qB,qC,qD,qE,qF,qG,qH,qI]
 refine call_lend (table_calls lettersL (by decide) (by decide)) rfl rfl ?_
 simp only [DV.ren,renO,↓gos,gop,qA,qB,qC,qD,qE,qF,qG,qH,qI]
 exact end_row rfl rfl rfl
def bannedL:List Int:=[0,31,127,160,5760,5760,8192,8202,8232,8239,8287,8287,12288,12288,57344,63743,65533,65535,917504,917631,983040,1114111]
theorem banned71_calls:Row 256 [] (prs bannedL):=by
 refine acalls_go c256 (by simp [f256]) ?_
 simp only [f256,↓gos,gop,qA,qB,qC,qD,qE,qF,qG,qH,qI]
 refine call_lend (made_calls bannedL (by decide)) rfl rfl ?_
 simp only [DV.ren,renO,↓gos,gop,qA,qB,qC,qD,qE,qF,qG,qH,qI]
 exact end_row rfl rfl rfl
theorem banned98_calls:Row 317 [] (prs bannedL):=by
 refine acalls_go c317 (by simp [f317]) ?_
 simp only [f317,↓gos,gop,qA,qB,qC,qD,qE,qF,qG,qH,qI]
 refine call_lend (table_calls bannedL (by decide) (by decide)) rfl rfl ?_
 simp only [DV.ren,renO,↓gos,gop,qA,qB,qC,qD,qE,qF,qG,qH,qI]
 exact end_row rfl rfl rfl
def rightLeftL:List Int:=[1424,1535,1536,1791,64285,64335]
theorem rightLeft52_calls:Row 247 [] (prs rightLeftL):=by
 refine acalls_go c247 (by simp [f247]) ?_
 simp only [f247,↓gos,gop,qA,qB,qC,qD,qE,qF,qG,qH,qI]
 refine call_lend (made_calls rightLeftL (by decide)) rfl rfl ?_
 simp only [DV.ren,renO,↓gos,gop,qA,qB,qC,qD,qE,qF,qG,qH,qI]
 exact end_row rfl rfl rfl
theorem rightLeft101_calls:Row 320 [] (prs rightLeftL):=by
 refine acalls_go c320 (by simp [f320]) ?_
 simp only [f320,↓gos,gop,qA,qB,qC,qD,qE,qF,qG,qH,qI]
 refine call_lend (table_calls rightLeftL (by decide) (by decide)) rfl rfl ?_
 simp only [DV.ren,renO,↓gos,gop,qA,qB,qC,qD,qE,qF,qG,qH,qI]
 exact end_row rfl rfl rfl
def goneL:List Int:=[173,173,847,847,6150,6150,8203,8205,8288,8288,65024,65039,65279,65279]
theorem gone80_calls:Row 258 [] (prs goneL):=by
 refine acalls_go c258 (by simp [f258]) ?_
 simp only [f258,↓gos,gop,qA,qB,qC,qD,qE,qF,qG,qH,qI]
 refine call_lend (made_calls goneL (by decide)) rfl rfl ?_
 simp only [DV.ren,renO,↓gos,gop,qA,qB,qC,qD,qE,qF,qG,qH,qI]
 exact end_row rfl rfl rfl
theorem gone97_calls:Row 316 [] (prs goneL):=by
 refine acalls_go c316 (by simp [f316]) ?_
 simp only [f316,↓gos,gop,qA,qB,qC,qD,qE,qF,qG,qH,qI]
 refine call_lend (table_calls goneL (by decide) (by decide)) rfl rfl ?_
 simp only [DV.ren,renO,↓gos,gop,qA,qB,qC,qD,qE,qF,qG,qH,qI]
 exact end_row rfl rfl rfl
theorem D_shift (a b:List UInt8)(j:Nat):D (a++b) (a.length+j)=D b j:=by
 rw [← decodeL_at,← decodeL_at,List.drop_append,List.drop_eq_nil_of_le (by omega),Nat.add_sub_cancel_left,List.nil_append]
theorem runAt_shift (p:Int→Bool)(a b:List UInt8):∀ n j,b.length - j≤n→runAt p (a++b) (a.length+j)=runAt p b j:=fun n=>by
 have hl:(a++b).length=a.length+b.length:=List.length_append
 induction n with
 | zero=>intro j h; rw [runAt_end _ _ _ (by omega),runAt_end _ _ _ (by omega)]
 | succ n ih=>
  intro j h
  by_cases hj:j<b.length
  ·have:=D_len b j hj
   rw [runAt_step p (a++b) _ (by omega),runAt_step p b j hj,D_shift,Nat.add_assoc,ih _ (by omega)]
  ·rw [runAt_end _ _ _ (by omega),runAt_end _ _ _ (by omega)]
theorem rlAt_shift (a b:List UInt8):∀ n j,b.length - j≤n→rlAt (a++b) (a.length+j)=rlAt b j:=fun n=>by
 have hl:(a++b).length=a.length+b.length:=List.length_append
 induction n with
 | zero=>intro j h; rw [rlAt_end _ _ (by omega),rlAt_end _ _ (by omega)]
 | succ n ih=>
  intro j h
  by_cases hj:j<b.length
  ·have:=D_len b j hj
   rw [rlAt_step (a++b) _ (by omega),rlAt_step b j hj,D_shift,Nat.add_assoc,ih _ (by omega)]
  ·rw [rlAt_end _ _ (by omega),rlAt_end _ _ (by omega)]
def en (c:Int):List UInt8:=(Utf8.encode c).data.toList
theorem en_eq {c:Nat}(h:okC c):en c=if c<128 then [UInt8.ofNat c] else if c<2048 then [UInt8.ofNat (192+c / 64),UInt8.ofNat (128+c % 64)] else if c<65536 then [UInt8.ofNat (224+c / 4096),UInt8.ofNat (128+c / 64 % 64),UInt8.ofNat (128+c % 64)] else [UInt8.ofNat (240+c / 262144),UInt8.ofNat (128+c / 4096 % 64),UInt8.ofNat (128+c / 64 % 64),UInt8.ofNat (128+c % 64)]:=by
 unfold en Utf8.encode
 rw [if_pos ((valid_iff c).2 h)]
 simp only [Int.toNat_natCast]
 split
 ·rfl
 ·split
  ·rfl
  ·split <;> rfl
theorem toNat_of (n:Nat)(h:n<256):(UInt8.ofNat n).toNat=n:=by simp; omega
theorem D_en (c:Nat)(h:okC c)(t:List UInt8):D (en c++t) 0=(c,(en c).length):=by
 have ho:=h
 unfold okC at ho
 rw [en_eq h]
 split
 ·rename_i h1
  have b0:by_ ([UInt8.ofNat c]++t) 0=c:=toNat_of c (by omega)
  rw [D1 (by rw [b0]; exact h1),b0]; rfl
 split
 ·rename_i h1 h2
  have b0:by_ ([UInt8.ofNat (192+c / 64),UInt8.ofNat (128+c % 64)]++t) 0=192+c / 64:=toNat_of _ (by omega)
  have b1:by_ ([UInt8.ofNat (192+c / 64),UInt8.ofNat (128+c % 64)]++t) (0+1)=128+c % 64:=toNat_of _ (by omega)
  rw [D2 (by rw [b0]; omega),b0,b1,if_pos ⟨by simp,by omega⟩,if_pos (by omega)]
  exact Prod.ext (by simp only; omega) rfl
 split
 ·rename_i h1 h2 h3
  have b0:by_ ([UInt8.ofNat (224+c / 4096),UInt8.ofNat (128+c / 64 % 64),UInt8.ofNat (128+c % 64)]++t) 0=224+c / 4096:=toNat_of _ (by omega)
  have b1:by_ ([UInt8.ofNat (224+c / 4096),UInt8.ofNat (128+c / 64 % 64),UInt8.ofNat (128+c % 64)]++t) (0+1)=128+c / 64 % 64:=toNat_of _ (by omega)
  have b2:by_ ([UInt8.ofNat (224+c / 4096),UInt8.ofNat (128+c / 64 % 64),UInt8.ofNat (128+c % 64)]++t) (0+2)=128+c % 64:=toNat_of _ (by omega)
  have e:(224+c / 4096) % 16*4096+(128+c / 64 % 64) % 64*64+(128+c % 64) % 64=c:=by omega
  rw [D3 (by rw [b0]; omega),b0,b1,b2,if_pos ⟨⟨by simp,by omega⟩,by simp,by omega⟩,e,if_pos ⟨by omega,h⟩]
  rfl
 ·rename_i h1 h2 h3
  have b0:by_ ([UInt8.ofNat (240+c / 262144),UInt8.ofNat (128+c / 4096 % 64),UInt8.ofNat (128+c / 64 % 64),UInt8.ofNat (128+c % 64)]++t) 0=240+c / 262144:=toNat_of _ (by omega)
  have b1:by_ ([UInt8.ofNat (240+c / 262144),UInt8.ofNat (128+c / 4096 % 64),UInt8.ofNat (128+c / 64 % 64),UInt8.ofNat (128+c % 64)]++t) (0+1)=128+c / 4096 % 64:=toNat_of _ (by omega)
  have b2:by_ ([UInt8.ofNat (240+c / 262144),UInt8.ofNat (128+c / 4096 % 64),UInt8.ofNat (128+c / 64 % 64),UInt8.ofNat (128+c % 64)]++t) (0+2)=128+c / 64 % 64:=toNat_of _ (by omega)
  have b3:by_ ([UInt8.ofNat (240+c / 262144),UInt8.ofNat (128+c / 4096 % 64),UInt8.ofNat (128+c / 64 % 64),UInt8.ofNat (128+c % 64)]++t) (0+3)=128+c % 64:=toNat_of _ (by omega)
  have e:(240+c / 262144) % 8*262144+(128+c / 4096 % 64) % 64*4096+(128+c / 64 % 64) % 64*64+(128+c % 64) % 64=c:=by omega
  rw [D4 (by rw [b0]; omega),b0,b1,b2,b3,if_pos ⟨⟨by simp,by omega⟩,⟨by simp,by omega⟩,by simp,by omega⟩,e,if_pos ⟨by omega,h⟩]
  rfl
theorem en_len {c:Nat}(h:okC c):1≤(en c).length∧(en c).length≤4∧(2≤(en c).length↔128≤c):=by
 rw [en_eq h]
 split
 ·simp; omega
 split
 ·simp; omega
 split
 ·simp; omega
 ·simp; omega
theorem en_good {c:Nat}(h:okC c)(t:List UInt8):D (en c++t) 0≠(65533,1):=by
 rw [D_en c h t]
 intro q
 obtain ⟨q1,q2⟩:=Prod.mk.inj q
 have:=(en_len h).2.2
 omega
theorem run_en (p:Int→Bool){c:Nat}(h:okC c)(t:List UInt8):runAt p (en c++t) 0=(p c&&runAt p t 0):=by
 have:=en_len h
 rw [runAt_step p _ 0 (by simp; omega),if_neg (en_good h t),D_en c h t,Nat.zero_add]
 have:=runAt_shift p (en c) t _ 0 (Nat.le_refl _)
 rw [Nat.add_zero] at this
 rw [this]
theorem rl_en {c:Nat}(h:okC c)(t:List UInt8):rlAt (en c++t) 0=(c:Int)::rlAt t 0:=by
 have:=en_len h
 rw [rlAt_step _ 0 (by simp; omega),D_en c h t,Nat.zero_add]
 have:=rlAt_shift (en c) t _ 0 (Nat.le_refl _)
 rw [Nat.add_zero] at this
 rw [this]
theorem run_ens (p:Int→Bool)(t:List UInt8):∀ cs:List Nat,(∀ c∈cs,okC c)→runAt p (cs.flatMap (fun c:Nat=>en c)++t) 0=(cs.all (fun c:Nat=>p c)&&runAt p t 0)
 | [],_=>by simp
 | c::cs,h=>by
  rw [List.flatMap_cons,List.append_assoc,run_en p (h c (by simp)),run_ens p t cs (fun x hx=>h x (by simp [hx])),List.all_cons,Bool.and_assoc]
theorem rl_ens (t:List UInt8):∀ cs:List Nat,(∀ c∈cs,okC c)→rlAt (cs.flatMap (fun c:Nat=>en c)++t) 0=cs.map (fun c:Nat=>(c:Int))++rlAt t 0
 | [],_=>by simp
 | c::cs,h=>by
  rw [List.flatMap_cons,List.append_assoc,rl_en (h c (by simp)),rl_ens t cs (fun x hx=>h x (by simp [hx])),List.map_cons,List.cons_append]
theorem run_nil (p:Int→Bool):runAt p [] 0=true:=rfl
theorem rl_nil:rlAt [] 0=[]:=rfl
theorem shown_may (c:Int):shownB c=(mayB c&&decide (32≤c)):=by
 unfold mayB shownB
 rw [Bool.eq_iff_iff]
 simp only [Bool.or_eq_true,Bool.and_eq_true,decide_eq_true_eq]
 omega
theorem run_and (p q:Int→Bool)(s:List UInt8):∀ n i,s.length - i≤n→runAt (fun c=>p c&&q c) s i=(runAt p s i&&(rlAt s i).all q):=fun n=>by
 induction n with
 | zero=>intro i h; rw [runAt_end _ _ _ (by omega),runAt_end _ _ _ (by omega),rlAt_end _ _ (by omega)]; rfl
 | succ n ih=>
  intro i h
  by_cases hi:i<s.length
  ·have:=D_len s i hi
   rw [runAt_step _ s i hi,runAt_step p s i hi,rlAt_step s i hi]
   by_cases hb:D s i=(65533,1)
   ·rw [if_pos hb,if_pos hb]; rfl
   ·rw [if_neg hb,if_neg hb,ih _ (by omega),List.all_cons]
    cases p (D s i).1 <;> cases q (D s i).1 <;> cases runAt p s (i+(D s i).2) <;> rfl
  ·rw [runAt_end _ _ _ hi,runAt_end _ _ _ hi,rlAt_end _ _ hi]; rfl
theorem run_shown (s:List UInt8):runAt shownB s 0=(runAt mayB s 0&&(rs s).all (fun c=>decide (32≤c))):=by
 rw [show shownB=fun c=>mayB c&&decide (32≤c) from funext shown_may,run_and _ _ s _ 0 (Nat.le_refl _)]
 unfold rs
 cases runAt mayB s 0 <;> rfl
abbrev DRet (f:Nat)(args:List DV)(D:DV):Prop:=ACalls ED f [] args fun h d=>h=[]∧d=D
theorem valid_c (s:List UInt8)(hs:s.length<100000000000):DRet 64 [.str s] (.bool (runAt mayB s 0)):=by
 have:=valid16 rfl vED s (by omega)
 rw [valid_runAt] at this
 exact this
theorem ascii_runes:∀ s:List UInt8,(∀ b∈s,b.toNat<128)→s=(s.map (·.toNat)).flatMap (fun c:Nat=>en c)
 | [],_=>rfl
 | b::s,h=>by
  have hb:=h b (by simp)
  rw [List.map_cons,List.flatMap_cons,← ascii_runes s (fun x hx=>h x (by simp [hx])),en_eq (by unfold okC; omega),if_pos hb]
  simp
theorem run_ascii (p:Int→Bool)(s:List UInt8)(h:∀ b∈s,b.toNat<128):runAt p s 0=s.all (fun b=>p b.toNat)∧rlAt s 0=s.map (fun b=>(b.toNat:Int)):=by
 have e:=ascii_runes s h
 have ho:∀ c∈s.map (·.toNat),okC c:=fun c hc=>by
  obtain ⟨b,hb,rfl⟩:=List.mem_map.1 hc
  have:=h b hb
  unfold okC; omega
 constructor
 ·conv=>lhs; rw [e]
  have:=run_ens p [] _ ho
  rw [List.append_nil,run_nil,Bool.and_true] at this
  rw [this,List.all_map]; rfl
 ·conv=>lhs; rw [e]
  have:=rl_ens [] _ ho
  rw [List.append_nil,rl_nil,List.append_nil] at this
  rw [this,List.map_map]; rfl
theorem rs_ascii (s:List UInt8)(h:∀ b∈s,b.toNat<128)(hm:s.all (fun b=>mayB b.toNat)=true):rs s=s.map (fun b=>(b.toNat:Int)):=by
 unfold rs
 rw [(run_ascii mayB s h).1,hm,(run_ascii mayB s h).2]; rfl
theorem rs_len (s:List UInt8):(rs s).length≤s.length:=by
 unfold rs; split
 ·exact runes_len s _ 0
 ·simp
theorem dn_row {h:List AObj}{i n:Nat}{l:List Int}{c:Option Nat}(hi:h[i]?=some (.arr 1 (l.map num)))(hn:n=l.length):DV.dn [] h (.osl 1 i 0 n c)=.sl 1 (l.map num):=dn_osl hi (by simpa using hn)
def inR (L:List Int)(c:Int):Bool:=(prs L).any (hasB · c)
theorem dn_rg {h:List AObj}{i n:Nat}{l:List (Int×Int)}{c:Option Nat}(hi:h[i]?=some (.arr 2 (l.map rg)))(hn:n=l.length):DV.dn [] h (.osl 2 i 0 n c)=.sl 2 (l.map rg):=dn_osl hi (by simpa using hn)
theorem free_rg (l:List (Int×Int)):((DV.osl 2 0 0 l.length none).free&&[AObj.arr 2 (l.map rg)].all freeO)=true:=by simp [DV.free,freeO,rg]
abbrev NR (f:Nat)(args:List DV)(L:List Int):Prop:=NRow ED f args L
def keptL (c:Int):List Int:=if inR goneL c then [] else [c]
theorem kept53 (c:Int):NR 206 [.int .i64 c] (keptL c):=by
 refine acalls_go c206 (by simp [f206]) ?_
 simp only [f206,↓gos,gop,qA,qB,qC,qD,qE,qF,qG,qH,qI]
 refine call_lend gone80_calls rfl (free_rg _) ?_
 simp only [DV.ren,renO,↓gos,gop,qA,qB,qC,qD,qE,qF,qG,qH,qI]
 refine call_ret (in_calls (prs goneL) c (by decide)) (by rw [List.map_cons,dn_rg (i:=1) rfl rfl]; rfl) rfl ?_
 unfold keptL
 cases hg:inR goneL c
 ·unfold inR at hg
  rw [hg]
  simp only [↓gos,gop,qA,qB,qC,qD,qE,qF,qG,qH,qI]
  exact end_row rfl rfl rfl
 ·unfold inR at hg
  rw [hg]
  simp only [↓gos,gop,qA,qB,qC,qD,qE,qF,qG,qH,qI]
  exact end_row rfl rfl rfl
def capB (c:Int):Bool:=(decide (65≤c)&&decide (c≤90))||(decide (192≤c)&&decide (c≤222) && !decide (c=215))
def smallL (c:Int):List Int:=if capB c then [c+32] else if c=223 then [115,115] else keptL c
theorem capB_iff (c:Int):capB c=true↔(65≤c∧c≤90)∨(192≤c∧c≤222∧c≠215):=by
 unfold capB
 simp only [Bool.or_eq_true,Bool.and_eq_true,decide_eq_true_eq,Bool.not_eq_true',decide_eq_false_iff_not]
 omega
theorem smallA {c v:Int}(hv:v=IntKind.i64.wrap (c+32))(hc:(65≤c∧c≤90)∨(192≤c∧c≤222∧c≠215)):finE 0 (fun h d=>h=[.arr 1 ((smallL c).map num)]∧d=.osl 1 0 0 (smallL c).length none) (some [.osl 1 1 0 1 none]) [.arr 1 [],.arr 1 [[.int .i64 v]]]:=by
 unfold smallL
 rw [if_pos ((capB_iff c).2 hc)]
 rw [wrap_i64 (by omega) (by omega)] at hv
 subst hv
 exact end_row rfl rfl rfl
theorem smallS {c:Int}(hc:¬ ((65≤c∧c≤90)∨(192≤c∧c≤222∧c≠215)))(h2:c=223):finE 0 (fun h d=>h=[.arr 1 ((smallL c).map num)]∧d=.osl 1 0 0 (smallL c).length none) (some [.osl 1 1 0 2 none]) [.arr 1 [],.arr 1 [[.int .i64 115],[.int .i64 115]]]:=by
 unfold smallL
 rw [if_neg (fun q=>hc ((capB_iff c).1 q)),if_pos h2]
 exact end_row rfl rfl rfl
theorem smallK {c:Int}(hc:¬ ((65≤c∧c≤90)∨(192≤c∧c≤222∧c≠215)))(h2:¬ c=223):smallL c=keptL c:=by
 unfold smallL
 rw [if_neg (fun q=>hc ((capB_iff c).1 q)),if_neg h2]
theorem small44 (c:Int):NR 202 [.int .i64 c] (smallL c):=by
  refine acalls_go c202 (by simp [f202]) ?_
  simp only [f202,↓gos,gop,qA,qB,qC,qD,qE,qF,qG,qH,qI]
  repeat' (first | refine And.intro ?_ ?_ | intro _)
  all_goals first
    | exact smallA ‹_› (by omega)
    | exact smallS (by omega) (by omega)
    | (refine call_lend (kept53 c) rfl (free_num _) ?_
       simp only [DV.ren,renO,↓gos,gop,qA,qB,qC,qD,qE,qF,qG,qH,qI]
       rw [smallK (by omega) (by omega)]
       exact end_row rfl rfl rfl)
def banB (c:Int):Bool:=inR bannedL c
theorem banned46 (c:Int):Ret 204 [.int .i64 c] (.bool (banB c)):=by
 refine acalls_go c204 (by simp [f204]) ?_
 simp only [f204,↓gos,gop,qA,qB,qC,qD,qE,qF,qG,qH,qI]
 refine call_lend banned71_calls rfl (free_rg _) ?_
 simp only [DV.ren,renO,↓gos,gop,qA,qB,qC,qD,qE,qF,qG,qH,qI]
 refine call_ret (in_calls (prs bannedL) c (by decide)) (by rw [List.map_cons,dn_rg (i:=0) rfl rfl]; rfl) rfl ?_
 simp only [↓gos,gop,qA,qB,qC,qD,qE,qF,qG,qH,qI]
 exact endb rfl
def leftB (c:Int):Bool:=inR rightLeftL c
def letB (c:Int):Bool:=inR lettersL c
theorem left94 (c:Int):Ret 296 [.int .i64 c] (.bool (leftB c)):=by
 refine acalls_go c296 (by simp [f296]) ?_
 simp only [f296,↓gos,gop,qA,qB,qC,qD,qE,qF,qG,qH,qI]
 refine call_lend rightLeft52_calls rfl (free_rg _) ?_
 simp only [DV.ren,renO,↓gos,gop,qA,qB,qC,qD,qE,qF,qG,qH,qI]
 refine call_ret (in_calls (prs rightLeftL) c (by decide)) (by rw [List.map_cons,dn_rg (i:=0) rfl rfl]; rfl) rfl ?_
 simp only [↓gos,gop,qA,qB,qC,qD,qE,qF,qG,qH,qI]
 exact endb rfl
theorem letter95 (c:Int):Ret 297 [.int .i64 c] (.bool (letB c)):=by
 refine acalls_go c297 (by simp [f297]) ?_
 simp only [f297,↓gos,gop,qA,qB,qC,qD,qE,qF,qG,qH,qI]
 refine call_lend letters51_calls rfl (free_rg _) ?_
 simp only [DV.ren,renO,↓gos,gop,qA,qB,qC,qD,qE,qF,qG,qH,qI]
 refine call_ret (in_calls (prs lettersL) c (by decide)) (by rw [List.map_cons,dn_rg (i:=0) rfl rfl]; rfl) rfl ?_
 simp only [↓gos,gop,qA,qB,qC,qD,qE,qF,qG,qH,qI]
 exact endb rfl
theorem res54 (c:Int):Ret 207 [.int .i64 c] (.bool (!banB c)):=by
 refine acalls_go c207 (by simp [f207]) ?_
 simp only [f207,↓gos,gop,qA,qB,qC,qD,qE,qF,qG,qH,qI]
 refine call_ret (banned46 c) rfl rfl ?_
 cases h:banB c
 ·simp only [↓gos,gop,qA,qB,qC,qD,qE,qF,qG,qH,qI]
  exact endb rfl
 ·simp only [↓gos,gop,qA,qB,qC,qD,qE,qF,qG,qH,qI]
  exact endb rfl
theorem index72 (l:List Int)(c:Int)(hl:l.length<1000000000000):ACalls ED 257 [] [.sl 1 (l.map num),.int .i64 c] fun h d=>h=[]∧∃ n:Int,d=.int .i64 n∧(0≤n↔l.contains c=true):=by
 refine acalls_go c257 (by simp [f257]) ?_
 simp only [f257,↓gos,gop,qA,qB,qC,qD,qE,qF,qG,qH,qI]
 refine goN_lp (γ:=Nat) (fun i=>[(0,.sl 1 (l.map num)),(1,.int .i64 c),(7,.int .i64 l.length),(8,.int .i64 i)]) (fun _=>[]) (fun i=>i≤l.length∧∀ j,j<i→l.getD j 0≠c) (fun i=>l.length - i) 0
  (wks rfl (Nat.zero_le _) ⟨rfl,rfl,rfl,rfl,trivial⟩) (by simp) fun i hi=>?_
 obtain ⟨hi,hp⟩:=hi
 simp only [f257l0,num,↓gos,gop,qA,qB,qC,qD,qE,qF,qG,qH,qI]
 refine ⟨fun h1=>optP_at 0 (by omega) ⟨fun h2=>finE_closed rfl ⟨rfl,_,rfl,?_⟩,fun h2 v hv=>?_⟩,fun h1=>finE_closed rfl ⟨rfl,_,rfl,?_⟩⟩
 ·refine ⟨fun _=>?_,fun _=>by omega⟩
  rw [List.contains_iff_mem,h2]
  simp [show i<l.length by omega]
 ·rw [wrap_i64 (by omega) (by omega)] at hv
  refine rnd_s (i+1) rfl (Nat.zero_le _) ⟨rfl,rfl,rfl,by show DV.int .i64 v=_; rw [hv]; rfl,trivial⟩ ⟨by omega,fun j hj=>?_⟩ (by omega)
  by_cases hji:j=i
  ·subst hji; exact fun q=>h2 q.symm
  ·exact hp j (by omega)
 ·refine ⟨fun h=>by omega,fun h=>?_⟩
  rw [List.contains_iff_mem] at h
  obtain ⟨j,hj,rfl⟩:=List.getElem_of_mem h
  have:=hp j (by omega)
  simp [hj] at this
theorem contains47 (l:List Int)(c:Int)(hl:l.length<1000000000000):Ret 205 [.sl 1 (l.map num),.int .i64 c] (.bool (l.contains c)):=by
 refine acalls_go c205 (by simp [f205]) ?_
 simp only [f205,↓gos,gop,qA,qB,qC,qD,qE,qF,qG,qH,qI]
 refine call_any (index72 l c hl) rfl ?_ fun d hd=>?_
 ·cases hc:l.contains c
  ·exact ⟨_,-1,rfl,by omega,fun h=>by cases h⟩
  ·exact ⟨_,0,rfl,fun _=>rfl,by omega⟩
 ·obtain ⟨n,rfl,hn⟩:=hd
  refine ⟨rfl,?_⟩
  simp only [↓gos,gop,qA,qB,qC,qD,qE,qF,qG,qH,qI]
  refine ⟨fun h=>endb ?_,fun h=>endb ?_⟩
  ·rw [hn.1 h]
  ·cases hc:l.contains c
   ·rfl
   ·exact absurd (hn.2 hc) h
def signs:List Int:=[32,34,38,39,47,58,60,62,64]
def nodeB (c:Int):Bool := !banB c && !signs.contains c
theorem node45 (c:Int):Ret 203 [.int .i64 c] (.bool (nodeB c)):=by
 refine acalls_go c203 (by simp [f203]) ?_
 simp only [f203,↓gos,gop,qA,qB,qC,qD,qE,qF,qG,qH,qI]
 refine call_ret (banned46 c) rfl rfl ?_
 unfold nodeB
 cases h:banB c
 ·simp only [↓gos,gop,qA,qB,qC,qD,qE,qF,qG,qH,qI]
  refine call_ret (contains47 signs c (by decide)) rfl rfl ?_
  cases h2:signs.contains c
  ·simp only [↓gos,gop,qA,qB,qC,qD,qE,qF,qG,qH,qI]
   exact endb rfl
  ·simp only [↓gos,gop,qA,qB,qC,qD,qE,qF,qG,qH,qI]
   exact endb rfl
 ·simp only [↓gos,gop,qA,qB,qC,qD,qE,qF,qG,qH,qI]
  exact endb rfl
def hostB (c:Int):Bool:=(decide (48≤c)&&decide (c≤57))||decide (c=45)||decide (c=46)||letB c||leftB c
theorem host49 (c:Int):Ret 244 [.int .i64 c] (.bool (hostB c)):=by
  refine acalls_go c244 (by simp [f244]) ?_
  simp only [f244,↓gos,gop,qA,qB,qC,qD,qE,qF,qG,qH,qI]
  unfold hostB
  repeat' (first | refine And.intro ?_ ?_ | intro _)
  all_goals first
    | (refine endb ?_; simp [*]; done)
    | (refine call_lend letters51_calls rfl (free_rg _) ?_
       simp only [DV.ren,renO,↓gos,gop,qA,qB,qC,qD,qE,qF,qG,qH,qI]
       refine call_ret (in_calls (prs lettersL) c (by decide)) (by rw [List.map_cons,dn_rg (i:=0) rfl rfl]; rfl) rfl ?_
       rw [show ((prs lettersL).any fun x=>hasB x c)=letB c from rfl]
       cases h1:letB c
       · simp only [↓gos,gop,qA,qB,qC,qD,qE,qF,qG,qH,qI]
         refine call_lend rightLeft52_calls rfl (free_rg _) ?_
         simp only [DV.ren,renO,↓gos,gop,qA,qB,qC,qD,qE,qF,qG,qH,qI]
         refine call_ret (in_calls (prs rightLeftL) c (by decide)) (by rw [List.map_cons,dn_rg (i:=1) rfl rfl]; rfl) rfl ?_
         rw [show ((prs rightLeftL).any fun x=>hasB x c)=leftB c from rfl]
         cases h2:leftB c
         · simp only [↓gos,gop,qA,qB,qC,qD,qE,qF,qG,qH,qI]
           refine endb ?_
           simp [*]
         · simp only [↓gos,gop,qA,qB,qC,qD,qE,qF,qG,qH,qI]
           refine endb ?_
           simp [*]
       · simp only [↓gos,gop,qA,qB,qC,qD,qE,qF,qG,qH,qI]
         refine endb ?_
         simp [*])
end Go.Proofs.Ut
