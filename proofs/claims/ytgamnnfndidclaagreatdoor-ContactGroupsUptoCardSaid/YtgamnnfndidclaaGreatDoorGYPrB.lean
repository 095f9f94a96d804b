/- The library's DeleteFunc of texts; item.Groups. -/
import Derived.Test.YtgamnnfndidclaaGreatDoorGYO2
import Derived.Test.YtgamnnfndidclaaGreatDoorGYFoUtD
import Derived.Test.YtgamnnfndidclaaGreatDoorGYFoUtF
import Derived.Test.YtgamnnfndidclaaGreatDoorGAiUn
open Nat renaming reduceBEq → qA,reduceAdd → qB,reduceSub → qC,reduceLeDiff → qD,reduceMul → qE
open Int renaming reduceLE → qF,reduceLT → qG,reduceNe → qH,reduceToNat → qI
set_option linter.all false
namespace Go.Proofs.Ut
open Go.Ai
set_option maxRecDepth 100000
theorem rZ {α:Type}{l:List α}{j:Nat}(h:j<l.length)(d:α):l.take (j+1)=l.take j++[l.getD j d]:=by
 rw [List.getD_eq_getElem?_getD,List.getElem?_eq_getElem h]; simp
def dX (l:List (List UInt8)):Int:=if []∈l then (l.idxOf []:Nat) else -1
end Go.Proofs.Ut

namespace Go.Proofs.Ut
open Go.Ai Classical
set_option linter.unusedSimpArgs false
set_option maxHeartbeats 1000000
set_option maxRecDepth 100000
def rg (r:Int×Int):List DV:=[.int .i64 r.1,.int .i64 r.2]
abbrev Ret (f:Nat)(args:List DV)(D:DV):Prop:=ACalls ED f [] args fun h d=>h=[]∧d=D
abbrev Row (f:Nat)(args:List DV)(L:List (Int×Int)):Prop:=ACalls ED f [] args fun h d=>h=[.arr 2 (L.map rg)]∧d=.osl 2 0 0 L.length none
def rM (r:Int×Int)(c:Int):Bool:=decide (r.1≤c)&&decide (c≤r.2)
theorem GL (r:Int×Int)(c:Int):Ret 291 [.agg (rg r),.int .i64 c] (.bool (rM r c)):=by
 refine aA c291 (by simp [f291]) ?_
 simp only [f291,rg,↓gos,gop,qA,qB,qC,qD,qE,qF,qG,qH,qI]
 exact ⟨fun h1=>⟨fun h2=>aJ (by simp [h1,h2,rM]),fun h2=>aJ (by simp [h1,h2,rM])⟩,fun h1=>aJ (by simp [h1,rM])⟩
theorem yN (l:List (Int×Int))(c:Int)(hl:l.length<1000000000000):Ret 290 [.sl 2 (l.map rg),.int .i64 c,.fn 291 []] (.bool (l.any (rM · c))):=by
 refine aA c290 (by simp [f290]) ?_
 simp only [f290,rg,↓gos,gop,qA,qB,qC,qD,qE,qF,qG,qH,qI]
 refine aM (γ:=Nat) (fun i=>[(1,.int .i64 c),(2,.fn 291 []),(9,.sl 2 (l.map rg)),(10,.int .i64 l.length),(11,.int .i64 i)]) (fun _=>[]) (fun i=>i≤l.length∧∀ j,j<i→rM (l.getD j (0,0)) c=false) (fun i=>l.length - i) 0 (wks rfl (Nat.le_refl _) ⟨rfl,rfl,rfl,rfl,rfl,trivial⟩) (by simp) fun i hi=>?_
 simp only [f290l0,rg,↓gos,gop,qA,qB,qC,qD,qE,qF,qG,qH,qI]
 obtain ⟨hi,hP⟩:=hi
 refine ⟨fun h1=>aU (0,0) (by omega) (aB (GL _ c) rfl rfl ?_),fun h1=>aJ ?_⟩
 ·cases hb:rM (l.getD i (0,0)) c
  ·simp only [↓gos,gop,qA,qB,qC,qD,qE,qF,qG,qH,qI]
   intro v hv
   rw [wrap_i64 (by omega) (by omega)] at hv
   refine dO 0 (i+1) rfl (Nat.le_refl _) ⟨rfl,rfl,rfl,rfl,rfl,rfl,rfl,rfl,by simp [hv,slots],rfl,trivial⟩ rfl ⟨by omega,fun j hj=>?_⟩ (by omega)
   by_cases hji:j=i
   ·subst hji; exact hb
   ·exact hP j (by omega)
  ·simp only [↓gos,gop,qA,qB,qC,qD,qE,qF,qG,qH,qI]
   refine aJ ?_
   symm
   rw [List.any_eq_true]
   exact ⟨l.getD i (0,0),by simp [show i<l.length by omega],hb⟩
 ·symm
  rw [List.any_eq_false]
  intro x hx
  obtain ⟨j,hj,rfl⟩:=List.getElem_of_mem hx
  have:=hP j (by omega)
  simpa [hj] using this
theorem gD (l:List (Int×Int))(c:Int)(hl:l.length<1000000000000):Ret 245 [.sl 2 (l.map rg),.int .i64 c] (.bool (l.any (rM · c))):=by
 refine aA c245 (by simp [f245]) ?_
 simp only [f245,↓gos,gop,qA,qB,qC,qD,qE,qF,qG,qH,qI]
 refine aB (yN l c hl) rfl rfl ?_
 simp only [↓gos,gop,qA,qB,qC,qD,qE,qF,qG,qH,qI]
 exact aJ rfl
theorem CM (a b:Int):Ret 324 [.int .i64 a,.int .i64 b] (.agg (rg (a,b))):=by
 refine aA c324 (by simp [f324]) ?_
 simp only [f324,rg,↓gos,gop,qA,qB,qC,qD,qE,qF,qG,qH,qI]
 exact RD rfl rfl
def prs:List Int→List (Int×Int)
 | a::b::l=>(a,b)::prs l
 | _=>[]
theorem yG (l:List Int)(hl:l.length<10000):Row 323 [.agg [.sl 1 (l.map num)],.fn 324 []] (prs l):=by
 refine aA c323 (by simp [f323]) ?_
 simp only [f323,↓gos,gop,qA,qB,qC,qD,qE,qF,qG,qH,qI]
 refine aM (γ:=List (Int×Int)×List Int) (fun g=>[(1,.fn 324 []),(5,.osl 2 2 0 g.1.length none),(6,.sl 1 (g.2.map num))]) (fun g=>[.box [.sl 1 (l.map num)],.arr 2 [],.arr 2 (g.1.map rg)]) (fun g=>g.1++prs g.2=prs l∧g.1.length+g.2.length≤l.length) (fun g=>g.2.length) ([],l) (wks rfl (Nat.zero_le _) ⟨rfl,rfl,rfl,trivial⟩) (by simp) fun g hg=>?_
 obtain ⟨acc,rest⟩:=g
 obtain ⟨hg,hlen⟩:=hg
 rcases rest with _|⟨a,_|⟨b,r⟩⟩
 ·simp only [f323l0,num,↓gos,gop,qA,qB,qC,qD,qE,qF,qG,qH,qI]
  exact bO rfl (by simpa [prs] using congrArg (List.map rg) hg) (by simpa [prs] using congrArg List.length hg)
 ·simp only [f323l0,num,↓gos,gop,qA,qB,qC,qD,qE,qF,qG,qH,qI]
  exact bO rfl (by simpa [prs] using congrArg (List.map rg) hg) (by simpa [prs] using congrArg List.length hg)
 ·simp only [f323l0,num,↓gos,gop,qA,qB,qC,qD,qE,qF,qG,qH,qI]
  refine ⟨fun _=>aB (CM a b) rfl rfl ?_,fun h=>by omega⟩
  simp only [rg,↓gos,gop,qA,qB,qC,qD,qE,qF,qG,qH,qI]
  have hd:acc.length+(r.length+2)≤l.length:=by simpa using hlen
  refine ⟨by omega,by omega,by omega,?_⟩
  refine dO 3 (acc++[(a,b)],r) ?_ (Nat.zero_le _) ⟨rfl,rfl,?_,rfl,?_,rfl,trivial⟩ rfl ⟨?_,?_⟩ (by simp; omega)
  ·simp [rg,num]
  ·simp [slots]
  ·have e:List.take (r.length+1+1 - 2) (r.map num)=r.map num:=List.take_of_length_le (by simp)
   rw [e]; rfl
  ·simpa [prs] using hg
  ·simp; omega
theorem gY (l:List Int)(hl:l.length<10000):Row 292 [.sl 1 (l.map num)] (prs l):=by
 refine aA c292 (by simp [f292]) ?_
 simp only [f292,↓gos,gop,qA,qB,qC,qD,qE,qF,qG,qH,qI]
 refine gC (yG l hl) (by simp [DV.closed,DV.closed.closedAll]) ?_
 simp only [DV.ren,aR,↓gos,gop,qA,qB,qC,qD,qE,qF,qG,qH,qI]
 exact bO rfl rfl rfl
def gJ:List Int:=[65,90,97,122,192,214,216,246,248,591,880,1327,19968,40959]
theorem iE:Row 246 [] (prs gJ):=by
 refine aA c246 (by simp [f246]) ?_
 simp only [f246,↓gos,gop,qA,qB,qC,qD,qE,qF,qG,qH,qI]
 refine bH (gY gJ (by decide)) rfl rfl ?_
 simp only [DV.ren,aR,↓gos,gop,qA,qB,qC,qD,qE,qF,qG,qH,qI]
 exact bO rfl rfl rfl
def nZ:List Int:=[0,31,127,160,5760,5760,8192,8202,8232,8239,8287,8287,12288,12288,57344,63743,65533,65535,917504,917631,983040,1114111]
theorem pY:Row 256 [] (prs nZ):=by
 refine aA c256 (by simp [f256]) ?_
 simp only [f256,↓gos,gop,qA,qB,qC,qD,qE,qF,qG,qH,qI]
 refine bH (gY nZ (by decide)) rfl rfl ?_
 simp only [DV.ren,aR,↓gos,gop,qA,qB,qC,qD,qE,qF,qG,qH,qI]
 exact bO rfl rfl rfl
def eF:List Int:=[1424,1535,1536,1791,64285,64335]
theorem fU:Row 247 [] (prs eF):=by
 refine aA c247 (by simp [f247]) ?_
 simp only [f247,↓gos,gop,qA,qB,qC,qD,qE,qF,qG,qH,qI]
 refine bH (gY eF (by decide)) rfl rfl ?_
 simp only [DV.ren,aR,↓gos,gop,qA,qB,qC,qD,qE,qF,qG,qH,qI]
 exact bO rfl rfl rfl
def wN:List Int:=[173,173,847,847,6150,6150,8203,8205,8288,8288,65024,65039,65279,65279]
theorem uR:Row 258 [] (prs wN):=by
 refine aA c258 (by simp [f258]) ?_
 simp only [f258,↓gos,gop,qA,qB,qC,qD,qE,qF,qG,qH,qI]
 refine bH (gY wN (by decide)) rfl rfl ?_
 simp only [DV.ren,aR,↓gos,gop,qA,qB,qC,qD,qE,qF,qG,qH,qI]
 exact bO rfl rfl rfl
def inR (L:List Int)(c:Int):Bool:=(prs L).any (rM · c)
theorem tF {h:List AObj}{i n:Nat}{l:List (Int×Int)}{c:Option Nat}(hi:h[i]?=some (.arr 2 (l.map rg)))(hn:n=l.length):DV.dn [] h (.osl 2 i 0 n c)=.sl 2 (l.map rg):=pZ hi (by simpa using hn)
theorem jT (l:List (Int×Int)):((DV.osl 2 0 0 l.length none).free&&[AObj.arr 2 (l.map rg)].all iD)=true:=by simp [DV.free,iD,rg]
abbrev NR (f:Nat)(args:List DV)(L:List Int):Prop:=aBV ED f args L
def jY (c:Int):List Int:=if inR wN c then [] else [c]
theorem MY (c:Int):NR 206 [.int .i64 c] (jY c):=by
 refine aA c206 (by simp [f206]) ?_
 simp only [f206,↓gos,gop,qA,qB,qC,qD,qE,qF,qG,qH,qI]
 refine bH uR rfl (jT _) ?_
 simp only [DV.ren,aR,↓gos,gop,qA,qB,qC,qD,qE,qF,qG,qH,qI]
 refine aB (gD (prs wN) c (by decide)) (by rw [List.map_cons,tF (i:=1) rfl rfl]; rfl) rfl ?_
 unfold jY
 cases hg:inR wN c
 ·unfold inR at hg
  rw [hg]
  simp only [↓gos,gop,qA,qB,qC,qD,qE,qF,qG,qH,qI]
  exact bO rfl rfl rfl
 ·unfold inR at hg
  rw [hg]
  simp only [↓gos,gop,qA,qB,qC,qD,qE,qF,qG,qH,qI]
  exact bO rfl rfl rfl
def ZX (c:Int):Bool:=(decide (65≤c)&&decide (c≤90))||(decide (192≤c)&&decide (c≤222) && !decide (c=215))
def cS (c:Int):List Int:=if ZX c then [c+32] else if c=223 then [115,115] else jY c
theorem lA (c:Int):ZX c=true↔(65≤c∧c≤90)∨(192≤c∧c≤222∧c≠215):=by
 unfold ZX
 simp only [Bool.or_eq_true,Bool.and_eq_true,decide_eq_true_eq,Bool.not_eq_true',decide_eq_false_iff_not]
 omega
theorem aDh {c v:Int}(hv:v=IntKind.i64.wrap (c+32))(hc:(65≤c∧c≤90)∨(192≤c∧c≤222∧c≠215)):dY 0 (fun h d=>h=[.arr 1 ((cS c).map num)]∧d=.osl 1 0 0 (cS c).length none) (some [.osl 1 1 0 1 none]) [.arr 1 [],.arr 1 [[.int .i64 v]]]:=by
 unfold cS
 rw [if_pos ((lA c).2 hc)]
 rw [wrap_i64 (by omega) (by omega)] at hv
 subst hv
 exact bO rfl rfl rfl
theorem aBy {c:Int}(hc:¬ ((65≤c∧c≤90)∨(192≤c∧c≤222∧c≠215)))(h2:c=223):dY 0 (fun h d=>h=[.arr 1 ((cS c).map num)]∧d=.osl 1 0 0 (cS c).length none) (some [.osl 1 1 0 2 none]) [.arr 1 [],.arr 1 [[.int .i64 115],[.int .i64 115]]]:=by
 unfold cS
 rw [if_neg (fun q=>hc ((lA c).1 q)),if_pos h2]
 exact bO rfl rfl rfl
theorem aBM {c:Int}(hc:¬ ((65≤c∧c≤90)∨(192≤c∧c≤222∧c≠215)))(h2:¬ c=223):cS c=jY c:=by
 unfold cS
 rw [if_neg (fun q=>hc ((lA c).1 q)),if_neg h2]
theorem EX (c:Int):NR 202 [.int .i64 c] (cS c):=by
  refine aA c202 (by simp [f202]) ?_
  simp only [f202,↓gos,gop,qA,qB,qC,qD,qE,qF,qG,qH,qI]
  repeat' (first | refine And.intro ?_ ?_ | intro _)
  all_goals first
    | exact aDh ‹_› (by omega)
    | exact aBy (by omega) (by omega)
    | (refine bH (MY c) rfl (gL _) ?_
       simp only [DV.ren,aR,↓gos,gop,qA,qB,qC,qD,qE,qF,qG,qH,qI]
       rw [aBM (by omega) (by omega)]
       exact bO rfl rfl rfl)
def CF (c:Int):Bool:=inR nZ c
theorem xH (c:Int):Ret 204 [.int .i64 c] (.bool (CF c)):=by
 refine aA c204 (by simp [f204]) ?_
 simp only [f204,↓gos,gop,qA,qB,qC,qD,qE,qF,qG,qH,qI]
 refine bH pY rfl (jT _) ?_
 simp only [DV.ren,aR,↓gos,gop,qA,qB,qC,qD,qE,qF,qG,qH,qI]
 refine aB (gD (prs nZ) c (by decide)) (by rw [List.map_cons,tF (i:=0) rfl rfl]; rfl) rfl ?_
 simp only [↓gos,gop,qA,qB,qC,qD,qE,qF,qG,qH,qI]
 exact aJ rfl
def kA (c:Int):Bool:=inR eF c
def IF (c:Int):Bool:=inR gJ c
theorem AE (c:Int):Ret 296 [.int .i64 c] (.bool (kA c)):=by
 refine aA c296 (by simp [f296]) ?_
 simp only [f296,↓gos,gop,qA,qB,qC,qD,qE,qF,qG,qH,qI]
 refine bH fU rfl (jT _) ?_
 simp only [DV.ren,aR,↓gos,gop,qA,qB,qC,qD,qE,qF,qG,qH,qI]
 refine aB (gD (prs eF) c (by decide)) (by rw [List.map_cons,tF (i:=0) rfl rfl]; rfl) rfl ?_
 simp only [↓gos,gop,qA,qB,qC,qD,qE,qF,qG,qH,qI]
 exact aJ rfl
theorem NT (c:Int):Ret 297 [.int .i64 c] (.bool (IF c)):=by
 refine aA c297 (by simp [f297]) ?_
 simp only [f297,↓gos,gop,qA,qB,qC,qD,qE,qF,qG,qH,qI]
 refine bH iE rfl (jT _) ?_
 simp only [DV.ren,aR,↓gos,gop,qA,qB,qC,qD,qE,qF,qG,qH,qI]
 refine aB (gD (prs gJ) c (by decide)) (by rw [List.map_cons,tF (i:=0) rfl rfl]; rfl) rfl ?_
 simp only [↓gos,gop,qA,qB,qC,qD,qE,qF,qG,qH,qI]
 exact aJ rfl
theorem aEY (c:Int):Ret 207 [.int .i64 c] (.bool (!CF c)):=by
 refine aA c207 (by simp [f207]) ?_
 simp only [f207,↓gos,gop,qA,qB,qC,qD,qE,qF,qG,qH,qI]
 refine aB (xH c) rfl rfl ?_
 cases h:CF c
 ·simp only [↓gos,gop,qA,qB,qC,qD,qE,qF,qG,qH,qI]
  exact aJ rfl
 ·simp only [↓gos,gop,qA,qB,qC,qD,qE,qF,qG,qH,qI]
  exact aJ rfl
theorem WV (l:List Int)(c:Int)(hl:l.length<1000000000000):ACalls ED 257 [] [.sl 1 (l.map num),.int .i64 c] fun h d=>h=[]∧∃ n:Int,d=.int .i64 n∧(0≤n↔l.contains c=true):=by
 refine aA c257 (by simp [f257]) ?_
 simp only [f257,↓gos,gop,qA,qB,qC,qD,qE,qF,qG,qH,qI]
 refine aM (γ:=Nat) (fun i=>[(0,.sl 1 (l.map num)),(1,.int .i64 c),(7,.int .i64 l.length),(8,.int .i64 i)]) (fun _=>[]) (fun i=>i≤l.length∧∀ j,j<i→l.getD j 0≠c) (fun i=>l.length - i) 0
  (wks rfl (Nat.zero_le _) ⟨rfl,rfl,rfl,rfl,trivial⟩) (by simp) fun i hi=>?_
 obtain ⟨hi,hp⟩:=hi
 simp only [f257l0,num,↓gos,gop,qA,qB,qC,qD,qE,qF,qG,qH,qI]
 refine ⟨fun h1=>aU 0 (by omega) ⟨fun h2=>aC rfl ⟨rfl,_,rfl,?_⟩,fun h2 v hv=>?_⟩,fun h1=>aC rfl ⟨rfl,_,rfl,?_⟩⟩
 ·refine ⟨fun _=>?_,fun _=>by omega⟩
  rw [List.contains_iff_mem,h2]
  simp [show i<l.length by omega]
 ·rw [wrap_i64 (by omega) (by omega)] at hv
  refine aQ (i+1) rfl (Nat.zero_le _) ⟨rfl,rfl,rfl,by show DV.int .i64 v=_; rw [hv]; rfl,trivial⟩ ⟨by omega,fun j hj=>?_⟩ (by omega)
  by_cases hji:j=i
  ·subst hji; exact fun q=>h2 q.symm
  ·exact hp j (by omega)
 ·refine ⟨fun h=>by omega,fun h=>?_⟩
  rw [List.contains_iff_mem] at h
  obtain ⟨j,hj,rfl⟩:=List.getElem_of_mem h
  have:=hp j (by omega)
  simp [hj] at this
theorem zP (l:List Int)(c:Int)(hl:l.length<1000000000000):Ret 205 [.sl 1 (l.map num),.int .i64 c] (.bool (l.contains c)):=by
 refine aA c205 (by simp [f205]) ?_
 simp only [f205,↓gos,gop,qA,qB,qC,qD,qE,qF,qG,qH,qI]
 refine fO (WV l c hl) rfl ?_ fun d hd=>?_
 ·cases hc:l.contains c
  ·exact ⟨_,-1,rfl,by omega,fun h=>by cases h⟩
  ·exact ⟨_,0,rfl,fun _=>rfl,by omega⟩
 ·obtain ⟨n,rfl,hn⟩:=hd
  refine ⟨rfl,?_⟩
  simp only [↓gos,gop,qA,qB,qC,qD,qE,qF,qG,qH,qI]
  refine ⟨fun h=>aJ ?_,fun h=>aJ ?_⟩
  ·rw [hn.1 h]
  ·cases hc:l.contains c
   ·rfl
   ·exact absurd (hn.2 hc) h
def signs:List Int:=[32,34,38,39,47,58,60,62,64]
def DZ (c:Int):Bool := !CF c && !signs.contains c
theorem aCQ (c:Int):Ret 203 [.int .i64 c] (.bool (DZ c)):=by
 refine aA c203 (by simp [f203]) ?_
 simp only [f203,↓gos,gop,qA,qB,qC,qD,qE,qF,qG,qH,qI]
 refine aB (xH c) rfl rfl ?_
 unfold DZ
 cases h:CF c
 ·simp only [↓gos,gop,qA,qB,qC,qD,qE,qF,qG,qH,qI]
  refine aB (zP signs c (by decide)) rfl rfl ?_
  cases h2:signs.contains c
  ·simp only [↓gos,gop,qA,qB,qC,qD,qE,qF,qG,qH,qI]
   exact aJ rfl
  ·simp only [↓gos,gop,qA,qB,qC,qD,qE,qF,qG,qH,qI]
   exact aJ rfl
 ·simp only [↓gos,gop,qA,qB,qC,qD,qE,qF,qG,qH,qI]
  exact aJ rfl
def FG (c:Int):Bool:=(decide (48≤c)&&decide (c≤57))||decide (c=45)||decide (c=46)||IF c||kA c
theorem aCN (c:Int):Ret 244 [.int .i64 c] (.bool (FG c)):=by
  refine aA c244 (by simp [f244]) ?_
  simp only [f244,↓gos,gop,qA,qB,qC,qD,qE,qF,qG,qH,qI]
  unfold FG
  repeat' (first | refine And.intro ?_ ?_ | intro _)
  all_goals first
    | (refine aJ ?_; simp [*]; done)
    | (refine bH iE rfl (jT _) ?_
       simp only [DV.ren,aR,↓gos,gop,qA,qB,qC,qD,qE,qF,qG,qH,qI]
       refine aB (gD (prs gJ) c (by decide)) (by rw [List.map_cons,tF (i:=0) rfl rfl]; rfl) rfl ?_
       rw [show ((prs gJ).any fun x=>rM x c)=IF c from rfl]
       cases h1:IF c
       · simp only [↓gos,gop,qA,qB,qC,qD,qE,qF,qG,qH,qI]
         refine bH fU rfl (jT _) ?_
         simp only [DV.ren,aR,↓gos,gop,qA,qB,qC,qD,qE,qF,qG,qH,qI]
         refine aB (gD (prs eF) c (by decide)) (by rw [List.map_cons,tF (i:=1) rfl rfl]; rfl) rfl ?_
         rw [show ((prs eF).any fun x=>rM x c)=kA c from rfl]
         cases h2:kA c
         · simp only [↓gos,gop,qA,qB,qC,qD,qE,qF,qG,qH,qI]
           refine aJ ?_
           simp [*]
         · simp only [↓gos,gop,qA,qB,qC,qD,qE,qF,qG,qH,qI]
           refine aJ ?_
           simp [*]
       · simp only [↓gos,gop,qA,qB,qC,qD,qE,qF,qG,qH,qI]
         refine aJ ?_
         simp [*])
end Go.Proofs.Ut
