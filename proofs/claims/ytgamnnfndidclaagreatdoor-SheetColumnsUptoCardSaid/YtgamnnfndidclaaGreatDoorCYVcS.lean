/- What is refused: rows without their end, escapes that are none, too much. -/
import Derived.Test.YtgamnnfndidclaaGreatDoorCYFoE
import Derived.Test.YtgamnnfndidclaaGreatDoorCYFoUtD
import Derived.Shelf.Strings.OnBuilder
import Derived.Shelf.Strings.SlTrimAscii
set_option linter.all false
namespace Go.Proofs.Ut
open Go.Ai Classical Go.Shelf Go.RowKit
set_option linter.unusedSimpArgs false
set_option linter.unusedVariables false
set_option maxHeartbeats 1000000
set_option maxRecDepth 100000
def byv (bs:List UInt8):List (List DV):=bs.map fun b=>[.int .u8 b.toNat]
theorem aAp (bs:List UInt8)(i:Nat)(c:UInt8)(n:Int)(hn:(c.toNat:Int)=n):(byv bs).set i [.int .u8 n]=byv (bs.set i c):=by
 subst hn
 unfold byv
 rw [List.map_set]
end Go.Proofs.Ut

namespace Go.Proofs.Ut
open Go.Ai
set_option linter.unusedSimpArgs false
set_option linter.unusedVariables false
set_option maxRecDepth 100000
def Cl (s:List UInt8):Prop:=bC bQ s 0=true∧∀ x∈s,x≠13∧x≠10
def BEG:List UInt8:=[66,69,71,73,78,58,86,67,65,82,68]
def END:List UInt8:=[69,78,68,58,86,67,65,82,68]
def VER:List UInt8:=[86,69,82,83,73,79,78]
def FIR:List UInt8:=[66,69,71,73,78]
def V40:List UInt8:=[52,46,48]
def ef (s t:List UInt8):Bool:=Lib.equalFold s t
def QD (p:PR):Bool := !decide (p.n=FIR) && !decide (p.n=VER)
def iX (p:PR):Bool:=(tL (aT p)).2&&decide ((tL (aT p)).1=p)&&QD p && !ef (aT p) END&&bC bQ (aT p) 0 && !WD (aT p)
def cN (l:List (List PR)):List (List UInt8):=l.flatMap fun c=>[BEG,VER++58::V40]++c.map aT++[END]
def okW (l:List (List PR)):Bool:=decide (l.length≤60)&&l.all fun c=>decide (c.length≤40)&&c.all iX
def lH (l:List (List PR)):List UInt8×Int:=if okW l=false then ([],12) else if 20000<(gZ (cN l)).length then ([],4) else (gZ (cN l),0)
end Go.Proofs.Ut

namespace Go.Proofs
open Go.Shelf Go.RowKit Go.Lib
set_option maxHeartbeats 2000000 in
set_option maxRecDepth 1000000 in
theorem Any.unicode_SimpleFold_ascii {P:Program}{ρ:Ren}(L:Lays.n239 P ρ)(c:Nat)(v:Int)(w:World)(hc:c<128)(hv0:0≤v)(hv:v<65536)(hcell:w.cell? ⟨ρ.g 11,c,none⟩=some (.int .u16 v)) :
  Calls P (ρ.f 239) #[.int .i32 c] w fun e w' => e=.returned (.int .i32 v)∧w' = w:=by
 have hcz:(c:Int)≤1114111:=by omega
 have hcz2:(c:Int)<128:=by omega
 have hw:IntKind.i32.wrap v=v:=by simp [IntKind.wrap,IntKind.bits,IntKind.signed]; omega
 have t4:=L.t4; have a4:=L.a4; have z4:=L.z4; have v4:=L.v4
 have t3:=L.t3; have a3:=L.a3; have z3:=L.z3; have v3:=L.v3
 have t21:=L.t21; have a21:=L.a21; have z21:=L.z21; have v21:=L.v21
 have t49:=L.t49; have a49:=L.a49; have z49:=L.z49; have v49:=L.v49
 have t156:=L.t156; have a156:=L.a156; have z156:=L.z156
 go_enter L.f239,Body.n239_ntmps ρ
 go_wp2
 all_goals (first | (go_ret; exact ⟨by simp [hw],rfl⟩) | (exfalso; omega) | skip)
end Go.Proofs
