/-
  DERIVED: THE SHELF's CONTRACTS AT THIS DUMP, IN PLAIN WORDS (tools/lay-plain.mjs out of 'VcShelf.lean', which tools/lay-shelf.mjs wrote): THE SAME DECLARATIONS UNDER THE SAME NAMES: 'import', 'namespace', 'open', 'def', 'theorem' AND NOTHING ELSE: no command of the shelf's: FOR A HAND-IN. Each laying: the table of numbers ('.._ren') and one theorem, a field a fact of the dump's own or the kernel's comparison; each contract: ONE APPLICATION.
-/
import Derived.Shelf.Lays
import Derived.Ground.NamesProg
import Derived.Test.YtbnmhlienklfpaaDoorProg
import Derived.Test.YtbnmhlienklfpaaDoorFoD
import Derived.Test.YtbnmhlienklfpaaDoorVcFuns
import Derived.Test.YtbnmhlienklfpaaDoorVcN
import Derived.Shelf.Strings.OnBuilder
import Derived.Shelf.Strings.SlTrimAscii
set_option linter.all false
namespace Go.Proofs
open Go.Shelf
def Tryd.lays158_ren : Go.Shelf.Ren := ⟨fun | 158 => 82 | 165 => 98 | 166 => 28 | 167 => 99 | 169 => 29 | 230 => 100 | 203 => 101 | 240 => 53 | 241 => 110 | 197 => 52 | 118 => 111 | 168 => 112 | 270 => 113 | 262 => 114 | 276 => 69 | 277 => 116 | 260 => 68 | 242 => 117 | 313 => 118 | 278 => 119 | 274 => 78 | 275 => 79 | n => n, fun | 9 => 9 | 4 => 4 | 3 => 3 | 5 => 5 | 72 => 63 | 0 => 0 | 76 => 67 | 75 => 66 | 107 => 101 | 70 => 61 | 20 => 20 | 37 => 34 | 127 => 97 | 21 => 21 | 105 => 95 | 164 => 111 | 162 => 127 | 203 => 172 | 119 => 137 | 46 => 31 | 139 => 140 | 138 => 139 | 51 => 147 | 160 => 125 | 208 => 151 | 206 => 149 | 80 => 69 | n => n, fun | 13 => 2 | 3 => 3 | 4 => 4 | n => n⟩
theorem Tryd.lays158 : Go.Proofs.Lays.n158 Tryd.prog Tryd.lays158_ren := {
  mixed := by kernel_rfl
  f118 := Tryd.func111.trans (congrArg some (by kernel_rfl))
  f158 := Tryd.func82.trans (congrArg some (by kernel_rfl))
  f165 := Tryd.func98.trans (congrArg some (by kernel_rfl))
  f166 := Tryd.func28.trans (congrArg some (by kernel_rfl))
  f167 := Tryd.func99.trans (congrArg some (by kernel_rfl))
  f168 := Tryd.func112.trans (congrArg some (by kernel_rfl))
  f169 := Tryd.func29.trans (congrArg some (by kernel_rfl))
  f197 := Tryd.func52.trans (congrArg some (by kernel_rfl))
  f203 := Tryd.func101.trans (congrArg some (by kernel_rfl))
  f230 := Tryd.func100.trans (congrArg some (by kernel_rfl))
  f240 := Tryd.func53.trans (congrArg some (by kernel_rfl))
  f241 := Tryd.func110.trans (congrArg some (by kernel_rfl))
  f242 := Tryd.func117.trans (congrArg some (by kernel_rfl))
  f260 := Tryd.func68.trans (congrArg some (by kernel_rfl))
  f262 := Tryd.func114.trans (congrArg some (by kernel_rfl))
  f270 := Tryd.func113.trans (congrArg some (by kernel_rfl))
  f274 := Tryd.func78.trans (congrArg some (by kernel_rfl))
  f275 := Tryd.func79.trans (congrArg some (by kernel_rfl))
  f276 := Tryd.func69.trans (congrArg some (by kernel_rfl))
  f277 := Tryd.func116.trans (congrArg some (by kernel_rfl))
  f278 := Tryd.func119.trans (congrArg some (by kernel_rfl))
  f313 := Tryd.func118.trans (congrArg some (by kernel_rfl))
  t0 := Tryd.underlying0
  a0 := Tryd.isAgg0
  z0 := Tryd.sizeOf0
  v0 := Tryd.zeroValue0
  t3 := Tryd.underlying3
  a3 := Tryd.isAgg3
  z3 := Tryd.sizeOf3
  v3 := Tryd.zeroValue3
  t4 := Tryd.underlying4
  a4 := Tryd.isAgg4
  z4 := Tryd.sizeOf4
  v4 := Tryd.zeroValue4
  t5 := Tryd.underlying5
  a5 := Tryd.isAgg5
  z5 := Tryd.sizeOf5
  v5 := Tryd.zeroValue5
  t9 := Tryd.underlying9
  a9 := Tryd.isAgg9
  z9 := Tryd.sizeOf9
  v9 := Tryd.zeroValue9
  t20 := Tryd.underlying20
  a20 := Tryd.isAgg20
  z20 := Tryd.sizeOf20
  v20 := Tryd.zeroValue20
  t21 := Tryd.underlying21
  a21 := Tryd.isAgg21
  z21 := Tryd.sizeOf21
  v21 := Tryd.zeroValue21
  t37 := Tryd.underlying34
  a37 := Tryd.isAgg34
  z37 := Tryd.sizeOf34
  v37 := Tryd.zeroValue34
  t46 := Tryd.underlying31
  a46 := Tryd.isAgg31
  z46 := Tryd.sizeOf31
  v46 := Tryd.zeroValue31
  t51 := Tryd.underlying147
  a51 := Tryd.isAgg147
  z51 := Tryd.sizeOf147
  v51 := Tryd.zeroValue147
  t70 := Tryd.underlying61
  a70 := Tryd.isAgg61
  z70 := Tryd.sizeOf61
  v70 := Tryd.zeroValue61
  t72 := Tryd.underlying63
  a72 := Tryd.isAgg63
  z72 := Tryd.sizeOf63
  v72 := Tryd.zeroValue63
  t75 := Tryd.underlying66
  a75 := Tryd.isAgg66
  z75 := Tryd.sizeOf66
  v75 := Tryd.zeroValue66
  t76 := Tryd.underlying67
  a76 := Tryd.isAgg67
  z76 := Tryd.sizeOf67
  v76 := Tryd.zeroValue67
  t105 := Tryd.underlying95
  a105 := Tryd.isAgg95
  z105 := Tryd.sizeOf95
  v105 := Tryd.zeroValue95
  t107 := Tryd.underlying101
  a107 := Tryd.isAgg101
  z107 := Tryd.sizeOf101
  v107 := Tryd.zeroValue101
  t119 := Tryd.underlying137
  a119 := Tryd.isAgg137
  z119 := Tryd.sizeOf137
  t127 := Tryd.underlying97
  a127 := Tryd.isAgg97
  z127 := Tryd.sizeOf97
  v127 := Tryd.zeroValue97
  t138 := Tryd.underlying139
  a138 := Tryd.isAgg139
  z138 := Tryd.sizeOf139
  v138 := Tryd.zeroValue139
  t139 := Tryd.underlying140
  a139 := Tryd.isAgg140
  z139 := Tryd.sizeOf140
  v139 := Tryd.zeroValue140
  t160 := Tryd.underlying125
  a160 := Tryd.isAgg125
  z160 := Tryd.sizeOf125
  v160 := Tryd.zeroValue125
  t162 := Tryd.underlying127
  a162 := Tryd.isAgg127
  z162 := Tryd.sizeOf127
  v162 := Tryd.zeroValue127
  t164 := Tryd.underlying111
  a164 := Tryd.isAgg111
  z164 := Tryd.sizeOf111
  v164 := Tryd.zeroValue111
  t203 := Tryd.underlying172
  a203 := Tryd.isAgg172
  z203 := Tryd.sizeOf172
  v203 := Tryd.zeroValue172
  t206 := Tryd.underlying149
  a206 := Tryd.isAgg149
  z206 := Tryd.sizeOf149
  v206 := Tryd.zeroValue149
  t208 := Tryd.underlying151
  a208 := Tryd.isAgg151
  z208 := Tryd.sizeOf151
  v208 := Tryd.zeroValue151
  g3 := by kernel_rfl
  g4 := by kernel_rfl
  g13 := by kernel_rfl }
def Tryd.lays239_ren : Go.Shelf.Ren := ⟨fun | 239 => 60 | 274 => 78 | 275 => 79 | n => n, fun | 21 => 21 | 4 => 4 | 3 => 3 | 156 => 121 | 0 => 0 | 49 => 120 | 157 => 122 | 46 => 31 | 159 => 124 | 162 => 127 | 160 => 125 | 208 => 151 | 51 => 147 | 206 => 149 | n => n, fun | 11 => 0 | 12 => 1 | 13 => 2 | n => n⟩
theorem Tryd.lays239 : Go.Proofs.Lays.n239 Tryd.prog Tryd.lays239_ren := {
  mixed := by kernel_rfl
  f239 := Tryd.func60.trans (congrArg some (by kernel_rfl))
  f274 := Tryd.func78.trans (congrArg some (by kernel_rfl))
  f275 := Tryd.func79.trans (congrArg some (by kernel_rfl))
  t0 := Tryd.underlying0
  a0 := Tryd.isAgg0
  z0 := Tryd.sizeOf0
  v0 := Tryd.zeroValue0
  t3 := Tryd.underlying3
  a3 := Tryd.isAgg3
  z3 := Tryd.sizeOf3
  v3 := Tryd.zeroValue3
  t4 := Tryd.underlying4
  a4 := Tryd.isAgg4
  z4 := Tryd.sizeOf4
  v4 := Tryd.zeroValue4
  t21 := Tryd.underlying21
  a21 := Tryd.isAgg21
  z21 := Tryd.sizeOf21
  v21 := Tryd.zeroValue21
  t46 := Tryd.underlying31
  a46 := Tryd.isAgg31
  z46 := Tryd.sizeOf31
  v46 := Tryd.zeroValue31
  t49 := Tryd.underlying120
  a49 := Tryd.isAgg120
  z49 := Tryd.sizeOf120
  v49 := Tryd.zeroValue120
  t51 := Tryd.underlying147
  a51 := Tryd.isAgg147
  z51 := Tryd.sizeOf147
  v51 := Tryd.zeroValue147
  t156 := Tryd.underlying121
  a156 := Tryd.isAgg121
  z156 := Tryd.sizeOf121
  t157 := Tryd.underlying122
  a157 := Tryd.isAgg122
  z157 := Tryd.sizeOf122
  v157 := Tryd.zeroValue122
  t159 := Tryd.underlying124
  a159 := Tryd.isAgg124
  z159 := Tryd.sizeOf124
  v159 := Tryd.zeroValue124
  t160 := Tryd.underlying125
  a160 := Tryd.isAgg125
  z160 := Tryd.sizeOf125
  v160 := Tryd.zeroValue125
  t162 := Tryd.underlying127
  a162 := Tryd.isAgg127
  z162 := Tryd.sizeOf127
  v162 := Tryd.zeroValue127
  t206 := Tryd.underlying149
  a206 := Tryd.isAgg149
  z206 := Tryd.sizeOf149
  v206 := Tryd.zeroValue149
  t208 := Tryd.underlying151
  a208 := Tryd.isAgg151
  z208 := Tryd.sizeOf151
  v208 := Tryd.zeroValue151
  g11 := by kernel_rfl
  g12 := by kernel_rfl
  g13 := by kernel_rfl }
end Go.Proofs

/- What the library does for cards: capitals, a case's other letter, what is trimmed. -/
namespace Go.Proofs
open Go.Shelf Go.RowKit Go.Lib
set_option maxHeartbeats 2000000 in
set_option maxRecDepth 1000000 in
theorem Any.unicode_SimpleFold_ascii {P : Program} {ρ : Ren} (L : Lays.n239 P ρ) (c : Nat) (v : Int) (w : World) (hc : c < 128) (hv0 : 0 ≤ v) (hv : v < 65536) (hcell : w.cell? ⟨ρ.g 11, c, none⟩ = some (.int .u16 v)) :
    Calls P (ρ.f 239) #[.int .i32 c] w fun e w' => e = .returned (.int .i32 v) ∧ w' = w := by
  have hcz : (c : Int) ≤ 1114111 := by omega
  have hcz2 : (c : Int) < 128 := by omega
  have hw : IntKind.i32.wrap v = v := by simp [IntKind.wrap, IntKind.bits, IntKind.signed]; omega
  have t4 := L.t4; have a4 := L.a4; have z4 := L.z4; have v4 := L.v4
  have t3 := L.t3; have a3 := L.a3; have z3 := L.z3; have v3 := L.v3
  have t21 := L.t21; have a21 := L.a21; have z21 := L.z21; have v21 := L.v21
  have t49 := L.t49; have a49 := L.a49; have z49 := L.z49; have v49 := L.v49
  have t156 := L.t156; have a156 := L.a156; have z156 := L.z156
  go_enter L.f239, Body.n239_ntmps ρ
  go_wp2
  all_goals (first | (go_ret; exact ⟨by simp [hw], rfl⟩) | (exfalso; omega) | skip)
end Go.Proofs
