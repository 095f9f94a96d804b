/- The functions of strings.Replacer, as texts of our small language. -/
import Derived.Test.YtbnmhlienklfpaaGreatDoorAiCode
import Derived.Test.YtbnmhlienklfpaaGreatDoorProg
import Derived.KernelRfl
set_option linter.all false
namespace Go.Proofs.Ut
open Go.Ai
set_option maxRecDepth 100000
def f41 : AFun := ⟨1, 12, [.t 2], (.seq (.region false [oO 2 (.set (.c .nilp))])
  (.seq (.seq (.region false [oM 3 0, oO 4 (.len false (.t 3)), oO 5 (.bin .rem .prim (.t 4) (oI 2)), oO 6 (.bin .eql .prim (.t 5) (oI 1))])
  (.cond (.t 6) (.region false [oO 7 (.mkifc 9 (.c (.str [115, 116, 114, 105, 110, 103, 115, 46, 78, 101, 119, 82, 101, 112, 108, 97, 99, 101, 114, 58, 32, 111, 100, 100, 32, 97, 114, 103, 117, 109, 101, 110, 116, 32, 99, 111, 117, 110, 116]))), ⟨none, .bad, none⟩])
  .skip))
  (.seq (.region false [oM 8 0, oO 9 (.append 1 16 (.c (.nils 1)) (.t 8)), oO 10 (.build [(.int .u32 0), (.int .i32 0), (.int .u32 0), .nili, (.nils 1)] [(4, 1, (.t 9))]), oO 11 (.box (.t 10)), oS 2 11])
  .ret)))⟩
theorem c41 : cfun Tryz.prog 41 = some f41 := by kernel_rfl
def f42 : AFun := ⟨2, 17, [.t 4], (.seq (.region false [oO 4 (.set (.c (.str [])))])
  (.seq (.region false [oM 5 0, oO 6 (.nilchk (.t 5)), oO 7 (.faddr 0 (.t 6)), oM 8 0, oO 9 (.mkbnd 68 (.t 8)), oO 10 (.call true 67 [(.t 7), (.t 9)])])
  (.seq (.region false [oM 11 0, oO 12 (.nilchk (.t 11)), oO 13 (.faddr 3 (.t 12)), oO 14 (.load none (.t 13)), oM 15 1, oO 16 (.inv true "Replace" (.t 14) [(.t 15)]), oS 4 16])
  .ret)))⟩
theorem c42 : cfun Tryz.prog 42 = some f42 := by kernel_rfl
def f68 : AFun := ⟨1, 10, [], (.seq (.region false [oM 2 0, oM 3 0, oO 4 (.call true 94 [(.t 3)]), oO 5 (.nilchk (.t 2)), oO 6 (.faddr 3 (.t 5)), ⟨none, .store true 1 (.t 6) (.t 4), none⟩])
  (.region false [oM 7 0, oO 8 (.nilchk (.t 7)), oO 9 (.faddr 4 (.t 8)), ⟨none, .store true 1 (.t 9) (.c (.nils 1)), none⟩]))⟩
theorem c68 : cfun Tryz.prog 68 = some f68 := by kernel_rfl
def f94l0 : ACode := (.seq (.seq (.region false [oM 37 5, oM 38 3, oO 39 (.len false (.t 38)), oO 40 (.bin .lss .prim (.t 37) (.t 39))])
  (.cond (.t 40) .skip
  (.exit 0)))
  (.seq (.block 1 (.seq (.seq (.region false [oM 43 3, oM 44 5, oO 45 (.iaddr 1 (.t 43) (.t 44)), oO 46 (.load none (.t 45)), oO 47 (.len true (.t 46)), oO 48 (.bin .neq .prim (.t 47) (oI 1))])
  (.cond (.t 48) (.seq (.region false [oM 49 3, oO 50 (.call true 117 [(.t 49)]), oO 51 (.mkifc 172 (.t 50)), oS 2 51])
  .ret)
  .skip))
  (.seq (.region false [oM 52 3, oM 53 5, oO 54 (.bin .add .prim (.t 53) (oI 1)), oO 55 (.iaddr 1 (.t 52) (.t 54)), oO 56 (.load none (.t 55)), oO 57 (.len true (.t 56)), oO 58 (.bin .neq .prim (.t 57) (oI 1))])
  (.cond (.t 58) (.region false [oO 4 (.set (.c (.bool false)))])
  .skip))))
  (.region false [oM 41 5, oO 42 (.bin .add .prim (.t 41) (oI 2)), oS 5 42])))
def f94l1 : ACode := (.seq (.region false [oO 62 (.bin .lss .prim (.t 61) (oI 256))])
  (.seq (.cond (.t 62) .skip
  (.exit 2))
  (.seq (.block 3 (.seq (.region false [oM 63 61, oS 7 63])
  (.region false [oM 64 7, oM 65 7, oO 66 (.conv (.int .u8) (.t 65)), oO 67 (.baddr 256 1 (.t 6) (.t 64)), ⟨none, .store true 1 (.t 67) (.t 66), none⟩])))
  (.region false [oO 68 (.bin .add .prim (.t 61) (oI 1)), oM 61 68]))))
def f94l2 : ACode := (.seq (.seq (.region false [oM 72 8, oO 73 (.bin .geq .prim (.t 72) (oI 0))])
  (.cond (.t 73) .skip
  (.exit 4)))
  (.seq (.block 5 (.seq (.region false [oM 76 3, oM 77 8, oO 78 (.iaddr 1 (.t 76) (.t 77)), oO 79 (.load none (.t 78)), oO 80 (.sidx (.t 79) (oI 0)), oS 9 80])
  (.seq (.region false [oM 81 3, oM 82 8, oO 83 (.bin .add .prim (.t 82) (oI 1)), oO 84 (.iaddr 1 (.t 81) (.t 83)), oO 85 (.load none (.t 84)), oO 86 (.sidx (.t 85) (oI 0)), oS 10 86])
  (.region false [oM 87 9, oM 88 10, oO 89 (.baddr 256 1 (.t 6) (.t 87)), ⟨none, .store true 1 (.t 89) (.t 88), none⟩]))))
  (.region false [oM 74 8, oO 75 (.bin .sub .prim (.t 74) (oI 2)), oS 8 75])))
def f94l3 : ACode := (.seq (.seq (.region false [oM 99 12, oO 100 (.bin .geq .prim (.t 99) (oI 0))])
  (.cond (.t 100) .skip
  (.exit 6)))
  (.seq (.block 7 (.seq (.region false [oM 103 3, oM 104 12, oO 105 (.iaddr 1 (.t 103) (.t 104)), oO 106 (.load none (.t 105)), oO 107 (.sidx (.t 106) (oI 0)), oS 13 107])
  (.seq (.region false [oM 108 3, oM 109 12, oO 110 (.bin .add .prim (.t 109) (oI 1)), oO 111 (.iaddr 1 (.t 108) (.t 110)), oO 112 (.load none (.t 111)), oS 14 112])
  (.seq (.seq (.region false [oM 113 13, oO 114 (.faddr 0 (.t 11)), oO 115 (.baddr 256 1 (.t 114) (.t 113)), oO 116 (.load none (.t 115)), oO 117 (.bin .eql .slc (.t 116) (.c (.nils 1)))])
  (.cond (.t 117) (.region false [oO 118 (.faddr 256 (.t 11)), oO 119 (.load none (.t 118)), oM 120 13, oO 121 (.bslice true 1 [(.t 120)]), oO 122 (.conv .b2s (.t 121)), oO 123 (.bslice true 1 [(.t 122)]), oO 124 (.append 1 16 (.t 119) (.t 123)), oO 125 (.faddr 256 (.t 11)), ⟨none, .store true 1 (.t 125) (.t 124), none⟩])
  .skip))
  (.region false [oM 126 13, oM 127 14, oO 128 (.conv .s2b (.t 127)), oO 129 (.faddr 0 (.t 11)), oO 130 (.baddr 256 1 (.t 129) (.t 126)), ⟨none, .store true 1 (.t 130) (.t 128), none⟩])))))
  (.region false [oM 101 12, oO 102 (.bin .sub .prim (.t 101) (oI 2)), oS 12 102])))
def f94 : AFun := ⟨1, 132, [.t 2], (.seq (.region false [oO 2 (.set (.c .nili))])
  (.seq (.region false [oM 15 0, oO 16 (.nilchk (.t 15)), oO 17 (.faddr 4 (.t 16)), oO 18 (.load none (.t 17)), oS 3 18])
  (.seq (.seq (.region false [oM 19 3, oO 20 (.len false (.t 19)), oO 21 (.bin .eql .prim (.t 20) (oI 2)), oM 22 21, oG 23 22 (.mov (.t 3)), oG 24 22 (.iaddr 1 (.t 23) (oI 0)), oG 25 22 (.load none (.t 24)), oG 26 22 (.len true (.t 25)), oG 27 22 (.bin .gtr .prim (.t 26) (oI 1)), oO 28 (.pick (.t 22) (.t 27) (.c (.bool false)))])
  (.cond (.t 28) (.seq (.region true [oM 29 3, oO 30 (.iaddr 1 (.t 29) (oI 0)), oO 31 (.load none (.t 30)), oM 32 3, oO 33 (.iaddr 1 (.t 32) (oI 1)), oO 34 (.load none (.t 33)), oO 35 (.call true 116 [(.t 31), (.t 34)]), oO 36 (.mkifc 170 (.t 35)), oS 2 36])
  .ret)
  .skip))
  (.seq (.region false [oO 4 (.set (.c (.bool true)))])
  (.seq (.seq (.region false [oO 5 (.set (oI 0))])
  (.block 0 (.loop f94l0)))
  (.seq (.seq (.region false [oM 59 4])
  (.cond (.t 59) (.seq (.region false [oO 60 (.bad), oO 6 (.alloc (List.replicate 256 (.int .u8 0) ++ [])), ⟨none, .store true 256 (.t 6) (.t 60), none⟩])
  (.seq (.seq (.region false [oO 61 (.mov (oI 0))])
  (.block 2 (.loop f94l1)))
  (.seq (.seq (.region false [oM 69 3, oO 70 (.len false (.t 69)), oO 71 (.bin .sub .prim (.t 70) (oI 2)), oS 8 71])
  (.block 4 (.loop f94l2)))
  (.seq (.region false [oO 90 (.mkifc 175 (.t 6)), oS 2 90])
  .ret))))
  .skip))
  (.seq (.region false [oM 91 3, oO 92 (.len false (.t 91)), oO 93 (.bin .quo .prim (.t 92) (oI 2)), oO 94 (.mkslice 1 16 [(.str [])] (oI 0) (.t 93)), oO 95 (.build (List.replicate 257 (.emp true 1) ++ []) [(256, 1, (.t 94))]), oO 11 (.alloc (List.replicate 257 (.emp true 1) ++ [])), ⟨none, .store true 257 (.t 11) (.t 95), none⟩])
  (.seq (.seq (.region false [oM 96 3, oO 97 (.len false (.t 96)), oO 98 (.bin .sub .prim (.t 97) (oI 2)), oS 12 98])
  (.block 6 (.loop f94l3)))
  (.seq (.region false [oO 131 (.mkifc 179 (.t 11)), oS 2 131])
  .ret)))))))))⟩
theorem c94 : cfun Tryz.prog 94 = some f94 := by kernel_rfl
def f189l0 : ACode := (.seq (.region false [oO 33 (.bin .lss .prim (.t 32) (.t 31))])
  (.seq (.cond (.t 33) .skip
  (.exit 0))
  (.seq (.block 1 (.seq (.region false [oO 34 (.iaddr 1 (.t 30) (.t 32)), oO 35 (.load none (.t 34)), oS 8 35])
  (.seq (.region false [oM 36 1, oM 37 8, oO 38 (.call true 191 [(.t 36), (.t 37)]), oS 9 38])
  (.seq (.region false [oM 39 9, oO 40 (.bin .neq .prim (.t 39) (oI 0))])
  (.cond (.t 40) (.seq (.region true [oM 41 5, oM 42 9, oM 43 0, oM 44 8, oO 45 (.sidx (.t 44) (oI 0)), oO 46 (.nilchk (.t 43)), oO 47 (.faddr 0 (.t 46)), oO 48 (.baddr 256 1 (.t 47) (.t 45)), oO 49 (.load none (.t 48)), oO 50 (.len false (.t 49)), oO 51 (.bin .sub .prim (.t 50) (oI 1)), oO 52 (.bin .mul .prim (.t 42) (.t 51)), oO 53 (.bin .add .prim (.t 41) (.t 52)), oS 5 53])
  (.region false [oO 6 (.set (.c (.bool true)))]))
  .skip)))))
  (.region false [oO 54 (.bin .add .prim (.t 32) (oI 1)), oM 32 54]))))
def f189l1 : ACode := (.seq (.seq (.region false [oM 55 10, oM 56 1, oO 57 (.len true (.t 56)), oO 58 (.bin .lss .prim (.t 55) (.t 57))])
  (.cond (.t 58) .skip
  (.exit 2)))
  (.seq (.block 3 (.seq (.region false [oM 61 1, oM 62 10, oO 63 (.sidx (.t 61) (.t 62)), oS 11 63])
  (.seq (.region false [oM 64 0, oM 65 11, oO 66 (.nilchk (.t 64)), oO 67 (.faddr 0 (.t 66)), oO 68 (.baddr 256 1 (.t 67) (.t 65)), oO 69 (.load none (.t 68)), oO 70 (.bin .neq .slc (.t 69) (.c (.nils 1)))])
  (.cond (.t 70) (.seq (.region false [oM 71 5, oM 72 0, oM 73 11, oO 74 (.nilchk (.t 72)), oO 75 (.faddr 0 (.t 74)), oO 76 (.baddr 256 1 (.t 75) (.t 73)), oO 77 (.load none (.t 76)), oO 78 (.len false (.t 77)), oO 79 (.bin .sub .prim (.t 78) (oI 1)), oO 80 (.bin .add .prim (.t 71) (.t 79)), oS 5 80])
  (.region false [oO 6 (.set (.c (.bool true)))]))
  .skip))))
  (.region false [oM 59 10, oO 60 (.bin .add .prim (.t 59) (oI 1)), oS 10 60])))
def f189l2 : ACode := (.seq (.seq (.region false [oM 86 14, oM 87 1, oO 88 (.len true (.t 87)), oO 89 (.bin .lss .prim (.t 86) (.t 88))])
  (.cond (.t 89) .skip
  (.exit 4)))
  (.seq (.block 5 (.seq (.region false [oM 92 1, oM 93 14, oO 94 (.sidx (.t 92) (.t 93)), oS 15 94])
  (.seq (.region false [oM 95 0, oM 96 15, oO 97 (.nilchk (.t 95)), oO 98 (.faddr 0 (.t 97)), oO 99 (.baddr 256 1 (.t 98) (.t 96)), oO 100 (.load none (.t 99)), oO 101 (.bin .neq .slc (.t 100) (.c (.nils 1)))])
  (.cond (.t 101) (.region true [oM 102 13, oM 103 12, oM 104 13, oO 105 (.slice (some 1) (.t 103) (some (.t 104)) none), oM 106 0, oM 107 15, oO 108 (.nilchk (.t 106)), oO 109 (.faddr 0 (.t 108)), oO 110 (.baddr 256 1 (.t 109) (.t 107)), oO 111 (.load none (.t 110)), oO 112 (.cpy 1 (.t 105) (.t 111)), oO 113 (.bin .add .prim (.t 102) (.t 112)), oS 13 113])
  (.seq (.region false [oM 114 12, oM 115 13, oM 116 15, oO 117 (.iaddr 1 (.t 114) (.t 115)), ⟨none, .store true 1 (.t 117) (.t 116), none⟩])
  (.region false [oM 118 13, oO 119 (.bin .add .prim (.t 118) (oI 1)), oS 13 119]))))))
  (.region false [oM 90 14, oO 91 (.bin .add .prim (.t 90) (oI 1)), oS 14 91])))
def f189t : ACode := (.seq (.seq (.region false [oM 81 6, oO 82 (.un .not (.t 81))])
  (.cond (.t 82) (.seq (.region false [oM 83 1, oS 4 83])
  .ret)
  .skip))
  (.seq (.region false [oM 84 5, oO 85 (.mkslice 1 1 [(.int .u8 0)] (.t 84) (.t 84)), oS 12 85])
  (.seq (.region false [oO 13 (.set (oI 0))])
  (.seq (.seq (.region false [oO 14 (.set (oI 0))])
  (.block 4 (.loop f189l2)))
  (.seq (.region false [oM 120 12, oO 121 (.conv .b2s (.t 120)), oS 4 121])
  .ret)))))
def f189 : AFun := ⟨2, 122, [.t 4], (.seq (.region false [oO 4 (.set (.c (.str [])))])
  (.seq (.region false [oM 16 1, oO 17 (.len true (.t 16)), oS 5 17])
  (.seq (.region false [oO 6 (.set (.c (.bool false)))])
  (.seq (.seq (.region false [oM 18 0, oO 19 (.nilchk (.t 18)), oO 20 (.faddr 256 (.t 19)), oO 21 (.load none (.t 20)), oO 22 (.len false (.t 21)), oO 23 (.bin .mul .prim (.t 22) (oI 8)), oM 24 1, oO 25 (.len true (.t 24)), oO 26 (.bin .leq .prim (.t 23) (.t 25))])
  (.cond (.t 26) (.seq (.region false [oM 27 0, oO 28 (.nilchk (.t 27)), oO 29 (.faddr 256 (.t 28)), oO 30 (.load none (.t 29)), oO 31 (.len false (.t 30)), oO 32 (.mov (oI 0))])
  (.block 0 (.loop f189l0)))
  (.seq (.region false [oO 10 (.set (oI 0))])
  (.block 2 (.loop f189l1)))))
  f189t))))⟩
theorem c189 : cfun Tryz.prog 189 = some f189 := by kernel_rfl

end Go.Proofs.Ut
