/- The functions that the laws of the great seat reach, as texts of our small language. -/
import Derived.Test.YtbnmhlienklfpaaGreatDoorAiCode
import Derived.Test.YtbnmhlienklfpaaGreatDoorProg
import Derived.KernelRfl
set_option linter.all false
namespace Go.Proofs.Ut
open Go.Ai
set_option maxRecDepth 100000
def f5l0 : ACode := (.seq (.seq (.region false [oM 26 6, oM 27 1, oO 28 (.len false (.t 27)), oO 29 (.bin .lss .prim (.t 26) (.t 28))])
  (.cond (.t 29) .skip
  (.exit 0)))
  (.seq (.block 1 (.seq (.seq (.region false [oM 32 1, oM 33 6, oO 34 (.iaddr 1 (.t 32) (.t 33)), oO 35 (.load none (.t 34)), oO 36 (.call true 19 [(.t 35)]), oO 37 (.un .not (.t 36))])
  (.cond (.t 37) (.seq (.region false [oO 38 (.call true 18 []), oS 4 38])
  .ret)
  .skip))
  (.region false [oM 39 5, oM 40 1, oM 41 6, oO 42 (.iaddr 1 (.t 40) (.t 41)), oO 43 (.load none (.t 42)), oO 44 (.len false (.t 43)), oO 45 (.bin .add .prim (.t 39) (.t 44)), oS 5 45])))
  (.region false [oM 30 6, oO 31 (.bin .add .prim (.t 30) (oI 1)), oS 6 31])))
def f5 : AFun := ⟨2, 97, [.t 4], (.seq (.region false [oO 4 (.set (.c (.bool false)))])
  (.seq (.seq (.region false [oM 17 0, oO 18 (.len true (.t 17)), oO 19 (.bin .gtr .prim (.t 18) (oI 5000)), oM 20 19, ⟨(some 21), .mov (.t 1), some (20, false)⟩, ⟨(some 22), .len false (.t 21), some (20, false)⟩, ⟨(some 23), .bin .gtr .prim (.t 22) (oI 70), some (20, false)⟩, oO 24 (.pick (.t 20) (.c (.bool true)) (.t 23))])
  (.cond (.t 24) (.seq (.region false [oO 25 (.call true 18 []), oS 4 25])
  .ret)
  .skip))
  (.seq (.region false [oO 5 (.set (oI 0))])
  (.seq (.seq (.region false [oO 6 (.set (oI 0))])
  (.block 0 (.loop f5l0)))
  (.seq (.seq (.region false [oM 46 5, oO 47 (.bin .gtr .prim (.t 46) (oI 200))])
  (.cond (.t 47) (.seq (.region false [oO 48 (.call true 18 []), oS 4 48])
  .ret)
  .skip))
  (.seq (.region false [oM 50 0, oO 51 (.call true 20 [(.t 50)]), oM 49 51, oO 52 (.extr (.t 49) 0), oO 53 (.extr (.t 49) 1), oO 54 (.extr (.t 49) 2), oS 7 52, oS 8 53, oS 9 54])
  (.seq (.region false [oM 56 0, oO 57 (.call true 21 [(.t 56)]), oM 55 57, oO 58 (.extr (.t 55) 0), oO 59 (.extr (.t 55) 1), oO 60 (.extr (.t 55) 2), oS 10 58, oS 11 59, oS 12 60])
  (.seq (.region false [oM 62 1, oO 63 (.call true 22 [(.t 62)]), oM 61 63, oO 64 (.extr (.t 61) 0), oO 65 (.extr (.t 61) 1), oS 13 64, oS 14 65])
  (.seq (.region false [oM 67 1, oO 68 (.call true 23 [(.t 67)]), oM 66 68, oO 69 (.extr (.t 66) 0), oO 70 (.extr (.t 66) 1), oS 15 69, oS 16 70])
  (.seq (.region false [oO 71 (.call true 18 []), oM 72 71, oG 73 72 (.mov (.t 7)), oG 74 72 (.mov (.t 10)), oG 75 72 (.call true 24 [(.t 73), (.t 74), (.c (.fn 25 []))]), oO 76 (.pick (.t 72) (.t 75) (.c (.bool false))), oM 77 76, oG 78 77 (.mov (.t 8)), oG 79 77 (.mov (.t 11)), oG 80 77 (.bin .eql .prim (.t 78) (.t 79)), oO 81 (.pick (.t 77) (.t 80) (.c (.bool false))), oM 82 81, oG 83 82 (.mov (.t 9)), oG 84 82 (.mov (.t 12)), oG 85 82 (.bin .eql .prim (.t 83) (.t 84)), oO 86 (.pick (.t 82) (.t 85) (.c (.bool false))), oM 87 86, oG 88 87 (.mov (.t 13)), oG 89 87 (.mov (.t 15)), oG 90 87 (.bin .eql .prim (.t 88) (.t 89)), oO 91 (.pick (.t 87) (.t 90) (.c (.bool false))), oM 92 91, oG 93 92 (.mov (.t 14)), oG 94 92 (.mov (.t 16)), oG 95 92 (.bin .eql .prim (.t 93) (.t 94)), oO 96 (.pick (.t 92) (.t 95) (.c (.bool false))), oS 4 96])
  .ret))))))))))⟩
theorem c5 : cfun Tryz.prog 5 = some f5 := by kernel_rfl
def f7l0 : ACode := (.seq (.seq (.region false [oM 20 0, oO 21 (.bin .neq .prim (.t 20) (.c (.str [])))])
  (.cond (.t 21) .skip
  (.exit 1)))
  (.block 2 (.seq (.region false [oM 23 0, oO 24 (.call true 27 [(.t 23), (.c (.str [13, 10]))]), oM 22 24, oO 25 (.extr (.t 22) 0), oO 26 (.extr (.t 22) 1), oO 27 (.extr (.t 22) 2), oS 5 25, oS 6 26, oS 7 27])
  (.seq (.region false [oM 28 5, oO 29 (.call true 28 [(.t 28), (.c (.str [32]))]), oM 30 29, ⟨(some 31), .mov (.t 5), some (30, false)⟩, ⟨(some 32), .call true 28 [(.t 31), (.c (.str [9]))], some (30, false)⟩, oO 33 (.pick (.t 30) (.c (.bool true)) (.t 32)), oS 8 33])
  (.seq (.region false [oM 34 4, oO 35 (.call true 29 [(.t 34)]), oS 9 35])
  (.seq (.block 3 (.seq (.region false [oM 40 7, oO 41 (.un .not (.t 40)), oM 42 41, ⟨(some 43), .mov (.t 5), some (42, false)⟩, ⟨(some 44), .call true 30 [(.t 43), (.c (.str [13, 10]))], some (42, false)⟩, oO 45 (.pick (.t 42) (.c (.bool true)) (.t 44)), oM 46 45, ⟨(some 47), .mov (.t 8), some (46, false)⟩, ⟨(some 48), .mov (.t 47), some (46, false)⟩, oG 49 48 (.mov (.t 9)), oG 50 48 (.bin .eql .ptr (.t 49) (.c .nilp)), ⟨(some 51), .pick (.t 48) (.t 50) (.c (.bool false)), some (46, false)⟩, oO 52 (.pick (.t 46) (.c (.bool true)) (.t 51)), oS 39 52])
  (.cond (.t 39) (.seq (.region false [oO 2 (.newnil 1), oO 3 (.set (oI 17))])
  .ret)
  (.seq (.region false [oM 54 8, oS 53 54])
  (.cond (.t 53) (.region true [oM 55 9, oO 56 (.nilchk (.t 55)), oO 57 (.load none (.t 56)), oM 58 5, oO 59 (.slice none (.t 58) (some (oI 1)) none), oO 60 (.bin .add .prim (.t 57) (.t 59)), oO 61 (.nilchk (.t 55)), ⟨none, .store true 1 (.t 61) (.t 60), none⟩])
  (.region false [oM 36 4, oM 37 5, oO 38 (.call true 31 [(.t 36), (.t 37)])]))))))
  (.region false [oM 62 6, oS 0 62])))))))
def f7 : AFun := ⟨1, 67, [.t 2, .t 3], (.seq (.region false [oO 2 (.newnil 1), oO 3 (.set (oI 0))])
  (.seq (.block 0 (.seq (.region false [oM 11 0, oO 12 (.len true (.t 11)), oO 13 (.bin .gtr .prim (.t 12) (oI 20000)), oS 10 13])
  (.cond (.t 10) (.seq (.region false [oO 2 (.newnil 1), oO 3 (.set (oI 4))])
  .ret)
  (.seq (.region false [oM 15 0, oO 16 (.call true 26 [(.t 15)]), oO 17 (.un .not (.t 16)), oS 14 17])
  (.cond (.t 14) (.seq (.region false [oO 2 (.newnil 1), oO 3 (.set (oI 3))])
  .ret)
  .skip)))))
  (.seq (.region false [oO 18 (.build [(.nils 1)] []), oO 19 (.box (.t 18)), oS 4 19])
  (.seq (.block 1 (.loop f7l0))
  (.seq (.region false [oM 63 4, oO 64 (.nilchk (.t 63)), oO 65 (.faddr 0 (.t 64)), oO 66 (.load none (.t 65)), oS 2 66, oO 3 (.set (oI 0))])
  .ret)))))⟩
theorem c7 : cfun Tryz.prog 7 = some f7 := by kernel_rfl
def f8l0 : ACode := (.seq (.seq (.region false [oM 14 6, oM 15 0, oO 16 (.len true (.t 15)), oO 17 (.bin .lss .prim (.t 14) (.t 16))])
  (.cond (.t 17) .skip
  (.exit 0)))
  (.seq (.block 1 (.seq (.seq (.region false [oM 20 0, oM 21 6, oO 22 (.sidx (.t 20) (.t 21)), oO 23 (.bin .eql .prim (.t 22) (.c (.int .u8 10))), oM 24 23, ⟨(some 25), .mov (.t 0), some (24, false)⟩, ⟨(some 26), .mov (.t 6), some (24, false)⟩, ⟨(some 27), .sidx (.t 25) (.t 26), some (24, false)⟩, ⟨(some 28), .bin .eql .prim (.t 27) (.c (.int .u8 13)), some (24, false)⟩, ⟨(some 29), .mov (.t 28), some (24, false)⟩, oG 30 29 (.mov (.t 6)), oG 31 29 (.bin .add .prim (.t 30) (oI 1)), oG 32 29 (.mov (.t 0)), oG 33 29 (.len true (.t 32)), oG 34 29 (.bin .geq .prim (.t 31) (.t 33)), oG 35 29 (.mov (.t 34)), ⟨(some 36), .mov (.t 0), some (35, false)⟩, ⟨(some 37), .mov (.t 6), some (35, false)⟩, ⟨(some 38), .bin .add .prim (.t 37) (oI 1), some (35, false)⟩, ⟨(some 39), .sidx (.t 36) (.t 38), some (35, false)⟩, ⟨(some 40), .bin .neq .prim (.t 39) (.c (.int .u8 10)), some (35, false)⟩, oG 41 29 (.pick (.t 35) (.c (.bool true)) (.t 40)), ⟨(some 42), .pick (.t 29) (.t 41) (.c (.bool false)), some (24, false)⟩, oO 43 (.pick (.t 24) (.c (.bool true)) (.t 42))])
  (.cond (.t 43) (.seq (.region false [oO 2 (.newnil 1), oO 3 (.set (oI 17))])
  .ret)
  .skip))
  (.seq (.seq (.region false [oM 44 0, oM 45 6, oO 46 (.sidx (.t 44) (.t 45)), oO 47 (.bin .neq .prim (.t 46) (.c (.int .u8 13)))])
  (.cond (.t 47) (.exit 1)
  .skip))
  (.seq (.region false [oM 48 0, oM 49 5, oM 50 6, oO 51 (.slice none (.t 48) (some (.t 49)) (some (.t 50))), oS 7 51])
  (.seq (.region false [oM 52 6, oO 53 (.bin .add .prim (.t 52) (oI 1)), oS 6 53])
  (.seq (.region false [oM 54 6, oO 55 (.bin .add .prim (.t 54) (oI 1)), oS 5 55])
  (.seq (.region false [oM 56 7, oO 57 (.bin .neq .prim (.t 56) (.c (.str []))), oM 58 57, oG 59 58 (.mov (.t 7)), oG 60 58 (.sidx (.t 59) (oI 0)), oG 61 58 (.bin .eql .prim (.t 60) (.c (.int .u8 32))), oG 62 58 (.mov (.t 61)), ⟨(some 63), .mov (.t 7), some (62, false)⟩, ⟨(some 64), .sidx (.t 63) (oI 0), some (62, false)⟩, ⟨(some 65), .bin .eql .prim (.t 64) (.c (.int .u8 9)), some (62, false)⟩, oG 66 58 (.pick (.t 62) (.c (.bool true)) (.t 65)), oO 67 (.pick (.t 58) (.t 66) (.c (.bool false)))])
  (.cond (.t 67) (.seq (.seq (.region false [oM 68 4, oO 69 (.len false (.t 68)), oO 70 (.bin .eql .prim (.t 69) (oI 0))])
  (.cond (.t 70) (.seq (.region false [oO 2 (.newnil 1), oO 3 (.set (oI 17))])
  .ret)
  .skip))
  (.region true [oM 71 4, oM 72 4, oO 73 (.len false (.t 72)), oO 74 (.bin .sub .prim (.t 73) (oI 1)), oM 75 4, oM 76 4, oO 77 (.len false (.t 76)), oO 78 (.bin .sub .prim (.t 77) (oI 1)), oO 79 (.iaddr 1 (.t 75) (.t 78)), oO 80 (.load none (.t 79)), oM 81 7, oO 82 (.slice none (.t 81) (some (oI 1)) none), oO 83 (.bin .add .prim (.t 80) (.t 82)), oO 84 (.iaddr 1 (.t 71) (.t 74)), ⟨none, .store true 1 (.t 84) (.t 83), none⟩]))
  (.region false [oM 85 4, oM 86 7, oO 87 (.bslice true 1 [(.t 86)]), oO 88 (.append 1 16 (.t 85) (.t 87)), oS 4 88])))))))))
  (.region false [oM 18 6, oO 19 (.bin .add .prim (.t 18) (oI 1)), oS 6 19])))
def f8 : AFun := ⟨1, 94, [.t 2, .t 3], (.seq (.region false [oO 2 (.newnil 1), oO 3 (.set (oI 0))])
  (.seq (.seq (.region false [oM 8 0, oO 9 (.len true (.t 8)), oO 10 (.bin .gtr .prim (.t 9) (oI 20000))])
  (.cond (.t 10) (.seq (.region false [oO 2 (.newnil 1), oO 3 (.set (oI 4))])
  .ret)
  .skip))
  (.seq (.seq (.region false [oM 11 0, oO 12 (.call true 32 [(.t 11)]), oO 13 (.un .not (.t 12))])
  (.cond (.t 13) (.seq (.region false [oO 2 (.newnil 1), oO 3 (.set (oI 3))])
  .ret)
  .skip))
  (.seq (.region false [oO 4 (.newnil 1)])
  (.seq (.region false [oO 5 (.set (oI 0))])
  (.seq (.seq (.region false [oO 6 (.set (oI 0))])
  (.block 0 (.loop f8l0)))
  (.seq (.seq (.region false [oM 89 5, oM 90 0, oO 91 (.len true (.t 90)), oO 92 (.bin .lss .prim (.t 89) (.t 91))])
  (.cond (.t 92) (.seq (.region false [oO 2 (.newnil 1), oO 3 (.set (oI 17))])
  .ret)
  .skip))
  (.seq (.region false [oM 93 4, oS 2 93, oO 3 (.set (oI 0))])
  .ret))))))))⟩
theorem c8 : cfun Tryz.prog 8 = some f8 := by kernel_rfl
def f9l0 : ACode := (.block 1 (.seq (.region false [oM 10 0, oO 11 (.call true 27 [(.t 10), (.c (.str [92]))]), oM 9 11, oO 12 (.extr (.t 9) 0), oO 13 (.extr (.t 9) 1), oO 14 (.extr (.t 9) 2), oS 5 12, oS 6 13, oS 7 14])
  (.seq (.region false [oM 15 5, oO 16 (.call true 33 [(.t 4), (.t 15)])])
  (.seq (.seq (.region false [oM 17 7, oO 18 (.un .not (.t 17))])
  (.cond (.t 18) (.seq (.region false [oO 19 (.call true 34 [(.t 4)]), oS 2 19, oO 3 (.set (oI 0))])
  .ret)
  .skip))
  (.seq (.seq (.region false [oM 20 6, oO 21 (.bin .eql .prim (.t 20) (.c (.str []))), oM 22 21, ⟨(some 23), .mov (.t 6), some (22, false)⟩, ⟨(some 24), .slice none (.t 23) none (some (oI 1)), some (22, false)⟩, ⟨(some 25), .call true 35 [(.c (.str [92, 44, 59, 110, 78])), (.t 24)], some (22, false)⟩, ⟨(some 26), .un .not (.t 25), some (22, false)⟩, oO 27 (.pick (.t 22) (.c (.bool true)) (.t 26))])
  (.cond (.t 27) (.seq (.region false [oO 2 (.set (.c (.str []))), oO 3 (.set (oI 18))])
  .ret)
  .skip))
  (.seq (.region false [oM 28 6, oO 29 (.slice none (.t 28) none (some (oI 1))), oS 8 29])
  (.seq (.seq (.region false [oM 30 8, oO 31 (.call true 36 [(.t 30), (.c (.str [110]))])])
  (.cond (.t 31) (.region false [oO 8 (.set (.c (.str [10])))])
  .skip))
  (.seq (.region false [oM 32 8, oO 33 (.call true 33 [(.t 4), (.t 32)])])
  (.region false [oM 34 6, oO 35 (.slice none (.t 34) (some (oI 1)) none), oS 0 35])))))))))
def f9 : AFun := ⟨1, 36, [.t 2, .t 3], (.seq (.region false [oO 2 (.set (.c (.str []))), oO 3 (.set (oI 0))])
  (.seq (.region false [oO 4 (.allocb 57 5)])
  (.block 0 (.loop f9l0))))⟩
theorem c9 : cfun Tryz.prog 9 = some f9 := by kernel_rfl
def f11l0 : ACode := (.seq (.seq (.region false [oM 23 5, oO 24 (.bin .neq .prim (.t 23) (.c (.str [])))])
  (.cond (.t 24) .skip
  (.exit 2)))
  (.seq (.block 3 (.seq (.region false [oM 28 5, oO 29 (.call true 37 [(.t 28), (oI 74)]), oS 6 29])
  (.region false [oM 30 5, oM 31 6, oO 32 (.slice none (.t 30) none (some (.t 31))), oO 33 (.bin .add .prim (.c (.str [32])) (.t 32)), oO 34 (.bin .add .prim (.t 33) (.c (.str [13, 10]))), oO 35 (.call true 33 [(.t 3), (.t 34)])])))
  (.region false [oM 25 5, oM 26 6, oO 27 (.slice none (.t 25) (some (.t 26)) none), oS 5 27])))
def f11l1 : ACode := (.seq (.region false [oO 10 (.bin .lss .prim (.t 9) (.t 8))])
  (.seq (.cond (.t 10) .skip
  (.exit 0))
  (.seq (.block 1 (.seq (.region false [oO 11 (.iaddr 1 (.t 7) (.t 9)), oO 12 (.load none (.t 11)), oS 5 12])
  (.seq (.region false [oM 13 5, oO 14 (.call true 37 [(.t 13), (oI 75)]), oS 6 14])
  (.seq (.region false [oM 15 5, oM 16 6, oO 17 (.slice none (.t 15) none (some (.t 16))), oO 18 (.bin .add .prim (.t 17) (.c (.str [13, 10]))), oO 19 (.call true 33 [(.t 3), (.t 18)])])
  (.seq (.region false [oM 20 5, oM 21 6, oO 22 (.slice none (.t 20) (some (.t 21)) none), oS 5 22])
  (.block 2 (.loop f11l0)))))))
  (.region false [oO 36 (.bin .add .prim (.t 9) (oI 1)), oM 9 36]))))
def f11 : AFun := ⟨1, 38, [.t 2], (.seq (.region false [oO 2 (.set (.c (.str [])))])
  (.seq (.region false [oO 3 (.allocb 57 5)])
  (.seq (.seq (.region false [oM 7 0, oO 8 (.len false (.t 7)), oO 9 (.mov (oI 0))])
  (.block 0 (.loop f11l1)))
  (.seq (.region false [oO 37 (.call true 34 [(.t 3)]), oS 2 37])
  .ret))))⟩
theorem c11 : cfun Tryz.prog 11 = some f11 := by kernel_rfl
def f12l0 : ACode := (.seq (.seq (.region false [oM 5 4, oM 6 0, oO 7 (.len false (.t 6)), oO 8 (.bin .lss .prim (.t 5) (.t 7))])
  (.cond (.t 8) .skip
  (.exit 0)))
  (.seq (.block 1 (.region false [oM 11 3, oM 12 0, oM 13 4, oO 14 (.iaddr 1 (.t 12) (.t 13)), oO 15 (.load none (.t 14)), oO 16 (.call true 38 [(.t 15)]), oO 17 (.bin .add .prim (.t 11) (.t 16)), oS 3 17]))
  (.region false [oM 9 4, oO 10 (.bin .add .prim (.t 9) (oI 1)), oS 4 10])))
def f12 : AFun := ⟨1, 19, [.t 2], (.seq (.region false [oO 2 (.set (.c (.str [])))])
  (.seq (.region false [oO 3 (.set (.c (.str [])))])
  (.seq (.seq (.region false [oO 4 (.set (oI 0))])
  (.block 0 (.loop f12l0)))
  (.seq (.region false [oM 18 3, oS 2 18])
  .ret))))⟩
theorem c12 : cfun Tryz.prog 12 = some f12 := by kernel_rfl
def f13 : AFun := ⟨2, 8, [.t 4], (.seq (.region false [oO 4 (.set (.c (.bool false)))])
  (.seq (.region false [oM 5 0, oM 6 1, oO 7 (.call true 39 [(.t 5), (.t 6), (.c (.fn 40 []))]), oS 4 7])
  .ret))⟩
theorem c13 : cfun Tryz.prog 13 = some f13 := by kernel_rfl
def f14 : AFun := ⟨1, 7, [.t 2], (.seq (.region false [oO 2 (.set (.c (.str [])))])
  (.seq (.region false [oO 3 (.bslice true 1 [(.c (.str [92])), (.c (.str [92, 92])), (.c (.str [44])), (.c (.str [92, 44])), (.c (.str [59])), (.c (.str [92, 59])), (.c (.str [10])), (.c (.str [92, 110])), (.c (.str [13])), (.c (.str []))]), oO 4 (.call true 41 [(.t 3)]), oM 5 0, oO 6 (.call true 42 [(.t 4), (.t 5)]), oS 2 6])
  .ret))⟩
theorem c14 : cfun Tryz.prog 14 = some f14 := by kernel_rfl
def f16l0 : ACode := (.seq (.region false [oO 14 (.bin .lss .prim (.t 13) (.t 12))])
  (.seq (.cond (.t 14) .skip
  (.exit 0))
  (.seq (.block 1 (.seq (.region false [oM 15 13, oS 8 15])
  (.seq (.seq (.region false [oM 16 0, oM 17 8, oO 18 (.sidx (.t 16) (.t 17)), oM 19 1, oO 20 (.bin .eql .prim (.t 18) (.t 19)), oM 21 20, oG 22 21 (.mov (.t 7)), oG 23 21 (.un .not (.t 22)), oO 24 (.pick (.t 21) (.t 23) (.c (.bool false)))])
  (.cond (.t 24) (.seq (.region false [oM 25 5, oM 26 0, oM 27 6, oM 28 8, oO 29 (.slice none (.t 26) (some (.t 27)) (some (.t 28))), oO 30 (.call true 31 [(.t 25), (.t 29)])])
  (.region false [oM 31 8, oO 32 (.bin .add .prim (.t 31) (oI 1)), oS 6 32]))
  .skip))
  (.region false [oM 33 0, oM 34 8, oO 35 (.sidx (.t 33) (.t 34)), oO 36 (.bin .eql .prim (.t 35) (.c (.int .u8 92))), oM 37 36, oG 38 37 (.mov (.t 7)), oG 39 37 (.un .not (.t 38)), oO 40 (.pick (.t 37) (.t 39) (.c (.bool false))), oS 7 40]))))
  (.region false [oO 41 (.bin .add .prim (.t 13) (oI 1)), oM 13 41]))))
def f16 : AFun := ⟨2, 52, [.t 4], (.seq (.region false [oO 4 (.newnil 1)])
  (.seq (.region false [oO 9 (.build [(.nils 1)] []), oO 10 (.box (.t 9)), oS 5 10])
  (.seq (.region false [oO 6 (.set (oI 0)), oO 7 (.set (.c (.bool false)))])
  (.seq (.seq (.region false [oM 11 0, oO 12 (.len true (.t 11)), oO 13 (.mov (oI 0))])
  (.block 0 (.loop f16l0)))
  (.seq (.region false [oM 42 5, oM 43 0, oM 44 6, oO 45 (.slice none (.t 43) (some (.t 44)) none), oO 46 (.call true 31 [(.t 42), (.t 45)])])
  (.seq (.region false [oM 47 5, oO 48 (.nilchk (.t 47)), oO 49 (.faddr 0 (.t 48)), oO 50 (.load none (.t 49)), oO 51 (.call true 43 [(.t 50)]), oS 4 51])
  .ret))))))⟩
theorem c16 : cfun Tryz.prog 16 = some f16 := by kernel_rfl
def f26 : AFun := ⟨1, 5, [.t 2], (.seq (.region false [oO 2 (.set (.c (.bool false)))])
  (.seq (.region false [oM 3 0, oO 4 (.call true 56 [(.t 3), (.c (.fn 57 []))]), oS 2 4])
  .ret))⟩
theorem c26 : cfun Tryz.prog 26 = some f26 := by kernel_rfl
def f27 : AFun := ⟨2, 13, [.t 4, .t 5, .t 6], (.seq (.region false [oO 4 (.set (.c (.str []))), oO 5 (.set (.c (.str []))), oO 6 (.set (.c (.bool false)))])
  (.seq (.region false [oM 7 0, oM 8 1, oO 9 (.call true 58 [(.t 7), (.t 8)]), oO 10 (.extr (.t 9) 0), oO 11 (.extr (.t 9) 1), oO 12 (.extr (.t 9) 2), oS 4 10, oS 5 11, oS 6 12])
  .ret))⟩
theorem c27 : cfun Tryz.prog 27 = some f27 := by kernel_rfl
def f28 : AFun := ⟨2, 8, [.t 4], (.seq (.region false [oO 4 (.set (.c (.bool false)))])
  (.seq (.region false [oM 5 0, oM 6 1, oO 7 (.call true 59 [(.t 5), (.t 6)]), oS 4 7])
  .ret))⟩
theorem c28 : cfun Tryz.prog 28 = some f28 := by kernel_rfl
def f29 : AFun := ⟨1, 20, [.t 2], (.seq (.region false [oO 2 (.set (.c .nilp))])
  (.seq (.seq (.region false [oM 3 0, oO 4 (.nilchk (.t 3)), oO 5 (.faddr 0 (.t 4)), oO 6 (.load none (.t 5)), oO 7 (.len false (.t 6)), oO 8 (.bin .eql .prim (.t 7) (oI 0))])
  (.cond (.t 8) (.seq (.region false [oO 2 (.set (.c .nilp))])
  .ret)
  .skip))
  (.seq (.region true [oM 9 0, oO 10 (.nilchk (.t 9)), oO 11 (.faddr 0 (.t 10)), oO 12 (.load none (.t 11)), oM 13 0, oO 14 (.nilchk (.t 13)), oO 15 (.faddr 0 (.t 14)), oO 16 (.load none (.t 15)), oO 17 (.len false (.t 16)), oO 18 (.bin .sub .prim (.t 17) (oI 1)), oO 19 (.iaddr 1 (.t 12) (.t 18)), oS 2 19])
  .ret)))⟩
theorem c29 : cfun Tryz.prog 29 = some f29 := by kernel_rfl
def f30 : AFun := ⟨2, 9, [.t 4], (.seq (.region false [oO 4 (.set (.c (.bool false)))])
  (.seq (.region false [oM 5 0, oM 6 1, oO 7 (.call true 60 [(.t 5), (.t 6)]), oO 8 (.bin .geq .prim (.t 7) (oI 0)), oS 4 8])
  .ret))⟩
theorem c30 : cfun Tryz.prog 30 = some f30 := by kernel_rfl
def f31 : AFun := ⟨2, 14, [], (.region false [oM 4 0, oM 5 0, oO 6 (.nilchk (.t 5)), oO 7 (.faddr 0 (.t 6)), oO 8 (.load none (.t 7)), oM 9 1, oO 10 (.bslice true 1 [(.t 9)]), oO 11 (.append 1 16 (.t 8) (.t 10)), oO 12 (.nilchk (.t 4)), oO 13 (.faddr 0 (.t 12)), ⟨none, .store true 1 (.t 13) (.t 11), none⟩])⟩
theorem c31 : cfun Tryz.prog 31 = some f31 := by kernel_rfl
def f32l0 : ACode := (.seq (.seq (.region false [oM 6 3, oM 7 0, oO 8 (.len true (.t 7)), oO 9 (.bin .lss .prim (.t 6) (.t 8))])
  (.cond (.t 9) .skip
  (.exit 0)))
  (.block 1 (.seq (.region false [oM 11 0, oM 12 3, oO 13 (.call true 61 [(.t 11), (.t 12)]), oM 10 13, oO 14 (.extr (.t 10) 0), oO 15 (.extr (.t 10) 1), oS 4 14, oS 5 15])
  (.seq (.seq (.region false [oM 16 5, oO 17 (.bin .eql .prim (.t 16) (oI 0))])
  (.cond (.t 17) (.seq (.region false [oO 2 (.set (.c (.bool false)))])
  .ret)
  .skip))
  (.region false [oM 18 3, oM 19 5, oO 20 (.bin .add .prim (.t 18) (.t 19)), oS 3 20])))))
def f32 : AFun := ⟨1, 21, [.t 2], (.seq (.region false [oO 2 (.set (.c (.bool false)))])
  (.seq (.seq (.region false [oO 3 (.set (oI 0))])
  (.block 0 (.loop f32l0)))
  (.seq (.region false [oO 2 (.set (.c (.bool true)))])
  .ret)))⟩
theorem c32 : cfun Tryz.prog 32 = some f32 := by kernel_rfl
def f35 : AFun := ⟨2, 9, [.t 4], (.seq (.region false [oO 4 (.set (.c (.bool false)))])
  (.seq (.region false [oM 5 0, oM 6 1, oO 7 (.call true 63 [(.t 5), (.t 6)]), oO 8 (.bin .geq .prim (.t 7) (oI 0)), oS 4 8])
  .ret))⟩
theorem c35 : cfun Tryz.prog 35 = some f35 := by kernel_rfl
def f37l0 : ACode := (.seq (.seq (.region false [oM 8 5, oM 9 0, oO 10 (.len true (.t 9)), oO 11 (.bin .lss .prim (.t 8) (.t 10))])
  (.cond (.t 11) .skip
  (.exit 0)))
  (.block 1 (.seq (.region false [oM 13 0, oM 14 5, oO 15 (.slice none (.t 13) (some (.t 14)) none), oO 16 (.call true 64 [(.t 15)]), oM 12 16, oO 17 (.extr (.t 12) 0), oO 18 (.extr (.t 12) 1), oS 6 17, oS 7 18])
  (.seq (.seq (.region false [oM 19 5, oO 20 (.bin .gtr .prim (.t 19) (oI 0)), oM 21 20, oG 22 21 (.mov (.t 5)), oG 23 21 (.mov (.t 7)), oG 24 21 (.bin .add .prim (.t 22) (.t 23)), oG 25 21 (.mov (.t 1)), oG 26 21 (.bin .gtr .prim (.t 24) (.t 25)), oO 27 (.pick (.t 21) (.t 26) (.c (.bool false)))])
  (.cond (.t 27) (.exit 0)
  .skip))
  (.region false [oM 28 5, oM 29 7, oO 30 (.bin .add .prim (.t 28) (.t 29)), oS 5 30])))))
def f37 : AFun := ⟨2, 32, [.t 4], (.seq (.region false [oO 4 (.set (oI 0))])
  (.seq (.region false [oO 5 (.set (oI 0))])
  (.seq (.block 0 (.loop f37l0))
  (.seq (.region false [oM 31 5, oS 4 31])
  .ret))))⟩
theorem c37 : cfun Tryz.prog 37 = some f37 := by kernel_rfl
def f38l0 : ACode := (.seq (.seq (.region false [oM 8 5, oM 9 0, oO 10 (.len true (.t 9)), oO 11 (.bin .lss .prim (.t 8) (.t 10))])
  (.cond (.t 11) .skip
  (.exit 0)))
  (.block 1 (.seq (.region false [oM 13 0, oM 14 5, oO 15 (.call true 66 [(.t 13), (.t 14)]), oM 12 15, oO 16 (.extr (.t 12) 0), oO 17 (.extr (.t 12) 1), oS 6 16, oS 7 17])
  (.seq (.region false [oM 18 7, oO 19 (.mx [(oI 1), (.t 18)]), oS 7 19])
  (.seq (.seq (.region false [oM 20 7, oM 21 4, oO 22 (.bin .gtr .prim (.t 20) (.t 21))])
  (.cond (.t 22) (.region false [oM 23 3, oO 24 (.bin .add .prim (.t 23) (.c (.str [13, 10, 32]))), oS 3 24, oO 4 (.set (oI 74))])
  .skip))
  (.seq (.region false [oM 25 3, oM 26 0, oM 27 5, oM 28 5, oM 29 7, oO 30 (.bin .add .prim (.t 28) (.t 29)), oO 31 (.slice none (.t 26) (some (.t 27)) (some (.t 30))), oO 32 (.bin .add .prim (.t 25) (.t 31)), oM 33 4, oM 34 7, oO 35 (.bin .sub .prim (.t 33) (.t 34)), oS 3 32, oS 4 35])
  (.region false [oM 36 5, oM 37 7, oO 38 (.bin .add .prim (.t 36) (.t 37)), oS 5 38])))))))
def f38 : AFun := ⟨1, 41, [.t 2], (.seq (.region false [oO 2 (.set (.c (.str [])))])
  (.seq (.region false [oO 3 (.set (.c (.str []))), oO 4 (.set (oI 75))])
  (.seq (.seq (.region false [oO 5 (.set (oI 0))])
  (.block 0 (.loop f38l0)))
  (.seq (.region false [oM 39 3, oO 40 (.bin .add .prim (.t 39) (.c (.str [13, 10]))), oS 2 40])
  .ret))))⟩
theorem c38 : cfun Tryz.prog 38 = some f38 := by kernel_rfl
def f39l0 : ACode := (.seq (.seq (.region false [oM 13 7, oM 14 0, oO 15 (.len false (.t 14)), oO 16 (.bin .lss .prim (.t 13) (.t 15))])
  (.cond (.t 16) .skip
  (.exit 0)))
  (.seq (.block 1 (.seq (.region true [oM 19 2, oM 20 0, oM 21 7, oO 22 (.iaddr 1 (.t 20) (.t 21)), oO 23 (.load none (.t 22)), oM 24 1, oM 25 7, oO 26 (.iaddr 1 (.t 24) (.t 25)), oO 27 (.load none (.t 26)), oO 28 (.callv true (.t 19) [(.t 23), (.t 27)]), oO 29 (.un .not (.t 28))])
  (.cond (.t 29) (.seq (.region false [oO 6 (.set (.c (.bool false)))])
  .ret)
  .skip)))
  (.region false [oM 17 7, oO 18 (.bin .add .prim (.t 17) (oI 1)), oS 7 18])))
def f39 : AFun := ⟨3, 30, [.t 6], (.seq (.region false [oO 6 (.set (.c (.bool false)))])
  (.seq (.seq (.region false [oM 8 0, oO 9 (.len false (.t 8)), oM 10 1, oO 11 (.len false (.t 10)), oO 12 (.bin .neq .prim (.t 9) (.t 11))])
  (.cond (.t 12) (.seq (.region false [oO 6 (.set (.c (.bool false)))])
  .ret)
  .skip))
  (.seq (.seq (.region false [oO 7 (.set (oI 0))])
  (.block 0 (.loop f39l0)))
  (.seq (.region false [oO 6 (.set (.c (.bool true)))])
  .ret))))⟩
theorem c39 : cfun Tryz.prog 39 = some f39 := by kernel_rfl
def f40 : AFun := ⟨2, 8, [.t 4], (.seq (.region false [oO 4 (.set (.c (.bool false)))])
  (.seq (.region false [oM 5 0, oM 6 1, oO 7 (.bin .eql .prim (.t 5) (.t 6)), oS 4 7])
  .ret))⟩
theorem c40 : cfun Tryz.prog 40 = some f40 := by kernel_rfl
def f43 : AFun := ⟨1, 8, [.t 2], (.seq (.region false [oO 2 (.newnil 1)])
  (.seq (.seq (.region false [oM 3 0, oO 4 (.bin .eql .slc (.t 3) (.c (.nils 1)))])
  (.cond (.t 4) (.seq (.region false [oO 2 (.newnil 1)])
  .ret)
  .skip))
  (.seq (.region false [oO 5 (.bslice true 1 []), oM 6 0, oO 7 (.append 1 16 (.t 5) (.t 6)), oS 2 7])
  .ret)))⟩
theorem c43 : cfun Tryz.prog 43 = some f43 := by kernel_rfl
def f56 : AFun := ⟨2, 13, [.t 4], (.seq (.region false [oO 4 (.set (.c (.bool false)))])
  (.seq (.region false [oM 5 0, oO 6 (.call true 79 [(.t 5)]), oM 7 6, oG 8 7 (.mov (.t 0)), oG 9 7 (.conv .s2r (.t 8)), oG 10 7 (.mov (.t 1)), oG 11 7 (.call true 80 [(.t 9), (.t 10)]), oO 12 (.pick (.t 7) (.t 11) (.c (.bool false))), oS 4 12])
  .ret))⟩
theorem c56 : cfun Tryz.prog 56 = some f56 := by kernel_rfl
def f57 : AFun := ⟨1, 17, [.t 2], (.seq (.region false [oO 2 (.set (.c (.bool false)))])
  (.seq (.region false [oM 3 0, oO 4 (.bin .eql .prim (.t 3) (.c (.int .i32 9))), oM 5 4, ⟨(some 6), .mov (.t 0), some (5, false)⟩, ⟨(some 7), .bin .eql .prim (.t 6) (.c (.int .i32 10)), some (5, false)⟩, oO 8 (.pick (.t 5) (.c (.bool true)) (.t 7)), oM 9 8, ⟨(some 10), .mov (.t 0), some (9, false)⟩, ⟨(some 11), .bin .eql .prim (.t 10) (.c (.int .i32 13)), some (9, false)⟩, oO 12 (.pick (.t 9) (.c (.bool true)) (.t 11)), oM 13 12, ⟨(some 14), .mov (.t 0), some (13, false)⟩, ⟨(some 15), .call true 81 [(.t 14)], some (13, false)⟩, oO 16 (.pick (.t 13) (.c (.bool true)) (.t 15)), oS 2 16])
  .ret))⟩
theorem c57 : cfun Tryz.prog 57 = some f57 := by kernel_rfl
def f58 : AFun := ⟨2, 23, [.t 4, .t 5, .t 6], (.seq (.region false [oO 4 (.set (.c (.str []))), oO 5 (.set (.c (.str []))), oO 6 (.set (.c (.bool false)))])
  (.seq (.seq (.region false [oM 8 0, oM 9 1, oO 10 (.call true 82 [(.t 8), (.t 9)]), oS 7 10])
  (.seq (.region false [oM 11 7, oO 12 (.bin .geq .prim (.t 11) (oI 0))])
  (.cond (.t 12) (.seq (.region true [oM 13 0, oM 14 7, oO 15 (.slice none (.t 13) none (some (.t 14))), oM 16 0, oM 17 7, oM 18 1, oO 19 (.len true (.t 18)), oO 20 (.bin .add .prim (.t 17) (.t 19)), oO 21 (.slice none (.t 16) (some (.t 20)) none), oM 4 15, oM 5 21, oO 6 (.mov (.c (.bool true)))])
  .ret)
  .skip)))
  (.seq (.region false [oM 22 0, oS 4 22, oO 5 (.set (.c (.str []))), oO 6 (.set (.c (.bool false)))])
  .ret)))⟩
theorem c58 : cfun Tryz.prog 58 = some f58 := by kernel_rfl
def f59 : AFun := ⟨2, 18, [.t 4], (.seq (.region false [oO 4 (.set (.c (.bool false)))])
  (.seq (.region false [oM 5 0, oO 6 (.len true (.t 5)), oM 7 1, oO 8 (.len true (.t 7)), oO 9 (.bin .geq .prim (.t 6) (.t 8)), oM 10 9, oG 11 10 (.mov (.t 0)), oG 12 10 (.mov (.t 1)), oG 13 10 (.len true (.t 12)), oG 14 10 (.slice none (.t 11) none (some (.t 13))), oG 15 10 (.mov (.t 1)), oG 16 10 (.bin .eql .prim (.t 14) (.t 15)), oO 17 (.pick (.t 10) (.t 16) (.c (.bool false))), oS 4 17])
  .ret))⟩
theorem c59 : cfun Tryz.prog 59 = some f59 := by kernel_rfl
def f60l0 : ACode := (.seq (.seq (.region false [oM 33 8, oM 34 0, oO 35 (.len true (.t 34)), oO 36 (.bin .lss .prim (.t 33) (.t 35))])
  (.cond (.t 36) .skip
  (.exit 0)))
  (.seq (.block 1 (.seq (.region false [oM 39 0, oM 40 8, oO 41 (.sidx (.t 39) (.t 40)), oO 42 (.call true 86 [(.t 6), (.t 41)])])
  (.cond (.t 42) (.seq (.region false [oM 43 8, oS 4 43])
  .ret)
  .skip)))
  (.region false [oM 37 8, oO 38 (.bin .add .prim (.t 37) (oI 1)), oS 8 38])))
def f60l1 : ACode := (.seq (.region false [oO 46 (.next (.t 45)), oO 47 (.extr (.t 46) 0)])
  (.seq (.cond (.t 47) .skip
  (.exit 2))
  (.block 3 (.seq (.region false [oO 48 (.extr (.t 46) 1), oO 49 (.extr (.t 46) 2), oS 9 48, oS 10 49])
  (.seq (.region false [oM 50 1, oM 51 10, oO 52 (.call true 83 [(.t 50), (.t 51)]), oO 53 (.bin .geq .prim (.t 52) (oI 0))])
  (.cond (.t 53) (.seq (.region false [oM 54 9, oS 4 54])
  .ret)
  .skip))))))
def f60 : AFun := ⟨2, 55, [.t 4], (.seq (.region false [oO 4 (.set (oI 0))])
  (.seq (.seq (.region false [oM 11 1, oO 12 (.bin .eql .prim (.t 11) (.c (.str [])))])
  (.cond (.t 12) (.seq (.region false [oO 4 (.set (.c (.int .i64 (-1))))])
  .ret)
  .skip))
  (.seq (.seq (.region false [oM 13 1, oO 14 (.len true (.t 13)), oO 15 (.bin .eql .prim (.t 14) (oI 1))])
  (.cond (.t 15) (.seq (.region false [oM 16 1, oO 17 (.sidx (.t 16) (oI 0)), oO 18 (.conv (.int .i32) (.t 17)), oS 5 18])
  (.seq (.seq (.region false [oM 19 5, oO 20 (.bin .geq .prim (.t 19) (.c (.int .i32 128)))])
  (.cond (.t 20) (.region false [oO 5 (.set (.c (.int .i32 65533)))])
  .skip))
  (.seq (.region false [oM 21 0, oM 22 5, oO 23 (.call true 83 [(.t 21), (.t 22)]), oS 4 23])
  .ret)))
  .skip))
  (.seq (.seq (.region false [oM 24 0, oO 25 (.len true (.t 24)), oO 26 (.call true 84 [(.t 25)])])
  (.cond (.t 26) (.seq (.region false [oM 28 1, oO 29 (.call true 85 [(.t 28)]), oM 27 29, oO 30 (.extr (.t 27) 0), oO 31 (.extr (.t 27) 1), oO 6 (.alloc (List.replicate 256 (.bool false) ++ [])), ⟨none, .store true 256 (.t 6) (.t 30), none⟩, oS 7 31])
  (.seq (.region false [oM 32 7])
  (.cond (.t 32) (.seq (.seq (.region false [oO 8 (.set (oI 0))])
  (.block 0 (.loop f60l0)))
  (.seq (.region false [oO 4 (.set (.c (.int .i64 (-1))))])
  .ret))
  .skip)))
  .skip))
  (.seq (.seq (.region false [oM 44 0, oO 45 (.range (.t 44))])
  (.block 2 (.loop f60l1)))
  (.seq (.region false [oO 4 (.set (.c (.int .i64 (-1))))])
  .ret))))))⟩
theorem c60 : cfun Tryz.prog 60 = some f60 := by kernel_rfl
def f61 : AFun := ⟨2, 23, [.t 4, .t 5], (.seq (.region false [oO 4 (.set (oI 0)), oO 5 (.set (oI 0))])
  (.seq (.region false [oM 9 0, oM 10 1, oO 11 (.call true 66 [(.t 9), (.t 10)]), oM 8 11, oO 12 (.extr (.t 8) 0), oO 13 (.extr (.t 8) 1), oS 6 12, oS 7 13])
  (.seq (.seq (.region false [oM 14 7, oO 15 (.bin .eql .prim (.t 14) (oI 0)), oM 16 15, ⟨(some 17), .mov (.t 6), some (16, false)⟩, ⟨(some 18), .call true 87 [(.t 17)], some (16, false)⟩, ⟨(some 19), .un .not (.t 18), some (16, false)⟩, oO 20 (.pick (.t 16) (.c (.bool true)) (.t 19))])
  (.cond (.t 20) (.seq (.region false [oO 4 (.set (oI 0)), oO 5 (.set (oI 0))])
  .ret)
  .skip))
  (.seq (.region false [oM 21 6, oM 22 7, oS 4 21, oS 5 22])
  .ret))))⟩
theorem c61 : cfun Tryz.prog 61 = some f61 := by kernel_rfl
def f63 : AFun := ⟨2, 8, [.t 4], (.seq (.region false [oO 4 (.set (oI 0))])
  (.seq (.region false [oM 5 0, oM 6 1, oO 7 (.call true 82 [(.t 5), (.t 6)]), oS 4 7])
  .ret))⟩
theorem c63 : cfun Tryz.prog 63 = some f63 := by kernel_rfl
def f66l0 : ACode := (.seq (.seq (.region false [oM 50 9, oM 51 7, oO 52 (.bin .lss .prim (.t 50) (.t 51))])
  (.cond (.t 52) .skip
  (.exit 1)))
  (.seq (.block 2 (.seq (.seq (.region false [oM 55 0, oM 56 1, oM 57 9, oO 58 (.bin .add .prim (.t 56) (.t 57)), oO 59 (.sidx (.t 55) (.t 58)), oO 60 (.bin .and .prim (.t 59) (.c (.int .u8 192))), oO 61 (.bin .neq .prim (.t 60) (.c (.int .u8 128)))])
  (.cond (.t 61) (.seq (.region false [oO 4 (.set (oI 0)), oO 5 (.set (oI 0))])
  .ret)
  .skip))
  (.region false [oM 62 6, oO 63 (.bin .shl .prim (.t 62) (.c (.int .u64 6))), oM 64 0, oM 65 1, oM 66 9, oO 67 (.bin .add .prim (.t 65) (.t 66)), oO 68 (.sidx (.t 64) (.t 67)), oO 69 (.bin .and .prim (.t 68) (.c (.int .u8 63))), oO 70 (.conv (.int .i64) (.t 69)), oO 71 (.bin .or .prim (.t 63) (.t 70)), oS 6 71])))
  (.region false [oM 53 9, oO 54 (.bin .add .prim (.t 53) (oI 1)), oS 9 54])))
def f66 : AFun := ⟨2, 89, [.t 4, .t 5], (.seq (.region false [oO 4 (.set (oI 0)), oO 5 (.set (oI 0))])
  (.seq (.region false [oM 10 0, oM 11 1, oO 12 (.sidx (.t 10) (.t 11)), oO 13 (.conv (.int .i64) (.t 12)), oS 6 13])
  (.seq (.region false [oO 7 (.set (oI 1)), oO 8 (.set (oI 0))])
  (.seq (.block 0 (.seq (.region false [oM 15 6, oO 16 (.bin .lss .prim (.t 15) (oI 128)), oS 14 16])
  (.cond (.t 14) .skip
  (.seq (.region false [oM 18 6, oO 19 (.bin .geq .prim (.t 18) (oI 192)), oM 20 19, oG 21 20 (.mov (.t 6)), oG 22 20 (.bin .lss .prim (.t 21) (oI 224)), oO 23 (.pick (.t 20) (.t 22) (.c (.bool false))), oS 17 23])
  (.cond (.t 17) (.region false [oM 24 6, oO 25 (.bin .and .prim (.t 24) (oI 31)), oO 7 (.set (oI 2)), oO 8 (.set (oI 128)), oS 6 25])
  (.seq (.region false [oM 27 6, oO 28 (.bin .geq .prim (.t 27) (oI 224)), oM 29 28, oG 30 29 (.mov (.t 6)), oG 31 29 (.bin .lss .prim (.t 30) (oI 240)), oO 32 (.pick (.t 29) (.t 31) (.c (.bool false))), oS 26 32])
  (.cond (.t 26) (.region false [oM 33 6, oO 34 (.bin .and .prim (.t 33) (oI 15)), oO 7 (.set (oI 3)), oO 8 (.set (oI 2048)), oS 6 34])
  (.seq (.region false [oM 36 6, oO 37 (.bin .geq .prim (.t 36) (oI 240)), oM 38 37, oG 39 38 (.mov (.t 6)), oG 40 38 (.bin .lss .prim (.t 39) (oI 248)), oO 41 (.pick (.t 38) (.t 40) (.c (.bool false))), oS 35 41])
  (.cond (.t 35) (.region false [oM 42 6, oO 43 (.bin .and .prim (.t 42) (oI 7)), oO 7 (.set (oI 4)), oO 8 (.set (oI 65536)), oS 6 43])
  (.seq (.region false [oO 4 (.set (oI 0)), oO 5 (.set (oI 0))])
  .ret))))))))))
  (.seq (.seq (.region false [oM 44 1, oM 45 7, oO 46 (.bin .add .prim (.t 44) (.t 45)), oM 47 0, oO 48 (.len true (.t 47)), oO 49 (.bin .gtr .prim (.t 46) (.t 48))])
  (.cond (.t 49) (.seq (.region false [oO 4 (.set (oI 0)), oO 5 (.set (oI 0))])
  .ret)
  .skip))
  (.seq (.seq (.region false [oO 9 (.set (oI 1))])
  (.block 1 (.loop f66l0)))
  (.seq (.seq (.region false [oM 72 6, oM 73 8, oO 74 (.bin .lss .prim (.t 72) (.t 73)), oM 75 74, ⟨(some 76), .mov (.t 6), some (75, false)⟩, ⟨(some 77), .bin .gtr .prim (.t 76) (oI 1114111), some (75, false)⟩, oO 78 (.pick (.t 75) (.c (.bool true)) (.t 77)), oM 79 78, ⟨(some 80), .mov (.t 6), some (79, false)⟩, ⟨(some 81), .bin .geq .prim (.t 80) (oI 55296), some (79, false)⟩, ⟨(some 82), .mov (.t 81), some (79, false)⟩, oG 83 82 (.mov (.t 6)), oG 84 82 (.bin .leq .prim (.t 83) (oI 57343)), ⟨(some 85), .pick (.t 82) (.t 84) (.c (.bool false)), some (79, false)⟩, oO 86 (.pick (.t 79) (.c (.bool true)) (.t 85))])
  (.cond (.t 86) (.seq (.region false [oO 4 (.set (oI 0)), oO 5 (.set (oI 0))])
  .ret)
  .skip))
  (.seq (.region false [oM 87 6, oM 88 7, oS 4 87, oS 5 88])
  .ret))))))))⟩
theorem c66 : cfun Tryz.prog 66 = some f66 := by kernel_rfl
def f80 : AFun := ⟨2, 9, [.t 4], (.seq (.region false [oO 3 (.box (.t 1)), oO 4 (.set (.c (.bool false)))])
  (.seq (.region false [oM 5 0, oO 6 (.mkfn 104 [(.t 3)]), oO 7 (.call true 103 [(.t 5), (.t 6)]), oO 8 (.un .not (.t 7)), oS 4 8])
  .ret))⟩
theorem c80 : cfun Tryz.prog 80 = some f80 := by kernel_rfl
def f81 : AFun := ⟨1, 11, [.t 2], (.seq (.region false [oO 2 (.set (.c (.bool false)))])
  (.seq (.region false [oO 3 (.build [(.int .i32 0), (.int .i32 0)] [(0, 1, (.c (.int .i32 32))), (1, 1, (.c (.int .i32 65533)))]), oM 4 0, oO 5 (.call true 105 [(.t 3), (.t 4)]), oM 6 5, ⟨(some 7), .build [(.int .i32 0), (.int .i32 0)] [(0, 1, (.c (.int .i32 65536))), (1, 1, (.c (.int .i32 1114111)))], some (6, false)⟩, ⟨(some 8), .mov (.t 0), some (6, false)⟩, ⟨(some 9), .call true 105 [(.t 7), (.t 8)], some (6, false)⟩, oO 10 (.pick (.t 6) (.c (.bool true)) (.t 9)), oS 2 10])
  .ret))⟩
theorem c81 : cfun Tryz.prog 81 = some f81 := by kernel_rfl
def f83l0 : ACode := (.seq (.region false [oO 176 (.next (.t 175)), oO 177 (.extr (.t 176) 0)])
  (.seq (.cond (.t 177) .skip
  (.exit 9))
  (.block 10 (.seq (.region false [oO 178 (.extr (.t 176) 1), oO 179 (.extr (.t 176) 2), oS 5 178, oS 6 179])
  (.seq (.region false [oM 180 6, oO 181 (.bin .eql .prim (.t 180) (.c (.int .i32 65533)))])
  (.cond (.t 181) (.seq (.region false [oM 182 5, oS 4 182])
  .ret)
  .skip))))))
def f83l1 : ACode := (.seq (.seq (.region false [oM 48 12, oM 49 7, oO 50 (.len true (.t 49)), oO 51 (.bin .lss .prim (.t 48) (.t 50))])
  (.cond (.t 51) .skip
  (.exit 3)))
  (.seq (.block 4 (.seq (.region true [oM 54 0, oM 55 9, oM 56 12, oO 57 (.bin .sub .prim (.t 55) (.t 56)), oO 58 (.sidx (.t 54) (.t 57)), oM 59 7, oM 60 8, oM 61 12, oO 62 (.bin .sub .prim (.t 60) (.t 61)), oO 63 (.sidx (.t 59) (.t 62)), oO 64 (.bin .neq .prim (.t 58) (.t 63))])
  (.cond (.t 64) (.exit 1000000)
  .skip)))
  (.region false [oM 52 12, oO 53 (.bin .add .prim (.t 52) (oI 1)), oS 12 53])))
def f83l2 : ACode := (.seq (.seq (.region false [oM 23 9, oM 24 0, oO 25 (.len true (.t 24)), oO 26 (.bin .lss .prim (.t 23) (.t 25))])
  (.cond (.t 26) .skip
  (.exit 1)))
  (.block 2 (.jump 1000000 (.seq (.seq (.region true [oM 27 0, oM 28 9, oO 29 (.sidx (.t 27) (.t 28)), oM 30 7, oM 31 8, oO 32 (.sidx (.t 30) (.t 31)), oO 33 (.bin .neq .prim (.t 29) (.t 32))])
  (.cond (.t 33) (.seq (.region true [oM 34 0, oM 35 9, oO 36 (.bin .add .prim (.t 35) (oI 1)), oO 37 (.slice none (.t 34) (some (.t 36)) none), oM 38 7, oM 39 8, oO 40 (.sidx (.t 38) (.t 39)), oO 41 (.call true 110 [(.t 37), (.t 40)]), oS 11 41])
  (.seq (.seq (.region false [oM 42 11, oO 43 (.bin .lss .prim (.t 42) (oI 0))])
  (.cond (.t 43) (.seq (.region false [oO 4 (.set (.c (.int .i64 (-1))))])
  .ret)
  .skip))
  (.region false [oM 44 9, oM 45 11, oO 46 (.bin .add .prim (.t 45) (oI 1)), oO 47 (.bin .add .prim (.t 44) (.t 46)), oS 9 47])))
  .skip))
  (.seq (.seq (.region false [oO 12 (.set (oI 1))])
  (.block 3 (.loop f83l1)))
  (.seq (.seq (.region false [oM 65 9, oM 66 8, oO 67 (.bin .sub .prim (.t 65) (.t 66)), oS 4 67])
  .ret)
  (.seq .skip
  (.seq (.region false [oM 68 10, oO 69 (.bin .add .prim (.t 68) (oI 1)), oS 10 69])
  (.seq (.region false [oM 70 9, oO 71 (.bin .add .prim (.t 70) (oI 1)), oS 9 71])
  (.seq (.region false [oO 72 (.mov (.c (.bool true))), oG 73 72 (.mov (.t 10)), oG 74 72 (.mov (.t 9)), oG 75 72 (.call true 108 [(.t 74)]), oG 76 72 (.bin .gtr .prim (.t 73) (.t 75)), oO 77 (.pick (.t 72) (.t 76) (.c (.bool false))), oM 78 77, oG 79 78 (.mov (.t 9)), oG 80 78 (.mov (.t 0)), oG 81 78 (.len true (.t 80)), oG 82 78 (.bin .lss .prim (.t 79) (.t 81)), oO 83 (.pick (.t 78) (.t 82) (.c (.bool false))), oM 84 83, ⟨(some 85), .mov (.c (.bool false)), some (84, false)⟩, oG 86 85 (.mov (.t 10)), oG 87 85 (.mov (.t 9)), oG 88 85 (.bin .shr .prim (.t 87) (.c (.int .u64 4))), oG 89 85 (.bin .add .prim (oI 4) (.t 88)), oG 90 85 (.bin .geq .prim (.t 86) (.t 89)), ⟨(some 91), .pick (.t 85) (.t 90) (.c (.bool false)), some (84, false)⟩, ⟨(some 92), .mov (.t 91), some (84, false)⟩, oG 93 92 (.mov (.t 9)), oG 94 92 (.mov (.t 0)), oG 95 92 (.len true (.t 94)), oG 96 92 (.bin .lss .prim (.t 93) (.t 95)), ⟨(some 97), .pick (.t 92) (.t 96) (.c (.bool false)), some (84, false)⟩, oO 98 (.pick (.t 84) (.c (.bool true)) (.t 97))])
  (.cond (.t 98) (.exit 1000001)
  .skip))))))))
  (.seq .skip
  (.seq (.region false [oM 68 10, oO 69 (.bin .add .prim (.t 68) (oI 1)), oS 10 69])
  (.seq (.region false [oM 70 9, oO 71 (.bin .add .prim (.t 70) (oI 1)), oS 9 71])
  (.seq (.region false [oO 72 (.mov (.c (.bool true))), oG 73 72 (.mov (.t 10)), oG 74 72 (.mov (.t 9)), oG 75 72 (.call true 108 [(.t 74)]), oG 76 72 (.bin .gtr .prim (.t 73) (.t 75)), oO 77 (.pick (.t 72) (.t 76) (.c (.bool false))), oM 78 77, oG 79 78 (.mov (.t 9)), oG 80 78 (.mov (.t 0)), oG 81 78 (.len true (.t 80)), oG 82 78 (.bin .lss .prim (.t 79) (.t 81)), oO 83 (.pick (.t 78) (.t 82) (.c (.bool false))), oM 84 83, ⟨(some 85), .mov (.c (.bool false)), some (84, false)⟩, oG 86 85 (.mov (.t 10)), oG 87 85 (.mov (.t 9)), oG 88 85 (.bin .shr .prim (.t 87) (.c (.int .u64 4))), oG 89 85 (.bin .add .prim (oI 4) (.t 88)), oG 90 85 (.bin .geq .prim (.t 86) (.t 89)), ⟨(some 91), .pick (.t 85) (.t 90) (.c (.bool false)), some (84, false)⟩, ⟨(some 92), .mov (.t 91), some (84, false)⟩, oG 93 92 (.mov (.t 9)), oG 94 92 (.mov (.t 0)), oG 95 92 (.len true (.t 94)), oG 96 92 (.bin .lss .prim (.t 93) (.t 95)), ⟨(some 97), .pick (.t 92) (.t 96) (.c (.bool false)), some (84, false)⟩, oO 98 (.pick (.t 84) (.c (.bool true)) (.t 97))])
  (.cond (.t 98) (.exit 1000001)
  .skip))))))))
def f83l3 : ACode := (.seq (.seq (.region false [oM 140 16, oM 141 7, oO 142 (.len true (.t 141)), oO 143 (.bin .lss .prim (.t 140) (.t 142))])
  (.cond (.t 143) .skip
  (.exit 7)))
  (.seq (.block 8 (.seq (.region true [oM 146 0, oM 147 9, oM 148 16, oO 149 (.bin .sub .prim (.t 147) (.t 148)), oO 150 (.sidx (.t 146) (.t 149)), oM 151 7, oM 152 8, oM 153 16, oO 154 (.bin .sub .prim (.t 152) (.t 153)), oO 155 (.sidx (.t 151) (.t 154)), oO 156 (.bin .neq .prim (.t 150) (.t 155))])
  (.cond (.t 156) (.exit 6)
  .skip)))
  (.region false [oM 144 16, oO 145 (.bin .add .prim (.t 144) (oI 1)), oS 16 145])))
def f83l4 : ACode := (.seq (.seq (.region false [oM 121 9, oM 122 0, oO 123 (.len true (.t 122)), oO 124 (.bin .lss .prim (.t 121) (.t 123))])
  (.cond (.t 124) .skip
  (.exit 5)))
  (.seq (.block 6 (.seq (.region false [oM 127 0, oM 128 9, oO 129 (.sidx (.t 127) (.t 128)), oM 130 14, oO 131 (.bin .eql .prim (.t 129) (.t 130)), oM 132 131, oG 133 132 (.mov (.t 0)), oG 134 132 (.mov (.t 9)), oG 135 132 (.bin .sub .prim (.t 134) (oI 1)), oG 136 132 (.sidx (.t 133) (.t 135)), oG 137 132 (.mov (.t 15)), oG 138 132 (.bin .eql .prim (.t 136) (.t 137)), oO 139 (.pick (.t 132) (.t 138) (.c (.bool false)))])
  (.cond (.t 139) (.seq (.seq (.region false [oO 16 (.set (oI 2))])
  (.block 7 (.loop f83l3)))
  (.seq (.region false [oM 157 9, oM 158 8, oO 159 (.bin .sub .prim (.t 157) (.t 158)), oS 4 159])
  .ret))
  .skip)))
  (.region false [oM 125 9, oO 126 (.bin .add .prim (.t 125) (oI 1)), oS 9 126])))
def f83l5 : ACode := (.seq (.seq (.region false [oM 140 16, oM 141 7, oO 142 (.len true (.t 141)), oO 143 (.bin .lss .prim (.t 140) (.t 142))])
  (.cond (.t 143) .skip
  (.exit 7)))
  (.seq (.block 8 (.seq (.region true [oM 146 0, oM 147 9, oM 148 16, oO 149 (.bin .sub .prim (.t 147) (.t 148)), oO 150 (.sidx (.t 146) (.t 149)), oM 151 7, oM 152 8, oM 153 16, oO 154 (.bin .sub .prim (.t 152) (.t 153)), oO 155 (.sidx (.t 151) (.t 154)), oO 156 (.bin .neq .prim (.t 150) (.t 155))])
  (.cond (.t 156) (.exit 6)
  .skip)))
  (.region false [oM 144 16, oO 145 (.bin .add .prim (.t 144) (oI 1)), oS 16 145])))
def f83l6 : ACode := (.seq (.seq (.region false [oM 121 9, oM 122 0, oO 123 (.len true (.t 122)), oO 124 (.bin .lss .prim (.t 121) (.t 123))])
  (.cond (.t 124) .skip
  (.exit 5)))
  (.seq (.block 6 (.seq (.region false [oM 127 0, oM 128 9, oO 129 (.sidx (.t 127) (.t 128)), oM 130 14, oO 131 (.bin .eql .prim (.t 129) (.t 130)), oM 132 131, oG 133 132 (.mov (.t 0)), oG 134 132 (.mov (.t 9)), oG 135 132 (.bin .sub .prim (.t 134) (oI 1)), oG 136 132 (.sidx (.t 133) (.t 135)), oG 137 132 (.mov (.t 15)), oG 138 132 (.bin .eql .prim (.t 136) (.t 137)), oO 139 (.pick (.t 132) (.t 138) (.c (.bool false)))])
  (.cond (.t 139) (.seq (.seq (.region false [oO 16 (.set (oI 2))])
  (.block 7 (.loop f83l5)))
  (.seq (.region false [oM 157 9, oM 158 8, oO 159 (.bin .sub .prim (.t 157) (.t 158)), oS 4 159])
  .ret))
  .skip)))
  (.region false [oM 125 9, oO 126 (.bin .add .prim (.t 125) (oI 1)), oS 9 126])))
def f83l7 : ACode := (.seq (.seq (.region false [oM 140 16, oM 141 7, oO 142 (.len true (.t 141)), oO 143 (.bin .lss .prim (.t 140) (.t 142))])
  (.cond (.t 143) .skip
  (.exit 7)))
  (.seq (.block 8 (.seq (.region true [oM 146 0, oM 147 9, oM 148 16, oO 149 (.bin .sub .prim (.t 147) (.t 148)), oO 150 (.sidx (.t 146) (.t 149)), oM 151 7, oM 152 8, oM 153 16, oO 154 (.bin .sub .prim (.t 152) (.t 153)), oO 155 (.sidx (.t 151) (.t 154)), oO 156 (.bin .neq .prim (.t 150) (.t 155))])
  (.cond (.t 156) (.exit 6)
  .skip)))
  (.region false [oM 144 16, oO 145 (.bin .add .prim (.t 144) (oI 1)), oS 16 145])))
def f83l8 : ACode := (.seq (.seq (.region false [oM 121 9, oM 122 0, oO 123 (.len true (.t 122)), oO 124 (.bin .lss .prim (.t 121) (.t 123))])
  (.cond (.t 124) .skip
  (.exit 5)))
  (.seq (.block 6 (.seq (.region false [oM 127 0, oM 128 9, oO 129 (.sidx (.t 127) (.t 128)), oM 130 14, oO 131 (.bin .eql .prim (.t 129) (.t 130)), oM 132 131, oG 133 132 (.mov (.t 0)), oG 134 132 (.mov (.t 9)), oG 135 132 (.bin .sub .prim (.t 134) (oI 1)), oG 136 132 (.sidx (.t 133) (.t 135)), oG 137 132 (.mov (.t 15)), oG 138 132 (.bin .eql .prim (.t 136) (.t 137)), oO 139 (.pick (.t 132) (.t 138) (.c (.bool false)))])
  (.cond (.t 139) (.seq (.seq (.region false [oO 16 (.set (oI 2))])
  (.block 7 (.loop f83l7)))
  (.seq (.region false [oM 157 9, oM 158 8, oO 159 (.bin .sub .prim (.t 157) (.t 158)), oS 4 159])
  .ret))
  .skip)))
  (.region false [oM 125 9, oO 126 (.bin .add .prim (.t 125) (oI 1)), oS 9 126])))
def f83l9 : ACode := (.seq (.seq (.region false [oM 140 16, oM 141 7, oO 142 (.len true (.t 141)), oO 143 (.bin .lss .prim (.t 140) (.t 142))])
  (.cond (.t 143) .skip
  (.exit 7)))
  (.seq (.block 8 (.seq (.region true [oM 146 0, oM 147 9, oM 148 16, oO 149 (.bin .sub .prim (.t 147) (.t 148)), oO 150 (.sidx (.t 146) (.t 149)), oM 151 7, oM 152 8, oM 153 16, oO 154 (.bin .sub .prim (.t 152) (.t 153)), oO 155 (.sidx (.t 151) (.t 154)), oO 156 (.bin .neq .prim (.t 150) (.t 155))])
  (.cond (.t 156) (.exit 6)
  .skip)))
  (.region false [oM 144 16, oO 145 (.bin .add .prim (.t 144) (oI 1)), oS 16 145])))
def f83l10 : ACode := (.seq (.seq (.region false [oM 121 9, oM 122 0, oO 123 (.len true (.t 122)), oO 124 (.bin .lss .prim (.t 121) (.t 123))])
  (.cond (.t 124) .skip
  (.exit 5)))
  (.seq (.block 6 (.seq (.region false [oM 127 0, oM 128 9, oO 129 (.sidx (.t 127) (.t 128)), oM 130 14, oO 131 (.bin .eql .prim (.t 129) (.t 130)), oM 132 131, oG 133 132 (.mov (.t 0)), oG 134 132 (.mov (.t 9)), oG 135 132 (.bin .sub .prim (.t 134) (oI 1)), oG 136 132 (.sidx (.t 133) (.t 135)), oG 137 132 (.mov (.t 15)), oG 138 132 (.bin .eql .prim (.t 136) (.t 137)), oO 139 (.pick (.t 132) (.t 138) (.c (.bool false)))])
  (.cond (.t 139) (.seq (.seq (.region false [oO 16 (.set (oI 2))])
  (.block 7 (.loop f83l9)))
  (.seq (.region false [oM 157 9, oM 158 8, oO 159 (.bin .sub .prim (.t 157) (.t 158)), oS 4 159])
  .ret))
  .skip)))
  (.region false [oM 125 9, oO 126 (.bin .add .prim (.t 125) (oI 1)), oS 9 126])))
def f83 : AFun := ⟨2, 187, [.t 4], (.seq (.region false [oO 4 (.set (oI 0))])
  (.block 0 (.seq (.region false [oM 161 1, oO 162 (.bin .leq .prim (.c (.int .i32 0)) (.t 161)), oM 163 162, oG 164 163 (.mov (.t 1)), oG 165 163 (.bin .lss .prim (.t 164) (.c (.int .i32 128))), oO 166 (.pick (.t 163) (.t 165) (.c (.bool false))), oS 160 166])
  (.cond (.t 160) (.seq (.region false [oM 167 0, oM 168 1, oO 169 (.conv (.int .u8) (.t 168)), oO 170 (.call true 110 [(.t 167), (.t 169)]), oS 4 170])
  .ret)
  (.seq (.region false [oM 172 1, oO 173 (.bin .eql .prim (.t 172) (.c (.int .i32 65533))), oS 171 173])
  (.cond (.t 171) (.seq (.seq (.region false [oM 174 0, oO 175 (.range (.t 174))])
  (.block 9 (.loop f83l0)))
  (.seq (.region false [oO 4 (.set (.c (.int .i64 (-1))))])
  .ret))
  (.seq (.region false [oM 184 1, oO 185 (.call true 111 [(.t 184)]), oO 186 (.un .not (.t 185)), oS 183 186])
  (.cond (.t 183) (.seq (.region false [oO 4 (.set (.c (.int .i64 (-1))))])
  .ret)
  (.jump 1000001 (.seq (.region false [oM 17 1, oO 18 (.conv .i2s (.t 17)), oS 7 18])
  (.seq (.region false [oM 19 7, oO 20 (.len true (.t 19)), oO 21 (.bin .sub .prim (.t 20) (oI 1)), oS 8 21])
  (.seq (.region false [oM 22 8, oS 9 22])
  (.seq (.region false [oO 10 (.set (oI 0))])
  (.seq (.block 1 (.loop f83l2))
  (.seq (.seq (.region false [oO 4 (.set (.c (.int .i64 (-1))))])
  .ret)
  (.seq .skip
  (.seq (.cond (.c (.bool true)) (.seq (.region false [oM 99 0, oM 100 9, oM 101 8, oO 102 (.bin .sub .prim (.t 100) (.t 101)), oO 103 (.slice none (.t 99) (some (.t 102)) none), oM 104 1, oO 105 (.conv .i2s (.t 104)), oO 106 (.call true 107 [(.t 103), (.t 105)]), oS 13 106])
  (.seq (.region false [oM 107 13, oO 108 (.bin .geq .prim (.t 107) (oI 0))])
  (.cond (.t 108) (.seq (.region false [oM 109 9, oM 110 13, oO 111 (.bin .add .prim (.t 109) (.t 110)), oM 112 8, oO 113 (.bin .sub .prim (.t 111) (.t 112)), oS 4 113])
  .ret)
  .skip)))
  (.jump 1000002 (.seq (.region false [oM 114 7, oM 115 8, oO 116 (.sidx (.t 114) (.t 115)), oS 14 116])
  (.seq (.region false [oM 117 7, oM 118 8, oO 119 (.bin .sub .prim (.t 118) (oI 1)), oO 120 (.sidx (.t 117) (.t 119)), oS 15 120])
  (.seq .skip
  (.block 5 (.loop f83l4)))))
  (.seq .skip
  (.block 5 (.loop f83l6)))))
  (.seq (.region false [oO 4 (.set (.c (.int .i64 (-1))))])
  .ret)))))))))
  (.seq .skip
  (.seq (.cond (.c (.bool true)) (.seq (.region false [oM 99 0, oM 100 9, oM 101 8, oO 102 (.bin .sub .prim (.t 100) (.t 101)), oO 103 (.slice none (.t 99) (some (.t 102)) none), oM 104 1, oO 105 (.conv .i2s (.t 104)), oO 106 (.call true 107 [(.t 103), (.t 105)]), oS 13 106])
  (.seq (.region false [oM 107 13, oO 108 (.bin .geq .prim (.t 107) (oI 0))])
  (.cond (.t 108) (.seq (.region false [oM 109 9, oM 110 13, oO 111 (.bin .add .prim (.t 109) (.t 110)), oM 112 8, oO 113 (.bin .sub .prim (.t 111) (.t 112)), oS 4 113])
  .ret)
  .skip)))
  (.jump 1000002 (.seq (.region false [oM 114 7, oM 115 8, oO 116 (.sidx (.t 114) (.t 115)), oS 14 116])
  (.seq (.region false [oM 117 7, oM 118 8, oO 119 (.bin .sub .prim (.t 118) (oI 1)), oO 120 (.sidx (.t 117) (.t 119)), oS 15 120])
  (.seq .skip
  (.block 5 (.loop f83l8)))))
  (.seq .skip
  (.block 5 (.loop f83l10)))))
  (.seq (.region false [oO 4 (.set (.c (.int .i64 (-1))))])
  .ret))))))))))))⟩
theorem c83 : cfun Tryz.prog 83 = some f83 := by kernel_rfl
def f84 : AFun := ⟨1, 5, [.t 2], (.seq (.region false [oO 2 (.set (.c (.bool false)))])
  (.seq (.region false [oM 3 0, oO 4 (.bin .gtr .prim (.t 3) (oI 8)), oS 2 4])
  .ret))⟩
theorem c84 : cfun Tryz.prog 84 = some f84 := by kernel_rfl
def f87 : AFun := ⟨1, 37, [.t 2], (.seq (.region false [oO 2 (.set (.c (.bool false)))])
  (.seq (.region false [oM 3 0, oO 4 (.bin .eql .prim (.t 3) (oI 9)), oM 5 4, ⟨(some 6), .mov (.t 0), some (5, false)⟩, ⟨(some 7), .bin .eql .prim (.t 6) (oI 10), some (5, false)⟩, oO 8 (.pick (.t 5) (.c (.bool true)) (.t 7)), oM 9 8, ⟨(some 10), .mov (.t 0), some (9, false)⟩, ⟨(some 11), .bin .eql .prim (.t 10) (oI 13), some (9, false)⟩, oO 12 (.pick (.t 9) (.c (.bool true)) (.t 11)), oM 13 12, ⟨(some 14), .mov (.t 0), some (13, false)⟩, ⟨(some 15), .bin .geq .prim (.t 14) (oI 32), some (13, false)⟩, ⟨(some 16), .mov (.t 15), some (13, false)⟩, oG 17 16 (.mov (.t 0)), oG 18 16 (.bin .lss .prim (.t 17) (oI 55296)), ⟨(some 19), .pick (.t 16) (.t 18) (.c (.bool false)), some (13, false)⟩, oO 20 (.pick (.t 13) (.c (.bool true)) (.t 19)), oM 21 20, ⟨(some 22), .mov (.t 0), some (21, false)⟩, ⟨(some 23), .bin .gtr .prim (.t 22) (oI 57343), some (21, false)⟩, ⟨(some 24), .mov (.t 23), some (21, false)⟩, oG 25 24 (.mov (.t 0)), oG 26 24 (.bin .lss .prim (.t 25) (oI 65534)), ⟨(some 27), .pick (.t 24) (.t 26) (.c (.bool false)), some (21, false)⟩, oO 28 (.pick (.t 21) (.c (.bool true)) (.t 27)), oM 29 28, ⟨(some 30), .mov (.t 0), some (29, false)⟩, ⟨(some 31), .bin .gtr .prim (.t 30) (oI 65535), some (29, false)⟩, ⟨(some 32), .mov (.t 31), some (29, false)⟩, oG 33 32 (.mov (.t 0)), oG 34 32 (.bin .leq .prim (.t 33) (oI 1114111)), ⟨(some 35), .pick (.t 32) (.t 34) (.c (.bool false)), some (29, false)⟩, oO 36 (.pick (.t 29) (.c (.bool true)) (.t 35)), oS 2 36])
  .ret))⟩
theorem c87 : cfun Tryz.prog 87 = some f87 := by kernel_rfl
def f103 : AFun := ⟨2, 9, [.t 4], (.seq (.region false [oO 4 (.set (.c (.bool false)))])
  (.seq (.region false [oM 5 0, oM 6 1, oO 7 (.call true 125 [(.t 5), (.t 6)]), oO 8 (.bin .geq .prim (.t 7) (oI 0)), oS 4 8])
  .ret))⟩
theorem c103 : cfun Tryz.prog 103 = some f103 := by kernel_rfl
def f104 : AFun := ⟨1, 8, [.t 3], (.seq (.region false [oO 3 (.set (.c (.bool false)))])
  (.seq (.region false [oO 4 (.load none (.t 1)), oM 5 0, oO 6 (.callv true (.t 4) [(.t 5)]), oO 7 (.un .not (.t 6)), oS 3 7])
  .ret))⟩
theorem c104 : cfun Tryz.prog 104 = some f104 := by kernel_rfl
def f105 : AFun := ⟨2, 15, [.t 4], (.seq (.region false [oO 2 (.box (.t 0)), oO 4 (.set (.c (.bool false)))])
  (.seq (.region false [oM 5 1, oO 6 (.faddr 0 (.t 2)), oO 7 (.load none (.t 6)), oO 8 (.bin .geq .prim (.t 5) (.t 7)), oM 9 8, oG 10 9 (.mov (.t 1)), oG 11 9 (.faddr 1 (.t 2)), oG 12 9 (.load none (.t 11)), oG 13 9 (.bin .leq .prim (.t 10) (.t 12)), oO 14 (.pick (.t 9) (.t 13) (.c (.bool false))), oS 4 14])
  .ret))⟩
theorem c105 : cfun Tryz.prog 105 = some f105 := by kernel_rfl
def f110 : AFun := ⟨2, 8, [.t 4], (.seq (.region false [oO 4 (.set (oI 0))])
  (.seq (.region false [oM 5 0, oM 6 1, oO 7 (.call true 106 [(.t 5), (.t 6)]), oS 4 7])
  .ret))⟩
theorem c110 : cfun Tryz.prog 110 = some f110 := by kernel_rfl
def f111 : AFun := ⟨1, 17, [.t 2], (.seq (.region false [oO 2 (.set (.c (.bool false)))])
  (.seq (.block 0 (.seq (.region false [oM 4 0, oO 5 (.bin .leq .prim (.c (.int .i32 0)) (.t 4)), oM 6 5, oG 7 6 (.mov (.t 0)), oG 8 6 (.bin .lss .prim (.t 7) (.c (.int .i32 55296))), oO 9 (.pick (.t 6) (.t 8) (.c (.bool false))), oS 3 9])
  (.cond (.t 3) (.seq (.region false [oO 2 (.set (.c (.bool true)))])
  .ret)
  (.seq (.region false [oM 11 0, oO 12 (.bin .lss .prim (.c (.int .i32 57343)) (.t 11)), oM 13 12, oG 14 13 (.mov (.t 0)), oG 15 13 (.bin .leq .prim (.t 14) (.c (.int .i32 1114111))), oO 16 (.pick (.t 13) (.t 15) (.c (.bool false))), oS 10 16])
  (.cond (.t 10) (.seq (.region false [oO 2 (.set (.c (.bool true)))])
  .ret)
  .skip)))))
  (.seq (.region false [oO 2 (.set (.c (.bool false)))])
  .ret)))⟩
theorem c111 : cfun Tryz.prog 111 = some f111 := by kernel_rfl
def f119 : AFun := ⟨2, 11, [.t 4, .t 5], (.seq (.region false [oO 4 (.set (.c (.str []))), oO 5 (.set (.c (.bool false)))])
  (.seq (.region false [oM 6 0, oM 7 1, oO 8 (.call true 137 [(.t 6), (.t 7)]), oO 9 (.extr (.t 8) 0), oO 10 (.extr (.t 8) 1), oS 4 9, oS 5 10])
  .ret))⟩
def f125l0 : ACode := (.seq (.region false [oO 9 (.bin .lss .prim (.t 8) (.t 7))])
  (.seq (.cond (.t 9) .skip
  (.exit 0))
  (.seq (.block 1 (.seq (.region false [oM 10 8, oS 5 10])
  (.seq (.region false [oM 11 1, oM 12 0, oM 13 5, oO 14 (.iaddr 1 (.t 12) (.t 13)), oO 15 (.load none (.t 14)), oO 16 (.callv true (.t 11) [(.t 15)])])
  (.cond (.t 16) (.seq (.region false [oM 17 5, oS 4 17])
  .ret)
  .skip))))
  (.region false [oO 18 (.bin .add .prim (.t 8) (oI 1)), oM 8 18]))))
def f125 : AFun := ⟨2, 19, [.t 4], (.seq (.region false [oO 4 (.set (oI 0))])
  (.seq (.seq (.region false [oM 6 0, oO 7 (.len false (.t 6)), oO 8 (.mov (oI 0))])
  (.block 0 (.loop f125l0)))
  (.seq (.region false [oO 4 (.set (.c (.int .i64 (-1))))])
  .ret)))⟩
theorem c125 : cfun Tryz.prog 125 = some f125 := by kernel_rfl
def f137 : AFun := ⟨2, 15, [.t 4, .t 5], (.seq (.region false [oO 4 (.set (.c (.str []))), oO 5 (.set (.c (.bool false)))])
  (.seq (.seq (.region false [oM 6 0, oM 7 1, oO 8 (.call true 59 [(.t 6), (.t 7)]), oO 9 (.un .not (.t 8))])
  (.cond (.t 9) (.seq (.region false [oM 10 0, oS 4 10, oO 5 (.set (.c (.bool false)))])
  .ret)
  .skip))
  (.seq (.region false [oM 11 0, oM 12 1, oO 13 (.len true (.t 12)), oO 14 (.slice none (.t 11) (some (.t 13)) none), oS 4 14, oO 5 (.set (.c (.bool true)))])
  .ret)))⟩
def f152 : AFun := ⟨2, 9, [.t 4], (.seq (.region false [oO 4 (.set (.c (.bool false)))])
  (.seq (.region false [oM 5 0, oM 6 1, oO 7 (.call true 83 [(.t 5), (.t 6)]), oO 8 (.bin .geq .prim (.t 7) (oI 0)), oS 4 8])
  .ret))⟩
end Go.Proofs.Ut
