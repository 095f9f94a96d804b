/- The functions that the laws of fold reach beside, as texts of our small language. -/
import Derived.Test.YtbnmhlienklfpaaGreatDoorAiCode
import Derived.Test.YtbnmhlienklfpaaGreatDoorProg
import Derived.KernelRfl
set_option linter.all false
namespace Go.Proofs.Ut
open Go.Ai
set_option maxRecDepth 100000
def f3l0 : ACode := (.seq (.seq (.region false [oM 19 8, oM 20 0, oO 21 (.len false (.t 20)), oO 22 (.bin .lss .prim (.t 19) (.t 21))])
  (.cond (.t 22) .skip
  (.exit 0)))
  (.seq (.block 1 (.region false [oM 25 7, oO 26 (.bin .add .prim (.t 25) (oI 3)), oM 27 0, oM 28 8, oO 29 (.iaddr 1 (.t 27) (.t 28)), oO 30 (.load none (.t 29)), oO 31 (.len true (.t 30)), oO 32 (.bin .add .prim (.t 26) (.t 31)), oS 7 32]))
  (.region false [oM 23 8, oO 24 (.bin .add .prim (.t 23) (oI 1)), oS 8 24])))
def f3 : AFun := ⟨3, 100, [.t 6], (.seq (.region false [oO 6 (.set (.c (.bool false)))])
  (.seq (.region false [oM 17 1, oO 18 (.len true (.t 17)), oS 7 18])
  (.seq (.seq (.region false [oO 8 (.set (oI 0))])
  (.block 0 (.loop f3l0)))
  (.seq (.seq (.region false [oM 33 7, oO 34 (.bin .gtr .prim (.t 33) (oI 3000))])
  (.cond (.t 34) (.seq (.region false [oO 35 (.call true 6 []), oS 6 35])
  .ret)
  .skip))
  (.seq (.region false [oM 37 1, oO 38 (.call true 7 [(.t 37)]), oM 36 38, oO 39 (.extr (.t 36) 0), oO 40 (.extr (.t 36) 1), oS 9 39, oS 10 40])
  (.seq (.region false [oM 42 1, oO 43 (.call true 8 [(.t 42)]), oM 41 43, oO 44 (.extr (.t 41) 0), oO 45 (.extr (.t 41) 1), oS 11 44, oS 12 45])
  (.seq (.region false [oM 47 1, oO 48 (.call true 9 [(.t 47)]), oM 46 48, oO 49 (.extr (.t 46) 0), oO 50 (.extr (.t 46) 1), oS 13 49, oS 14 50])
  (.seq (.region false [oM 52 1, oO 53 (.call true 10 [(.t 52)]), oM 51 53, oO 54 (.extr (.t 51) 0), oO 55 (.extr (.t 51) 1), oS 15 54, oS 16 55])
  (.seq (.region false [oO 56 (.call true 6 []), oM 57 56, oG 58 57 (.mov (.t 0)), oG 59 57 (.call true 11 [(.t 58)]), oG 60 57 (.mov (.t 0)), oG 61 57 (.call true 12 [(.t 60)]), oG 62 57 (.bin .eql .prim (.t 59) (.t 61)), oO 63 (.pick (.t 57) (.t 62) (.c (.bool false))), oM 64 63, oG 65 64 (.mov (.t 9)), oG 66 64 (.mov (.t 11)), oG 67 64 (.call true 13 [(.t 65), (.t 66)]), oO 68 (.pick (.t 64) (.t 67) (.c (.bool false))), oM 69 68, oG 70 69 (.mov (.t 10)), oG 71 69 (.mov (.t 12)), oG 72 69 (.bin .eql .prim (.t 70) (.t 71)), oO 73 (.pick (.t 69) (.t 72) (.c (.bool false))), oM 74 73, oG 75 74 (.mov (.t 1)), oG 76 74 (.call true 14 [(.t 75)]), oG 77 74 (.mov (.t 1)), oG 78 74 (.call true 15 [(.t 77)]), oG 79 74 (.bin .eql .prim (.t 76) (.t 78)), oO 80 (.pick (.t 74) (.t 79) (.c (.bool false))), oM 81 80, oG 82 81 (.mov (.t 13)), oG 83 81 (.mov (.t 15)), oG 84 81 (.bin .eql .prim (.t 82) (.t 83)), oO 85 (.pick (.t 81) (.t 84) (.c (.bool false))), oM 86 85, oG 87 86 (.mov (.t 14)), oG 88 86 (.mov (.t 16)), oG 89 86 (.bin .eql .prim (.t 87) (.t 88)), oO 90 (.pick (.t 86) (.t 89) (.c (.bool false))), oM 91 90, oG 92 91 (.mov (.t 1)), oG 93 91 (.mov (.t 2)), oG 94 91 (.call true 16 [(.t 92), (.t 93)]), oG 95 91 (.mov (.t 1)), oG 96 91 (.mov (.t 2)), oG 97 91 (.call true 17 [(.t 95), (.t 96)]), oG 98 91 (.call true 13 [(.t 94), (.t 97)]), oO 99 (.pick (.t 91) (.t 98) (.c (.bool false))), oS 6 99])
  .ret)))))))))⟩
theorem c3 : cfun Tryz.prog 3 = some f3 := by kernel_rfl
def f4l0 : ACode := (.seq (.seq (.region false [oM 37 11, oM 38 0, oM 39 8, oO 40 (.iaddr 1 (.t 38) (.t 39)), oO 41 (.load none (.t 40)), oO 42 (.len true (.t 41)), oO 43 (.bin .lss .prim (.t 37) (.t 42))])
  (.cond (.t 43) .skip
  (.exit 2)))
  (.seq (.block 3 (.seq (.region false [oM 46 0, oM 47 8, oO 48 (.iaddr 1 (.t 46) (.t 47)), oO 49 (.load none (.t 48)), oM 50 11, oO 51 (.sidx (.t 49) (.t 50)), oO 52 (.bin .neq .prim (.t 51) (.c (.int .u8 13)))])
  (.cond (.t 52) (.region false [oM 53 10, oM 54 0, oM 55 8, oO 56 (.iaddr 1 (.t 54) (.t 55)), oO 57 (.load none (.t 56)), oM 58 11, oM 59 11, oO 60 (.bin .add .prim (.t 59) (oI 1)), oO 61 (.slice none (.t 57) (some (.t 58)) (some (.t 60))), oO 62 (.bin .add .prim (.t 53) (.t 61)), oS 10 62])
  .skip)))
  (.region false [oM 44 11, oO 45 (.bin .add .prim (.t 44) (oI 1)), oS 11 45])))
def f4l1 : ACode := (.seq (.seq (.region false [oM 15 8, oM 16 0, oO 17 (.len false (.t 16)), oO 18 (.bin .lss .prim (.t 15) (.t 17)), oM 19 18, oG 20 19 (.mov (.t 8)), oG 21 19 (.bin .lss .prim (.t 20) (oI 10)), oO 22 (.pick (.t 19) (.t 21) (.c (.bool false)))])
  (.cond (.t 22) .skip
  (.exit 0)))
  (.seq (.block 1 (.seq (.seq (.region false [oM 25 0, oM 26 8, oO 27 (.iaddr 1 (.t 25) (.t 26)), oO 28 (.load none (.t 27)), oO 29 (.len true (.t 28)), oO 30 (.bin .gtr .prim (.t 29) (oI 100))])
  (.cond (.t 30) (.seq (.region false [oO 31 (.call true 6 []), oS 4 31])
  .ret)
  .skip))
  (.seq (.region false [oM 32 0, oM 33 8, oO 34 (.iaddr 1 (.t 32) (.t 33)), oO 35 (.load none (.t 34)), oO 36 (.call true 14 [(.t 35)]), oS 9 36])
  (.seq (.region false [oO 10 (.set (.c (.str [])))])
  (.seq (.seq (.region false [oO 11 (.set (oI 0))])
  (.block 2 (.loop f4l0)))
  (.seq (.seq (.region false [oM 63 8, oO 64 (.bin .gtr .prim (.t 63) (oI 0))])
  (.cond (.t 64) (.region false [oM 65 6, oM 66 5, oO 67 (.bslice true 1 [(.t 66)]), oO 68 (.conv .b2s (.t 67)), oO 69 (.bin .add .prim (.t 65) (.t 68)), oS 6 69])
  .skip))
  (.seq (.region false [oM 70 6, oM 71 9, oO 72 (.bin .add .prim (.t 70) (.t 71)), oM 73 7, oM 74 9, oO 75 (.bslice true 1 [(.t 74)]), oO 76 (.append 1 16 (.t 73) (.t 75)), oS 6 72, oS 7 76])
  (.seq (.region false [oM 78 9, oO 79 (.call true 9 [(.t 78)]), oM 77 79, oO 80 (.extr (.t 77) 0), oO 81 (.extr (.t 77) 1), oS 12 80, oS 13 81])
  (.seq (.region false [oM 82 13, oO 83 (.bin .neq .prim (.t 82) (oI 0)), oM 84 83, ⟨(some 85), .mov (.t 12), some (84, false)⟩, ⟨(some 86), .mov (.t 10), some (84, false)⟩, ⟨(some 87), .bin .neq .prim (.t 85) (.t 86), some (84, false)⟩, oO 88 (.pick (.t 84) (.c (.bool true)) (.t 87))])
  (.cond (.t 88) (.seq (.region false [oO 4 (.set (.c (.bool false)))])
  .ret)
  .skip))))))))))
  (.region false [oM 23 8, oO 24 (.bin .add .prim (.t 23) (oI 1)), oS 8 24])))
def f4t : ACode := (.seq (.region false [oO 6 (.set (.c (.str [])))])
  (.seq (.region false [oO 7 (.newnil 1)])
  (.seq (.seq (.region false [oO 8 (.set (oI 0))])
  (.block 0 (.loop f4l1)))
  (.seq (.seq (.region false [oM 89 7, oO 90 (.len false (.t 89)), oO 91 (.bin .eql .prim (.t 90) (oI 0))])
  (.cond (.t 91) (.region false [oO 92 (.bslice true 1 [(.c (.str []))]), oS 7 92])
  .skip))
  (.seq (.region false [oO 93 (.call true 6 []), oM 94 93, oG 95 94 (.mov (.t 6)), oG 96 94 (.mov (.t 5)), oG 97 94 (.call true 16 [(.t 95), (.t 96)]), oG 98 94 (.mov (.t 7)), oG 99 94 (.call true 13 [(.t 97), (.t 98)]), oO 100 (.pick (.t 94) (.t 99) (.c (.bool false))), oS 4 100])
  .ret)))))
def f4 : AFun := ⟨2, 101, [.t 4], (.seq (.region false [oO 4 (.set (.c (.bool false)))])
  (.seq (.region false [oO 5 (.set (.c (.int .u8 59)))])
  (.seq (.seq (.region false [oM 14 1])
  (.cond (.t 14) (.region false [oO 5 (.set (.c (.int .u8 44)))])
  .skip))
  f4t)))⟩
theorem c4 : cfun Tryz.prog 4 = some f4 := by kernel_rfl
def f6 : AFun := ⟨0, 38, [.t 0], (.seq (.region false [oO 0 (.set (.c (.bool false)))])
  (.seq (.region false [oO 6 (.call true 7 [(.c (.str [97, 13, 10, 32, 98, 13, 10]))]), oM 5 6, oO 7 (.extr (.t 5) 0), oO 8 (.extr (.t 5) 1), oS 1 7, oS 2 8])
  (.seq (.region false [oO 10 (.call true 9 [(.c (.str [97, 92, 44, 98]))]), oM 9 10, oO 11 (.extr (.t 9) 0), oO 12 (.extr (.t 9) 1), oS 3 11, oS 4 12])
  (.seq (.region false [oM 13 2, oO 14 (.bin .eql .prim (.t 13) (oI 0)), oM 15 14, oG 16 15 (.mov (.t 1)), oG 17 15 (.bslice true 1 [(.c (.str [97, 98]))]), oG 18 15 (.call true 13 [(.t 16), (.t 17)]), oO 19 (.pick (.t 15) (.t 18) (.c (.bool false))), oM 20 19, oG 21 20 (.mov (.t 4)), oG 22 20 (.bin .eql .prim (.t 21) (oI 0)), oO 23 (.pick (.t 20) (.t 22) (.c (.bool false))), oM 24 23, oG 25 24 (.mov (.t 3)), oG 26 24 (.bin .eql .prim (.t 25) (.c (.str [97, 44, 98]))), oO 27 (.pick (.t 24) (.t 26) (.c (.bool false))), oM 28 27, oG 29 28 (.bslice true 1 [(.c (.str [120]))]), oG 30 28 (.call true 11 [(.t 29)]), oG 31 28 (.bin .eql .prim (.t 30) (.c (.str [120, 13, 10]))), oO 32 (.pick (.t 28) (.t 31) (.c (.bool false))), oM 33 32, oG 34 33 (.call true 16 [(.c (.str [97, 59, 98])), (.c (.int .u8 59))]), oG 35 33 (.len false (.t 34)), oG 36 33 (.bin .eql .prim (.t 35) (oI 2)), oO 37 (.pick (.t 33) (.t 36) (.c (.bool false))), oS 0 37])
  .ret))))⟩
theorem c6 : cfun Tryz.prog 6 = some f6 := by kernel_rfl
def f10l0 : ACode := (.seq (.seq (.region false [oM 6 5, oM 7 0, oO 8 (.len true (.t 7)), oO 9 (.bin .lss .prim (.t 6) (.t 8))])
  (.cond (.t 9) .skip
  (.exit 0)))
  (.seq (.block 1 (.seq (.seq (.region false [oM 12 0, oM 13 5, oO 14 (.sidx (.t 12) (.t 13)), oO 15 (.bin .neq .prim (.t 14) (.c (.int .u8 92)))])
  (.cond (.t 15) (.seq (.region false [oM 16 4, oM 17 0, oM 18 5, oM 19 5, oO 20 (.bin .add .prim (.t 19) (oI 1)), oO 21 (.slice none (.t 17) (some (.t 18)) (some (.t 20))), oO 22 (.bin .add .prim (.t 16) (.t 21)), oS 4 22])
  (.exit 1))
  .skip))
  (.seq (.region false [oM 23 5, oO 24 (.bin .add .prim (.t 23) (oI 1)), oS 5 24])
  (.seq (.seq (.region false [oM 25 5, oM 26 0, oO 27 (.len true (.t 26)), oO 28 (.bin .geq .prim (.t 25) (.t 27))])
  (.cond (.t 28) (.seq (.region false [oO 2 (.set (.c (.str []))), oO 3 (.set (oI 18))])
  .ret)
  .skip))
  (.seq (.region false [oM 29 0, oM 30 5, oO 31 (.sidx (.t 29) (.t 30))])
  (.block 2 (.seq (.seq (.region false [oO 33 (.bin .eql .prim (.t 31) (.c (.int .u8 92))), oS 32 33])
  (.cond (.t 32) .skip
  (.seq (.region false [oO 34 (.bin .eql .prim (.t 31) (.c (.int .u8 44))), oS 32 34])
  (.cond (.t 32) .skip
  (.region false [oO 35 (.bin .eql .prim (.t 31) (.c (.int .u8 59))), oS 32 35])))))
  (.cond (.t 32) (.region false [oM 36 4, oM 37 0, oM 38 5, oM 39 5, oO 40 (.bin .add .prim (.t 39) (oI 1)), oO 41 (.slice none (.t 37) (some (.t 38)) (some (.t 40))), oO 42 (.bin .add .prim (.t 36) (.t 41)), oS 4 42])
  (.seq (.seq (.region false [oO 44 (.bin .eql .prim (.t 31) (.c (.int .u8 110))), oS 43 44])
  (.cond (.t 43) .skip
  (.region false [oO 45 (.bin .eql .prim (.t 31) (.c (.int .u8 78))), oS 43 45])))
  (.cond (.t 43) (.region false [oM 46 4, oO 47 (.bin .add .prim (.t 46) (.c (.str [10]))), oS 4 47])
  (.seq (.region false [oO 2 (.set (.c (.str []))), oO 3 (.set (oI 18))])
  .ret)))))))))))
  (.region false [oM 10 5, oO 11 (.bin .add .prim (.t 10) (oI 1)), oS 5 11])))
def f10 : AFun := ⟨1, 49, [.t 2, .t 3], (.seq (.region false [oO 2 (.set (.c (.str []))), oO 3 (.set (oI 0))])
  (.seq (.region false [oO 4 (.set (.c (.str [])))])
  (.seq (.seq (.region false [oO 5 (.set (oI 0))])
  (.block 0 (.loop f10l0)))
  (.seq (.region false [oM 48 4, oS 2 48, oO 3 (.set (oI 0))])
  .ret))))⟩
theorem c10 : cfun Tryz.prog 10 = some f10 := by kernel_rfl
def f15l0 : ACode := (.seq (.seq (.region false [oM 5 4, oM 6 0, oO 7 (.len true (.t 6)), oO 8 (.bin .lss .prim (.t 5) (.t 7))])
  (.cond (.t 8) .skip
  (.exit 0)))
  (.seq (.block 1 (.seq (.region false [oM 11 0, oM 12 4, oO 13 (.sidx (.t 11) (.t 12))])
  (.block 2 (.seq (.seq (.region false [oO 22 (.bin .eql .prim (.t 13) (.c (.int .u8 92))), oS 21 22])
  (.cond (.t 21) .skip
  (.seq (.region false [oO 23 (.bin .eql .prim (.t 13) (.c (.int .u8 44))), oS 21 23])
  (.cond (.t 21) .skip
  (.region false [oO 24 (.bin .eql .prim (.t 13) (.c (.int .u8 59))), oS 21 24])))))
  (.cond (.t 21) (.region false [oM 25 3, oO 26 (.bin .add .prim (.t 25) (.c (.str [92]))), oM 27 0, oM 28 4, oM 29 4, oO 30 (.bin .add .prim (.t 29) (oI 1)), oO 31 (.slice none (.t 27) (some (.t 28)) (some (.t 30))), oO 32 (.bin .add .prim (.t 26) (.t 31)), oS 3 32])
  (.seq (.region false [oO 34 (.bin .eql .prim (.t 13) (.c (.int .u8 10))), oS 33 34])
  (.cond (.t 33) (.region false [oM 35 3, oO 36 (.bin .add .prim (.t 35) (.c (.str [92, 110]))), oS 3 36])
  (.seq (.region false [oO 38 (.bin .eql .prim (.t 13) (.c (.int .u8 13))), oS 37 38])
  (.cond (.t 37) .skip
  (.region false [oM 14 3, oM 15 0, oM 16 4, oM 17 4, oO 18 (.bin .add .prim (.t 17) (oI 1)), oO 19 (.slice none (.t 15) (some (.t 16)) (some (.t 18))), oO 20 (.bin .add .prim (.t 14) (.t 19)), oS 3 20]))))))))))
  (.region false [oM 9 4, oO 10 (.bin .add .prim (.t 9) (oI 1)), oS 4 10])))
def f15 : AFun := ⟨1, 40, [.t 2], (.seq (.region false [oO 2 (.set (.c (.str [])))])
  (.seq (.region false [oO 3 (.set (.c (.str [])))])
  (.seq (.seq (.region false [oO 4 (.set (oI 0))])
  (.block 0 (.loop f15l0)))
  (.seq (.region false [oM 39 3, oS 2 39])
  .ret))))⟩
theorem c15 : cfun Tryz.prog 15 = some f15 := by kernel_rfl
def f17l0 : ACode := (.seq (.seq (.region false [oM 9 8, oM 10 0, oO 11 (.len true (.t 10)), oO 12 (.bin .lss .prim (.t 9) (.t 11))])
  (.cond (.t 12) .skip
  (.exit 0)))
  (.seq (.block 1 (.seq (.seq (.region false [oM 15 0, oM 16 8, oO 17 (.sidx (.t 15) (.t 16)), oM 18 1, oO 19 (.bin .eql .prim (.t 17) (.t 18)), oM 20 19, oG 21 20 (.mov (.t 7)), oG 22 20 (.un .not (.t 21)), oO 23 (.pick (.t 20) (.t 22) (.c (.bool false)))])
  (.cond (.t 23) (.seq (.region false [oM 24 5, oM 25 0, oM 26 6, oM 27 8, oO 28 (.slice none (.t 25) (some (.t 26)) (some (.t 27))), oO 29 (.bslice true 1 [(.t 28)]), oO 30 (.append 1 16 (.t 24) (.t 29)), oS 5 30])
  (.region false [oM 31 8, oO 32 (.bin .add .prim (.t 31) (oI 1)), oS 6 32]))
  .skip))
  (.region false [oM 33 0, oM 34 8, oO 35 (.sidx (.t 33) (.t 34)), oO 36 (.bin .eql .prim (.t 35) (.c (.int .u8 92))), oM 37 36, oG 38 37 (.mov (.t 7)), oG 39 37 (.un .not (.t 38)), oO 40 (.pick (.t 37) (.t 39) (.c (.bool false))), oS 7 40])))
  (.region false [oM 13 8, oO 14 (.bin .add .prim (.t 13) (oI 1)), oS 8 14])))
def f17 : AFun := ⟨2, 47, [.t 4], (.seq (.region false [oO 4 (.newnil 1)])
  (.seq (.region false [oO 5 (.newnil 1)])
  (.seq (.region false [oO 6 (.set (oI 0)), oO 7 (.set (.c (.bool false)))])
  (.seq (.seq (.region false [oO 8 (.set (oI 0))])
  (.block 0 (.loop f17l0)))
  (.seq (.region false [oM 41 5, oM 42 0, oM 43 6, oO 44 (.slice none (.t 42) (some (.t 43)) none), oO 45 (.bslice true 1 [(.t 44)]), oO 46 (.append 1 16 (.t 41) (.t 45)), oS 4 46])
  .ret)))))⟩
theorem c17 : cfun Tryz.prog 17 = some f17 := by kernel_rfl

end Go.Proofs.Ut
