/- The functions that these laws reach, as texts of our small language. -/
import Derived.Test.YtbhlmbacgbfaoaaDoorAiCode
import Derived.Test.YtbhlmbacgbfaoaaDoorProg
import Derived.KernelRfl
set_option linter.all false
namespace Go.Proofs.Ut
open Go.Ai
set_option maxRecDepth 100000
def f3 : AFun := ⟨2, 41, [.t 4], (.seq (.region false [⟨(some 4), .set (.c (.bool false)), none⟩])
  (.seq (.seq (.region false [⟨(some 5), .mov (.t 0), none⟩, ⟨(some 6), .len true (.t 5), none⟩, ⟨(some 7), .bin .gtr .prim (.t 6) (.c (.int .i64 1000)), none⟩])
  (.cond (.t 7) (.seq (.region false [⟨(some 8), .call true 15 [], none⟩, ⟨(some 4), .set (.t 8), none⟩])
  .ret)
  .skip))
  (.seq (.region false [⟨(some 9), .call true 15 [], none⟩, ⟨(some 10), .mov (.t 9), none⟩, ⟨(some 11), .mov (.t 0), some (10, true)⟩, ⟨(some 12), .call true 16 [(.t 11)], some (10, true)⟩, ⟨(some 13), .mov (.t 0), some (10, true)⟩, ⟨(some 14), .call true 17 [(.t 13)], some (10, true)⟩, ⟨(some 15), .bin .eql .bool (.t 12) (.t 14), some (10, true)⟩, ⟨(some 16), .pick (.t 10) (.t 15) (.c (.bool false)), none⟩, ⟨(some 17), .mov (.t 16), none⟩, ⟨(some 18), .mov (.t 0), some (17, true)⟩, ⟨(some 19), .call true 19 [(.t 18)], some (17, true)⟩, ⟨(some 20), .mov (.t 0), some (17, true)⟩, ⟨(some 21), .call true 20 [(.t 20)], some (17, true)⟩, ⟨(some 22), .call true 18 [(.t 19), (.t 21)], some (17, true)⟩, ⟨(some 23), .pick (.t 17) (.t 22) (.c (.bool false)), none⟩, ⟨(some 24), .mov (.t 23), none⟩, ⟨(some 25), .mov (.t 0), some (24, true)⟩, ⟨(some 26), .call true 21 [(.t 25)], some (24, true)⟩, ⟨(some 27), .mov (.t 0), some (24, true)⟩, ⟨(some 28), .call true 20 [(.t 27)], some (24, true)⟩, ⟨(some 29), .len false (.t 28), some (24, true)⟩, ⟨(some 30), .bin .eql .prim (.t 26) (.t 29), some (24, true)⟩, ⟨(some 31), .pick (.t 24) (.t 30) (.c (.bool false)), none⟩, ⟨(some 32), .mov (.t 31), none⟩, ⟨(some 33), .mov (.t 0), some (32, true)⟩, ⟨(some 34), .mov (.t 1), some (32, true)⟩, ⟨(some 35), .call true 22 [(.t 33), (.t 34)], some (32, true)⟩, ⟨(some 36), .mov (.t 0), some (32, true)⟩, ⟨(some 37), .mov (.t 1), some (32, true)⟩, ⟨(some 38), .call true 23 [(.t 36), (.t 37)], some (32, true)⟩, ⟨(some 39), .bin .eql .bool (.t 35) (.t 38), some (32, true)⟩, ⟨(some 40), .pick (.t 32) (.t 39) (.c (.bool false)), none⟩, ⟨(some 4), .set (.t 40), none⟩])
  .ret)))⟩
theorem c3 : cfun Tryd.prog 3 = some f3 := by kernel_rfl
def f4 : AFun := ⟨2, 85, [.t 4], (.seq (.region false [⟨(some 4), .set (.c (.bool false)), none⟩])
  (.seq (.region false [⟨(some 8), .mov (.t 0), none⟩, ⟨(some 9), .conv (.int .u64) (.t 8), none⟩, ⟨(some 10), .bin .rem .prim (.t 9) (.c (.int .u64 1200000)), none⟩, ⟨(some 11), .conv (.int .i64) (.t 10), none⟩, ⟨(some 0), .set (.t 11), none⟩])
  (.seq (.region false [⟨(some 12), .mov (.t 0), none⟩, ⟨(some 13), .conv (.int .i32) (.t 12), none⟩, ⟨(some 14), .conv .i2s (.t 13), none⟩, ⟨(some 5), .set (.t 14), none⟩])
  (.seq (.seq (.region false [⟨(some 15), .mov (.t 0), none⟩, ⟨(some 16), .bin .gtr .prim (.t 15) (.c (.int .i64 1114111)), none⟩, ⟨(some 17), .mov (.t 16), none⟩, ⟨(some 18), .mov (.t 0), some (17, false)⟩, ⟨(some 19), .bin .geq .prim (.t 18) (.c (.int .i64 55296)), some (17, false)⟩, ⟨(some 20), .mov (.t 19), some (17, false)⟩, ⟨(some 21), .mov (.t 0), some (20, true)⟩, ⟨(some 22), .bin .leq .prim (.t 21) (.c (.int .i64 57343)), some (20, true)⟩, ⟨(some 23), .pick (.t 20) (.t 22) (.c (.bool false)), some (17, false)⟩, ⟨(some 24), .pick (.t 17) (.c (.bool true)) (.t 23), none⟩])
  (.cond (.t 24) (.seq (.region false [⟨(some 25), .call true 15 [], none⟩, ⟨(some 26), .mov (.t 25), none⟩, ⟨(some 27), .mov (.t 5), some (26, true)⟩, ⟨(some 28), .call true 16 [(.t 27)], some (26, true)⟩, ⟨(some 29), .pick (.t 26) (.t 28) (.c (.bool false)), none⟩, ⟨(some 4), .set (.t 29), none⟩])
  .ret)
  .skip))
  (.seq (.region false [⟨(some 30), .mov (.t 0), none⟩, ⟨(some 31), .call true 24 [(.t 30)], none⟩, ⟨(some 6), .set (.t 31), none⟩])
  (.seq (.region false [⟨(some 32), .mov (.t 5), none⟩, ⟨(some 33), .mov (.t 5), none⟩, ⟨(some 34), .len true (.t 33), none⟩, ⟨(some 35), .bin .sub .prim (.t 34) (.c (.int .i64 1)), none⟩, ⟨(some 36), .mov (.t 1), none⟩, ⟨(some 37), .conv (.int .u64) (.t 36), none⟩, ⟨(some 38), .bin .rem .prim (.t 37) (.c (.int .u64 3)), none⟩, ⟨(some 39), .conv (.int .i64) (.t 38), none⟩, ⟨(some 40), .bin .sub .prim (.t 35) (.t 39), none⟩, ⟨(some 41), .mx [(.c (.int .i64 0)), (.t 40)], none⟩, ⟨(some 42), .slice none (.t 32) none (some (.t 41)), none⟩, ⟨(some 7), .set (.t 42), none⟩])
  (.seq (.region false [⟨(some 43), .call true 15 [], none⟩, ⟨(some 44), .mov (.t 43), none⟩, ⟨(some 45), .mov (.t 5), some (44, true)⟩, ⟨(some 46), .call true 16 [(.t 45)], some (44, true)⟩, ⟨(some 47), .mov (.t 6), some (44, true)⟩, ⟨(some 48), .bin .eql .bool (.t 46) (.t 47), some (44, true)⟩, ⟨(some 49), .pick (.t 44) (.t 48) (.c (.bool false)), none⟩, ⟨(some 50), .mov (.t 49), none⟩, ⟨(some 51), .mov (.t 6), some (50, true)⟩, ⟨(some 52), .un .not (.t 51), some (50, true)⟩, ⟨(some 53), .mov (.t 52), some (50, true)⟩, ⟨(some 54), .mov (.t 5), some (53, false)⟩, ⟨(some 55), .call true 19 [(.t 54)], some (53, false)⟩, ⟨(some 56), .mov (.t 0), some (53, false)⟩, ⟨(some 57), .bslice true 1 [(.t 56)], some (53, false)⟩, ⟨(some 58), .call true 18 [(.t 55), (.t 57)], some (53, false)⟩, ⟨(some 59), .pick (.t 53) (.c (.bool true)) (.t 58), some (50, true)⟩, ⟨(some 60), .pick (.t 50) (.t 59) (.c (.bool false)), none⟩, ⟨(some 61), .mov (.t 60), none⟩, ⟨(some 62), .mov (.t 7), some (61, true)⟩, ⟨(some 63), .bin .eql .prim (.t 62) (.c (.str [])), some (61, true)⟩, ⟨(some 64), .mov (.t 63), some (61, true)⟩, ⟨(some 65), .mov (.t 7), some (64, false)⟩, ⟨(some 66), .call true 16 [(.t 65)], some (64, false)⟩, ⟨(some 67), .un .not (.t 66), some (64, false)⟩, ⟨(some 68), .pick (.t 64) (.c (.bool true)) (.t 67), some (61, true)⟩, ⟨(some 69), .pick (.t 61) (.t 68) (.c (.bool false)), none⟩, ⟨(some 70), .mov (.t 69), none⟩, ⟨(some 71), .mov (.t 5), some (70, true)⟩, ⟨(some 72), .call true 22 [(.t 71), (.c (.int .i64 1))], some (70, true)⟩, ⟨(some 73), .mov (.t 6), some (70, true)⟩, ⟨(some 74), .mov (.t 73), some (70, true)⟩, ⟨(some 75), .mov (.t 0), some (74, true)⟩, ⟨(some 76), .bin .geq .prim (.t 75) (.c (.int .i64 32)), some (74, true)⟩, ⟨(some 77), .pick (.t 74) (.t 76) (.c (.bool false)), some (70, true)⟩, ⟨(some 78), .bin .eql .bool (.t 72) (.t 77), some (70, true)⟩, ⟨(some 79), .pick (.t 70) (.t 78) (.c (.bool false)), none⟩, ⟨(some 80), .mov (.t 79), none⟩, ⟨(some 81), .mov (.t 5), some (80, true)⟩, ⟨(some 82), .call true 22 [(.t 81), (.c (.int .i64 0))], some (80, true)⟩, ⟨(some 83), .un .not (.t 82), some (80, true)⟩, ⟨(some 84), .pick (.t 80) (.t 83) (.c (.bool false)), none⟩, ⟨(some 4), .set (.t 84), none⟩])
  .ret)))))))⟩
theorem c4 : cfun Tryd.prog 4 = some f4 := by kernel_rfl
def f5 : AFun := ⟨3, 85, [.t 6], (.seq (.region false [⟨(some 6), .set (.c (.bool false)), none⟩])
  (.seq (.seq (.region false [⟨(some 8), .mov (.t 0), none⟩, ⟨(some 9), .len true (.t 8), none⟩, ⟨(some 10), .bin .gtr .prim (.t 9) (.c (.int .i64 300)), none⟩, ⟨(some 11), .mov (.t 10), none⟩, ⟨(some 12), .mov (.t 1), some (11, false)⟩, ⟨(some 13), .len true (.t 12), some (11, false)⟩, ⟨(some 14), .bin .gtr .prim (.t 13) (.c (.int .i64 300)), some (11, false)⟩, ⟨(some 15), .pick (.t 11) (.c (.bool true)) (.t 14), none⟩])
  (.cond (.t 15) (.seq (.region false [⟨(some 16), .call true 15 [], none⟩, ⟨(some 6), .set (.t 16), none⟩])
  .ret)
  .skip))
  (.seq (.seq (.region false [⟨(some 17), .mov (.t 0), none⟩, ⟨(some 18), .call true 16 [(.t 17)], none⟩, ⟨(some 19), .un .not (.t 18), none⟩, ⟨(some 20), .mov (.t 19), none⟩, ⟨(some 21), .mov (.t 1), some (20, false)⟩, ⟨(some 22), .call true 16 [(.t 21)], some (20, false)⟩, ⟨(some 23), .un .not (.t 22), some (20, false)⟩, ⟨(some 24), .pick (.t 20) (.c (.bool true)) (.t 23), none⟩])
  (.cond (.t 24) (.seq (.region false [⟨(some 25), .call true 15 [], none⟩, ⟨(some 26), .mov (.t 25), none⟩, ⟨(some 27), .mov (.t 0), some (26, true)⟩, ⟨(some 28), .call true 17 [(.t 27)], some (26, true)⟩, ⟨(some 29), .un .not (.t 28), some (26, true)⟩, ⟨(some 30), .pick (.t 26) (.t 29) (.c (.bool false)), none⟩, ⟨(some 31), .mov (.t 30), none⟩, ⟨(some 32), .call true 15 [], some (31, false)⟩, ⟨(some 33), .mov (.t 32), some (31, false)⟩, ⟨(some 34), .mov (.t 1), some (33, true)⟩, ⟨(some 35), .call true 17 [(.t 34)], some (33, true)⟩, ⟨(some 36), .un .not (.t 35), some (33, true)⟩, ⟨(some 37), .pick (.t 33) (.t 36) (.c (.bool false)), some (31, false)⟩, ⟨(some 38), .pick (.t 31) (.c (.bool true)) (.t 37), none⟩, ⟨(some 6), .set (.t 38), none⟩])
  .ret)
  .skip))
  (.seq (.region false [⟨(some 39), .mov (.t 2), none⟩, ⟨(some 40), .bin .rem .prim (.t 39) (.c (.int .u8 128)), none⟩, ⟨(some 41), .bin .add .prim (.c (.int .u8 128)) (.t 40), none⟩, ⟨(some 42), .bslice true 1 [(.t 41)], none⟩, ⟨(some 43), .conv .b2s (.t 42), none⟩, ⟨(some 7), .set (.t 43), none⟩])
  (.seq (.region false [⟨(some 44), .call true 15 [], none⟩, ⟨(some 45), .mov (.t 44), none⟩, ⟨(some 46), .mov (.t 0), some (45, true)⟩, ⟨(some 47), .mov (.t 1), some (45, true)⟩, ⟨(some 48), .bin .add .prim (.t 46) (.t 47), some (45, true)⟩, ⟨(some 49), .call true 16 [(.t 48)], some (45, true)⟩, ⟨(some 50), .pick (.t 45) (.t 49) (.c (.bool false)), none⟩, ⟨(some 51), .mov (.t 50), none⟩, ⟨(some 52), .mov (.t 0), some (51, true)⟩, ⟨(some 53), .mov (.t 1), some (51, true)⟩, ⟨(some 54), .bin .add .prim (.t 52) (.t 53), some (51, true)⟩, ⟨(some 55), .call true 19 [(.t 54)], some (51, true)⟩, ⟨(some 56), .mov (.t 0), some (51, true)⟩, ⟨(some 57), .call true 19 [(.t 56)], some (51, true)⟩, ⟨(some 58), .mov (.t 1), some (51, true)⟩, ⟨(some 59), .call true 19 [(.t 58)], some (51, true)⟩, ⟨(some 60), .append 1 8 (.t 57) (.t 59), some (51, true)⟩, ⟨(some 61), .call true 18 [(.t 55), (.t 60)], some (51, true)⟩, ⟨(some 62), .pick (.t 51) (.t 61) (.c (.bool false)), none⟩, ⟨(some 63), .mov (.t 62), none⟩, ⟨(some 64), .mov (.t 0), some (63, true)⟩, ⟨(some 65), .mov (.t 7), some (63, true)⟩, ⟨(some 66), .bin .add .prim (.t 64) (.t 65), some (63, true)⟩, ⟨(some 67), .bin .add .prim (.t 66) (.c (.str [120])), some (63, true)⟩, ⟨(some 68), .mov (.t 1), some (63, true)⟩, ⟨(some 69), .bin .add .prim (.t 67) (.t 68), some (63, true)⟩, ⟨(some 70), .call true 16 [(.t 69)], some (63, true)⟩, ⟨(some 71), .un .not (.t 70), some (63, true)⟩, ⟨(some 72), .pick (.t 63) (.t 71) (.c (.bool false)), none⟩, ⟨(some 73), .mov (.t 72), none⟩, ⟨(some 74), .mov (.t 0), some (73, true)⟩, ⟨(some 75), .mov (.t 1), some (73, true)⟩, ⟨(some 76), .bin .add .prim (.t 74) (.t 75), some (73, true)⟩, ⟨(some 77), .call true 21 [(.t 76)], some (73, true)⟩, ⟨(some 78), .mov (.t 0), some (73, true)⟩, ⟨(some 79), .call true 21 [(.t 78)], some (73, true)⟩, ⟨(some 80), .mov (.t 1), some (73, true)⟩, ⟨(some 81), .call true 21 [(.t 80)], some (73, true)⟩, ⟨(some 82), .bin .add .prim (.t 79) (.t 81), some (73, true)⟩, ⟨(some 83), .bin .eql .prim (.t 77) (.t 82), some (73, true)⟩, ⟨(some 84), .pick (.t 73) (.t 83) (.c (.bool false)), none⟩, ⟨(some 6), .set (.t 84), none⟩])
  .ret)))))⟩
theorem c5 : cfun Tryd.prog 5 = some f5 := by kernel_rfl
def f6l0 : ACode := (.seq (.seq (.region false [⟨(some 15), .mov (.t 11), none⟩, ⟨(some 16), .mov (.t 0), none⟩, ⟨(some 17), .len false (.t 16), none⟩, ⟨(some 18), .bin .lss .prim (.t 15) (.t 17), none⟩, ⟨(some 19), .mov (.t 18), none⟩, ⟨(some 20), .mov (.t 11), some (19, true)⟩, ⟨(some 21), .bin .lss .prim (.t 20) (.c (.int .i64 50)), some (19, true)⟩, ⟨(some 22), .pick (.t 19) (.t 21) (.c (.bool false)), none⟩])
  (.cond (.t 22) .skip
  (.exit 0)))
  (.seq (.block 1 (.seq (.region false [⟨(some 25), .mov (.t 9), none⟩, ⟨(some 26), .bslice true 1 [(.c (.str [97])), (.c (.str [195, 169])), (.c (.str [226, 130, 172])), (.c (.str [240, 159, 152, 128])), (.c (.str [32]))], none⟩, ⟨(some 27), .mov (.t 0), none⟩, ⟨(some 28), .mov (.t 11), none⟩, ⟨(some 29), .iaddr 1 (.t 27) (.t 28), none⟩, ⟨(some 30), .load none (.t 29), none⟩, ⟨(some 31), .conv (.int .u64) (.t 30), none⟩, ⟨(some 32), .bin .rem .prim (.t 31) (.c (.int .u64 5)), none⟩, ⟨(some 33), .conv (.int .i64) (.t 32), none⟩, ⟨(some 34), .iaddr 1 (.t 26) (.t 33), none⟩, ⟨(some 35), .load none (.t 34), none⟩, ⟨(some 36), .bin .add .prim (.t 25) (.t 35), none⟩, ⟨(some 9), .set (.t 36), none⟩])
  (.region false [⟨(some 37), .mov (.t 10), none⟩, ⟨(some 38), .bin .add .prim (.t 37) (.c (.int .i64 1)), none⟩, ⟨(some 10), .set (.t 38), none⟩])))
  (.region false [⟨(some 23), .mov (.t 11), none⟩, ⟨(some 24), .bin .add .prim (.t 23) (.c (.int .i64 1)), none⟩, ⟨(some 11), .set (.t 24), none⟩])))
def f6 : AFun := ⟨4, 112, [.t 8], (.seq (.region false [⟨(some 8), .set (.c (.bool false)), none⟩])
  (.seq (.region false [⟨(some 9), .set (.c (.str [])), none⟩])
  (.seq (.region false [⟨(some 10), .set (.c (.int .i64 0)), none⟩])
  (.seq (.seq (.region false [⟨(some 11), .set (.c (.int .i64 0)), none⟩])
  (.block 0 (.loop f6l0)))
  (.seq (.region false [⟨(some 39), .mov (.t 1), none⟩, ⟨(some 40), .conv (.int .u64) (.t 39), none⟩, ⟨(some 41), .bin .rem .prim (.t 40) (.c (.int .u64 60)), none⟩, ⟨(some 42), .conv (.int .i64) (.t 41), none⟩, ⟨(some 1), .set (.t 42), none⟩])
  (.seq (.seq (.region false [⟨(some 43), .mov (.t 10), none⟩, ⟨(some 44), .bin .eql .prim (.t 43) (.c (.int .i64 0)), none⟩])
  (.cond (.t 44) (.seq (.region false [⟨(some 45), .call true 15 [], none⟩, ⟨(some 46), .mov (.t 45), none⟩, ⟨(some 47), .mov (.t 1), some (46, true)⟩, ⟨(some 48), .call true 22 [(.c (.str [])), (.t 47)], some (46, true)⟩, ⟨(some 49), .pick (.t 46) (.t 48) (.c (.bool false)), none⟩, ⟨(some 8), .set (.t 49), none⟩])
  .ret)
  .skip))
  (.seq (.region false [⟨(some 50), .mov (.t 9), none⟩, ⟨(some 51), .conv .s2r (.t 50), none⟩, ⟨(some 12), .set (.t 51), none⟩])
  (.seq (.region false [⟨(some 52), .mov (.t 2), none⟩, ⟨(some 53), .conv (.int .u64) (.t 52), none⟩, ⟨(some 54), .mov (.t 10), none⟩, ⟨(some 55), .conv (.int .u64) (.t 54), none⟩, ⟨(some 56), .bin .rem .prim (.t 53) (.t 55), none⟩, ⟨(some 57), .conv (.int .i64) (.t 56), none⟩, ⟨(some 2), .set (.t 57), none⟩])
  (.seq (.region true [⟨(some 58), .mov (.t 12), none⟩, ⟨(some 59), .mov (.t 2), none⟩, ⟨(some 60), .slice (some 1) (.t 58) none (some (.t 59)), none⟩, ⟨(some 61), .conv .r2s (.t 60), none⟩, ⟨(some 62), .mov (.t 3), none⟩, ⟨(some 63), .bin .rem .prim (.t 62) (.c (.int .u8 32)), none⟩, ⟨(some 64), .bslice false 1 [(.t 63)], none⟩, ⟨(some 65), .conv .b2s (.t 64), none⟩, ⟨(some 66), .bin .add .prim (.t 61) (.t 65), none⟩, ⟨(some 67), .mov (.t 12), none⟩, ⟨(some 68), .mov (.t 2), none⟩, ⟨(some 69), .slice (some 1) (.t 67) (some (.t 68)) none, none⟩, ⟨(some 70), .conv .r2s (.t 69), none⟩, ⟨(some 71), .bin .add .prim (.t 66) (.t 70), none⟩, ⟨(some 13), .mov (.t 71), none⟩])
  (.seq (.region false [⟨(some 72), .mov (.t 3), none⟩, ⟨(some 73), .bin .rem .prim (.t 72) (.c (.int .u8 32)), none⟩, ⟨(some 74), .bin .eql .prim (.t 73) (.c (.int .u8 9)), none⟩, ⟨(some 75), .mov (.t 74), none⟩, ⟨(some 76), .mov (.t 3), some (75, false)⟩, ⟨(some 77), .bin .rem .prim (.t 76) (.c (.int .u8 32)), some (75, false)⟩, ⟨(some 78), .bin .eql .prim (.t 77) (.c (.int .u8 10)), some (75, false)⟩, ⟨(some 79), .pick (.t 75) (.c (.bool true)) (.t 78), none⟩, ⟨(some 80), .mov (.t 79), none⟩, ⟨(some 81), .mov (.t 3), some (80, false)⟩, ⟨(some 82), .bin .rem .prim (.t 81) (.c (.int .u8 32)), some (80, false)⟩, ⟨(some 83), .bin .eql .prim (.t 82) (.c (.int .u8 13)), some (80, false)⟩, ⟨(some 84), .pick (.t 80) (.c (.bool true)) (.t 83), none⟩, ⟨(some 14), .set (.t 84), none⟩])
  (.seq (.region false [⟨(some 85), .call true 15 [], none⟩, ⟨(some 86), .mov (.t 85), none⟩, ⟨(some 87), .mov (.t 9), some (86, true)⟩, ⟨(some 88), .mov (.t 1), some (86, true)⟩, ⟨(some 89), .call true 22 [(.t 87), (.t 88)], some (86, true)⟩, ⟨(some 90), .mov (.t 10), some (86, true)⟩, ⟨(some 91), .mov (.t 1), some (86, true)⟩, ⟨(some 92), .bin .leq .prim (.t 90) (.t 91), some (86, true)⟩, ⟨(some 93), .bin .eql .bool (.t 89) (.t 92), some (86, true)⟩, ⟨(some 94), .pick (.t 86) (.t 93) (.c (.bool false)), none⟩, ⟨(some 95), .mov (.t 94), none⟩, ⟨(some 96), .mov (.t 9), some (95, true)⟩, ⟨(some 97), .call true 21 [(.t 96)], some (95, true)⟩, ⟨(some 98), .mov (.t 10), some (95, true)⟩, ⟨(some 99), .bin .eql .prim (.t 97) (.t 98), some (95, true)⟩, ⟨(some 100), .pick (.t 95) (.t 99) (.c (.bool false)), none⟩, ⟨(some 101), .mov (.t 100), none⟩, ⟨(some 102), .mov (.t 13), some (101, true)⟩, ⟨(some 103), .call true 22 [(.t 102), (.c (.int .i64 100))], some (101, true)⟩, ⟨(some 104), .un .not (.t 103), some (101, true)⟩, ⟨(some 105), .pick (.t 101) (.t 104) (.c (.bool false)), none⟩, ⟨(some 106), .mov (.t 105), none⟩, ⟨(some 107), .mov (.t 13), some (106, true)⟩, ⟨(some 108), .call true 16 [(.t 107)], some (106, true)⟩, ⟨(some 109), .mov (.t 14), some (106, true)⟩, ⟨(some 110), .bin .eql .bool (.t 108) (.t 109), some (106, true)⟩, ⟨(some 111), .pick (.t 106) (.t 110) (.c (.bool false)), none⟩, ⟨(some 8), .set (.t 111), none⟩])
  .ret)))))))))))⟩
theorem c6 : cfun Tryd.prog 6 = some f6 := by kernel_rfl
def f15 : AFun := ⟨0, 14, [.t 0], (.seq (.region false [⟨(some 0), .set (.c (.bool false)), none⟩])
  (.seq (.region false [⟨(some 1), .call true 16 [(.c (.str [97]))], none⟩, ⟨(some 2), .mov (.t 1), none⟩, ⟨(some 3), .call true 21 [(.c (.str [97, 98]))], some (2, true)⟩, ⟨(some 4), .bin .eql .prim (.t 3) (.c (.int .i64 2)), some (2, true)⟩, ⟨(some 5), .pick (.t 2) (.t 4) (.c (.bool false)), none⟩, ⟨(some 6), .mov (.t 5), none⟩, ⟨(some 7), .call true 22 [(.c (.str [97, 32, 98])), (.c (.int .i64 3))], some (6, true)⟩, ⟨(some 8), .pick (.t 6) (.t 7) (.c (.bool false)), none⟩, ⟨(some 9), .mov (.t 8), none⟩, ⟨(some 10), .call true 19 [(.c (.str [97, 98]))], some (9, true)⟩, ⟨(some 11), .bslice true 1 [(.c (.int .i64 97)), (.c (.int .i64 98))], some (9, true)⟩, ⟨(some 12), .call true 18 [(.t 10), (.t 11)], some (9, true)⟩, ⟨(some 13), .pick (.t 9) (.t 12) (.c (.bool false)), none⟩, ⟨(some 0), .set (.t 13), none⟩])
  .ret))⟩
theorem c15 : cfun Tryd.prog 15 = some f15 := by kernel_rfl
def f16 : AFun := ⟨1, 5, [.t 2], (.seq (.region false [⟨(some 2), .set (.c (.bool false)), none⟩])
  (.seq (.region false [⟨(some 3), .mov (.t 0), none⟩, ⟨(some 4), .call true 37 [(.t 3), (.c (.fn 38 []))], none⟩, ⟨(some 2), .set (.t 4), none⟩])
  .ret))⟩
theorem c16 : cfun Tryd.prog 16 = some f16 := by kernel_rfl
def f17l0 : ACode := (.seq (.seq (.region false [⟨(some 6), .mov (.t 3), none⟩, ⟨(some 7), .mov (.t 0), none⟩, ⟨(some 8), .len true (.t 7), none⟩, ⟨(some 9), .bin .lss .prim (.t 6) (.t 8), none⟩])
  (.cond (.t 9) .skip
  (.exit 0)))
  (.block 1 (.seq (.region false [⟨(some 11), .mov (.t 0), none⟩, ⟨(some 12), .mov (.t 3), none⟩, ⟨(some 13), .call true 39 [(.t 11), (.t 12)], none⟩, ⟨(some 10), .mov (.t 13), none⟩, ⟨(some 14), .extr (.t 10) 0, none⟩, ⟨(some 15), .extr (.t 10) 1, none⟩, ⟨(some 4), .set (.t 14), none⟩, ⟨(some 5), .set (.t 15), none⟩])
  (.seq (.seq (.region false [⟨(some 16), .mov (.t 5), none⟩, ⟨(some 17), .bin .eql .prim (.t 16) (.c (.int .i64 0)), none⟩])
  (.cond (.t 17) (.seq (.region false [⟨(some 2), .set (.c (.bool false)), none⟩])
  .ret)
  .skip))
  (.region false [⟨(some 18), .mov (.t 3), none⟩, ⟨(some 19), .mov (.t 5), none⟩, ⟨(some 20), .bin .add .prim (.t 18) (.t 19), none⟩, ⟨(some 3), .set (.t 20), none⟩])))))
def f17 : AFun := ⟨1, 21, [.t 2], (.seq (.region false [⟨(some 2), .set (.c (.bool false)), none⟩])
  (.seq (.seq (.region false [⟨(some 3), .set (.c (.int .i64 0)), none⟩])
  (.block 0 (.loop f17l0)))
  (.seq (.region false [⟨(some 2), .set (.c (.bool true)), none⟩])
  .ret)))⟩
theorem c17 : cfun Tryd.prog 17 = some f17 := by kernel_rfl
def f18 : AFun := ⟨2, 8, [.t 4], (.seq (.region false [⟨(some 4), .set (.c (.bool false)), none⟩])
  (.seq (.region false [⟨(some 5), .mov (.t 0), none⟩, ⟨(some 6), .mov (.t 1), none⟩, ⟨(some 7), .call true 40 [(.t 5), (.t 6), (.c (.fn 41 []))], none⟩, ⟨(some 4), .set (.t 7), none⟩])
  .ret))⟩
theorem c18 : cfun Tryd.prog 18 = some f18 := by kernel_rfl
def f19l0 : ACode := (.seq (.region false [⟨(some 11), .next (.t 10), none⟩, ⟨(some 12), .extr (.t 11) 0, none⟩])
  (.seq (.cond (.t 12) .skip
  (.exit 0))
  (.block 1 (.seq (.region false [⟨(some 13), .extr (.t 11) 2, none⟩, ⟨(some 5), .set (.t 13), none⟩])
  (.region false [⟨(some 14), .mov (.t 3), none⟩, ⟨(some 15), .mov (.t 5), none⟩, ⟨(some 16), .conv (.int .i64) (.t 15), none⟩, ⟨(some 17), .bslice true 1 [(.t 16)], none⟩, ⟨(some 18), .append 1 8 (.t 14) (.t 17), none⟩, ⟨(some 3), .set (.t 18), none⟩])))))
def f19 : AFun := ⟨1, 20, [.t 2], (.seq (.region false [⟨(some 2), .newnil 1, none⟩])
  (.seq (.seq (.region false [⟨(some 6), .mov (.t 0), none⟩, ⟨(some 7), .call true 16 [(.t 6)], none⟩, ⟨(some 8), .un .not (.t 7), none⟩])
  (.cond (.t 8) (.seq (.region false [⟨(some 2), .newnil 1, none⟩])
  .ret)
  .skip))
  (.seq (.region false [⟨(some 3), .newnil 1, none⟩])
  (.seq (.seq (.region false [⟨(some 9), .mov (.t 0), none⟩, ⟨(some 10), .range (.t 9), none⟩])
  (.block 0 (.loop f19l0)))
  (.seq (.region false [⟨(some 19), .mov (.t 3), none⟩, ⟨(some 2), .set (.t 19), none⟩])
  .ret)))))⟩
theorem c19 : cfun Tryd.prog 19 = some f19 := by kernel_rfl
def f20l0 : ACode := (.seq (.seq (.region false [⟨(some 10), .mov (.t 4), none⟩, ⟨(some 11), .mov (.t 0), none⟩, ⟨(some 12), .len true (.t 11), none⟩, ⟨(some 13), .bin .lss .prim (.t 10) (.t 12), none⟩])
  (.cond (.t 13) .skip
  (.exit 0)))
  (.block 1 (.seq (.region false [⟨(some 15), .mov (.t 0), none⟩, ⟨(some 16), .mov (.t 4), none⟩, ⟨(some 17), .call true 39 [(.t 15), (.t 16)], none⟩, ⟨(some 14), .mov (.t 17), none⟩, ⟨(some 18), .extr (.t 14) 0, none⟩, ⟨(some 19), .extr (.t 14) 1, none⟩, ⟨(some 5), .set (.t 18), none⟩, ⟨(some 6), .set (.t 19), none⟩])
  (.seq (.region false [⟨(some 20), .mov (.t 3), none⟩, ⟨(some 21), .mov (.t 5), none⟩, ⟨(some 22), .bslice true 1 [(.t 21)], none⟩, ⟨(some 23), .append 1 8 (.t 20) (.t 22), none⟩, ⟨(some 3), .set (.t 23), none⟩])
  (.region false [⟨(some 24), .mov (.t 4), none⟩, ⟨(some 25), .mov (.t 6), none⟩, ⟨(some 26), .bin .add .prim (.t 24) (.t 25), none⟩, ⟨(some 4), .set (.t 26), none⟩])))))
def f20 : AFun := ⟨1, 28, [.t 2], (.seq (.region false [⟨(some 2), .newnil 1, none⟩])
  (.seq (.seq (.region false [⟨(some 7), .mov (.t 0), none⟩, ⟨(some 8), .call true 17 [(.t 7)], none⟩, ⟨(some 9), .un .not (.t 8), none⟩])
  (.cond (.t 9) (.seq (.region false [⟨(some 2), .newnil 1, none⟩])
  .ret)
  .skip))
  (.seq (.region false [⟨(some 3), .newnil 1, none⟩])
  (.seq (.seq (.region false [⟨(some 4), .set (.c (.int .i64 0)), none⟩])
  (.block 0 (.loop f20l0)))
  (.seq (.region false [⟨(some 27), .mov (.t 3), none⟩, ⟨(some 2), .set (.t 27), none⟩])
  .ret)))))⟩
theorem c20 : cfun Tryd.prog 20 = some f20 := by kernel_rfl
def f21 : AFun := ⟨1, 6, [.t 2], (.seq (.region false [⟨(some 2), .set (.c (.int .i64 0)), none⟩])
  (.seq (.region false [⟨(some 3), .mov (.t 0), none⟩, ⟨(some 4), .call true 19 [(.t 3)], none⟩, ⟨(some 5), .len false (.t 4), none⟩, ⟨(some 2), .set (.t 5), none⟩])
  .ret))⟩
theorem c21 : cfun Tryd.prog 21 = some f21 := by kernel_rfl
def f22 : AFun := ⟨2, 13, [.t 4], (.seq (.region false [⟨(some 4), .set (.c (.bool false)), none⟩])
  (.seq (.region false [⟨(some 5), .mov (.t 0), none⟩, ⟨(some 6), .call true 37 [(.t 5), (.c (.fn 42 []))], none⟩, ⟨(some 7), .mov (.t 6), none⟩, ⟨(some 8), .mov (.t 0), some (7, true)⟩, ⟨(some 9), .call true 21 [(.t 8)], some (7, true)⟩, ⟨(some 10), .mov (.t 1), some (7, true)⟩, ⟨(some 11), .bin .leq .prim (.t 9) (.t 10), some (7, true)⟩, ⟨(some 12), .pick (.t 7) (.t 11) (.c (.bool false)), none⟩, ⟨(some 4), .set (.t 12), none⟩])
  .ret))⟩
theorem c22 : cfun Tryd.prog 22 = some f22 := by kernel_rfl
def f23l0 : ACode := (.seq (.seq (.region false [⟨(some 9), .mov (.t 6), none⟩, ⟨(some 10), .mov (.t 5), none⟩, ⟨(some 11), .len false (.t 10), none⟩, ⟨(some 12), .bin .lss .prim (.t 9) (.t 11), none⟩])
  (.cond (.t 12) .skip
  (.exit 0)))
  (.seq (.block 1 (.seq (.region false [⟨(some 15), .mov (.t 5), none⟩, ⟨(some 16), .mov (.t 6), none⟩, ⟨(some 17), .iaddr 1 (.t 15) (.t 16), none⟩, ⟨(some 18), .load none (.t 17), none⟩, ⟨(some 19), .bin .lss .prim (.t 18) (.c (.int .i64 32)), none⟩])
  (.cond (.t 19) (.seq (.region false [⟨(some 4), .set (.c (.bool false)), none⟩])
  .ret)
  .skip)))
  (.region false [⟨(some 13), .mov (.t 6), none⟩, ⟨(some 14), .bin .add .prim (.t 13) (.c (.int .i64 1)), none⟩, ⟨(some 6), .set (.t 14), none⟩])))
def f23 : AFun := ⟨2, 28, [.t 4], (.seq (.region false [⟨(some 4), .set (.c (.bool false)), none⟩])
  (.seq (.region false [⟨(some 7), .mov (.t 0), none⟩, ⟨(some 8), .call true 20 [(.t 7)], none⟩, ⟨(some 5), .set (.t 8), none⟩])
  (.seq (.seq (.region false [⟨(some 6), .set (.c (.int .i64 0)), none⟩])
  (.block 0 (.loop f23l0)))
  (.seq (.region false [⟨(some 20), .mov (.t 0), none⟩, ⟨(some 21), .call true 17 [(.t 20)], none⟩, ⟨(some 22), .mov (.t 21), none⟩, ⟨(some 23), .mov (.t 5), some (22, true)⟩, ⟨(some 24), .len false (.t 23), some (22, true)⟩, ⟨(some 25), .mov (.t 1), some (22, true)⟩, ⟨(some 26), .bin .leq .prim (.t 24) (.t 25), some (22, true)⟩, ⟨(some 27), .pick (.t 22) (.t 26) (.c (.bool false)), none⟩, ⟨(some 4), .set (.t 27), none⟩])
  .ret))))⟩
theorem c23 : cfun Tryd.prog 23 = some f23 := by kernel_rfl
def f24 : AFun := ⟨1, 37, [.t 2], (.seq (.region false [⟨(some 2), .set (.c (.bool false)), none⟩])
  (.seq (.region false [⟨(some 3), .mov (.t 0), none⟩, ⟨(some 4), .bin .eql .prim (.t 3) (.c (.int .i64 9)), none⟩, ⟨(some 5), .mov (.t 4), none⟩, ⟨(some 6), .mov (.t 0), some (5, false)⟩, ⟨(some 7), .bin .eql .prim (.t 6) (.c (.int .i64 10)), some (5, false)⟩, ⟨(some 8), .pick (.t 5) (.c (.bool true)) (.t 7), none⟩, ⟨(some 9), .mov (.t 8), none⟩, ⟨(some 10), .mov (.t 0), some (9, false)⟩, ⟨(some 11), .bin .eql .prim (.t 10) (.c (.int .i64 13)), some (9, false)⟩, ⟨(some 12), .pick (.t 9) (.c (.bool true)) (.t 11), none⟩, ⟨(some 13), .mov (.t 12), none⟩, ⟨(some 14), .mov (.t 0), some (13, false)⟩, ⟨(some 15), .bin .geq .prim (.t 14) (.c (.int .i64 32)), some (13, false)⟩, ⟨(some 16), .mov (.t 15), some (13, false)⟩, ⟨(some 17), .mov (.t 0), some (16, true)⟩, ⟨(some 18), .bin .lss .prim (.t 17) (.c (.int .i64 55296)), some (16, true)⟩, ⟨(some 19), .pick (.t 16) (.t 18) (.c (.bool false)), some (13, false)⟩, ⟨(some 20), .pick (.t 13) (.c (.bool true)) (.t 19), none⟩, ⟨(some 21), .mov (.t 20), none⟩, ⟨(some 22), .mov (.t 0), some (21, false)⟩, ⟨(some 23), .bin .gtr .prim (.t 22) (.c (.int .i64 57343)), some (21, false)⟩, ⟨(some 24), .mov (.t 23), some (21, false)⟩, ⟨(some 25), .mov (.t 0), some (24, true)⟩, ⟨(some 26), .bin .lss .prim (.t 25) (.c (.int .i64 65534)), some (24, true)⟩, ⟨(some 27), .pick (.t 24) (.t 26) (.c (.bool false)), some (21, false)⟩, ⟨(some 28), .pick (.t 21) (.c (.bool true)) (.t 27), none⟩, ⟨(some 29), .mov (.t 28), none⟩, ⟨(some 30), .mov (.t 0), some (29, false)⟩, ⟨(some 31), .bin .gtr .prim (.t 30) (.c (.int .i64 65535)), some (29, false)⟩, ⟨(some 32), .mov (.t 31), some (29, false)⟩, ⟨(some 33), .mov (.t 0), some (32, true)⟩, ⟨(some 34), .bin .leq .prim (.t 33) (.c (.int .i64 1114111)), some (32, true)⟩, ⟨(some 35), .pick (.t 32) (.t 34) (.c (.bool false)), some (29, false)⟩, ⟨(some 36), .pick (.t 29) (.c (.bool true)) (.t 35), none⟩, ⟨(some 2), .set (.t 36), none⟩])
  .ret))⟩
theorem c24 : cfun Tryd.prog 24 = some f24 := by kernel_rfl
def f37 : AFun := ⟨2, 13, [.t 4], (.seq (.region false [⟨(some 4), .set (.c (.bool false)), none⟩])
  (.seq (.region false [⟨(some 5), .mov (.t 0), none⟩, ⟨(some 6), .call true 63 [(.t 5)], none⟩, ⟨(some 7), .mov (.t 6), none⟩, ⟨(some 8), .mov (.t 0), some (7, true)⟩, ⟨(some 9), .conv .s2r (.t 8), some (7, true)⟩, ⟨(some 10), .mov (.t 1), some (7, true)⟩, ⟨(some 11), .call true 64 [(.t 9), (.t 10)], some (7, true)⟩, ⟨(some 12), .pick (.t 7) (.t 11) (.c (.bool false)), none⟩, ⟨(some 4), .set (.t 12), none⟩])
  .ret))⟩
theorem c37 : cfun Tryd.prog 37 = some f37 := by kernel_rfl
def f38 : AFun := ⟨1, 17, [.t 2], (.seq (.region false [⟨(some 2), .set (.c (.bool false)), none⟩])
  (.seq (.region false [⟨(some 3), .mov (.t 0), none⟩, ⟨(some 4), .bin .eql .prim (.t 3) (.c (.int .i32 9)), none⟩, ⟨(some 5), .mov (.t 4), none⟩, ⟨(some 6), .mov (.t 0), some (5, false)⟩, ⟨(some 7), .bin .eql .prim (.t 6) (.c (.int .i32 10)), some (5, false)⟩, ⟨(some 8), .pick (.t 5) (.c (.bool true)) (.t 7), none⟩, ⟨(some 9), .mov (.t 8), none⟩, ⟨(some 10), .mov (.t 0), some (9, false)⟩, ⟨(some 11), .bin .eql .prim (.t 10) (.c (.int .i32 13)), some (9, false)⟩, ⟨(some 12), .pick (.t 9) (.c (.bool true)) (.t 11), none⟩, ⟨(some 13), .mov (.t 12), none⟩, ⟨(some 14), .mov (.t 0), some (13, false)⟩, ⟨(some 15), .call true 42 [(.t 14)], some (13, false)⟩, ⟨(some 16), .pick (.t 13) (.c (.bool true)) (.t 15), none⟩, ⟨(some 2), .set (.t 16), none⟩])
  .ret))⟩
theorem c38 : cfun Tryd.prog 38 = some f38 := by kernel_rfl
def f39 : AFun := ⟨2, 23, [.t 4, .t 5], (.seq (.region false [⟨(some 4), .set (.c (.int .i64 0)), none⟩, ⟨(some 5), .set (.c (.int .i64 0)), none⟩])
  (.seq (.region false [⟨(some 9), .mov (.t 0), none⟩, ⟨(some 10), .mov (.t 1), none⟩, ⟨(some 11), .call true 65 [(.t 9), (.t 10)], none⟩, ⟨(some 8), .mov (.t 11), none⟩, ⟨(some 12), .extr (.t 8) 0, none⟩, ⟨(some 13), .extr (.t 8) 1, none⟩, ⟨(some 6), .set (.t 12), none⟩, ⟨(some 7), .set (.t 13), none⟩])
  (.seq (.seq (.region false [⟨(some 14), .mov (.t 7), none⟩, ⟨(some 15), .bin .eql .prim (.t 14) (.c (.int .i64 0)), none⟩, ⟨(some 16), .mov (.t 15), none⟩, ⟨(some 17), .mov (.t 6), some (16, false)⟩, ⟨(some 18), .call true 24 [(.t 17)], some (16, false)⟩, ⟨(some 19), .un .not (.t 18), some (16, false)⟩, ⟨(some 20), .pick (.t 16) (.c (.bool true)) (.t 19), none⟩])
  (.cond (.t 20) (.seq (.region false [⟨(some 4), .set (.c (.int .i64 0)), none⟩, ⟨(some 5), .set (.c (.int .i64 0)), none⟩])
  .ret)
  .skip))
  (.seq (.region false [⟨(some 21), .mov (.t 6), none⟩, ⟨(some 22), .mov (.t 7), none⟩, ⟨(some 4), .set (.t 21), none⟩, ⟨(some 5), .set (.t 22), none⟩])
  .ret))))⟩
theorem c39 : cfun Tryd.prog 39 = some f39 := by kernel_rfl
def f40l0 : ACode := (.seq (.seq (.region false [⟨(some 13), .mov (.t 7), none⟩, ⟨(some 14), .mov (.t 0), none⟩, ⟨(some 15), .len false (.t 14), none⟩, ⟨(some 16), .bin .lss .prim (.t 13) (.t 15), none⟩])
  (.cond (.t 16) .skip
  (.exit 0)))
  (.seq (.block 1 (.seq (.region true [⟨(some 19), .mov (.t 2), none⟩, ⟨(some 20), .mov (.t 0), none⟩, ⟨(some 21), .mov (.t 7), none⟩, ⟨(some 22), .iaddr 1 (.t 20) (.t 21), none⟩, ⟨(some 23), .load none (.t 22), none⟩, ⟨(some 24), .mov (.t 1), none⟩, ⟨(some 25), .mov (.t 7), none⟩, ⟨(some 26), .iaddr 1 (.t 24) (.t 25), none⟩, ⟨(some 27), .load none (.t 26), none⟩, ⟨(some 28), .callv true (.t 19) [(.t 23), (.t 27)], none⟩, ⟨(some 29), .un .not (.t 28), none⟩])
  (.cond (.t 29) (.seq (.region false [⟨(some 6), .set (.c (.bool false)), none⟩])
  .ret)
  .skip)))
  (.region false [⟨(some 17), .mov (.t 7), none⟩, ⟨(some 18), .bin .add .prim (.t 17) (.c (.int .i64 1)), none⟩, ⟨(some 7), .set (.t 18), none⟩])))
def f40 : AFun := ⟨3, 30, [.t 6], (.seq (.region false [⟨(some 6), .set (.c (.bool false)), none⟩])
  (.seq (.seq (.region false [⟨(some 8), .mov (.t 0), none⟩, ⟨(some 9), .len false (.t 8), none⟩, ⟨(some 10), .mov (.t 1), none⟩, ⟨(some 11), .len false (.t 10), none⟩, ⟨(some 12), .bin .neq .prim (.t 9) (.t 11), none⟩])
  (.cond (.t 12) (.seq (.region false [⟨(some 6), .set (.c (.bool false)), none⟩])
  .ret)
  .skip))
  (.seq (.seq (.region false [⟨(some 7), .set (.c (.int .i64 0)), none⟩])
  (.block 0 (.loop f40l0)))
  (.seq (.region false [⟨(some 6), .set (.c (.bool true)), none⟩])
  .ret))))⟩
theorem c40 : cfun Tryd.prog 40 = some f40 := by kernel_rfl
def f41 : AFun := ⟨2, 8, [.t 4], (.seq (.region false [⟨(some 4), .set (.c (.bool false)), none⟩])
  (.seq (.region false [⟨(some 5), .mov (.t 0), none⟩, ⟨(some 6), .mov (.t 1), none⟩, ⟨(some 7), .bin .eql .prim (.t 5) (.t 6), none⟩, ⟨(some 4), .set (.t 7), none⟩])
  .ret))⟩
theorem c41 : cfun Tryd.prog 41 = some f41 := by kernel_rfl
def f42 : AFun := ⟨1, 11, [.t 2], (.seq (.region false [⟨(some 2), .set (.c (.bool false)), none⟩])
  (.seq (.region false [⟨(some 3), .build [(.int .i32 0), (.int .i32 0)] [(0, 1, (.c (.int .i32 32))), (1, 1, (.c (.int .i32 65533)))], none⟩, ⟨(some 4), .mov (.t 0), none⟩, ⟨(some 5), .call true 66 [(.t 3), (.t 4)], none⟩, ⟨(some 6), .mov (.t 5), none⟩, ⟨(some 7), .build [(.int .i32 0), (.int .i32 0)] [(0, 1, (.c (.int .i32 65536))), (1, 1, (.c (.int .i32 1114111)))], some (6, false)⟩, ⟨(some 8), .mov (.t 0), some (6, false)⟩, ⟨(some 9), .call true 66 [(.t 7), (.t 8)], some (6, false)⟩, ⟨(some 10), .pick (.t 6) (.c (.bool true)) (.t 9), none⟩, ⟨(some 2), .set (.t 10), none⟩])
  .ret))⟩
theorem c42 : cfun Tryd.prog 42 = some f42 := by kernel_rfl
def f64 : AFun := ⟨2, 9, [.t 4], (.seq (.region false [⟨(some 3), .box (.t 1), none⟩, ⟨(some 4), .set (.c (.bool false)), none⟩])
  (.seq (.region false [⟨(some 5), .mov (.t 0), none⟩, ⟨(some 6), .mkfn 92 [(.t 3)], none⟩, ⟨(some 7), .call true 91 [(.t 5), (.t 6)], none⟩, ⟨(some 8), .un .not (.t 7), none⟩, ⟨(some 4), .set (.t 8), none⟩])
  .ret))⟩
theorem c64 : cfun Tryd.prog 64 = some f64 := by kernel_rfl
def f65l0 : ACode := (.seq (.seq (.region false [⟨(some 50), .mov (.t 9), none⟩, ⟨(some 51), .mov (.t 7), none⟩, ⟨(some 52), .bin .lss .prim (.t 50) (.t 51), none⟩])
  (.cond (.t 52) .skip
  (.exit 1)))
  (.seq (.block 2 (.seq (.seq (.region false [⟨(some 55), .mov (.t 0), none⟩, ⟨(some 56), .mov (.t 1), none⟩, ⟨(some 57), .mov (.t 9), none⟩, ⟨(some 58), .bin .add .prim (.t 56) (.t 57), none⟩, ⟨(some 59), .sidx (.t 55) (.t 58), none⟩, ⟨(some 60), .bin .and .prim (.t 59) (.c (.int .u8 192)), none⟩, ⟨(some 61), .bin .neq .prim (.t 60) (.c (.int .u8 128)), none⟩])
  (.cond (.t 61) (.seq (.region false [⟨(some 4), .set (.c (.int .i64 0)), none⟩, ⟨(some 5), .set (.c (.int .i64 0)), none⟩])
  .ret)
  .skip))
  (.region false [⟨(some 62), .mov (.t 6), none⟩, ⟨(some 63), .bin .shl .prim (.t 62) (.c (.int .u64 6)), none⟩, ⟨(some 64), .mov (.t 0), none⟩, ⟨(some 65), .mov (.t 1), none⟩, ⟨(some 66), .mov (.t 9), none⟩, ⟨(some 67), .bin .add .prim (.t 65) (.t 66), none⟩, ⟨(some 68), .sidx (.t 64) (.t 67), none⟩, ⟨(some 69), .bin .and .prim (.t 68) (.c (.int .u8 63)), none⟩, ⟨(some 70), .conv (.int .i64) (.t 69), none⟩, ⟨(some 71), .bin .or .prim (.t 63) (.t 70), none⟩, ⟨(some 6), .set (.t 71), none⟩])))
  (.region false [⟨(some 53), .mov (.t 9), none⟩, ⟨(some 54), .bin .add .prim (.t 53) (.c (.int .i64 1)), none⟩, ⟨(some 9), .set (.t 54), none⟩])))
def f65 : AFun := ⟨2, 89, [.t 4, .t 5], (.seq (.region false [⟨(some 4), .set (.c (.int .i64 0)), none⟩, ⟨(some 5), .set (.c (.int .i64 0)), none⟩])
  (.seq (.region false [⟨(some 10), .mov (.t 0), none⟩, ⟨(some 11), .mov (.t 1), none⟩, ⟨(some 12), .sidx (.t 10) (.t 11), none⟩, ⟨(some 13), .conv (.int .i64) (.t 12), none⟩, ⟨(some 6), .set (.t 13), none⟩])
  (.seq (.region false [⟨(some 7), .set (.c (.int .i64 1)), none⟩, ⟨(some 8), .set (.c (.int .i64 0)), none⟩])
  (.seq (.block 0 (.seq (.region false [⟨(some 15), .mov (.t 6), none⟩, ⟨(some 16), .bin .lss .prim (.t 15) (.c (.int .i64 128)), none⟩, ⟨(some 14), .set (.t 16), none⟩])
  (.cond (.t 14) .skip
  (.seq (.region false [⟨(some 18), .mov (.t 6), none⟩, ⟨(some 19), .bin .geq .prim (.t 18) (.c (.int .i64 192)), none⟩, ⟨(some 20), .mov (.t 19), none⟩, ⟨(some 21), .mov (.t 6), some (20, true)⟩, ⟨(some 22), .bin .lss .prim (.t 21) (.c (.int .i64 224)), some (20, true)⟩, ⟨(some 23), .pick (.t 20) (.t 22) (.c (.bool false)), none⟩, ⟨(some 17), .set (.t 23), none⟩])
  (.cond (.t 17) (.region false [⟨(some 24), .mov (.t 6), none⟩, ⟨(some 25), .bin .and .prim (.t 24) (.c (.int .i64 31)), none⟩, ⟨(some 7), .set (.c (.int .i64 2)), none⟩, ⟨(some 8), .set (.c (.int .i64 128)), none⟩, ⟨(some 6), .set (.t 25), none⟩])
  (.seq (.region false [⟨(some 27), .mov (.t 6), none⟩, ⟨(some 28), .bin .geq .prim (.t 27) (.c (.int .i64 224)), none⟩, ⟨(some 29), .mov (.t 28), none⟩, ⟨(some 30), .mov (.t 6), some (29, true)⟩, ⟨(some 31), .bin .lss .prim (.t 30) (.c (.int .i64 240)), some (29, true)⟩, ⟨(some 32), .pick (.t 29) (.t 31) (.c (.bool false)), none⟩, ⟨(some 26), .set (.t 32), none⟩])
  (.cond (.t 26) (.region false [⟨(some 33), .mov (.t 6), none⟩, ⟨(some 34), .bin .and .prim (.t 33) (.c (.int .i64 15)), none⟩, ⟨(some 7), .set (.c (.int .i64 3)), none⟩, ⟨(some 8), .set (.c (.int .i64 2048)), none⟩, ⟨(some 6), .set (.t 34), none⟩])
  (.seq (.region false [⟨(some 36), .mov (.t 6), none⟩, ⟨(some 37), .bin .geq .prim (.t 36) (.c (.int .i64 240)), none⟩, ⟨(some 38), .mov (.t 37), none⟩, ⟨(some 39), .mov (.t 6), some (38, true)⟩, ⟨(some 40), .bin .lss .prim (.t 39) (.c (.int .i64 248)), some (38, true)⟩, ⟨(some 41), .pick (.t 38) (.t 40) (.c (.bool false)), none⟩, ⟨(some 35), .set (.t 41), none⟩])
  (.cond (.t 35) (.region false [⟨(some 42), .mov (.t 6), none⟩, ⟨(some 43), .bin .and .prim (.t 42) (.c (.int .i64 7)), none⟩, ⟨(some 7), .set (.c (.int .i64 4)), none⟩, ⟨(some 8), .set (.c (.int .i64 65536)), none⟩, ⟨(some 6), .set (.t 43), none⟩])
  (.seq (.region false [⟨(some 4), .set (.c (.int .i64 0)), none⟩, ⟨(some 5), .set (.c (.int .i64 0)), none⟩])
  .ret))))))))))
  (.seq (.seq (.region false [⟨(some 44), .mov (.t 1), none⟩, ⟨(some 45), .mov (.t 7), none⟩, ⟨(some 46), .bin .add .prim (.t 44) (.t 45), none⟩, ⟨(some 47), .mov (.t 0), none⟩, ⟨(some 48), .len true (.t 47), none⟩, ⟨(some 49), .bin .gtr .prim (.t 46) (.t 48), none⟩])
  (.cond (.t 49) (.seq (.region false [⟨(some 4), .set (.c (.int .i64 0)), none⟩, ⟨(some 5), .set (.c (.int .i64 0)), none⟩])
  .ret)
  .skip))
  (.seq (.seq (.region false [⟨(some 9), .set (.c (.int .i64 1)), none⟩])
  (.block 1 (.loop f65l0)))
  (.seq (.seq (.region false [⟨(some 72), .mov (.t 6), none⟩, ⟨(some 73), .mov (.t 8), none⟩, ⟨(some 74), .bin .lss .prim (.t 72) (.t 73), none⟩, ⟨(some 75), .mov (.t 74), none⟩, ⟨(some 76), .mov (.t 6), some (75, false)⟩, ⟨(some 77), .bin .gtr .prim (.t 76) (.c (.int .i64 1114111)), some (75, false)⟩, ⟨(some 78), .pick (.t 75) (.c (.bool true)) (.t 77), none⟩, ⟨(some 79), .mov (.t 78), none⟩, ⟨(some 80), .mov (.t 6), some (79, false)⟩, ⟨(some 81), .bin .geq .prim (.t 80) (.c (.int .i64 55296)), some (79, false)⟩, ⟨(some 82), .mov (.t 81), some (79, false)⟩, ⟨(some 83), .mov (.t 6), some (82, true)⟩, ⟨(some 84), .bin .leq .prim (.t 83) (.c (.int .i64 57343)), some (82, true)⟩, ⟨(some 85), .pick (.t 82) (.t 84) (.c (.bool false)), some (79, false)⟩, ⟨(some 86), .pick (.t 79) (.c (.bool true)) (.t 85), none⟩])
  (.cond (.t 86) (.seq (.region false [⟨(some 4), .set (.c (.int .i64 0)), none⟩, ⟨(some 5), .set (.c (.int .i64 0)), none⟩])
  .ret)
  .skip))
  (.seq (.region false [⟨(some 87), .mov (.t 6), none⟩, ⟨(some 88), .mov (.t 7), none⟩, ⟨(some 4), .set (.t 87), none⟩, ⟨(some 5), .set (.t 88), none⟩])
  .ret))))))))⟩
theorem c65 : cfun Tryd.prog 65 = some f65 := by kernel_rfl
def f66 : AFun := ⟨2, 15, [.t 4], (.seq (.region false [⟨(some 2), .box (.t 0), none⟩, ⟨(some 4), .set (.c (.bool false)), none⟩])
  (.seq (.region false [⟨(some 5), .mov (.t 1), none⟩, ⟨(some 6), .faddr 0 (.t 2), none⟩, ⟨(some 7), .load none (.t 6), none⟩, ⟨(some 8), .bin .geq .prim (.t 5) (.t 7), none⟩, ⟨(some 9), .mov (.t 8), none⟩, ⟨(some 10), .mov (.t 1), some (9, true)⟩, ⟨(some 11), .faddr 1 (.t 2), some (9, true)⟩, ⟨(some 12), .load none (.t 11), some (9, true)⟩, ⟨(some 13), .bin .leq .prim (.t 10) (.t 12), some (9, true)⟩, ⟨(some 14), .pick (.t 9) (.t 13) (.c (.bool false)), none⟩, ⟨(some 4), .set (.t 14), none⟩])
  .ret))⟩
theorem c66 : cfun Tryd.prog 66 = some f66 := by kernel_rfl
def f91 : AFun := ⟨2, 9, [.t 4], (.seq (.region false [⟨(some 4), .set (.c (.bool false)), none⟩])
  (.seq (.region false [⟨(some 5), .mov (.t 0), none⟩, ⟨(some 6), .mov (.t 1), none⟩, ⟨(some 7), .call true 110 [(.t 5), (.t 6)], none⟩, ⟨(some 8), .bin .geq .prim (.t 7) (.c (.int .i64 0)), none⟩, ⟨(some 4), .set (.t 8), none⟩])
  .ret))⟩
theorem c91 : cfun Tryd.prog 91 = some f91 := by kernel_rfl
def f92 : AFun := ⟨1, 8, [.t 3], (.seq (.region false [⟨(some 3), .set (.c (.bool false)), none⟩])
  (.seq (.region false [⟨(some 4), .load none (.t 1), none⟩, ⟨(some 5), .mov (.t 0), none⟩, ⟨(some 6), .callv true (.t 4) [(.t 5)], none⟩, ⟨(some 7), .un .not (.t 6), none⟩, ⟨(some 3), .set (.t 7), none⟩])
  .ret))⟩
theorem c92 : cfun Tryd.prog 92 = some f92 := by kernel_rfl
def f110l0 : ACode := (.seq (.region false [⟨(some 9), .bin .lss .prim (.t 8) (.t 7), none⟩])
  (.seq (.cond (.t 9) .skip
  (.exit 0))
  (.seq (.block 1 (.seq (.region false [⟨(some 10), .mov (.t 8), none⟩, ⟨(some 5), .set (.t 10), none⟩])
  (.seq (.region false [⟨(some 11), .mov (.t 1), none⟩, ⟨(some 12), .mov (.t 0), none⟩, ⟨(some 13), .mov (.t 5), none⟩, ⟨(some 14), .iaddr 1 (.t 12) (.t 13), none⟩, ⟨(some 15), .load none (.t 14), none⟩, ⟨(some 16), .callv true (.t 11) [(.t 15)], none⟩])
  (.cond (.t 16) (.seq (.region false [⟨(some 17), .mov (.t 5), none⟩, ⟨(some 4), .set (.t 17), none⟩])
  .ret)
  .skip))))
  (.region false [⟨(some 18), .bin .add .prim (.t 8) (.c (.int .i64 1)), none⟩, ⟨(some 8), .mov (.t 18), none⟩]))))
def f110 : AFun := ⟨2, 19, [.t 4], (.seq (.region false [⟨(some 4), .set (.c (.int .i64 0)), none⟩])
  (.seq (.seq (.region false [⟨(some 6), .mov (.t 0), none⟩, ⟨(some 7), .len false (.t 6), none⟩, ⟨(some 8), .mov (.c (.int .i64 0)), none⟩])
  (.block 0 (.loop f110l0)))
  (.seq (.region false [⟨(some 4), .set (.c (.int .i64 (-1))), none⟩])
  .ret)))⟩
theorem c110 : cfun Tryd.prog 110 = some f110 := by kernel_rfl
end Go.Proofs.Ut
