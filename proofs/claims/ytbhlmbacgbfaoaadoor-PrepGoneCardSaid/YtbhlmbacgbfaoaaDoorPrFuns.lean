/- The functions that these laws reach, as texts of our small language. -/
import Derived.Test.YtbhlmbacgbfaoaaDoorAiCode
import Derived.Test.YtbhlmbacgbfaoaaDoorProg
import Derived.KernelRfl
set_option linter.all false
namespace Go.Proofs.Ut
open Go.Ai
set_option maxRecDepth 100000
def f7 : AFun := ⟨1, 80, [.t 2], (.seq (.region false [⟨(some 2), .set (.c (.bool false)), none⟩])
  (.seq (.seq (.region false [⟨(some 15), .mov (.t 0), none⟩, ⟨(some 16), .len true (.t 15), none⟩, ⟨(some 17), .bin .gtr .prim (.t 16) (.c (.int .i64 500)), none⟩])
  (.cond (.t 17) (.seq (.region false [⟨(some 18), .call true 25 [], none⟩, ⟨(some 2), .set (.t 18), none⟩])
  .ret)
  .skip))
  (.seq (.region false [⟨(some 20), .mov (.t 0), none⟩, ⟨(some 21), .call true 26 [(.t 20)], none⟩, ⟨(some 19), .mov (.t 21), none⟩, ⟨(some 22), .extr (.t 19) 0, none⟩, ⟨(some 23), .extr (.t 19) 1, none⟩, ⟨(some 3), .set (.t 22), none⟩, ⟨(some 4), .set (.t 23), none⟩])
  (.seq (.region false [⟨(some 25), .mov (.t 0), none⟩, ⟨(some 26), .call true 27 [(.t 25)], none⟩, ⟨(some 24), .mov (.t 26), none⟩, ⟨(some 27), .extr (.t 24) 0, none⟩, ⟨(some 28), .extr (.t 24) 1, none⟩, ⟨(some 5), .set (.t 27), none⟩, ⟨(some 6), .set (.t 28), none⟩])
  (.seq (.region false [⟨(some 30), .mov (.t 0), none⟩, ⟨(some 31), .call true 28 [(.t 30)], none⟩, ⟨(some 29), .mov (.t 31), none⟩, ⟨(some 32), .extr (.t 29) 0, none⟩, ⟨(some 33), .extr (.t 29) 1, none⟩, ⟨(some 7), .set (.t 32), none⟩, ⟨(some 8), .set (.t 33), none⟩])
  (.seq (.region false [⟨(some 35), .mov (.t 0), none⟩, ⟨(some 36), .call true 29 [(.t 35)], none⟩, ⟨(some 34), .mov (.t 36), none⟩, ⟨(some 37), .extr (.t 34) 0, none⟩, ⟨(some 38), .extr (.t 34) 1, none⟩, ⟨(some 9), .set (.t 37), none⟩, ⟨(some 10), .set (.t 38), none⟩])
  (.seq (.region false [⟨(some 40), .mov (.t 0), none⟩, ⟨(some 41), .call true 30 [(.t 40)], none⟩, ⟨(some 39), .mov (.t 41), none⟩, ⟨(some 42), .extr (.t 39) 0, none⟩, ⟨(some 43), .extr (.t 39) 1, none⟩, ⟨(some 11), .set (.t 42), none⟩, ⟨(some 12), .set (.t 43), none⟩])
  (.seq (.region false [⟨(some 45), .mov (.t 0), none⟩, ⟨(some 46), .call true 31 [(.t 45)], none⟩, ⟨(some 44), .mov (.t 46), none⟩, ⟨(some 47), .extr (.t 44) 0, none⟩, ⟨(some 48), .extr (.t 44) 1, none⟩, ⟨(some 13), .set (.t 47), none⟩, ⟨(some 14), .set (.t 48), none⟩])
  (.seq (.region false [⟨(some 49), .call true 25 [], none⟩, ⟨(some 50), .mov (.t 49), none⟩, ⟨(some 51), .mov (.t 3), some (50, true)⟩, ⟨(some 52), .mov (.t 5), some (50, true)⟩, ⟨(some 53), .bin .eql .prim (.t 51) (.t 52), some (50, true)⟩, ⟨(some 54), .pick (.t 50) (.t 53) (.c (.bool false)), none⟩, ⟨(some 55), .mov (.t 54), none⟩, ⟨(some 56), .mov (.t 4), some (55, true)⟩, ⟨(some 57), .mov (.t 6), some (55, true)⟩, ⟨(some 58), .bin .eql .prim (.t 56) (.t 57), some (55, true)⟩, ⟨(some 59), .pick (.t 55) (.t 58) (.c (.bool false)), none⟩, ⟨(some 60), .mov (.t 59), none⟩, ⟨(some 61), .mov (.t 7), some (60, true)⟩, ⟨(some 62), .mov (.t 9), some (60, true)⟩, ⟨(some 63), .bin .eql .prim (.t 61) (.t 62), some (60, true)⟩, ⟨(some 64), .pick (.t 60) (.t 63) (.c (.bool false)), none⟩, ⟨(some 65), .mov (.t 64), none⟩, ⟨(some 66), .mov (.t 8), some (65, true)⟩, ⟨(some 67), .mov (.t 10), some (65, true)⟩, ⟨(some 68), .bin .eql .prim (.t 66) (.t 67), some (65, true)⟩, ⟨(some 69), .pick (.t 65) (.t 68) (.c (.bool false)), none⟩, ⟨(some 70), .mov (.t 69), none⟩, ⟨(some 71), .mov (.t 11), some (70, true)⟩, ⟨(some 72), .mov (.t 13), some (70, true)⟩, ⟨(some 73), .bin .eql .prim (.t 71) (.t 72), some (70, true)⟩, ⟨(some 74), .pick (.t 70) (.t 73) (.c (.bool false)), none⟩, ⟨(some 75), .mov (.t 74), none⟩, ⟨(some 76), .mov (.t 12), some (75, true)⟩, ⟨(some 77), .mov (.t 14), some (75, true)⟩, ⟨(some 78), .bin .eql .prim (.t 76) (.t 77), some (75, true)⟩, ⟨(some 79), .pick (.t 75) (.t 78) (.c (.bool false)), none⟩, ⟨(some 2), .set (.t 79), none⟩])
  .ret)))))))))⟩
theorem c7 : cfun Tryd.prog 7 = some f7 := by kernel_rfl
def f8 : AFun := ⟨1, 89, [.t 2], (.seq (.region false [⟨(some 2), .set (.c (.bool false)), none⟩])
  (.seq (.seq (.region false [⟨(some 15), .mov (.t 0), none⟩, ⟨(some 16), .len true (.t 15), none⟩, ⟨(some 17), .bin .gtr .prim (.t 16) (.c (.int .i64 500)), none⟩])
  (.cond (.t 17) (.seq (.region false [⟨(some 18), .call true 25 [], none⟩, ⟨(some 2), .set (.t 18), none⟩])
  .ret)
  .skip))
  (.seq (.region false [⟨(some 20), .mov (.t 0), none⟩, ⟨(some 21), .call true 26 [(.t 20)], none⟩, ⟨(some 19), .mov (.t 21), none⟩, ⟨(some 22), .extr (.t 19) 0, none⟩, ⟨(some 23), .extr (.t 19) 1, none⟩, ⟨(some 3), .set (.t 22), none⟩, ⟨(some 4), .set (.t 23), none⟩])
  (.seq (.region false [⟨(some 25), .mov (.t 3), none⟩, ⟨(some 26), .call true 26 [(.t 25)], none⟩, ⟨(some 24), .mov (.t 26), none⟩, ⟨(some 27), .extr (.t 24) 0, none⟩, ⟨(some 28), .extr (.t 24) 1, none⟩, ⟨(some 5), .set (.t 27), none⟩, ⟨(some 6), .set (.t 28), none⟩])
  (.seq (.region false [⟨(some 30), .mov (.t 0), none⟩, ⟨(some 31), .call true 28 [(.t 30)], none⟩, ⟨(some 29), .mov (.t 31), none⟩, ⟨(some 32), .extr (.t 29) 0, none⟩, ⟨(some 33), .extr (.t 29) 1, none⟩, ⟨(some 7), .set (.t 32), none⟩, ⟨(some 8), .set (.t 33), none⟩])
  (.seq (.region false [⟨(some 35), .mov (.t 7), none⟩, ⟨(some 36), .call true 28 [(.t 35)], none⟩, ⟨(some 34), .mov (.t 36), none⟩, ⟨(some 37), .extr (.t 34) 0, none⟩, ⟨(some 38), .extr (.t 34) 1, none⟩, ⟨(some 9), .set (.t 37), none⟩, ⟨(some 10), .set (.t 38), none⟩])
  (.seq (.region false [⟨(some 40), .mov (.t 0), none⟩, ⟨(some 41), .call true 30 [(.t 40)], none⟩, ⟨(some 39), .mov (.t 41), none⟩, ⟨(some 42), .extr (.t 39) 0, none⟩, ⟨(some 43), .extr (.t 39) 1, none⟩, ⟨(some 11), .set (.t 42), none⟩, ⟨(some 12), .set (.t 43), none⟩])
  (.seq (.region false [⟨(some 45), .mov (.t 11), none⟩, ⟨(some 46), .call true 30 [(.t 45)], none⟩, ⟨(some 44), .mov (.t 46), none⟩, ⟨(some 47), .extr (.t 44) 0, none⟩, ⟨(some 48), .extr (.t 44) 1, none⟩, ⟨(some 13), .set (.t 47), none⟩, ⟨(some 14), .set (.t 48), none⟩])
  (.seq (.region false [⟨(some 49), .call true 25 [], none⟩, ⟨(some 50), .mov (.t 49), none⟩, ⟨(some 51), .mov (.t 4), some (50, true)⟩, ⟨(some 52), .bin .neq .prim (.t 51) (.c (.int .i64 0)), some (50, true)⟩, ⟨(some 53), .mov (.t 52), some (50, true)⟩, ⟨(some 54), .mov (.t 6), some (53, false)⟩, ⟨(some 55), .bin .eql .prim (.t 54) (.c (.int .i64 0)), some (53, false)⟩, ⟨(some 56), .mov (.t 55), some (53, false)⟩, ⟨(some 57), .mov (.t 3), some (56, true)⟩, ⟨(some 58), .mov (.t 5), some (56, true)⟩, ⟨(some 59), .bin .eql .prim (.t 57) (.t 58), some (56, true)⟩, ⟨(some 60), .pick (.t 56) (.t 59) (.c (.bool false)), some (53, false)⟩, ⟨(some 61), .pick (.t 53) (.c (.bool true)) (.t 60), some (50, true)⟩, ⟨(some 62), .pick (.t 50) (.t 61) (.c (.bool false)), none⟩, ⟨(some 63), .mov (.t 62), none⟩, ⟨(some 64), .mov (.t 8), some (63, true)⟩, ⟨(some 65), .bin .neq .prim (.t 64) (.c (.int .i64 0)), some (63, true)⟩, ⟨(some 66), .mov (.t 65), some (63, true)⟩, ⟨(some 67), .mov (.t 10), some (66, false)⟩, ⟨(some 68), .bin .eql .prim (.t 67) (.c (.int .i64 0)), some (66, false)⟩, ⟨(some 69), .mov (.t 68), some (66, false)⟩, ⟨(some 70), .mov (.t 7), some (69, true)⟩, ⟨(some 71), .mov (.t 9), some (69, true)⟩, ⟨(some 72), .bin .eql .prim (.t 70) (.t 71), some (69, true)⟩, ⟨(some 73), .pick (.t 69) (.t 72) (.c (.bool false)), some (66, false)⟩, ⟨(some 74), .pick (.t 66) (.c (.bool true)) (.t 73), some (63, true)⟩, ⟨(some 75), .pick (.t 63) (.t 74) (.c (.bool false)), none⟩, ⟨(some 76), .mov (.t 75), none⟩, ⟨(some 77), .mov (.t 12), some (76, true)⟩, ⟨(some 78), .bin .neq .prim (.t 77) (.c (.int .i64 0)), some (76, true)⟩, ⟨(some 79), .mov (.t 78), some (76, true)⟩, ⟨(some 80), .mov (.t 14), some (79, false)⟩, ⟨(some 81), .bin .eql .prim (.t 80) (.c (.int .i64 0)), some (79, false)⟩, ⟨(some 82), .mov (.t 81), some (79, false)⟩, ⟨(some 83), .mov (.t 11), some (82, true)⟩, ⟨(some 84), .mov (.t 13), some (82, true)⟩, ⟨(some 85), .bin .eql .prim (.t 83) (.t 84), some (82, true)⟩, ⟨(some 86), .pick (.t 82) (.t 85) (.c (.bool false)), some (79, false)⟩, ⟨(some 87), .pick (.t 79) (.c (.bool true)) (.t 86), some (76, true)⟩, ⟨(some 88), .pick (.t 76) (.t 87) (.c (.bool false)), none⟩, ⟨(some 2), .set (.t 88), none⟩])
  .ret)))))))))⟩
theorem c8 : cfun Tryd.prog 8 = some f8 := by kernel_rfl
def f9 : AFun := ⟨1, 102, [.t 2], (.seq (.region false [⟨(some 2), .set (.c (.bool false)), none⟩])
  (.seq (.region false [⟨(some 14), .mov (.t 0), none⟩, ⟨(some 15), .conv (.int .u64) (.t 14), none⟩, ⟨(some 16), .bin .rem .prim (.t 15) (.c (.int .u64 1114112)), none⟩, ⟨(some 17), .conv (.int .i64) (.t 16), none⟩, ⟨(some 0), .set (.t 17), none⟩])
  (.seq (.region false [⟨(some 18), .mov (.t 0), none⟩, ⟨(some 19), .conv (.int .i32) (.t 18), none⟩, ⟨(some 20), .conv .i2s (.t 19), none⟩, ⟨(some 3), .set (.t 20), none⟩])
  (.seq (.region false [⟨(some 22), .mov (.t 3), none⟩, ⟨(some 23), .call true 26 [(.t 22)], none⟩, ⟨(some 21), .mov (.t 23), none⟩, ⟨(some 24), .extr (.t 21) 0, none⟩, ⟨(some 25), .extr (.t 21) 1, none⟩, ⟨(some 4), .set (.t 24), none⟩, ⟨(some 5), .set (.t 25), none⟩])
  (.seq (.region false [⟨(some 27), .mov (.t 3), none⟩, ⟨(some 28), .call true 27 [(.t 27)], none⟩, ⟨(some 26), .mov (.t 28), none⟩, ⟨(some 29), .extr (.t 26) 0, none⟩, ⟨(some 30), .extr (.t 26) 1, none⟩, ⟨(some 6), .set (.t 29), none⟩, ⟨(some 7), .set (.t 30), none⟩])
  (.seq (.region false [⟨(some 32), .mov (.t 3), none⟩, ⟨(some 33), .call true 28 [(.t 32)], none⟩, ⟨(some 31), .mov (.t 33), none⟩, ⟨(some 34), .extr (.t 31) 0, none⟩, ⟨(some 35), .extr (.t 31) 1, none⟩, ⟨(some 8), .set (.t 34), none⟩, ⟨(some 9), .set (.t 35), none⟩])
  (.seq (.region false [⟨(some 37), .mov (.t 3), none⟩, ⟨(some 38), .call true 29 [(.t 37)], none⟩, ⟨(some 36), .mov (.t 38), none⟩, ⟨(some 39), .extr (.t 36) 0, none⟩, ⟨(some 40), .extr (.t 36) 1, none⟩, ⟨(some 10), .set (.t 39), none⟩, ⟨(some 11), .set (.t 40), none⟩])
  (.seq (.region false [⟨(some 41), .mov (.t 0), none⟩, ⟨(some 42), .bin .geq .prim (.t 41) (.c (.int .i64 65)), none⟩, ⟨(some 43), .mov (.t 42), none⟩, ⟨(some 44), .mov (.t 0), some (43, true)⟩, ⟨(some 45), .bin .leq .prim (.t 44) (.c (.int .i64 90)), some (43, true)⟩, ⟨(some 46), .pick (.t 43) (.t 45) (.c (.bool false)), none⟩, ⟨(some 12), .set (.t 46), none⟩])
  (.seq (.region false [⟨(some 47), .mov (.t 0), none⟩, ⟨(some 48), .bin .add .prim (.t 47) (.c (.int .i64 32)), none⟩, ⟨(some 49), .conv (.int .i32) (.t 48), none⟩, ⟨(some 50), .conv .i2s (.t 49), none⟩, ⟨(some 13), .set (.t 50), none⟩])
  (.seq (.region false [⟨(some 51), .call true 25 [], none⟩, ⟨(some 52), .mov (.t 51), none⟩, ⟨(some 53), .mov (.t 4), some (52, true)⟩, ⟨(some 54), .mov (.t 6), some (52, true)⟩, ⟨(some 55), .bin .eql .prim (.t 53) (.t 54), some (52, true)⟩, ⟨(some 56), .pick (.t 52) (.t 55) (.c (.bool false)), none⟩, ⟨(some 57), .mov (.t 56), none⟩, ⟨(some 58), .mov (.t 5), some (57, true)⟩, ⟨(some 59), .mov (.t 7), some (57, true)⟩, ⟨(some 60), .bin .eql .prim (.t 58) (.t 59), some (57, true)⟩, ⟨(some 61), .pick (.t 57) (.t 60) (.c (.bool false)), none⟩, ⟨(some 62), .mov (.t 61), none⟩, ⟨(some 63), .mov (.t 8), some (62, true)⟩, ⟨(some 64), .mov (.t 10), some (62, true)⟩, ⟨(some 65), .bin .eql .prim (.t 63) (.t 64), some (62, true)⟩, ⟨(some 66), .pick (.t 62) (.t 65) (.c (.bool false)), none⟩, ⟨(some 67), .mov (.t 66), none⟩, ⟨(some 68), .mov (.t 9), some (67, true)⟩, ⟨(some 69), .mov (.t 11), some (67, true)⟩, ⟨(some 70), .bin .eql .prim (.t 68) (.t 69), some (67, true)⟩, ⟨(some 71), .pick (.t 67) (.t 70) (.c (.bool false)), none⟩, ⟨(some 72), .mov (.t 71), none⟩, ⟨(some 73), .mov (.t 12), some (72, true)⟩, ⟨(some 74), .un .not (.t 73), some (72, true)⟩, ⟨(some 75), .mov (.t 74), some (72, true)⟩, ⟨(some 76), .mov (.t 4), some (75, false)⟩, ⟨(some 77), .mov (.t 13), some (75, false)⟩, ⟨(some 78), .bin .eql .prim (.t 76) (.t 77), some (75, false)⟩, ⟨(some 79), .mov (.t 78), some (75, false)⟩, ⟨(some 80), .mov (.t 8), some (79, true)⟩, ⟨(some 81), .mov (.t 13), some (79, true)⟩, ⟨(some 82), .bin .eql .prim (.t 80) (.t 81), some (79, true)⟩, ⟨(some 83), .pick (.t 79) (.t 82) (.c (.bool false)), some (75, false)⟩, ⟨(some 84), .mov (.t 83), some (75, false)⟩, ⟨(some 85), .mov (.t 5), some (84, true)⟩, ⟨(some 86), .bin .eql .prim (.t 85) (.c (.int .i64 0)), some (84, true)⟩, ⟨(some 87), .pick (.t 84) (.t 86) (.c (.bool false)), some (75, false)⟩, ⟨(some 88), .mov (.t 87), some (75, false)⟩, ⟨(some 89), .mov (.t 9), some (88, true)⟩, ⟨(some 90), .bin .eql .prim (.t 89) (.c (.int .i64 0)), some (88, true)⟩, ⟨(some 91), .pick (.t 88) (.t 90) (.c (.bool false)), some (75, false)⟩, ⟨(some 92), .pick (.t 75) (.c (.bool true)) (.t 91), some (72, true)⟩, ⟨(some 93), .pick (.t 72) (.t 92) (.c (.bool false)), none⟩, ⟨(some 94), .mov (.t 93), none⟩, ⟨(some 95), .mov (.t 0), some (94, true)⟩, ⟨(some 96), .bin .neq .prim (.t 95) (.c (.int .i64 223)), some (94, true)⟩, ⟨(some 97), .mov (.t 96), some (94, true)⟩, ⟨(some 98), .mov (.t 4), some (97, false)⟩, ⟨(some 99), .bin .eql .prim (.t 98) (.c (.str [115, 115])), some (97, false)⟩, ⟨(some 100), .pick (.t 97) (.c (.bool true)) (.t 99), some (94, true)⟩, ⟨(some 101), .pick (.t 94) (.t 100) (.c (.bool false)), none⟩, ⟨(some 2), .set (.t 101), none⟩])
  .ret))))))))))⟩
theorem c9 : cfun Tryd.prog 9 = some f9 := by kernel_rfl
def f10l0 : ACode := (.seq (.region false [⟨(some 29), .bin .lss .prim (.t 28) (.t 27), none⟩])
  (.seq (.cond (.t 29) .skip
  (.exit 0))
  (.seq (.block 1 (.seq (.region false [⟨(some 30), .mov (.t 28), none⟩, ⟨(some 9), .set (.t 30), none⟩])
  (.region false [⟨(some 31), .mov (.t 8), none⟩, ⟨(some 32), .mov (.t 9), none⟩, ⟨(some 33), .mov (.t 7), none⟩, ⟨(some 34), .mov (.t 9), none⟩, ⟨(some 35), .bin .rem .prim (.t 34) (.c (.int .i64 4)), none⟩, ⟨(some 36), .iaddr 1 (.t 33) (.t 35), none⟩, ⟨(some 37), .load none (.t 36), none⟩, ⟨(some 38), .iaddr 1 (.t 31) (.t 32), none⟩, ⟨none, .store true 1 (.t 38) (.t 37), none⟩])))
  (.region false [⟨(some 39), .bin .add .prim (.t 28) (.c (.int .i64 1)), none⟩, ⟨(some 28), .mov (.t 39), none⟩]))))
def f10 : AFun := ⟨3, 104, [.t 6], (.seq (.region false [⟨(some 6), .set (.c (.bool false)), none⟩])
  (.seq (.region false [⟨(some 18), .mov (.t 0), none⟩, ⟨(some 19), .conv (.int .u64) (.t 18), none⟩, ⟨(some 20), .bin .rem .prim (.t 19) (.c (.int .u64 6)), none⟩, ⟨(some 21), .conv (.int .i64) (.t 20), none⟩, ⟨(some 22), .bin .add .prim (.c (.int .i64 1)) (.t 21), none⟩, ⟨(some 0), .set (.t 22), none⟩])
  (.seq (.region false [⟨(some 23), .bslice true 1 [(.c (.int .i32 1488)), (.c (.int .i32 1489)), (.c (.int .i32 1576)), (.c (.int .i32 64290))], none⟩, ⟨(some 7), .set (.t 23), none⟩])
  (.seq (.region false [⟨(some 24), .mov (.t 0), none⟩, ⟨(some 25), .mkslice 1 4 [(.int .i32 0)] (.t 24) (.t 24), none⟩, ⟨(some 8), .set (.t 25), none⟩])
  (.seq (.seq (.region false [⟨(some 26), .mov (.t 8), none⟩, ⟨(some 27), .len false (.t 26), none⟩, ⟨(some 28), .mov (.c (.int .i64 0)), none⟩])
  (.block 0 (.loop f10l0)))
  (.seq (.region false [⟨(some 40), .mov (.t 1), none⟩, ⟨(some 41), .conv (.int .u64) (.t 40), none⟩, ⟨(some 42), .mov (.t 0), none⟩, ⟨(some 43), .conv (.int .u64) (.t 42), none⟩, ⟨(some 44), .bin .rem .prim (.t 41) (.t 43), none⟩, ⟨(some 45), .conv (.int .i64) (.t 44), none⟩, ⟨(some 1), .set (.t 45), none⟩])
  (.seq (.region false [⟨(some 10), .set (.c (.int .i64 0)), none⟩])
  (.seq (.seq (.region false [⟨(some 46), .mov (.t 2), none⟩, ⟨(some 47), .conv (.int .u64) (.t 46), none⟩, ⟨(some 48), .bin .rem .prim (.t 47) (.c (.int .u64 3)), none⟩])
  (.block 2 (.seq (.region false [⟨(some 50), .bin .eql .prim (.t 48) (.c (.int .u64 1)), none⟩, ⟨(some 49), .set (.t 50), none⟩])
  (.cond (.t 49) (.seq (.region false [⟨(some 51), .mov (.t 8), none⟩, ⟨(some 52), .mov (.t 1), none⟩, ⟨(some 53), .iaddr 1 (.t 51) (.t 52), none⟩, ⟨none, .store true 1 (.t 53) (.c (.int .i32 97)), none⟩, ⟨(some 10), .set (.c (.int .i64 16)), none⟩])
  (.seq (.region false [⟨(some 54), .mov (.t 0), none⟩, ⟨(some 55), .bin .eql .prim (.t 54) (.c (.int .i64 1)), none⟩])
  (.cond (.t 55) (.region false [⟨(some 10), .set (.c (.int .i64 0)), none⟩])
  .skip)))
  (.seq (.region false [⟨(some 57), .bin .eql .prim (.t 48) (.c (.int .u64 2)), none⟩, ⟨(some 56), .set (.t 57), none⟩])
  (.cond (.t 56) (.seq (.region false [⟨(some 58), .mov (.t 8), none⟩, ⟨(some 59), .mov (.t 1), none⟩, ⟨(some 60), .iaddr 1 (.t 58) (.t 59), none⟩, ⟨none, .store true 1 (.t 60) (.c (.int .i32 55)), none⟩])
  (.seq (.seq (.region false [⟨(some 61), .mov (.t 1), none⟩, ⟨(some 62), .bin .eql .prim (.t 61) (.c (.int .i64 0)), none⟩, ⟨(some 63), .mov (.t 62), none⟩, ⟨(some 64), .mov (.t 1), some (63, false)⟩, ⟨(some 65), .mov (.t 0), some (63, false)⟩, ⟨(some 66), .bin .sub .prim (.t 65) (.c (.int .i64 1)), some (63, false)⟩, ⟨(some 67), .bin .eql .prim (.t 64) (.t 66), some (63, false)⟩, ⟨(some 68), .pick (.t 63) (.c (.bool true)) (.t 67), none⟩])
  (.cond (.t 68) (.region false [⟨(some 10), .set (.c (.int .i64 16)), none⟩])
  .skip))
  (.seq (.region false [⟨(some 69), .mov (.t 0), none⟩, ⟨(some 70), .bin .eql .prim (.t 69) (.c (.int .i64 1)), none⟩])
  (.cond (.t 70) (.region false [⟨(some 10), .set (.c (.int .i64 0)), none⟩])
  .skip))))
  .skip))))))
  (.seq (.region false [⟨(some 71), .mov (.t 8), none⟩, ⟨(some 72), .conv .r2s (.t 71), none⟩, ⟨(some 11), .set (.t 72), none⟩])
  (.seq (.region false [⟨(some 74), .mov (.t 11), none⟩, ⟨(some 75), .call true 26 [(.t 74)], none⟩, ⟨(some 73), .mov (.t 75), none⟩, ⟨(some 76), .extr (.t 73) 0, none⟩, ⟨(some 77), .extr (.t 73) 1, none⟩, ⟨(some 12), .set (.t 76), none⟩, ⟨(some 13), .set (.t 77), none⟩])
  (.seq (.region false [⟨(some 79), .mov (.t 11), none⟩, ⟨(some 80), .call true 28 [(.t 79)], none⟩, ⟨(some 78), .mov (.t 80), none⟩, ⟨(some 81), .extr (.t 78) 0, none⟩, ⟨(some 82), .extr (.t 78) 1, none⟩, ⟨(some 14), .set (.t 81), none⟩, ⟨(some 15), .set (.t 82), none⟩])
  (.seq (.region false [⟨(some 84), .mov (.t 11), none⟩, ⟨(some 85), .call true 30 [(.t 84)], none⟩, ⟨(some 83), .mov (.t 85), none⟩, ⟨(some 86), .extr (.t 83) 0, none⟩, ⟨(some 87), .extr (.t 83) 1, none⟩, ⟨(some 16), .set (.t 86), none⟩, ⟨(some 17), .set (.t 87), none⟩])
  (.seq (.region false [⟨(some 88), .call true 25 [], none⟩, ⟨(some 89), .mov (.t 88), none⟩, ⟨(some 90), .mov (.t 13), some (89, true)⟩, ⟨(some 91), .mov (.t 10), some (89, true)⟩, ⟨(some 92), .bin .eql .prim (.t 90) (.t 91), some (89, true)⟩, ⟨(some 93), .pick (.t 89) (.t 92) (.c (.bool false)), none⟩, ⟨(some 94), .mov (.t 93), none⟩, ⟨(some 95), .mov (.t 15), some (94, true)⟩, ⟨(some 96), .mov (.t 10), some (94, true)⟩, ⟨(some 97), .bin .eql .prim (.t 95) (.t 96), some (94, true)⟩, ⟨(some 98), .pick (.t 94) (.t 97) (.c (.bool false)), none⟩, ⟨(some 99), .mov (.t 98), none⟩, ⟨(some 100), .mov (.t 17), some (99, true)⟩, ⟨(some 101), .mov (.t 10), some (99, true)⟩, ⟨(some 102), .bin .eql .prim (.t 100) (.t 101), some (99, true)⟩, ⟨(some 103), .pick (.t 99) (.t 102) (.c (.bool false)), none⟩, ⟨(some 6), .set (.t 103), none⟩])
  .ret)))))))))))))⟩
theorem c10 : cfun Tryd.prog 10 = some f10 := by kernel_rfl
def f11l0 : ACode := (.seq (.seq (.region false [⟨(some 24), .mov (.t 8), none⟩, ⟨(some 25), .mov (.t 0), none⟩, ⟨(some 26), .len true (.t 25), none⟩, ⟨(some 27), .bin .lss .prim (.t 24) (.t 26), none⟩])
  (.cond (.t 27) .skip
  (.exit 0)))
  (.seq (.block 1 (.region false [⟨(some 30), .mov (.t 7), none⟩, ⟨(some 31), .mov (.t 0), none⟩, ⟨(some 32), .mov (.t 8), none⟩, ⟨(some 33), .sidx (.t 31) (.t 32), none⟩, ⟨(some 34), .conv (.int .i64) (.t 33), none⟩, ⟨(some 35), .bin .rem .prim (.t 34) (.c (.int .i64 10)), none⟩, ⟨(some 36), .sidx (.c (.str [97, 66, 99, 68, 101, 88, 121, 90, 57, 45])) (.t 35), none⟩, ⟨(some 37), .bslice true 1 [(.t 36)], none⟩, ⟨(some 38), .conv .b2s (.t 37), none⟩, ⟨(some 39), .bin .add .prim (.t 30) (.t 38), none⟩, ⟨(some 7), .set (.t 39), none⟩]))
  (.region false [⟨(some 28), .mov (.t 8), none⟩, ⟨(some 29), .bin .add .prim (.t 28) (.c (.int .i64 1)), none⟩, ⟨(some 8), .set (.t 29), none⟩])))
def f11l1 : ACode := (.seq (.seq (.region false [⟨(some 65), .mov (.t 12), none⟩, ⟨(some 66), .mov (.t 7), none⟩, ⟨(some 67), .len true (.t 66), none⟩, ⟨(some 68), .bin .lss .prim (.t 65) (.t 67), none⟩])
  (.cond (.t 68) .skip
  (.exit 2)))
  (.seq (.block 3 (.seq (.region false [⟨(some 71), .mov (.t 7), none⟩, ⟨(some 72), .mov (.t 12), none⟩, ⟨(some 73), .sidx (.t 71) (.t 72), none⟩, ⟨(some 13), .set (.t 73), none⟩])
  (.seq (.seq (.region false [⟨(some 74), .mov (.t 13), none⟩, ⟨(some 75), .bin .geq .prim (.t 74) (.c (.int .u8 65)), none⟩, ⟨(some 76), .mov (.t 75), none⟩, ⟨(some 77), .mov (.t 13), some (76, true)⟩, ⟨(some 78), .bin .leq .prim (.t 77) (.c (.int .u8 90)), some (76, true)⟩, ⟨(some 79), .pick (.t 76) (.t 78) (.c (.bool false)), none⟩])
  (.cond (.t 79) (.region false [⟨(some 80), .mov (.t 13), none⟩, ⟨(some 81), .bin .add .prim (.t 80) (.c (.int .u8 32)), none⟩, ⟨(some 13), .set (.t 81), none⟩])
  .skip))
  (.region false [⟨(some 82), .mov (.t 11), none⟩, ⟨(some 83), .mov (.t 13), none⟩, ⟨(some 84), .bslice true 1 [(.t 83)], none⟩, ⟨(some 85), .conv .b2s (.t 84), none⟩, ⟨(some 86), .bin .add .prim (.t 82) (.t 85), none⟩, ⟨(some 11), .set (.t 86), none⟩]))))
  (.region false [⟨(some 69), .mov (.t 12), none⟩, ⟨(some 70), .bin .add .prim (.t 69) (.c (.int .i64 1)), none⟩, ⟨(some 12), .set (.t 70), none⟩])))
def f11 : AFun := ⟨3, 130, [.t 6], (.seq (.region false [⟨(some 6), .set (.c (.bool false)), none⟩])
  (.seq (.seq (.region false [⟨(some 20), .mov (.t 0), none⟩, ⟨(some 21), .len true (.t 20), none⟩, ⟨(some 22), .bin .gtr .prim (.t 21) (.c (.int .i64 60)), none⟩])
  (.cond (.t 22) (.seq (.region false [⟨(some 23), .call true 25 [], none⟩, ⟨(some 6), .set (.t 23), none⟩])
  .ret)
  .skip))
  (.seq (.region false [⟨(some 7), .set (.c (.str [])), none⟩])
  (.seq (.seq (.region false [⟨(some 8), .set (.c (.int .i64 0)), none⟩])
  (.block 0 (.loop f11l0)))
  (.seq (.region false [⟨(some 40), .bslice true 1 [(.c (.int .i32 173)), (.c (.int .i32 847)), (.c (.int .i32 6150)), (.c (.int .i32 8203)), (.c (.int .i32 8205)), (.c (.int .i32 8288)), (.c (.int .i32 65024)), (.c (.int .i32 65279))], none⟩, ⟨(some 41), .mov (.t 2), none⟩, ⟨(some 42), .conv (.int .u64) (.t 41), none⟩, ⟨(some 43), .bin .rem .prim (.t 42) (.c (.int .u64 8)), none⟩, ⟨(some 44), .conv (.int .i64) (.t 43), none⟩, ⟨(some 45), .iaddr 1 (.t 40) (.t 44), none⟩, ⟨(some 46), .load none (.t 45), none⟩, ⟨(some 47), .conv .i2s (.t 46), none⟩, ⟨(some 9), .set (.t 47), none⟩])
  (.seq (.region false [⟨(some 48), .mov (.t 1), none⟩, ⟨(some 49), .conv (.int .u64) (.t 48), none⟩, ⟨(some 50), .mov (.t 7), none⟩, ⟨(some 51), .len true (.t 50), none⟩, ⟨(some 52), .bin .add .prim (.t 51) (.c (.int .i64 1)), none⟩, ⟨(some 53), .conv (.int .u64) (.t 52), none⟩, ⟨(some 54), .bin .rem .prim (.t 49) (.t 53), none⟩, ⟨(some 55), .conv (.int .i64) (.t 54), none⟩, ⟨(some 1), .set (.t 55), none⟩])
  (.seq (.region true [⟨(some 56), .mov (.t 7), none⟩, ⟨(some 57), .mov (.t 1), none⟩, ⟨(some 58), .slice none (.t 56) none (some (.t 57)), none⟩, ⟨(some 59), .mov (.t 9), none⟩, ⟨(some 60), .bin .add .prim (.t 58) (.t 59), none⟩, ⟨(some 61), .mov (.t 7), none⟩, ⟨(some 62), .mov (.t 1), none⟩, ⟨(some 63), .slice none (.t 61) (some (.t 62)) none, none⟩, ⟨(some 64), .bin .add .prim (.t 60) (.t 63), none⟩, ⟨(some 10), .set (.t 64), none⟩])
  (.seq (.region false [⟨(some 11), .set (.c (.str [])), none⟩])
  (.seq (.seq (.region false [⟨(some 12), .set (.c (.int .i64 0)), none⟩])
  (.block 2 (.loop f11l1)))
  (.seq (.region false [⟨(some 88), .mov (.t 10), none⟩, ⟨(some 89), .call true 26 [(.t 88)], none⟩, ⟨(some 87), .mov (.t 89), none⟩, ⟨(some 90), .extr (.t 87) 0, none⟩, ⟨(some 91), .extr (.t 87) 1, none⟩, ⟨(some 14), .set (.t 90), none⟩, ⟨(some 15), .set (.t 91), none⟩])
  (.seq (.region false [⟨(some 93), .mov (.t 10), none⟩, ⟨(some 94), .call true 28 [(.t 93)], none⟩, ⟨(some 92), .mov (.t 94), none⟩, ⟨(some 95), .extr (.t 92) 0, none⟩, ⟨(some 96), .extr (.t 92) 1, none⟩, ⟨(some 16), .set (.t 95), none⟩, ⟨(some 17), .set (.t 96), none⟩])
  (.seq (.region false [⟨(some 98), .mov (.t 10), none⟩, ⟨(some 99), .call true 30 [(.t 98)], none⟩, ⟨(some 97), .mov (.t 99), none⟩, ⟨(some 100), .extr (.t 97) 0, none⟩, ⟨(some 101), .extr (.t 97) 1, none⟩, ⟨(some 18), .set (.t 100), none⟩, ⟨(some 19), .set (.t 101), none⟩])
  (.seq (.region false [⟨(some 102), .call true 25 [], none⟩, ⟨(some 103), .mov (.t 102), none⟩, ⟨(some 104), .mov (.t 15), some (103, true)⟩, ⟨(some 105), .bin .eql .prim (.t 104) (.c (.int .i64 0)), some (103, true)⟩, ⟨(some 106), .pick (.t 103) (.t 105) (.c (.bool false)), none⟩, ⟨(some 107), .mov (.t 106), none⟩, ⟨(some 108), .mov (.t 14), some (107, true)⟩, ⟨(some 109), .mov (.t 11), some (107, true)⟩, ⟨(some 110), .bin .eql .prim (.t 108) (.t 109), some (107, true)⟩, ⟨(some 111), .pick (.t 107) (.t 110) (.c (.bool false)), none⟩, ⟨(some 112), .mov (.t 111), none⟩, ⟨(some 113), .mov (.t 17), some (112, true)⟩, ⟨(some 114), .bin .eql .prim (.t 113) (.c (.int .i64 0)), some (112, true)⟩, ⟨(some 115), .pick (.t 112) (.t 114) (.c (.bool false)), none⟩, ⟨(some 116), .mov (.t 115), none⟩, ⟨(some 117), .mov (.t 16), some (116, true)⟩, ⟨(some 118), .mov (.t 11), some (116, true)⟩, ⟨(some 119), .bin .eql .prim (.t 117) (.t 118), some (116, true)⟩, ⟨(some 120), .pick (.t 116) (.t 119) (.c (.bool false)), none⟩, ⟨(some 121), .mov (.t 120), none⟩, ⟨(some 122), .mov (.t 19), some (121, true)⟩, ⟨(some 123), .bin .eql .prim (.t 122) (.c (.int .i64 0)), some (121, true)⟩, ⟨(some 124), .pick (.t 121) (.t 123) (.c (.bool false)), none⟩, ⟨(some 125), .mov (.t 124), none⟩, ⟨(some 126), .mov (.t 18), some (125, true)⟩, ⟨(some 127), .mov (.t 7), some (125, true)⟩, ⟨(some 128), .bin .eql .prim (.t 126) (.t 127), some (125, true)⟩, ⟨(some 129), .pick (.t 125) (.t 128) (.c (.bool false)), none⟩, ⟨(some 6), .set (.t 129), none⟩])
  .ret)))))))))))))⟩
theorem c11 : cfun Tryd.prog 11 = some f11 := by kernel_rfl
def f25 : AFun := ⟨0, 41, [.t 0], (.seq (.region false [⟨(some 0), .set (.c (.bool false)), none⟩])
  (.seq (.region false [⟨(some 8), .call true 26 [(.c (.str [65, 98]))], none⟩, ⟨(some 7), .mov (.t 8), none⟩, ⟨(some 9), .extr (.t 7) 0, none⟩, ⟨(some 10), .extr (.t 7) 1, none⟩, ⟨(some 1), .set (.t 9), none⟩, ⟨(some 2), .set (.t 10), none⟩])
  (.seq (.region false [⟨(some 12), .call true 28 [(.c (.str [65, 46, 98]))], none⟩, ⟨(some 11), .mov (.t 12), none⟩, ⟨(some 13), .extr (.t 11) 0, none⟩, ⟨(some 14), .extr (.t 11) 1, none⟩, ⟨(some 3), .set (.t 13), none⟩, ⟨(some 4), .set (.t 14), none⟩])
  (.seq (.region false [⟨(some 16), .call true 30 [(.c (.str [65, 32, 98]))], none⟩, ⟨(some 15), .mov (.t 16), none⟩, ⟨(some 17), .extr (.t 15) 0, none⟩, ⟨(some 18), .extr (.t 15) 1, none⟩, ⟨(some 5), .set (.t 17), none⟩, ⟨(some 6), .set (.t 18), none⟩])
  (.seq (.region false [⟨(some 19), .mov (.t 2), none⟩, ⟨(some 20), .bin .eql .prim (.t 19) (.c (.int .i64 0)), none⟩, ⟨(some 21), .mov (.t 20), none⟩, ⟨(some 22), .mov (.t 1), some (21, true)⟩, ⟨(some 23), .bin .eql .prim (.t 22) (.c (.str [97, 98])), some (21, true)⟩, ⟨(some 24), .pick (.t 21) (.t 23) (.c (.bool false)), none⟩, ⟨(some 25), .mov (.t 24), none⟩, ⟨(some 26), .mov (.t 4), some (25, true)⟩, ⟨(some 27), .bin .eql .prim (.t 26) (.c (.int .i64 0)), some (25, true)⟩, ⟨(some 28), .pick (.t 25) (.t 27) (.c (.bool false)), none⟩, ⟨(some 29), .mov (.t 28), none⟩, ⟨(some 30), .mov (.t 3), some (29, true)⟩, ⟨(some 31), .bin .eql .prim (.t 30) (.c (.str [97, 46, 98])), some (29, true)⟩, ⟨(some 32), .pick (.t 29) (.t 31) (.c (.bool false)), none⟩, ⟨(some 33), .mov (.t 32), none⟩, ⟨(some 34), .mov (.t 6), some (33, true)⟩, ⟨(some 35), .bin .eql .prim (.t 34) (.c (.int .i64 0)), some (33, true)⟩, ⟨(some 36), .pick (.t 33) (.t 35) (.c (.bool false)), none⟩, ⟨(some 37), .mov (.t 36), none⟩, ⟨(some 38), .mov (.t 5), some (37, true)⟩, ⟨(some 39), .bin .eql .prim (.t 38) (.c (.str [65, 32, 98])), some (37, true)⟩, ⟨(some 40), .pick (.t 37) (.t 39) (.c (.bool false)), none⟩, ⟨(some 0), .set (.t 40), none⟩])
  .ret)))))⟩
theorem c25 : cfun Tryd.prog 25 = some f25 := by kernel_rfl
def f26 : AFun := ⟨1, 9, [.t 2, .t 3], (.seq (.region false [⟨(some 2), .set (.c (.str [])), none⟩, ⟨(some 3), .set (.c (.int .i64 0)), none⟩])
  (.seq (.region false [⟨(some 4), .mov (.t 0), none⟩, ⟨(some 5), .build [.nilfn, .nilfn] [(0, 1, (.c (.fn 44 []))), (1, 1, (.c (.fn 45 [])))], none⟩, ⟨(some 6), .call true 43 [(.t 4), (.t 5)], none⟩, ⟨(some 7), .extr (.t 6) 0, none⟩, ⟨(some 8), .extr (.t 6) 1, none⟩, ⟨(some 2), .set (.t 7), none⟩, ⟨(some 3), .set (.t 8), none⟩])
  .ret))⟩
theorem c26 : cfun Tryd.prog 26 = some f26 := by kernel_rfl
def f27 : AFun := ⟨1, 8, [.t 2, .t 3], (.seq (.region false [⟨(some 2), .set (.c (.str [])), none⟩, ⟨(some 3), .set (.c (.int .i64 0)), none⟩])
  (.seq (.region false [⟨(some 4), .mov (.t 0), none⟩, ⟨(some 5), .call true 48 [(.t 4), (.c (.int .i64 1))], none⟩, ⟨(some 6), .extr (.t 5) 0, none⟩, ⟨(some 7), .extr (.t 5) 1, none⟩, ⟨(some 2), .set (.t 6), none⟩, ⟨(some 3), .set (.t 7), none⟩])
  .ret))⟩
theorem c27 : cfun Tryd.prog 27 = some f27 := by kernel_rfl
def f28 : AFun := ⟨1, 9, [.t 2, .t 3], (.seq (.region false [⟨(some 2), .set (.c (.str [])), none⟩, ⟨(some 3), .set (.c (.int .i64 0)), none⟩])
  (.seq (.region false [⟨(some 4), .mov (.t 0), none⟩, ⟨(some 5), .build [.nilfn, .nilfn] [(0, 1, (.c (.fn 44 []))), (1, 1, (.c (.fn 49 [])))], none⟩, ⟨(some 6), .call true 43 [(.t 4), (.t 5)], none⟩, ⟨(some 7), .extr (.t 6) 0, none⟩, ⟨(some 8), .extr (.t 6) 1, none⟩, ⟨(some 2), .set (.t 7), none⟩, ⟨(some 3), .set (.t 8), none⟩])
  .ret))⟩
theorem c28 : cfun Tryd.prog 28 = some f28 := by kernel_rfl
def f29 : AFun := ⟨1, 8, [.t 2, .t 3], (.seq (.region false [⟨(some 2), .set (.c (.str [])), none⟩, ⟨(some 3), .set (.c (.int .i64 0)), none⟩])
  (.seq (.region false [⟨(some 4), .mov (.t 0), none⟩, ⟨(some 5), .call true 48 [(.t 4), (.c (.int .i64 2))], none⟩, ⟨(some 6), .extr (.t 5) 0, none⟩, ⟨(some 7), .extr (.t 5) 1, none⟩, ⟨(some 2), .set (.t 6), none⟩, ⟨(some 3), .set (.t 7), none⟩])
  .ret))⟩
theorem c29 : cfun Tryd.prog 29 = some f29 := by kernel_rfl
def f30 : AFun := ⟨1, 9, [.t 2, .t 3], (.seq (.region false [⟨(some 2), .set (.c (.str [])), none⟩, ⟨(some 3), .set (.c (.int .i64 0)), none⟩])
  (.seq (.region false [⟨(some 4), .mov (.t 0), none⟩, ⟨(some 5), .build [.nilfn, .nilfn] [(0, 1, (.c (.fn 53 []))), (1, 1, (.c (.fn 54 [])))], none⟩, ⟨(some 6), .call true 43 [(.t 4), (.t 5)], none⟩, ⟨(some 7), .extr (.t 6) 0, none⟩, ⟨(some 8), .extr (.t 6) 1, none⟩, ⟨(some 2), .set (.t 7), none⟩, ⟨(some 3), .set (.t 8), none⟩])
  .ret))⟩
theorem c30 : cfun Tryd.prog 30 = some f30 := by kernel_rfl
def f31 : AFun := ⟨1, 8, [.t 2, .t 3], (.seq (.region false [⟨(some 2), .set (.c (.str [])), none⟩, ⟨(some 3), .set (.c (.int .i64 0)), none⟩])
  (.seq (.region false [⟨(some 4), .mov (.t 0), none⟩, ⟨(some 5), .call true 48 [(.t 4), (.c (.int .i64 3))], none⟩, ⟨(some 6), .extr (.t 5) 0, none⟩, ⟨(some 7), .extr (.t 5) 1, none⟩, ⟨(some 2), .set (.t 6), none⟩, ⟨(some 3), .set (.t 7), none⟩])
  .ret))⟩
theorem c31 : cfun Tryd.prog 31 = some f31 := by kernel_rfl
def f43l0 : ACode := (.seq (.region false [⟨(some 29), .bin .lss .prim (.t 28) (.t 27), none⟩])
  (.seq (.cond (.t 29) .skip
  (.exit 1))
  (.seq (.block 2 (.seq (.region false [⟨(some 30), .iaddr 1 (.t 26) (.t 28), none⟩, ⟨(some 31), .load none (.t 30), none⟩, ⟨(some 9), .set (.t 31), none⟩])
  (.region false [⟨(some 32), .mov (.t 7), none⟩, ⟨(some 33), .mov (.t 9), none⟩, ⟨(some 34), .conv (.int .i32) (.t 33), none⟩, ⟨(some 35), .conv .i2s (.t 34), none⟩, ⟨(some 36), .bin .add .prim (.t 32) (.t 35), none⟩, ⟨(some 7), .set (.t 36), none⟩])))
  (.region false [⟨(some 37), .bin .add .prim (.t 28) (.c (.int .i64 1)), none⟩, ⟨(some 28), .mov (.t 37), none⟩]))))
def f43 : AFun := ⟨2, 39, [.t 4, .t 5], (.seq (.region false [⟨(some 3), .box (.t 1), none⟩, ⟨(some 4), .set (.c (.str [])), none⟩, ⟨(some 5), .set (.c (.int .i64 0)), none⟩])
  (.seq (.seq (.region false [⟨(some 10), .mov (.t 0), none⟩, ⟨(some 11), .call true 16 [(.t 10)], none⟩, ⟨(some 12), .un .not (.t 11), none⟩])
  (.cond (.t 12) (.seq (.region false [⟨(some 4), .set (.c (.str [])), none⟩, ⟨(some 5), .set (.c (.int .i64 3)), none⟩])
  .ret)
  .skip))
  (.seq (.region true [⟨(some 13), .mov (.t 0), none⟩, ⟨(some 14), .call false 19 [(.t 13)], none⟩, ⟨(some 15), .faddr 0 (.t 3), none⟩, ⟨(some 16), .load none (.t 15), none⟩, ⟨(some 17), .call false 67 [(.t 14), (.t 16)], none⟩, ⟨(some 6), .mov (.t 17), none⟩])
  (.seq (.block 0 (.seq (.region false [⟨(some 19), .mov (.t 6), none⟩, ⟨(some 20), .mkfn 69 [(.t 3)], none⟩, ⟨(some 21), .call true 68 [(.t 19), (.t 20)], none⟩, ⟨(some 18), .set (.t 21), none⟩])
  (.cond (.t 18) (.seq (.region false [⟨(some 4), .set (.c (.str [])), none⟩, ⟨(some 5), .set (.c (.int .i64 15)), none⟩])
  .ret)
  (.seq (.region false [⟨(some 23), .mov (.t 6), none⟩, ⟨(some 24), .call true 70 [(.t 23)], none⟩, ⟨(some 25), .un .not (.t 24), none⟩, ⟨(some 22), .set (.t 25), none⟩])
  (.cond (.t 22) (.seq (.region false [⟨(some 4), .set (.c (.str [])), none⟩, ⟨(some 5), .set (.c (.int .i64 16)), none⟩])
  .ret)
  .skip)))))
  (.seq (.region false [⟨(some 7), .set (.c (.str [])), none⟩])
  (.seq (.seq (.region false [⟨(some 26), .mov (.t 6), none⟩, ⟨(some 27), .len false (.t 26), none⟩, ⟨(some 28), .mov (.c (.int .i64 0)), none⟩])
  (.block 1 (.loop f43l0)))
  (.seq (.region false [⟨(some 38), .mov (.t 7), none⟩, ⟨(some 4), .set (.t 38), none⟩, ⟨(some 5), .set (.c (.int .i64 0)), none⟩])
  .ret)))))))⟩
theorem c43 : cfun Tryd.prog 43 = some f43 := by kernel_rfl
def f44 : AFun := ⟨1, 31, [.t 2], (.seq (.region false [⟨(some 2), .newnil 1, none⟩])
  (.seq (.block 0 (.seq (.region false [⟨(some 4), .mov (.t 0), none⟩, ⟨(some 5), .bin .geq .prim (.t 4) (.c (.int .i64 65)), none⟩, ⟨(some 6), .mov (.t 5), none⟩, ⟨(some 7), .mov (.t 0), some (6, true)⟩, ⟨(some 8), .bin .leq .prim (.t 7) (.c (.int .i64 90)), some (6, true)⟩, ⟨(some 9), .pick (.t 6) (.t 8) (.c (.bool false)), none⟩, ⟨(some 10), .mov (.t 9), none⟩, ⟨(some 11), .mov (.t 0), some (10, false)⟩, ⟨(some 12), .bin .geq .prim (.t 11) (.c (.int .i64 192)), some (10, false)⟩, ⟨(some 13), .mov (.t 12), some (10, false)⟩, ⟨(some 14), .mov (.t 0), some (13, true)⟩, ⟨(some 15), .bin .leq .prim (.t 14) (.c (.int .i64 222)), some (13, true)⟩, ⟨(some 16), .pick (.t 13) (.t 15) (.c (.bool false)), some (10, false)⟩, ⟨(some 17), .mov (.t 16), some (10, false)⟩, ⟨(some 18), .mov (.t 0), some (17, true)⟩, ⟨(some 19), .bin .neq .prim (.t 18) (.c (.int .i64 215)), some (17, true)⟩, ⟨(some 20), .pick (.t 17) (.t 19) (.c (.bool false)), some (10, false)⟩, ⟨(some 21), .pick (.t 10) (.c (.bool true)) (.t 20), none⟩, ⟨(some 3), .set (.t 21), none⟩])
  (.cond (.t 3) (.seq (.region false [⟨(some 22), .mov (.t 0), none⟩, ⟨(some 23), .bin .add .prim (.t 22) (.c (.int .i64 32)), none⟩, ⟨(some 24), .bslice true 1 [(.t 23)], none⟩, ⟨(some 2), .set (.t 24), none⟩])
  .ret)
  (.seq (.region false [⟨(some 26), .mov (.t 0), none⟩, ⟨(some 27), .bin .eql .prim (.t 26) (.c (.int .i64 223)), none⟩, ⟨(some 25), .set (.t 27), none⟩])
  (.cond (.t 25) (.seq (.region false [⟨(some 28), .bslice true 1 [(.c (.int .i64 115)), (.c (.int .i64 115))], none⟩, ⟨(some 2), .set (.t 28), none⟩])
  .ret)
  .skip)))))
  (.seq (.region false [⟨(some 29), .mov (.t 0), none⟩, ⟨(some 30), .call true 53 [(.t 29)], none⟩, ⟨(some 2), .set (.t 30), none⟩])
  .ret)))⟩
theorem c44 : cfun Tryd.prog 44 = some f44 := by kernel_rfl
def f45 : AFun := ⟨1, 12, [.t 2], (.seq (.region false [⟨(some 2), .set (.c (.bool false)), none⟩])
  (.seq (.region false [⟨(some 3), .mov (.t 0), none⟩, ⟨(some 4), .call true 46 [(.t 3)], none⟩, ⟨(some 5), .un .not (.t 4), none⟩, ⟨(some 6), .mov (.t 5), none⟩, ⟨(some 7), .bslice true 1 [(.c (.int .i64 32)), (.c (.int .i64 34)), (.c (.int .i64 38)), (.c (.int .i64 39)), (.c (.int .i64 47)), (.c (.int .i64 58)), (.c (.int .i64 60)), (.c (.int .i64 62)), (.c (.int .i64 64))], some (6, true)⟩, ⟨(some 8), .mov (.t 0), some (6, true)⟩, ⟨(some 9), .call true 47 [(.t 7), (.t 8)], some (6, true)⟩, ⟨(some 10), .un .not (.t 9), some (6, true)⟩, ⟨(some 11), .pick (.t 6) (.t 10) (.c (.bool false)), none⟩, ⟨(some 2), .set (.t 11), none⟩])
  .ret))⟩
theorem c45 : cfun Tryd.prog 45 = some f45 := by kernel_rfl
def f46 : AFun := ⟨1, 6, [.t 2], (.seq (.region false [⟨(some 2), .set (.c (.bool false)), none⟩])
  (.seq (.region false [⟨(some 3), .call true 71 [], none⟩, ⟨(some 4), .mov (.t 0), none⟩, ⟨(some 5), .call true 50 [(.t 3), (.t 4)], none⟩, ⟨(some 2), .set (.t 5), none⟩])
  .ret))⟩
theorem c46 : cfun Tryd.prog 46 = some f46 := by kernel_rfl
def f47 : AFun := ⟨2, 9, [.t 4], (.seq (.region false [⟨(some 4), .set (.c (.bool false)), none⟩])
  (.seq (.region false [⟨(some 5), .mov (.t 0), none⟩, ⟨(some 6), .mov (.t 1), none⟩, ⟨(some 7), .call true 72 [(.t 5), (.t 6)], none⟩, ⟨(some 8), .bin .geq .prim (.t 7) (.c (.int .i64 0)), none⟩, ⟨(some 4), .set (.t 8), none⟩])
  .ret))⟩
theorem c47 : cfun Tryd.prog 47 = some f47 := by kernel_rfl
def f48l0 : ACode := (.seq (.seq (.region false [⟨(some 16), .mov (.t 7), none⟩, ⟨(some 17), .mov (.t 6), none⟩, ⟨(some 18), .len false (.t 17), none⟩, ⟨(some 19), .bin .lss .prim (.t 16) (.t 18), none⟩])
  (.cond (.t 19) .skip
  (.exit 0)))
  (.seq (.block 1 (.seq (.region false [⟨(some 22), .mov (.t 1), none⟩, ⟨(some 23), .mov (.t 6), none⟩, ⟨(some 24), .mov (.t 7), none⟩, ⟨(some 25), .iaddr 1 (.t 23) (.t 24), none⟩, ⟨(some 26), .load none (.t 25), none⟩, ⟨(some 27), .call true 74 [(.t 22), (.t 26)], none⟩, ⟨(some 28), .un .not (.t 27), none⟩])
  (.cond (.t 28) (.seq (.region false [⟨(some 4), .set (.c (.str [])), none⟩, ⟨(some 5), .set (.c (.int .i64 15)), none⟩])
  .ret)
  .skip)))
  (.region false [⟨(some 20), .mov (.t 7), none⟩, ⟨(some 21), .bin .add .prim (.t 20) (.c (.int .i64 1)), none⟩, ⟨(some 7), .set (.t 21), none⟩])))
def f48 : AFun := ⟨2, 34, [.t 4, .t 5], (.seq (.region false [⟨(some 4), .set (.c (.str [])), none⟩, ⟨(some 5), .set (.c (.int .i64 0)), none⟩])
  (.seq (.seq (.region false [⟨(some 8), .mov (.t 0), none⟩, ⟨(some 9), .call true 17 [(.t 8)], none⟩, ⟨(some 10), .un .not (.t 9), none⟩])
  (.cond (.t 10) (.seq (.region false [⟨(some 4), .set (.c (.str [])), none⟩, ⟨(some 5), .set (.c (.int .i64 3)), none⟩])
  .ret)
  .skip))
  (.seq (.region false [⟨(some 11), .mov (.t 0), none⟩, ⟨(some 12), .call true 20 [(.t 11)], none⟩, ⟨(some 13), .mov (.t 1), none⟩, ⟨(some 14), .bin .neq .prim (.t 13) (.c (.int .i64 3)), none⟩, ⟨(some 15), .call true 73 [(.t 12), (.t 14)], none⟩, ⟨(some 6), .set (.t 15), none⟩])
  (.seq (.seq (.region false [⟨(some 7), .set (.c (.int .i64 0)), none⟩])
  (.block 0 (.loop f48l0)))
  (.seq (.seq (.region false [⟨(some 29), .mov (.t 6), none⟩, ⟨(some 30), .call true 75 [(.t 29)], none⟩, ⟨(some 31), .un .not (.t 30), none⟩])
  (.cond (.t 31) (.seq (.region false [⟨(some 4), .set (.c (.str [])), none⟩, ⟨(some 5), .set (.c (.int .i64 16)), none⟩])
  .ret)
  .skip))
  (.seq (.region false [⟨(some 32), .mov (.t 6), none⟩, ⟨(some 33), .call true 76 [(.t 32)], none⟩, ⟨(some 4), .set (.t 33), none⟩, ⟨(some 5), .set (.c (.int .i64 0)), none⟩])
  .ret))))))⟩
theorem c48 : cfun Tryd.prog 48 = some f48 := by kernel_rfl
def f49 : AFun := ⟨1, 27, [.t 2], (.seq (.region false [⟨(some 2), .set (.c (.bool false)), none⟩])
  (.seq (.region false [⟨(some 3), .mov (.t 0), none⟩, ⟨(some 4), .bin .geq .prim (.t 3) (.c (.int .i64 48)), none⟩, ⟨(some 5), .mov (.t 4), none⟩, ⟨(some 6), .mov (.t 0), some (5, true)⟩, ⟨(some 7), .bin .leq .prim (.t 6) (.c (.int .i64 57)), some (5, true)⟩, ⟨(some 8), .pick (.t 5) (.t 7) (.c (.bool false)), none⟩, ⟨(some 9), .mov (.t 8), none⟩, ⟨(some 10), .mov (.t 0), some (9, false)⟩, ⟨(some 11), .bin .eql .prim (.t 10) (.c (.int .i64 45)), some (9, false)⟩, ⟨(some 12), .pick (.t 9) (.c (.bool true)) (.t 11), none⟩, ⟨(some 13), .mov (.t 12), none⟩, ⟨(some 14), .mov (.t 0), some (13, false)⟩, ⟨(some 15), .bin .eql .prim (.t 14) (.c (.int .i64 46)), some (13, false)⟩, ⟨(some 16), .pick (.t 13) (.c (.bool true)) (.t 15), none⟩, ⟨(some 17), .mov (.t 16), none⟩, ⟨(some 18), .call true 51 [], some (17, false)⟩, ⟨(some 19), .mov (.t 0), some (17, false)⟩, ⟨(some 20), .call true 50 [(.t 18), (.t 19)], some (17, false)⟩, ⟨(some 21), .pick (.t 17) (.c (.bool true)) (.t 20), none⟩, ⟨(some 22), .mov (.t 21), none⟩, ⟨(some 23), .call true 52 [], some (22, false)⟩, ⟨(some 24), .mov (.t 0), some (22, false)⟩, ⟨(some 25), .call true 50 [(.t 23), (.t 24)], some (22, false)⟩, ⟨(some 26), .pick (.t 22) (.c (.bool true)) (.t 25), none⟩, ⟨(some 2), .set (.t 26), none⟩])
  .ret))⟩
theorem c49 : cfun Tryd.prog 49 = some f49 := by kernel_rfl
def f50 : AFun := ⟨2, 8, [.t 4], (.seq (.region false [⟨(some 4), .set (.c (.bool false)), none⟩])
  (.seq (.region false [⟨(some 5), .mov (.t 0), none⟩, ⟨(some 6), .mov (.t 1), none⟩, ⟨(some 7), .call true 77 [(.t 5), (.t 6), (.c (.fn 78 []))], none⟩, ⟨(some 4), .set (.t 7), none⟩])
  .ret))⟩
theorem c50 : cfun Tryd.prog 50 = some f50 := by kernel_rfl
def f51 : AFun := ⟨0, 3, [.t 0], (.seq (.region false [⟨(some 0), .newnil 2, none⟩])
  (.seq (.region false [⟨(some 1), .bslice true 1 [(.c (.int .i64 65)), (.c (.int .i64 90)), (.c (.int .i64 97)), (.c (.int .i64 122)), (.c (.int .i64 192)), (.c (.int .i64 214)), (.c (.int .i64 216)), (.c (.int .i64 246)), (.c (.int .i64 248)), (.c (.int .i64 591)), (.c (.int .i64 880)), (.c (.int .i64 1327)), (.c (.int .i64 19968)), (.c (.int .i64 40959))], none⟩, ⟨(some 2), .call true 79 [(.t 1)], none⟩, ⟨(some 0), .set (.t 2), none⟩])
  .ret))⟩
theorem c51 : cfun Tryd.prog 51 = some f51 := by kernel_rfl
def f52 : AFun := ⟨0, 3, [.t 0], (.seq (.region false [⟨(some 0), .newnil 2, none⟩])
  (.seq (.region false [⟨(some 1), .bslice true 1 [(.c (.int .i64 1424)), (.c (.int .i64 1535)), (.c (.int .i64 1536)), (.c (.int .i64 1791)), (.c (.int .i64 64285)), (.c (.int .i64 64335))], none⟩, ⟨(some 2), .call true 79 [(.t 1)], none⟩, ⟨(some 0), .set (.t 2), none⟩])
  .ret))⟩
theorem c52 : cfun Tryd.prog 52 = some f52 := by kernel_rfl
def f53 : AFun := ⟨1, 8, [.t 2], (.seq (.region false [⟨(some 2), .newnil 1, none⟩])
  (.seq (.seq (.region false [⟨(some 3), .call true 80 [], none⟩, ⟨(some 4), .mov (.t 0), none⟩, ⟨(some 5), .call true 50 [(.t 3), (.t 4)], none⟩])
  (.cond (.t 5) (.seq (.region false [⟨(some 2), .newnil 1, none⟩])
  .ret)
  .skip))
  (.seq (.region false [⟨(some 6), .mov (.t 0), none⟩, ⟨(some 7), .bslice true 1 [(.t 6)], none⟩, ⟨(some 2), .set (.t 7), none⟩])
  .ret)))⟩
theorem c53 : cfun Tryd.prog 53 = some f53 := by kernel_rfl
def f54 : AFun := ⟨1, 6, [.t 2], (.seq (.region false [⟨(some 2), .set (.c (.bool false)), none⟩])
  (.seq (.region false [⟨(some 3), .mov (.t 0), none⟩, ⟨(some 4), .call true 46 [(.t 3)], none⟩, ⟨(some 5), .un .not (.t 4), none⟩, ⟨(some 2), .set (.t 5), none⟩])
  .ret))⟩
theorem c54 : cfun Tryd.prog 54 = some f54 := by kernel_rfl
def f67l0 : ACode := (.seq (.region false [⟨(some 11), .bin .lss .prim (.t 10) (.t 9), none⟩])
  (.seq (.cond (.t 11) .skip
  (.exit 0))
  (.seq (.block 1 (.seq (.region false [⟨(some 12), .iaddr 1 (.t 8) (.t 10), none⟩, ⟨(some 13), .load none (.t 12), none⟩, ⟨(some 7), .set (.t 13), none⟩])
  (.region false [⟨(some 14), .mov (.t 5), none⟩, ⟨(some 15), .mov (.t 1), none⟩, ⟨(some 16), .mov (.t 7), none⟩, ⟨(some 17), .callv true (.t 15) [(.t 16)], none⟩, ⟨(some 18), .append 1 8 (.t 14) (.t 17), none⟩, ⟨(some 5), .set (.t 18), none⟩])))
  (.region false [⟨(some 19), .bin .add .prim (.t 10) (.c (.int .i64 1)), none⟩, ⟨(some 10), .mov (.t 19), none⟩]))))
def f67 : AFun := ⟨2, 21, [.t 4], (.seq (.region false [⟨(some 4), .newnil 1, none⟩])
  (.seq (.region false [⟨(some 5), .newnil 1, none⟩])
  (.seq (.seq (.region false [⟨(some 8), .mov (.t 0), none⟩, ⟨(some 9), .len false (.t 8), none⟩, ⟨(some 10), .mov (.c (.int .i64 0)), none⟩])
  (.block 0 (.loop f67l0)))
  (.seq (.region false [⟨(some 20), .mov (.t 5), none⟩, ⟨(some 4), .set (.t 20), none⟩])
  .ret))))⟩
theorem c67 : cfun Tryd.prog 67 = some f67 := by kernel_rfl
def f68 : AFun := ⟨2, 9, [.t 4], (.seq (.region false [⟨(some 4), .set (.c (.bool false)), none⟩])
  (.seq (.region false [⟨(some 5), .mov (.t 0), none⟩, ⟨(some 6), .mov (.t 1), none⟩, ⟨(some 7), .call true 93 [(.t 5), (.t 6)], none⟩, ⟨(some 8), .bin .geq .prim (.t 7) (.c (.int .i64 0)), none⟩, ⟨(some 4), .set (.t 8), none⟩])
  .ret))⟩
theorem c68 : cfun Tryd.prog 68 = some f68 := by kernel_rfl
def f69 : AFun := ⟨1, 9, [.t 3], (.seq (.region false [⟨(some 3), .set (.c (.bool false)), none⟩])
  (.seq (.region false [⟨(some 4), .faddr 1 (.t 1), none⟩, ⟨(some 5), .load none (.t 4), none⟩, ⟨(some 6), .mov (.t 0), none⟩, ⟨(some 7), .callv true (.t 5) [(.t 6)], none⟩, ⟨(some 8), .un .not (.t 7), none⟩, ⟨(some 3), .set (.t 8), none⟩])
  .ret))⟩
theorem c69 : cfun Tryd.prog 69 = some f69 := by kernel_rfl
def f70 : AFun := ⟨1, 30, [.t 2], (.seq (.region false [⟨(some 2), .set (.c (.bool false)), none⟩])
  (.seq (.region false [⟨(some 3), .set (.c (.fn 94 [])), none⟩])
  (.seq (.region false [⟨(some 4), .set (.c (.fn 95 [])), none⟩])
  (.seq (.seq (.region false [⟨(some 5), .mov (.t 0), none⟩, ⟨(some 6), .mov (.t 3), none⟩, ⟨(some 7), .call true 68 [(.t 5), (.t 6)], none⟩, ⟨(some 8), .un .not (.t 7), none⟩])
  (.cond (.t 8) (.seq (.region false [⟨(some 2), .set (.c (.bool true)), none⟩])
  .ret)
  .skip))
  (.seq (.region false [⟨(some 9), .mov (.t 3), none⟩, ⟨(some 10), .mov (.t 0), none⟩, ⟨(some 11), .iaddr 1 (.t 10) (.c (.int .i64 0)), none⟩, ⟨(some 12), .load none (.t 11), none⟩, ⟨(some 13), .callv true (.t 9) [(.t 12)], none⟩, ⟨(some 14), .mov (.t 13), none⟩, ⟨(some 15), .mov (.t 3), some (14, true)⟩, ⟨(some 16), .mov (.t 0), some (14, true)⟩, ⟨(some 17), .mov (.t 0), some (14, true)⟩, ⟨(some 18), .len false (.t 17), some (14, true)⟩, ⟨(some 19), .bin .sub .prim (.t 18) (.c (.int .i64 1)), some (14, true)⟩, ⟨(some 20), .iaddr 1 (.t 16) (.t 19), some (14, true)⟩, ⟨(some 21), .load none (.t 20), some (14, true)⟩, ⟨(some 22), .callv true (.t 15) [(.t 21)], some (14, true)⟩, ⟨(some 23), .pick (.t 14) (.t 22) (.c (.bool false)), none⟩, ⟨(some 24), .mov (.t 23), none⟩, ⟨(some 25), .mov (.t 0), some (24, true)⟩, ⟨(some 26), .mov (.t 4), some (24, true)⟩, ⟨(some 27), .call true 68 [(.t 25), (.t 26)], some (24, true)⟩, ⟨(some 28), .un .not (.t 27), some (24, true)⟩, ⟨(some 29), .pick (.t 24) (.t 28) (.c (.bool false)), none⟩, ⟨(some 2), .set (.t 29), none⟩])
  .ret)))))⟩
theorem c70 : cfun Tryd.prog 70 = some f70 := by kernel_rfl
def f71 : AFun := ⟨0, 3, [.t 0], (.seq (.region false [⟨(some 0), .newnil 2, none⟩])
  (.seq (.region false [⟨(some 1), .bslice true 1 [(.c (.int .i64 0)), (.c (.int .i64 31)), (.c (.int .i64 127)), (.c (.int .i64 160)), (.c (.int .i64 5760)), (.c (.int .i64 5760)), (.c (.int .i64 8192)), (.c (.int .i64 8202)), (.c (.int .i64 8232)), (.c (.int .i64 8239)), (.c (.int .i64 8287)), (.c (.int .i64 8287)), (.c (.int .i64 12288)), (.c (.int .i64 12288)), (.c (.int .i64 57344)), (.c (.int .i64 63743)), (.c (.int .i64 65533)), (.c (.int .i64 65535)), (.c (.int .i64 917504)), (.c (.int .i64 917631)), (.c (.int .i64 983040)), (.c (.int .i64 1114111))], none⟩, ⟨(some 2), .call true 79 [(.t 1)], none⟩, ⟨(some 0), .set (.t 2), none⟩])
  .ret))⟩
theorem c71 : cfun Tryd.prog 71 = some f71 := by kernel_rfl
def f72l0 : ACode := (.seq (.region false [⟨(some 9), .bin .lss .prim (.t 8) (.t 7), none⟩])
  (.seq (.cond (.t 9) .skip
  (.exit 0))
  (.seq (.block 1 (.seq (.region false [⟨(some 10), .mov (.t 8), none⟩, ⟨(some 5), .set (.t 10), none⟩])
  (.seq (.region false [⟨(some 11), .mov (.t 1), none⟩, ⟨(some 12), .mov (.t 0), none⟩, ⟨(some 13), .mov (.t 5), none⟩, ⟨(some 14), .iaddr 1 (.t 12) (.t 13), none⟩, ⟨(some 15), .load none (.t 14), none⟩, ⟨(some 16), .bin .eql .prim (.t 11) (.t 15), none⟩])
  (.cond (.t 16) (.seq (.region false [⟨(some 17), .mov (.t 5), none⟩, ⟨(some 4), .set (.t 17), none⟩])
  .ret)
  .skip))))
  (.region false [⟨(some 18), .bin .add .prim (.t 8) (.c (.int .i64 1)), none⟩, ⟨(some 8), .mov (.t 18), none⟩]))))
def f72 : AFun := ⟨2, 19, [.t 4], (.seq (.region false [⟨(some 4), .set (.c (.int .i64 0)), none⟩])
  (.seq (.seq (.region false [⟨(some 6), .mov (.t 0), none⟩, ⟨(some 7), .len false (.t 6), none⟩, ⟨(some 8), .mov (.c (.int .i64 0)), none⟩])
  (.block 0 (.loop f72l0)))
  (.seq (.region false [⟨(some 4), .set (.c (.int .i64 (-1))), none⟩])
  .ret)))⟩
theorem c72 : cfun Tryd.prog 72 = some f72 := by kernel_rfl
def f73l0 : ACode := (.seq (.seq (.region false [⟨(some 8), .mov (.t 6), none⟩, ⟨(some 9), .mov (.t 0), none⟩, ⟨(some 10), .len false (.t 9), none⟩, ⟨(some 11), .bin .lss .prim (.t 8) (.t 10), none⟩])
  (.cond (.t 11) .skip
  (.exit 0)))
  (.seq (.block 1 (.seq (.region false [⟨(some 14), .mov (.t 0), none⟩, ⟨(some 15), .mov (.t 6), none⟩, ⟨(some 16), .iaddr 1 (.t 14) (.t 15), none⟩, ⟨(some 17), .load none (.t 16), none⟩, ⟨(some 7), .set (.t 17), none⟩])
  (.block 2 (.seq (.region false [⟨(some 23), .call true 97 [], none⟩, ⟨(some 24), .mov (.t 7), none⟩, ⟨(some 25), .call true 96 [(.t 23), (.t 24)], none⟩, ⟨(some 22), .set (.t 25), none⟩])
  (.cond (.t 22) .skip
  (.seq (.region false [⟨(some 27), .mov (.t 1), none⟩, ⟨(some 28), .mov (.t 27), none⟩, ⟨(some 29), .mov (.t 7), some (28, true)⟩, ⟨(some 30), .bin .geq .prim (.t 29) (.c (.int .i64 65)), some (28, true)⟩, ⟨(some 31), .mov (.t 30), some (28, true)⟩, ⟨(some 32), .mov (.t 7), some (31, true)⟩, ⟨(some 33), .bin .leq .prim (.t 32) (.c (.int .i64 90)), some (31, true)⟩, ⟨(some 34), .pick (.t 31) (.t 33) (.c (.bool false)), some (28, true)⟩, ⟨(some 35), .mov (.t 34), some (28, true)⟩, ⟨(some 36), .mov (.t 7), some (35, false)⟩, ⟨(some 37), .bin .geq .prim (.t 36) (.c (.int .i64 192)), some (35, false)⟩, ⟨(some 38), .mov (.t 37), some (35, false)⟩, ⟨(some 39), .mov (.t 7), some (38, true)⟩, ⟨(some 40), .bin .leq .prim (.t 39) (.c (.int .i64 222)), some (38, true)⟩, ⟨(some 41), .pick (.t 38) (.t 40) (.c (.bool false)), some (35, false)⟩, ⟨(some 42), .mov (.t 41), some (35, false)⟩, ⟨(some 43), .mov (.t 7), some (42, true)⟩, ⟨(some 44), .bin .neq .prim (.t 43) (.c (.int .i64 215)), some (42, true)⟩, ⟨(some 45), .pick (.t 42) (.t 44) (.c (.bool false)), some (35, false)⟩, ⟨(some 46), .pick (.t 35) (.c (.bool true)) (.t 45), some (28, true)⟩, ⟨(some 47), .pick (.t 28) (.t 46) (.c (.bool false)), none⟩, ⟨(some 26), .set (.t 47), none⟩])
  (.cond (.t 26) (.region false [⟨(some 48), .mov (.t 5), none⟩, ⟨(some 49), .mov (.t 7), none⟩, ⟨(some 50), .bin .add .prim (.t 49) (.c (.int .i64 32)), none⟩, ⟨(some 51), .bslice true 1 [(.t 50)], none⟩, ⟨(some 52), .append 1 8 (.t 48) (.t 51), none⟩, ⟨(some 5), .set (.t 52), none⟩])
  (.seq (.region false [⟨(some 54), .mov (.t 1), none⟩, ⟨(some 55), .mov (.t 54), none⟩, ⟨(some 56), .mov (.t 7), some (55, true)⟩, ⟨(some 57), .bin .eql .prim (.t 56) (.c (.int .i64 223)), some (55, true)⟩, ⟨(some 58), .pick (.t 55) (.t 57) (.c (.bool false)), none⟩, ⟨(some 53), .set (.t 58), none⟩])
  (.cond (.t 53) (.region false [⟨(some 59), .mov (.t 5), none⟩, ⟨(some 60), .bslice true 1 [(.c (.int .i64 115)), (.c (.int .i64 115))], none⟩, ⟨(some 61), .append 1 8 (.t 59) (.t 60), none⟩, ⟨(some 5), .set (.t 61), none⟩])
  (.region false [⟨(some 18), .mov (.t 5), none⟩, ⟨(some 19), .mov (.t 7), none⟩, ⟨(some 20), .bslice true 1 [(.t 19)], none⟩, ⟨(some 21), .append 1 8 (.t 18) (.t 20), none⟩, ⟨(some 5), .set (.t 21), none⟩]))))))))))
  (.region false [⟨(some 12), .mov (.t 6), none⟩, ⟨(some 13), .bin .add .prim (.t 12) (.c (.int .i64 1)), none⟩, ⟨(some 6), .set (.t 13), none⟩])))
def f73 : AFun := ⟨2, 63, [.t 4], (.seq (.region false [⟨(some 4), .newnil 1, none⟩])
  (.seq (.region false [⟨(some 5), .newnil 1, none⟩])
  (.seq (.seq (.region false [⟨(some 6), .set (.c (.int .i64 0)), none⟩])
  (.block 0 (.loop f73l0)))
  (.seq (.region false [⟨(some 62), .mov (.t 5), none⟩, ⟨(some 4), .set (.t 62), none⟩])
  .ret))))⟩
theorem c73 : cfun Tryd.prog 73 = some f73 := by kernel_rfl
def f74 : AFun := ⟨2, 48, [.t 4], (.seq (.region false [⟨(some 4), .set (.c (.bool false)), none⟩])
  (.seq (.seq (.region false [⟨(some 5), .mov (.t 0), none⟩])
  (.block 0 (.seq (.region false [⟨(some 7), .bin .eql .prim (.t 5) (.c (.int .i64 1)), none⟩, ⟨(some 6), .set (.t 7), none⟩])
  (.cond (.t 6) (.seq (.region false [⟨(some 8), .call true 98 [], none⟩, ⟨(some 9), .mov (.t 1), none⟩, ⟨(some 10), .call true 96 [(.t 8), (.t 9)], none⟩, ⟨(some 11), .un .not (.t 10), none⟩, ⟨(some 12), .mov (.t 11), none⟩, ⟨(some 13), .bslice true 1 [(.c (.int .i64 32)), (.c (.int .i64 34)), (.c (.int .i64 38)), (.c (.int .i64 39)), (.c (.int .i64 47)), (.c (.int .i64 58)), (.c (.int .i64 60)), (.c (.int .i64 62)), (.c (.int .i64 64))], some (12, true)⟩, ⟨(some 14), .mov (.t 1), some (12, true)⟩, ⟨(some 15), .call true 99 [(.t 13), (.t 14)], some (12, true)⟩, ⟨(some 16), .un .not (.t 15), some (12, true)⟩, ⟨(some 17), .pick (.t 12) (.t 16) (.c (.bool false)), none⟩, ⟨(some 4), .set (.t 17), none⟩])
  .ret)
  (.seq (.region false [⟨(some 19), .bin .eql .prim (.t 5) (.c (.int .i64 2)), none⟩, ⟨(some 18), .set (.t 19), none⟩])
  (.cond (.t 18) (.seq (.region false [⟨(some 20), .mov (.t 1), none⟩, ⟨(some 21), .bin .geq .prim (.t 20) (.c (.int .i64 48)), none⟩, ⟨(some 22), .mov (.t 21), none⟩, ⟨(some 23), .mov (.t 1), some (22, true)⟩, ⟨(some 24), .bin .leq .prim (.t 23) (.c (.int .i64 57)), some (22, true)⟩, ⟨(some 25), .pick (.t 22) (.t 24) (.c (.bool false)), none⟩, ⟨(some 26), .mov (.t 25), none⟩, ⟨(some 27), .mov (.t 1), some (26, false)⟩, ⟨(some 28), .bin .eql .prim (.t 27) (.c (.int .i64 45)), some (26, false)⟩, ⟨(some 29), .pick (.t 26) (.c (.bool true)) (.t 28), none⟩, ⟨(some 30), .mov (.t 29), none⟩, ⟨(some 31), .mov (.t 1), some (30, false)⟩, ⟨(some 32), .bin .eql .prim (.t 31) (.c (.int .i64 46)), some (30, false)⟩, ⟨(some 33), .pick (.t 30) (.c (.bool true)) (.t 32), none⟩, ⟨(some 34), .mov (.t 33), none⟩, ⟨(some 35), .call true 100 [], some (34, false)⟩, ⟨(some 36), .mov (.t 1), some (34, false)⟩, ⟨(some 37), .call true 96 [(.t 35), (.t 36)], some (34, false)⟩, ⟨(some 38), .pick (.t 34) (.c (.bool true)) (.t 37), none⟩, ⟨(some 39), .mov (.t 38), none⟩, ⟨(some 40), .call true 101 [], some (39, false)⟩, ⟨(some 41), .mov (.t 1), some (39, false)⟩, ⟨(some 42), .call true 96 [(.t 40), (.t 41)], some (39, false)⟩, ⟨(some 43), .pick (.t 39) (.c (.bool true)) (.t 42), none⟩, ⟨(some 4), .set (.t 43), none⟩])
  .ret)
  .skip))))))
  (.seq (.region false [⟨(some 44), .call true 98 [], none⟩, ⟨(some 45), .mov (.t 1), none⟩, ⟨(some 46), .call true 96 [(.t 44), (.t 45)], none⟩, ⟨(some 47), .un .not (.t 46), none⟩, ⟨(some 4), .set (.t 47), none⟩])
  .ret)))⟩
theorem c74 : cfun Tryd.prog 74 = some f74 := by kernel_rfl
def f75l0 : ACode := (.seq (.seq (.region false [⟨(some 6), .mov (.t 5), none⟩, ⟨(some 7), .mov (.t 0), none⟩, ⟨(some 8), .len false (.t 7), none⟩, ⟨(some 9), .bin .lss .prim (.t 6) (.t 8), none⟩])
  (.cond (.t 9) .skip
  (.exit 0)))
  (.seq (.block 1 (.region true [⟨(some 12), .mov (.t 3), none⟩, ⟨(some 13), .mov (.t 12), none⟩, ⟨(some 14), .call false 101 [], some (13, false)⟩, ⟨(some 15), .mov (.t 0), some (13, false)⟩, ⟨(some 16), .mov (.t 5), some (13, false)⟩, ⟨(some 17), .iaddr 1 (.t 15) (.t 16), some (13, false)⟩, ⟨(some 18), .load none (.t 17), some (13, false)⟩, ⟨(some 19), .call false 96 [(.t 14), (.t 18)], some (13, false)⟩, ⟨(some 20), .pick (.t 13) (.c (.bool true)) (.t 19), none⟩, ⟨(some 21), .mov (.t 4), none⟩, ⟨(some 22), .mov (.t 21), none⟩, ⟨(some 23), .call false 100 [], some (22, false)⟩, ⟨(some 24), .mov (.t 0), some (22, false)⟩, ⟨(some 25), .mov (.t 5), some (22, false)⟩, ⟨(some 26), .iaddr 1 (.t 24) (.t 25), some (22, false)⟩, ⟨(some 27), .load none (.t 26), some (22, false)⟩, ⟨(some 28), .call false 96 [(.t 23), (.t 27)], some (22, false)⟩, ⟨(some 29), .pick (.t 22) (.c (.bool true)) (.t 28), none⟩, ⟨(some 3), .mov (.t 20), none⟩, ⟨(some 4), .mov (.t 29), none⟩]))
  (.region false [⟨(some 10), .mov (.t 5), none⟩, ⟨(some 11), .bin .add .prim (.t 10) (.c (.int .i64 1)), none⟩, ⟨(some 5), .set (.t 11), none⟩])))
def f75 : AFun := ⟨1, 53, [.t 2], (.seq (.region false [⟨(some 2), .set (.c (.bool false)), none⟩])
  (.seq (.region false [⟨(some 3), .set (.c (.bool false)), none⟩, ⟨(some 4), .set (.c (.bool false)), none⟩])
  (.seq (.seq (.region false [⟨(some 5), .set (.c (.int .i64 0)), none⟩])
  (.block 0 (.loop f75l0)))
  (.seq (.region true [⟨(some 30), .mov (.t 3), none⟩, ⟨(some 31), .un .not (.t 30), none⟩, ⟨(some 32), .mov (.t 31), none⟩, ⟨(some 33), .mov (.t 4), some (32, false)⟩, ⟨(some 34), .un .not (.t 33), some (32, false)⟩, ⟨(some 35), .mov (.t 34), some (32, false)⟩, ⟨(some 36), .call false 101 [], some (35, true)⟩, ⟨(some 37), .mov (.t 0), some (35, true)⟩, ⟨(some 38), .iaddr 1 (.t 37) (.c (.int .i64 0)), some (35, true)⟩, ⟨(some 39), .load none (.t 38), some (35, true)⟩, ⟨(some 40), .call false 96 [(.t 36), (.t 39)], some (35, true)⟩, ⟨(some 41), .pick (.t 35) (.t 40) (.c (.bool false)), some (32, false)⟩, ⟨(some 42), .mov (.t 41), some (32, false)⟩, ⟨(some 43), .call false 101 [], some (42, true)⟩, ⟨(some 44), .mov (.t 0), some (42, true)⟩, ⟨(some 45), .mov (.t 0), some (42, true)⟩, ⟨(some 46), .len false (.t 45), some (42, true)⟩, ⟨(some 47), .bin .sub .prim (.t 46) (.c (.int .i64 1)), some (42, true)⟩, ⟨(some 48), .iaddr 1 (.t 44) (.t 47), some (42, true)⟩, ⟨(some 49), .load none (.t 48), some (42, true)⟩, ⟨(some 50), .call false 96 [(.t 43), (.t 49)], some (42, true)⟩, ⟨(some 51), .pick (.t 42) (.t 50) (.c (.bool false)), some (32, false)⟩, ⟨(some 52), .pick (.t 32) (.c (.bool true)) (.t 51), none⟩, ⟨(some 2), .mov (.t 52), none⟩])
  .ret))))⟩
theorem c75 : cfun Tryd.prog 75 = some f75 := by kernel_rfl
def f76l0 : ACode := (.seq (.seq (.region false [⟨(some 5), .mov (.t 4), none⟩, ⟨(some 6), .mov (.t 0), none⟩, ⟨(some 7), .len false (.t 6), none⟩, ⟨(some 8), .bin .lss .prim (.t 5) (.t 7), none⟩])
  (.cond (.t 8) .skip
  (.exit 0)))
  (.seq (.block 1 (.region false [⟨(some 11), .mov (.t 3), none⟩, ⟨(some 12), .mov (.t 0), none⟩, ⟨(some 13), .mov (.t 4), none⟩, ⟨(some 14), .iaddr 1 (.t 12) (.t 13), none⟩, ⟨(some 15), .load none (.t 14), none⟩, ⟨(some 16), .call true 102 [(.t 15)], none⟩, ⟨(some 17), .bin .add .prim (.t 11) (.t 16), none⟩, ⟨(some 3), .set (.t 17), none⟩]))
  (.region false [⟨(some 9), .mov (.t 4), none⟩, ⟨(some 10), .bin .add .prim (.t 9) (.c (.int .i64 1)), none⟩, ⟨(some 4), .set (.t 10), none⟩])))
def f76 : AFun := ⟨1, 19, [.t 2], (.seq (.region false [⟨(some 2), .set (.c (.str [])), none⟩])
  (.seq (.region false [⟨(some 3), .set (.c (.str [])), none⟩])
  (.seq (.seq (.region false [⟨(some 4), .set (.c (.int .i64 0)), none⟩])
  (.block 0 (.loop f76l0)))
  (.seq (.region false [⟨(some 18), .mov (.t 3), none⟩, ⟨(some 2), .set (.t 18), none⟩])
  .ret))))⟩
theorem c76 : cfun Tryd.prog 76 = some f76 := by kernel_rfl
def f77l0 : ACode := (.seq (.region false [⟨(some 12), .bin .lss .prim (.t 11) (.t 10), none⟩])
  (.seq (.cond (.t 12) .skip
  (.exit 0))
  (.seq (.block 1 (.seq (.region false [⟨(some 13), .iaddr 2 (.t 9) (.t 11), none⟩, ⟨(some 14), .load (some 2) (.t 13), none⟩, ⟨(some 8), .alloc [(.int .i64 0), (.int .i64 0)], none⟩, ⟨none, .store true 2 (.t 8) (.t 14), none⟩])
  (.seq (.region false [⟨(some 15), .mov (.t 2), none⟩, ⟨(some 16), .load (some 2) (.t 8), none⟩, ⟨(some 17), .mov (.t 1), none⟩, ⟨(some 18), .callv true (.t 15) [(.t 16), (.t 17)], none⟩])
  (.cond (.t 18) (.seq (.region false [⟨(some 6), .set (.c (.bool true)), none⟩])
  .ret)
  .skip))))
  (.region false [⟨(some 19), .bin .add .prim (.t 11) (.c (.int .i64 1)), none⟩, ⟨(some 11), .mov (.t 19), none⟩]))))
def f77 : AFun := ⟨3, 20, [.t 6], (.seq (.region false [⟨(some 6), .set (.c (.bool false)), none⟩])
  (.seq (.seq (.region false [⟨(some 9), .mov (.t 0), none⟩, ⟨(some 10), .len false (.t 9), none⟩, ⟨(some 11), .mov (.c (.int .i64 0)), none⟩])
  (.block 0 (.loop f77l0)))
  (.seq (.region false [⟨(some 6), .set (.c (.bool false)), none⟩])
  .ret)))⟩
theorem c77 : cfun Tryd.prog 77 = some f77 := by kernel_rfl
def f78 : AFun := ⟨2, 15, [.t 4], (.seq (.region false [⟨(some 2), .box (.t 0), none⟩, ⟨(some 4), .set (.c (.bool false)), none⟩])
  (.seq (.region false [⟨(some 5), .mov (.t 1), none⟩, ⟨(some 6), .faddr 0 (.t 2), none⟩, ⟨(some 7), .load none (.t 6), none⟩, ⟨(some 8), .bin .geq .prim (.t 5) (.t 7), none⟩, ⟨(some 9), .mov (.t 8), none⟩, ⟨(some 10), .mov (.t 1), some (9, true)⟩, ⟨(some 11), .faddr 1 (.t 2), some (9, true)⟩, ⟨(some 12), .load none (.t 11), some (9, true)⟩, ⟨(some 13), .bin .leq .prim (.t 10) (.t 12), some (9, true)⟩, ⟨(some 14), .pick (.t 9) (.t 13) (.c (.bool false)), none⟩, ⟨(some 4), .set (.t 14), none⟩])
  .ret))⟩
theorem c78 : cfun Tryd.prog 78 = some f78 := by kernel_rfl
def f79 : AFun := ⟨1, 6, [.t 2], (.seq (.region false [⟨(some 2), .newnil 2, none⟩])
  (.seq (.region false [⟨(some 3), .mov (.t 0), none⟩, ⟨(some 4), .build [(.nils 1)] [(0, 1, (.t 3))], none⟩, ⟨(some 5), .call true 103 [(.t 4), (.c (.fn 104 []))], none⟩, ⟨(some 2), .set (.t 5), none⟩])
  .ret))⟩
theorem c79 : cfun Tryd.prog 79 = some f79 := by kernel_rfl
def f80 : AFun := ⟨0, 3, [.t 0], (.seq (.region false [⟨(some 0), .newnil 2, none⟩])
  (.seq (.region false [⟨(some 1), .bslice true 1 [(.c (.int .i64 173)), (.c (.int .i64 173)), (.c (.int .i64 847)), (.c (.int .i64 847)), (.c (.int .i64 6150)), (.c (.int .i64 6150)), (.c (.int .i64 8203)), (.c (.int .i64 8205)), (.c (.int .i64 8288)), (.c (.int .i64 8288)), (.c (.int .i64 65024)), (.c (.int .i64 65039)), (.c (.int .i64 65279)), (.c (.int .i64 65279))], none⟩, ⟨(some 2), .call true 79 [(.t 1)], none⟩, ⟨(some 0), .set (.t 2), none⟩])
  .ret))⟩
theorem c80 : cfun Tryd.prog 80 = some f80 := by kernel_rfl
def f93l0 : ACode := (.seq (.region false [⟨(some 9), .bin .lss .prim (.t 8) (.t 7), none⟩])
  (.seq (.cond (.t 9) .skip
  (.exit 0))
  (.seq (.block 1 (.seq (.region false [⟨(some 10), .mov (.t 8), none⟩, ⟨(some 5), .set (.t 10), none⟩])
  (.seq (.region false [⟨(some 11), .mov (.t 1), none⟩, ⟨(some 12), .mov (.t 0), none⟩, ⟨(some 13), .mov (.t 5), none⟩, ⟨(some 14), .iaddr 1 (.t 12) (.t 13), none⟩, ⟨(some 15), .load none (.t 14), none⟩, ⟨(some 16), .callv true (.t 11) [(.t 15)], none⟩])
  (.cond (.t 16) (.seq (.region false [⟨(some 17), .mov (.t 5), none⟩, ⟨(some 4), .set (.t 17), none⟩])
  .ret)
  .skip))))
  (.region false [⟨(some 18), .bin .add .prim (.t 8) (.c (.int .i64 1)), none⟩, ⟨(some 8), .mov (.t 18), none⟩]))))
def f93 : AFun := ⟨2, 19, [.t 4], (.seq (.region false [⟨(some 4), .set (.c (.int .i64 0)), none⟩])
  (.seq (.seq (.region false [⟨(some 6), .mov (.t 0), none⟩, ⟨(some 7), .len false (.t 6), none⟩, ⟨(some 8), .mov (.c (.int .i64 0)), none⟩])
  (.block 0 (.loop f93l0)))
  (.seq (.region false [⟨(some 4), .set (.c (.int .i64 (-1))), none⟩])
  .ret)))⟩
theorem c93 : cfun Tryd.prog 93 = some f93 := by kernel_rfl
def f94 : AFun := ⟨1, 6, [.t 2], (.seq (.region false [⟨(some 2), .set (.c (.bool false)), none⟩])
  (.seq (.region false [⟨(some 3), .call true 52 [], none⟩, ⟨(some 4), .mov (.t 0), none⟩, ⟨(some 5), .call true 50 [(.t 3), (.t 4)], none⟩, ⟨(some 2), .set (.t 5), none⟩])
  .ret))⟩
theorem c94 : cfun Tryd.prog 94 = some f94 := by kernel_rfl
def f95 : AFun := ⟨1, 6, [.t 2], (.seq (.region false [⟨(some 2), .set (.c (.bool false)), none⟩])
  (.seq (.region false [⟨(some 3), .call true 51 [], none⟩, ⟨(some 4), .mov (.t 0), none⟩, ⟨(some 5), .call true 50 [(.t 3), (.t 4)], none⟩, ⟨(some 2), .set (.t 5), none⟩])
  .ret))⟩
theorem c95 : cfun Tryd.prog 95 = some f95 := by kernel_rfl
def f96l0 : ACode := (.seq (.seq (.region false [⟨(some 6), .mov (.t 5), none⟩, ⟨(some 7), .mov (.t 0), none⟩, ⟨(some 8), .len false (.t 7), none⟩, ⟨(some 9), .bin .lss .prim (.t 6) (.t 8), none⟩])
  (.cond (.t 9) .skip
  (.exit 0)))
  (.seq (.block 1 (.seq (.region false [⟨(some 12), .mov (.t 1), none⟩, ⟨(some 13), .mov (.t 0), none⟩, ⟨(some 14), .mov (.t 5), none⟩, ⟨(some 15), .iaddr 2 (.t 13) (.t 14), none⟩, ⟨(some 16), .faddr 0 (.t 15), none⟩, ⟨(some 17), .load none (.t 16), none⟩, ⟨(some 18), .bin .geq .prim (.t 12) (.t 17), none⟩, ⟨(some 19), .mov (.t 18), none⟩, ⟨(some 20), .mov (.t 1), some (19, true)⟩, ⟨(some 21), .mov (.t 0), some (19, true)⟩, ⟨(some 22), .mov (.t 5), some (19, true)⟩, ⟨(some 23), .iaddr 2 (.t 21) (.t 22), some (19, true)⟩, ⟨(some 24), .faddr 1 (.t 23), some (19, true)⟩, ⟨(some 25), .load none (.t 24), some (19, true)⟩, ⟨(some 26), .bin .leq .prim (.t 20) (.t 25), some (19, true)⟩, ⟨(some 27), .pick (.t 19) (.t 26) (.c (.bool false)), none⟩])
  (.cond (.t 27) (.seq (.region false [⟨(some 4), .set (.c (.bool true)), none⟩])
  .ret)
  .skip)))
  (.region false [⟨(some 10), .mov (.t 5), none⟩, ⟨(some 11), .bin .add .prim (.t 10) (.c (.int .i64 1)), none⟩, ⟨(some 5), .set (.t 11), none⟩])))
def f96 : AFun := ⟨2, 28, [.t 4], (.seq (.region false [⟨(some 4), .set (.c (.bool false)), none⟩])
  (.seq (.seq (.region false [⟨(some 5), .set (.c (.int .i64 0)), none⟩])
  (.block 0 (.loop f96l0)))
  (.seq (.region false [⟨(some 4), .set (.c (.bool false)), none⟩])
  .ret)))⟩
theorem c96 : cfun Tryd.prog 96 = some f96 := by kernel_rfl
def f97 : AFun := ⟨0, 3, [.t 0], (.seq (.region false [⟨(some 0), .newnil 2, none⟩])
  (.seq (.region false [⟨(some 1), .bslice true 1 [(.c (.int .i64 173)), (.c (.int .i64 173)), (.c (.int .i64 847)), (.c (.int .i64 847)), (.c (.int .i64 6150)), (.c (.int .i64 6150)), (.c (.int .i64 8203)), (.c (.int .i64 8205)), (.c (.int .i64 8288)), (.c (.int .i64 8288)), (.c (.int .i64 65024)), (.c (.int .i64 65039)), (.c (.int .i64 65279)), (.c (.int .i64 65279))], none⟩, ⟨(some 2), .call true 111 [(.t 1)], none⟩, ⟨(some 0), .set (.t 2), none⟩])
  .ret))⟩
theorem c97 : cfun Tryd.prog 97 = some f97 := by kernel_rfl
def f98 : AFun := ⟨0, 3, [.t 0], (.seq (.region false [⟨(some 0), .newnil 2, none⟩])
  (.seq (.region false [⟨(some 1), .bslice true 1 [(.c (.int .i64 0)), (.c (.int .i64 31)), (.c (.int .i64 127)), (.c (.int .i64 160)), (.c (.int .i64 5760)), (.c (.int .i64 5760)), (.c (.int .i64 8192)), (.c (.int .i64 8202)), (.c (.int .i64 8232)), (.c (.int .i64 8239)), (.c (.int .i64 8287)), (.c (.int .i64 8287)), (.c (.int .i64 12288)), (.c (.int .i64 12288)), (.c (.int .i64 57344)), (.c (.int .i64 63743)), (.c (.int .i64 65533)), (.c (.int .i64 65535)), (.c (.int .i64 917504)), (.c (.int .i64 917631)), (.c (.int .i64 983040)), (.c (.int .i64 1114111))], none⟩, ⟨(some 2), .call true 111 [(.t 1)], none⟩, ⟨(some 0), .set (.t 2), none⟩])
  .ret))⟩
theorem c98 : cfun Tryd.prog 98 = some f98 := by kernel_rfl
def f99l0 : ACode := (.seq (.seq (.region false [⟨(some 6), .mov (.t 5), none⟩, ⟨(some 7), .mov (.t 0), none⟩, ⟨(some 8), .len false (.t 7), none⟩, ⟨(some 9), .bin .lss .prim (.t 6) (.t 8), none⟩])
  (.cond (.t 9) .skip
  (.exit 0)))
  (.seq (.block 1 (.seq (.region false [⟨(some 12), .mov (.t 0), none⟩, ⟨(some 13), .mov (.t 5), none⟩, ⟨(some 14), .iaddr 1 (.t 12) (.t 13), none⟩, ⟨(some 15), .load none (.t 14), none⟩, ⟨(some 16), .mov (.t 1), none⟩, ⟨(some 17), .bin .eql .prim (.t 15) (.t 16), none⟩])
  (.cond (.t 17) (.seq (.region false [⟨(some 4), .set (.c (.bool true)), none⟩])
  .ret)
  .skip)))
  (.region false [⟨(some 10), .mov (.t 5), none⟩, ⟨(some 11), .bin .add .prim (.t 10) (.c (.int .i64 1)), none⟩, ⟨(some 5), .set (.t 11), none⟩])))
def f99 : AFun := ⟨2, 18, [.t 4], (.seq (.region false [⟨(some 4), .set (.c (.bool false)), none⟩])
  (.seq (.seq (.region false [⟨(some 5), .set (.c (.int .i64 0)), none⟩])
  (.block 0 (.loop f99l0)))
  (.seq (.region false [⟨(some 4), .set (.c (.bool false)), none⟩])
  .ret)))⟩
theorem c99 : cfun Tryd.prog 99 = some f99 := by kernel_rfl
def f100 : AFun := ⟨0, 3, [.t 0], (.seq (.region false [⟨(some 0), .newnil 2, none⟩])
  (.seq (.region false [⟨(some 1), .bslice true 1 [(.c (.int .i64 65)), (.c (.int .i64 90)), (.c (.int .i64 97)), (.c (.int .i64 122)), (.c (.int .i64 192)), (.c (.int .i64 214)), (.c (.int .i64 216)), (.c (.int .i64 246)), (.c (.int .i64 248)), (.c (.int .i64 591)), (.c (.int .i64 880)), (.c (.int .i64 1327)), (.c (.int .i64 19968)), (.c (.int .i64 40959))], none⟩, ⟨(some 2), .call true 111 [(.t 1)], none⟩, ⟨(some 0), .set (.t 2), none⟩])
  .ret))⟩
theorem c100 : cfun Tryd.prog 100 = some f100 := by kernel_rfl
def f101 : AFun := ⟨0, 3, [.t 0], (.seq (.region false [⟨(some 0), .newnil 2, none⟩])
  (.seq (.region false [⟨(some 1), .bslice true 1 [(.c (.int .i64 1424)), (.c (.int .i64 1535)), (.c (.int .i64 1536)), (.c (.int .i64 1791)), (.c (.int .i64 64285)), (.c (.int .i64 64335))], none⟩, ⟨(some 2), .call true 111 [(.t 1)], none⟩, ⟨(some 0), .set (.t 2), none⟩])
  .ret))⟩
theorem c101 : cfun Tryd.prog 101 = some f101 := by kernel_rfl
def f102 : AFun := ⟨1, 7, [.t 2], (.seq (.region false [⟨(some 2), .set (.c (.str [])), none⟩])
  (.seq (.region false [⟨(some 3), .mov (.t 0), none⟩, ⟨(some 4), .conv (.int .i32) (.t 3), none⟩, ⟨(some 5), .bslice true 1 [(.t 4)], none⟩, ⟨(some 6), .conv .r2s (.t 5), none⟩, ⟨(some 2), .set (.t 6), none⟩])
  .ret))⟩
theorem c102 : cfun Tryd.prog 102 = some f102 := by kernel_rfl
def f103l0 : ACode := (.seq (.seq (.region false [⟨(some 9), .mov (.t 6), none⟩, ⟨(some 10), .len false (.t 9), none⟩, ⟨(some 11), .bin .gtr .prim (.t 10) (.c (.int .i64 1)), none⟩])
  (.cond (.t 11) .skip
  (.exit 0)))
  (.seq (.block 1 (.region true [⟨(some 14), .mov (.t 5), none⟩, ⟨(some 15), .mov (.t 1), none⟩, ⟨(some 16), .mov (.t 6), none⟩, ⟨(some 17), .iaddr 1 (.t 16) (.c (.int .i64 0)), none⟩, ⟨(some 18), .load none (.t 17), none⟩, ⟨(some 19), .mov (.t 6), none⟩, ⟨(some 20), .iaddr 1 (.t 19) (.c (.int .i64 1)), none⟩, ⟨(some 21), .load none (.t 20), none⟩, ⟨(some 22), .callv false (.t 15) [(.t 18), (.t 21)], none⟩, ⟨(some 23), .bslice false 2 [(.t 22)], none⟩, ⟨(some 24), .append 2 16 (.t 14) (.t 23), none⟩, ⟨(some 5), .mov (.t 24), none⟩]))
  (.region false [⟨(some 12), .mov (.t 6), none⟩, ⟨(some 13), .slice (some 1) (.t 12) (some (.c (.int .i64 2))) none, none⟩, ⟨(some 6), .set (.t 13), none⟩])))
def f103 : AFun := ⟨2, 26, [.t 4], (.seq (.region false [⟨(some 2), .box (.t 0), none⟩, ⟨(some 4), .newnil 2, none⟩])
  (.seq (.region false [⟨(some 5), .newnil 2, none⟩])
  (.seq (.seq (.region false [⟨(some 7), .faddr 0 (.t 2), none⟩, ⟨(some 8), .load none (.t 7), none⟩, ⟨(some 6), .set (.t 8), none⟩])
  (.block 0 (.loop f103l0)))
  (.seq (.region false [⟨(some 25), .mov (.t 5), none⟩, ⟨(some 4), .set (.t 25), none⟩])
  .ret))))⟩
theorem c103 : cfun Tryd.prog 103 = some f103 := by kernel_rfl
def f104 : AFun := ⟨2, 8, [.cell 4 (some 2)], (.seq (.region false [⟨(some 4), .alloc [(.int .i64 0), (.int .i64 0)], none⟩])
  (.seq (.region false [⟨(some 5), .mov (.t 0), none⟩, ⟨(some 6), .mov (.t 1), none⟩, ⟨(some 7), .build [(.int .i64 0), (.int .i64 0)] [(0, 1, (.t 5)), (1, 1, (.t 6))], none⟩, ⟨none, .store true 2 (.t 4) (.t 7), none⟩])
  .ret))⟩
theorem c104 : cfun Tryd.prog 104 = some f104 := by kernel_rfl
def f111l0 : ACode := (.seq (.seq (.region false [⟨(some 5), .mov (.t 4), none⟩, ⟨(some 6), .mov (.t 0), none⟩, ⟨(some 7), .len false (.t 6), none⟩, ⟨(some 8), .bin .lss .prim (.t 5) (.t 7), none⟩])
  (.cond (.t 8) .skip
  (.exit 0)))
  (.seq (.block 1 (.region true [⟨(some 11), .mov (.t 3), none⟩, ⟨(some 12), .mov (.t 0), none⟩, ⟨(some 13), .mov (.t 4), none⟩, ⟨(some 14), .iaddr 1 (.t 12) (.t 13), none⟩, ⟨(some 15), .load none (.t 14), none⟩, ⟨(some 16), .mov (.t 0), none⟩, ⟨(some 17), .mov (.t 4), none⟩, ⟨(some 18), .bin .add .prim (.t 17) (.c (.int .i64 1)), none⟩, ⟨(some 19), .iaddr 1 (.t 16) (.t 18), none⟩, ⟨(some 20), .load none (.t 19), none⟩, ⟨(some 21), .build [(.int .i64 0), (.int .i64 0)] [(0, 1, (.t 15)), (1, 1, (.t 20))], none⟩, ⟨(some 22), .bslice false 2 [(.t 21)], none⟩, ⟨(some 23), .append 2 16 (.t 11) (.t 22), none⟩, ⟨(some 3), .mov (.t 23), none⟩]))
  (.region false [⟨(some 9), .mov (.t 4), none⟩, ⟨(some 10), .bin .add .prim (.t 9) (.c (.int .i64 2)), none⟩, ⟨(some 4), .set (.t 10), none⟩])))
def f111 : AFun := ⟨1, 25, [.t 2], (.seq (.region false [⟨(some 2), .newnil 2, none⟩])
  (.seq (.region false [⟨(some 3), .newnil 2, none⟩])
  (.seq (.seq (.region false [⟨(some 4), .set (.c (.int .i64 0)), none⟩])
  (.block 0 (.loop f111l0)))
  (.seq (.region false [⟨(some 24), .mov (.t 3), none⟩, ⟨(some 2), .set (.t 24), none⟩])
  .ret))))⟩
theorem c111 : cfun Tryd.prog 111 = some f111 := by kernel_rfl
end Go.Proofs.Ut
