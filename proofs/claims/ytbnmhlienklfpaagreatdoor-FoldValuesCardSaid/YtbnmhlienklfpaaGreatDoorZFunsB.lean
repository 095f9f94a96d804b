/- The functions that the laws of fold reach beside, as texts of our small language. -/
import Derived.Test.YtbnmhlienklfpaaGreatDoorAiCode
import Derived.Test.YtbnmhlienklfpaaGreatDoorProg
import Derived.KernelRfl
set_option linter.all false
namespace Go.Proofs.Ut
open Go.Ai
set_option maxRecDepth 100000
def f3l0 : ACode := (.seq (.seq (.region false [⟨(some 19), .mov (.t 8), none⟩, ⟨(some 20), .mov (.t 0), none⟩, ⟨(some 21), .len false (.t 20), none⟩, ⟨(some 22), .bin .lss .prim (.t 19) (.t 21), none⟩])
  (.cond (.t 22) .skip
  (.exit 0)))
  (.seq (.block 1 (.region false [⟨(some 25), .mov (.t 7), none⟩, ⟨(some 26), .bin .add .prim (.t 25) (.c (.int .i64 3)), none⟩, ⟨(some 27), .mov (.t 0), none⟩, ⟨(some 28), .mov (.t 8), none⟩, ⟨(some 29), .iaddr 1 (.t 27) (.t 28), none⟩, ⟨(some 30), .load none (.t 29), none⟩, ⟨(some 31), .len true (.t 30), none⟩, ⟨(some 32), .bin .add .prim (.t 26) (.t 31), none⟩, ⟨(some 7), .set (.t 32), none⟩]))
  (.region false [⟨(some 23), .mov (.t 8), none⟩, ⟨(some 24), .bin .add .prim (.t 23) (.c (.int .i64 1)), none⟩, ⟨(some 8), .set (.t 24), none⟩])))
def f3 : AFun := ⟨3, 100, [.t 6], (.seq (.region false [⟨(some 6), .set (.c (.bool false)), none⟩])
  (.seq (.region false [⟨(some 17), .mov (.t 1), none⟩, ⟨(some 18), .len true (.t 17), none⟩, ⟨(some 7), .set (.t 18), none⟩])
  (.seq (.seq (.region false [⟨(some 8), .set (.c (.int .i64 0)), none⟩])
  (.block 0 (.loop f3l0)))
  (.seq (.seq (.region false [⟨(some 33), .mov (.t 7), none⟩, ⟨(some 34), .bin .gtr .prim (.t 33) (.c (.int .i64 3000)), none⟩])
  (.cond (.t 34) (.seq (.region false [⟨(some 35), .call true 6 [], none⟩, ⟨(some 6), .set (.t 35), none⟩])
  .ret)
  .skip))
  (.seq (.region false [⟨(some 37), .mov (.t 1), none⟩, ⟨(some 38), .call true 7 [(.t 37)], none⟩, ⟨(some 36), .mov (.t 38), none⟩, ⟨(some 39), .extr (.t 36) 0, none⟩, ⟨(some 40), .extr (.t 36) 1, none⟩, ⟨(some 9), .set (.t 39), none⟩, ⟨(some 10), .set (.t 40), none⟩])
  (.seq (.region false [⟨(some 42), .mov (.t 1), none⟩, ⟨(some 43), .call true 8 [(.t 42)], none⟩, ⟨(some 41), .mov (.t 43), none⟩, ⟨(some 44), .extr (.t 41) 0, none⟩, ⟨(some 45), .extr (.t 41) 1, none⟩, ⟨(some 11), .set (.t 44), none⟩, ⟨(some 12), .set (.t 45), none⟩])
  (.seq (.region false [⟨(some 47), .mov (.t 1), none⟩, ⟨(some 48), .call true 9 [(.t 47)], none⟩, ⟨(some 46), .mov (.t 48), none⟩, ⟨(some 49), .extr (.t 46) 0, none⟩, ⟨(some 50), .extr (.t 46) 1, none⟩, ⟨(some 13), .set (.t 49), none⟩, ⟨(some 14), .set (.t 50), none⟩])
  (.seq (.region false [⟨(some 52), .mov (.t 1), none⟩, ⟨(some 53), .call true 10 [(.t 52)], none⟩, ⟨(some 51), .mov (.t 53), none⟩, ⟨(some 54), .extr (.t 51) 0, none⟩, ⟨(some 55), .extr (.t 51) 1, none⟩, ⟨(some 15), .set (.t 54), none⟩, ⟨(some 16), .set (.t 55), none⟩])
  (.seq (.region false [⟨(some 56), .call true 6 [], none⟩, ⟨(some 57), .mov (.t 56), none⟩, ⟨(some 58), .mov (.t 0), some (57, true)⟩, ⟨(some 59), .call true 11 [(.t 58)], some (57, true)⟩, ⟨(some 60), .mov (.t 0), some (57, true)⟩, ⟨(some 61), .call true 12 [(.t 60)], some (57, true)⟩, ⟨(some 62), .bin .eql .prim (.t 59) (.t 61), some (57, true)⟩, ⟨(some 63), .pick (.t 57) (.t 62) (.c (.bool false)), none⟩, ⟨(some 64), .mov (.t 63), none⟩, ⟨(some 65), .mov (.t 9), some (64, true)⟩, ⟨(some 66), .mov (.t 11), some (64, true)⟩, ⟨(some 67), .call true 13 [(.t 65), (.t 66)], some (64, true)⟩, ⟨(some 68), .pick (.t 64) (.t 67) (.c (.bool false)), none⟩, ⟨(some 69), .mov (.t 68), none⟩, ⟨(some 70), .mov (.t 10), some (69, true)⟩, ⟨(some 71), .mov (.t 12), some (69, true)⟩, ⟨(some 72), .bin .eql .prim (.t 70) (.t 71), some (69, true)⟩, ⟨(some 73), .pick (.t 69) (.t 72) (.c (.bool false)), none⟩, ⟨(some 74), .mov (.t 73), none⟩, ⟨(some 75), .mov (.t 1), some (74, true)⟩, ⟨(some 76), .call true 14 [(.t 75)], some (74, true)⟩, ⟨(some 77), .mov (.t 1), some (74, true)⟩, ⟨(some 78), .call true 15 [(.t 77)], some (74, true)⟩, ⟨(some 79), .bin .eql .prim (.t 76) (.t 78), some (74, true)⟩, ⟨(some 80), .pick (.t 74) (.t 79) (.c (.bool false)), none⟩, ⟨(some 81), .mov (.t 80), none⟩, ⟨(some 82), .mov (.t 13), some (81, true)⟩, ⟨(some 83), .mov (.t 15), some (81, true)⟩, ⟨(some 84), .bin .eql .prim (.t 82) (.t 83), some (81, true)⟩, ⟨(some 85), .pick (.t 81) (.t 84) (.c (.bool false)), none⟩, ⟨(some 86), .mov (.t 85), none⟩, ⟨(some 87), .mov (.t 14), some (86, true)⟩, ⟨(some 88), .mov (.t 16), some (86, true)⟩, ⟨(some 89), .bin .eql .prim (.t 87) (.t 88), some (86, true)⟩, ⟨(some 90), .pick (.t 86) (.t 89) (.c (.bool false)), none⟩, ⟨(some 91), .mov (.t 90), none⟩, ⟨(some 92), .mov (.t 1), some (91, true)⟩, ⟨(some 93), .mov (.t 2), some (91, true)⟩, ⟨(some 94), .call true 16 [(.t 92), (.t 93)], some (91, true)⟩, ⟨(some 95), .mov (.t 1), some (91, true)⟩, ⟨(some 96), .mov (.t 2), some (91, true)⟩, ⟨(some 97), .call true 17 [(.t 95), (.t 96)], some (91, true)⟩, ⟨(some 98), .call true 13 [(.t 94), (.t 97)], some (91, true)⟩, ⟨(some 99), .pick (.t 91) (.t 98) (.c (.bool false)), none⟩, ⟨(some 6), .set (.t 99), none⟩])
  .ret)))))))))⟩
theorem c3 : cfun Tryz.prog 3 = some f3 := by kernel_rfl
def f4l0 : ACode := (.seq (.seq (.region false [⟨(some 37), .mov (.t 11), none⟩, ⟨(some 38), .mov (.t 0), none⟩, ⟨(some 39), .mov (.t 8), none⟩, ⟨(some 40), .iaddr 1 (.t 38) (.t 39), none⟩, ⟨(some 41), .load none (.t 40), none⟩, ⟨(some 42), .len true (.t 41), none⟩, ⟨(some 43), .bin .lss .prim (.t 37) (.t 42), none⟩])
  (.cond (.t 43) .skip
  (.exit 2)))
  (.seq (.block 3 (.seq (.region false [⟨(some 46), .mov (.t 0), none⟩, ⟨(some 47), .mov (.t 8), none⟩, ⟨(some 48), .iaddr 1 (.t 46) (.t 47), none⟩, ⟨(some 49), .load none (.t 48), none⟩, ⟨(some 50), .mov (.t 11), none⟩, ⟨(some 51), .sidx (.t 49) (.t 50), none⟩, ⟨(some 52), .bin .neq .prim (.t 51) (.c (.int .u8 13)), none⟩])
  (.cond (.t 52) (.region false [⟨(some 53), .mov (.t 10), none⟩, ⟨(some 54), .mov (.t 0), none⟩, ⟨(some 55), .mov (.t 8), none⟩, ⟨(some 56), .iaddr 1 (.t 54) (.t 55), none⟩, ⟨(some 57), .load none (.t 56), none⟩, ⟨(some 58), .mov (.t 11), none⟩, ⟨(some 59), .mov (.t 11), none⟩, ⟨(some 60), .bin .add .prim (.t 59) (.c (.int .i64 1)), none⟩, ⟨(some 61), .slice none (.t 57) (some (.t 58)) (some (.t 60)), none⟩, ⟨(some 62), .bin .add .prim (.t 53) (.t 61), none⟩, ⟨(some 10), .set (.t 62), none⟩])
  .skip)))
  (.region false [⟨(some 44), .mov (.t 11), none⟩, ⟨(some 45), .bin .add .prim (.t 44) (.c (.int .i64 1)), none⟩, ⟨(some 11), .set (.t 45), none⟩])))
def f4l1 : ACode := (.seq (.seq (.region false [⟨(some 15), .mov (.t 8), none⟩, ⟨(some 16), .mov (.t 0), none⟩, ⟨(some 17), .len false (.t 16), none⟩, ⟨(some 18), .bin .lss .prim (.t 15) (.t 17), none⟩, ⟨(some 19), .mov (.t 18), none⟩, ⟨(some 20), .mov (.t 8), some (19, true)⟩, ⟨(some 21), .bin .lss .prim (.t 20) (.c (.int .i64 10)), some (19, true)⟩, ⟨(some 22), .pick (.t 19) (.t 21) (.c (.bool false)), none⟩])
  (.cond (.t 22) .skip
  (.exit 0)))
  (.seq (.block 1 (.seq (.seq (.region false [⟨(some 25), .mov (.t 0), none⟩, ⟨(some 26), .mov (.t 8), none⟩, ⟨(some 27), .iaddr 1 (.t 25) (.t 26), none⟩, ⟨(some 28), .load none (.t 27), none⟩, ⟨(some 29), .len true (.t 28), none⟩, ⟨(some 30), .bin .gtr .prim (.t 29) (.c (.int .i64 100)), none⟩])
  (.cond (.t 30) (.seq (.region false [⟨(some 31), .call true 6 [], none⟩, ⟨(some 4), .set (.t 31), none⟩])
  .ret)
  .skip))
  (.seq (.region false [⟨(some 32), .mov (.t 0), none⟩, ⟨(some 33), .mov (.t 8), none⟩, ⟨(some 34), .iaddr 1 (.t 32) (.t 33), none⟩, ⟨(some 35), .load none (.t 34), none⟩, ⟨(some 36), .call true 14 [(.t 35)], none⟩, ⟨(some 9), .set (.t 36), none⟩])
  (.seq (.region false [⟨(some 10), .set (.c (.str [])), none⟩])
  (.seq (.seq (.region false [⟨(some 11), .set (.c (.int .i64 0)), none⟩])
  (.block 2 (.loop f4l0)))
  (.seq (.seq (.region false [⟨(some 63), .mov (.t 8), none⟩, ⟨(some 64), .bin .gtr .prim (.t 63) (.c (.int .i64 0)), none⟩])
  (.cond (.t 64) (.region false [⟨(some 65), .mov (.t 6), none⟩, ⟨(some 66), .mov (.t 5), none⟩, ⟨(some 67), .bslice true 1 [(.t 66)], none⟩, ⟨(some 68), .conv .b2s (.t 67), none⟩, ⟨(some 69), .bin .add .prim (.t 65) (.t 68), none⟩, ⟨(some 6), .set (.t 69), none⟩])
  .skip))
  (.seq (.region false [⟨(some 70), .mov (.t 6), none⟩, ⟨(some 71), .mov (.t 9), none⟩, ⟨(some 72), .bin .add .prim (.t 70) (.t 71), none⟩, ⟨(some 73), .mov (.t 7), none⟩, ⟨(some 74), .mov (.t 9), none⟩, ⟨(some 75), .bslice true 1 [(.t 74)], none⟩, ⟨(some 76), .append 1 16 (.t 73) (.t 75), none⟩, ⟨(some 6), .set (.t 72), none⟩, ⟨(some 7), .set (.t 76), none⟩])
  (.seq (.region false [⟨(some 78), .mov (.t 9), none⟩, ⟨(some 79), .call true 9 [(.t 78)], none⟩, ⟨(some 77), .mov (.t 79), none⟩, ⟨(some 80), .extr (.t 77) 0, none⟩, ⟨(some 81), .extr (.t 77) 1, none⟩, ⟨(some 12), .set (.t 80), none⟩, ⟨(some 13), .set (.t 81), none⟩])
  (.seq (.region false [⟨(some 82), .mov (.t 13), none⟩, ⟨(some 83), .bin .neq .prim (.t 82) (.c (.int .i64 0)), none⟩, ⟨(some 84), .mov (.t 83), none⟩, ⟨(some 85), .mov (.t 12), some (84, false)⟩, ⟨(some 86), .mov (.t 10), some (84, false)⟩, ⟨(some 87), .bin .neq .prim (.t 85) (.t 86), some (84, false)⟩, ⟨(some 88), .pick (.t 84) (.c (.bool true)) (.t 87), none⟩])
  (.cond (.t 88) (.seq (.region false [⟨(some 4), .set (.c (.bool false)), none⟩])
  .ret)
  .skip))))))))))
  (.region false [⟨(some 23), .mov (.t 8), none⟩, ⟨(some 24), .bin .add .prim (.t 23) (.c (.int .i64 1)), none⟩, ⟨(some 8), .set (.t 24), none⟩])))
def f4t : ACode := (.seq (.region false [⟨(some 6), .set (.c (.str [])), none⟩])
  (.seq (.region false [⟨(some 7), .newnil 1, none⟩])
  (.seq (.seq (.region false [⟨(some 8), .set (.c (.int .i64 0)), none⟩])
  (.block 0 (.loop f4l1)))
  (.seq (.seq (.region false [⟨(some 89), .mov (.t 7), none⟩, ⟨(some 90), .len false (.t 89), none⟩, ⟨(some 91), .bin .eql .prim (.t 90) (.c (.int .i64 0)), none⟩])
  (.cond (.t 91) (.region false [⟨(some 92), .bslice true 1 [(.c (.str []))], none⟩, ⟨(some 7), .set (.t 92), none⟩])
  .skip))
  (.seq (.region false [⟨(some 93), .call true 6 [], none⟩, ⟨(some 94), .mov (.t 93), none⟩, ⟨(some 95), .mov (.t 6), some (94, true)⟩, ⟨(some 96), .mov (.t 5), some (94, true)⟩, ⟨(some 97), .call true 16 [(.t 95), (.t 96)], some (94, true)⟩, ⟨(some 98), .mov (.t 7), some (94, true)⟩, ⟨(some 99), .call true 13 [(.t 97), (.t 98)], some (94, true)⟩, ⟨(some 100), .pick (.t 94) (.t 99) (.c (.bool false)), none⟩, ⟨(some 4), .set (.t 100), none⟩])
  .ret)))))
def f4 : AFun := ⟨2, 101, [.t 4], (.seq (.region false [⟨(some 4), .set (.c (.bool false)), none⟩])
  (.seq (.region false [⟨(some 5), .set (.c (.int .u8 59)), none⟩])
  (.seq (.seq (.region false [⟨(some 14), .mov (.t 1), none⟩])
  (.cond (.t 14) (.region false [⟨(some 5), .set (.c (.int .u8 44)), none⟩])
  .skip))
  f4t)))⟩
theorem c4 : cfun Tryz.prog 4 = some f4 := by kernel_rfl
def f6 : AFun := ⟨0, 38, [.t 0], (.seq (.region false [⟨(some 0), .set (.c (.bool false)), none⟩])
  (.seq (.region false [⟨(some 6), .call true 7 [(.c (.str [97, 13, 10, 32, 98, 13, 10]))], none⟩, ⟨(some 5), .mov (.t 6), none⟩, ⟨(some 7), .extr (.t 5) 0, none⟩, ⟨(some 8), .extr (.t 5) 1, none⟩, ⟨(some 1), .set (.t 7), none⟩, ⟨(some 2), .set (.t 8), none⟩])
  (.seq (.region false [⟨(some 10), .call true 9 [(.c (.str [97, 92, 44, 98]))], none⟩, ⟨(some 9), .mov (.t 10), none⟩, ⟨(some 11), .extr (.t 9) 0, none⟩, ⟨(some 12), .extr (.t 9) 1, none⟩, ⟨(some 3), .set (.t 11), none⟩, ⟨(some 4), .set (.t 12), none⟩])
  (.seq (.region false [⟨(some 13), .mov (.t 2), none⟩, ⟨(some 14), .bin .eql .prim (.t 13) (.c (.int .i64 0)), none⟩, ⟨(some 15), .mov (.t 14), none⟩, ⟨(some 16), .mov (.t 1), some (15, true)⟩, ⟨(some 17), .bslice true 1 [(.c (.str [97, 98]))], some (15, true)⟩, ⟨(some 18), .call true 13 [(.t 16), (.t 17)], some (15, true)⟩, ⟨(some 19), .pick (.t 15) (.t 18) (.c (.bool false)), none⟩, ⟨(some 20), .mov (.t 19), none⟩, ⟨(some 21), .mov (.t 4), some (20, true)⟩, ⟨(some 22), .bin .eql .prim (.t 21) (.c (.int .i64 0)), some (20, true)⟩, ⟨(some 23), .pick (.t 20) (.t 22) (.c (.bool false)), none⟩, ⟨(some 24), .mov (.t 23), none⟩, ⟨(some 25), .mov (.t 3), some (24, true)⟩, ⟨(some 26), .bin .eql .prim (.t 25) (.c (.str [97, 44, 98])), some (24, true)⟩, ⟨(some 27), .pick (.t 24) (.t 26) (.c (.bool false)), none⟩, ⟨(some 28), .mov (.t 27), none⟩, ⟨(some 29), .bslice true 1 [(.c (.str [120]))], some (28, true)⟩, ⟨(some 30), .call true 11 [(.t 29)], some (28, true)⟩, ⟨(some 31), .bin .eql .prim (.t 30) (.c (.str [120, 13, 10])), some (28, true)⟩, ⟨(some 32), .pick (.t 28) (.t 31) (.c (.bool false)), none⟩, ⟨(some 33), .mov (.t 32), none⟩, ⟨(some 34), .call true 16 [(.c (.str [97, 59, 98])), (.c (.int .u8 59))], some (33, true)⟩, ⟨(some 35), .len false (.t 34), some (33, true)⟩, ⟨(some 36), .bin .eql .prim (.t 35) (.c (.int .i64 2)), some (33, true)⟩, ⟨(some 37), .pick (.t 33) (.t 36) (.c (.bool false)), none⟩, ⟨(some 0), .set (.t 37), none⟩])
  .ret))))⟩
theorem c6 : cfun Tryz.prog 6 = some f6 := by kernel_rfl
end Go.Proofs.Ut
