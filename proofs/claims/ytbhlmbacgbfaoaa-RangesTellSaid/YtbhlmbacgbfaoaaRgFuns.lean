/- The functions that these laws reach, as texts of our small language. -/
import Derived.Test.YtbhlmbacgbfaoaaAiCode
import Derived.Test.YtbhlmbacgbfaoaaProg
import Derived.KernelRfl
set_option linter.all false
namespace Go.Proofs.Rg
open Go.Ai
set_option maxRecDepth 100000
def f3 : AFun := ⟨3, 62, [.t 6], (.seq (.region false [⟨(some 6), .set (.c (.bool false)), none⟩])
  (.seq (.seq (.region false [⟨(some 9), .mov (.t 0), none⟩, ⟨(some 10), .len false (.t 9), none⟩, ⟨(some 11), .bin .gtr .prim (.t 10) (.c (.int .i64 100)), none⟩, ⟨(some 12), .mov (.t 11), none⟩, ⟨(some 13), .mov (.t 1), some (12, false)⟩, ⟨(some 14), .len false (.t 13), some (12, false)⟩, ⟨(some 15), .bin .gtr .prim (.t 14) (.c (.int .i64 100)), some (12, false)⟩, ⟨(some 16), .pick (.t 12) (.c (.bool true)) (.t 15), none⟩])
  (.cond (.t 16) (.seq (.region false [⟨(some 17), .call true 7 [], none⟩, ⟨(some 6), .set (.t 17), none⟩])
  .ret)
  .skip))
  (.seq (.region false [⟨(some 18), .mov (.t 0), none⟩, ⟨(some 19), .build [(.int .i64 0), (.int .i64 0)] [(0, 1, (.c (.int .i64 71)))], none⟩, ⟨(some 20), .call true 8 [(.t 18), (.t 19)], none⟩, ⟨(some 21), .mov (.t 1), none⟩, ⟨(some 22), .build [(.int .i64 0), (.int .i64 0)] [(0, 1, (.c (.int .i64 72)))], none⟩, ⟨(some 23), .call true 8 [(.t 21), (.t 22)], none⟩, ⟨(some 7), .set (.t 20), none⟩, ⟨(some 8), .set (.t 23), none⟩])
  (.seq (.region false [⟨(some 24), .call true 7 [], none⟩, ⟨(some 25), .mov (.t 24), none⟩, ⟨(some 26), .mov (.t 7), some (25, true)⟩, ⟨(some 27), .call true 9 [(.t 26)], some (25, true)⟩, ⟨(some 28), .mov (.t 0), some (25, true)⟩, ⟨(some 29), .call true 10 [(.t 28)], some (25, true)⟩, ⟨(some 30), .bin .eql .bool (.t 27) (.t 29), some (25, true)⟩, ⟨(some 31), .pick (.t 25) (.t 30) (.c (.bool false)), none⟩, ⟨(some 32), .mov (.t 31), none⟩, ⟨(some 33), .mov (.t 7), some (32, true)⟩, ⟨(some 34), .mov (.t 2), some (32, true)⟩, ⟨(some 35), .call true 11 [(.t 33), (.t 34)], some (32, true)⟩, ⟨(some 36), .mov (.t 0), some (32, true)⟩, ⟨(some 37), .mov (.t 2), some (32, true)⟩, ⟨(some 38), .call true 12 [(.t 36), (.t 37)], some (32, true)⟩, ⟨(some 39), .bin .eql .bool (.t 35) (.t 38), some (32, true)⟩, ⟨(some 40), .pick (.t 32) (.t 39) (.c (.bool false)), none⟩, ⟨(some 41), .mov (.t 40), none⟩, ⟨(some 42), .mov (.t 7), some (41, true)⟩, ⟨(some 43), .mov (.t 8), some (41, true)⟩, ⟨(some 44), .call true 14 [(.t 42), (.t 43)], some (41, true)⟩, ⟨(some 45), .mov (.t 0), some (41, true)⟩, ⟨(some 46), .mov (.t 1), some (41, true)⟩, ⟨(some 47), .call true 15 [(.t 45), (.t 46)], some (41, true)⟩, ⟨(some 48), .call true 13 [(.t 44), (.t 47)], some (41, true)⟩, ⟨(some 49), .pick (.t 41) (.t 48) (.c (.bool false)), none⟩, ⟨(some 50), .mov (.t 49), none⟩, ⟨(some 51), .mov (.t 7), some (50, true)⟩, ⟨(some 52), .mov (.t 0), some (50, true)⟩, ⟨(some 53), .build [(.int .i64 0), (.int .i64 0)] [(0, 1, (.c (.int .i64 71)))], some (50, true)⟩, ⟨(some 54), .call true 16 [(.t 51), (.t 52), (.t 53)], some (50, true)⟩, ⟨(some 55), .pick (.t 50) (.t 54) (.c (.bool false)), none⟩, ⟨(some 56), .mov (.t 55), none⟩, ⟨(some 57), .mov (.t 8), some (56, true)⟩, ⟨(some 58), .mov (.t 1), some (56, true)⟩, ⟨(some 59), .build [(.int .i64 0), (.int .i64 0)] [(0, 1, (.c (.int .i64 72)))], some (56, true)⟩, ⟨(some 60), .call true 16 [(.t 57), (.t 58), (.t 59)], some (56, true)⟩, ⟨(some 61), .pick (.t 56) (.t 60) (.c (.bool false)), none⟩, ⟨(some 6), .set (.t 61), none⟩])
  .ret))))⟩
theorem c3 : cfun Try.prog 3 = some f3 := by kernel_rfl
def f4l0 : ACode := (.seq (.seq (.region false [⟨(some 32), .mov (.t 8), none⟩, ⟨(some 33), .mov (.t 7), none⟩, ⟨(some 34), .len false (.t 33), none⟩, ⟨(some 35), .bin .lss .prim (.t 32) (.t 34), none⟩])
  (.cond (.t 35) .skip
  (.exit 0)))
  (.seq (.block 1 (.seq (.region true [⟨(some 38), .mov (.t 7), none⟩, ⟨(some 39), .mov (.t 8), none⟩, ⟨(some 40), .iaddr 2 (.t 38) (.t 39), none⟩, ⟨(some 41), .faddr 0 (.t 40), none⟩, ⟨(some 42), .load none (.t 41), none⟩, ⟨(some 43), .mov (.t 7), none⟩, ⟨(some 44), .mov (.t 8), none⟩, ⟨(some 45), .bin .sub .prim (.t 44) (.c (.int .i64 1)), none⟩, ⟨(some 46), .iaddr 2 (.t 43) (.t 45), none⟩, ⟨(some 47), .faddr 1 (.t 46), none⟩, ⟨(some 48), .load none (.t 47), none⟩, ⟨(some 49), .bin .add .prim (.t 48) (.c (.int .i64 1)), none⟩, ⟨(some 50), .bin .eql .prim (.t 42) (.t 49), none⟩])
  (.cond (.t 50) (.seq (.region false [⟨(some 4), .set (.c (.bool false)), none⟩])
  .ret)
  .skip)))
  (.region false [⟨(some 36), .mov (.t 8), none⟩, ⟨(some 37), .bin .add .prim (.t 36) (.c (.int .i64 1)), none⟩, ⟨(some 8), .set (.t 37), none⟩])))
def f4l1 : ACode := (.seq (.seq (.region false [⟨(some 51), .mov (.t 9), none⟩, ⟨(some 52), .bin .lss .prim (.t 51) (.c (.int .i64 400)), none⟩])
  (.cond (.t 52) .skip
  (.exit 2)))
  (.seq (.block 3 (.seq (.region false [⟨(some 55), .mov (.t 7), none⟩, ⟨(some 56), .mov (.t 9), none⟩, ⟨(some 57), .call true 11 [(.t 55), (.t 56)], none⟩, ⟨(some 58), .mov (.t 5), none⟩, ⟨(some 59), .mov (.t 9), none⟩, ⟨(some 60), .call true 11 [(.t 58), (.t 59)], none⟩, ⟨(some 61), .mov (.t 60), none⟩, ⟨(some 62), .mov (.t 6), some (61, false)⟩, ⟨(some 63), .mov (.t 9), some (61, false)⟩, ⟨(some 64), .call true 11 [(.t 62), (.t 63)], some (61, false)⟩, ⟨(some 65), .pick (.t 61) (.c (.bool true)) (.t 64), none⟩, ⟨(some 66), .bin .neq .bool (.t 57) (.t 65), none⟩])
  (.cond (.t 66) (.seq (.region false [⟨(some 4), .set (.c (.bool false)), none⟩])
  .ret)
  .skip)))
  (.region false [⟨(some 53), .mov (.t 9), none⟩, ⟨(some 54), .bin .add .prim (.t 53) (.c (.int .i64 1)), none⟩, ⟨(some 9), .set (.t 54), none⟩])))
def f4 : AFun := ⟨2, 67, [.t 4], (.seq (.region false [⟨(some 4), .set (.c (.bool false)), none⟩])
  (.seq (.region false [⟨(some 10), .mov (.t 0), none⟩, ⟨(some 11), .call true 17 [(.t 10)], none⟩, ⟨(some 12), .mov (.t 1), none⟩, ⟨(some 13), .call true 17 [(.t 12)], none⟩, ⟨(some 5), .set (.t 11), none⟩, ⟨(some 6), .set (.t 13), none⟩])
  (.seq (.region false [⟨(some 14), .mov (.t 5), none⟩, ⟨(some 15), .mov (.t 6), none⟩, ⟨(some 16), .call true 14 [(.t 14), (.t 15)], none⟩, ⟨(some 7), .set (.t 16), none⟩])
  (.seq (.seq (.region false [⟨(some 17), .call true 7 [], none⟩, ⟨(some 18), .un .not (.t 17), none⟩, ⟨(some 19), .mov (.t 18), none⟩, ⟨(some 20), .mov (.t 7), some (19, false)⟩, ⟨(some 21), .call true 9 [(.t 20)], some (19, false)⟩, ⟨(some 22), .un .not (.t 21), some (19, false)⟩, ⟨(some 23), .pick (.t 19) (.c (.bool true)) (.t 22), none⟩, ⟨(some 24), .mov (.t 23), none⟩, ⟨(some 25), .mov (.t 7), some (24, false)⟩, ⟨(some 26), .mov (.t 6), some (24, false)⟩, ⟨(some 27), .mov (.t 5), some (24, false)⟩, ⟨(some 28), .call true 14 [(.t 26), (.t 27)], some (24, false)⟩, ⟨(some 29), .call true 13 [(.t 25), (.t 28)], some (24, false)⟩, ⟨(some 30), .un .not (.t 29), some (24, false)⟩, ⟨(some 31), .pick (.t 24) (.c (.bool true)) (.t 30), none⟩])
  (.cond (.t 31) (.seq (.region false [⟨(some 4), .set (.c (.bool false)), none⟩])
  .ret)
  .skip))
  (.seq (.seq (.region false [⟨(some 8), .set (.c (.int .i64 1)), none⟩])
  (.block 0 (.loop f4l0)))
  (.seq (.seq (.region false [⟨(some 9), .set (.c (.int .i64 0)), none⟩])
  (.block 2 (.loop f4l1)))
  (.seq (.region false [⟨(some 4), .set (.c (.bool true)), none⟩])
  .ret)))))))⟩
theorem c4 : cfun Try.prog 4 = some f4 := by kernel_rfl
def f5 : AFun := ⟨2, 105, [.t 4], (.seq (.region false [⟨(some 4), .set (.c (.bool false)), none⟩])
  (.seq (.region false [⟨(some 8), .mov (.t 0), none⟩, ⟨(some 9), .conv (.int .u64) (.t 8), none⟩, ⟨(some 10), .bin .rem .prim (.t 9) (.c (.int .u64 1000)), none⟩, ⟨(some 11), .conv (.int .i64) (.t 10), none⟩, ⟨(some 12), .mov (.t 1), none⟩, ⟨(some 13), .conv (.int .u64) (.t 12), none⟩, ⟨(some 14), .bin .rem .prim (.t 13) (.c (.int .u64 50)), none⟩, ⟨(some 15), .conv (.int .i64) (.t 14), none⟩, ⟨(some 0), .set (.t 11), none⟩, ⟨(some 1), .set (.t 15), none⟩])
  (.seq (.region false [⟨(some 16), .mov (.t 0), none⟩, ⟨(some 17), .mov (.t 0), none⟩, ⟨(some 18), .mov (.t 1), none⟩, ⟨(some 19), .bin .add .prim (.t 17) (.t 18), none⟩, ⟨(some 20), .build [(.int .i64 0), (.int .i64 0)] [(0, 1, (.t 16)), (1, 1, (.t 19))], none⟩, ⟨(some 21), .bslice true 2 [(.t 20)], none⟩, ⟨(some 5), .set (.t 21), none⟩])
  (.seq (.region false [⟨(some 22), .mov (.t 0), none⟩, ⟨(some 23), .bin .add .prim (.t 22) (.c (.int .i64 1)), none⟩, ⟨(some 24), .mov (.t 0), none⟩, ⟨(some 25), .build [(.int .i64 0), (.int .i64 0)] [(0, 1, (.t 23)), (1, 1, (.t 24))], none⟩, ⟨(some 26), .bslice true 2 [(.t 25)], none⟩, ⟨(some 6), .set (.t 26), none⟩])
  (.seq (.region false [⟨(some 27), .mov (.t 0), none⟩, ⟨(some 28), .mov (.t 0), none⟩, ⟨(some 29), .mov (.t 1), none⟩, ⟨(some 30), .bin .add .prim (.t 28) (.t 29), none⟩, ⟨(some 31), .build [(.int .i64 0), (.int .i64 0)] [(0, 1, (.t 27)), (1, 1, (.t 30))], none⟩, ⟨(some 32), .mov (.t 0), none⟩, ⟨(some 33), .mov (.t 1), none⟩, ⟨(some 34), .bin .add .prim (.t 32) (.t 33), none⟩, ⟨(some 35), .mov (.t 0), none⟩, ⟨(some 36), .mov (.t 1), none⟩, ⟨(some 37), .bin .add .prim (.t 35) (.t 36), none⟩, ⟨(some 38), .build [(.int .i64 0), (.int .i64 0)] [(0, 1, (.t 34)), (1, 1, (.t 37))], none⟩, ⟨(some 39), .bslice true 2 [(.t 31), (.t 38)], none⟩, ⟨(some 7), .set (.t 39), none⟩])
  (.seq (.region false [⟨(some 40), .call true 7 [], none⟩, ⟨(some 41), .mov (.t 40), none⟩, ⟨(some 42), .mov (.t 5), some (41, true)⟩, ⟨(some 43), .mov (.t 0), some (41, true)⟩, ⟨(some 44), .call true 11 [(.t 42), (.t 43)], some (41, true)⟩, ⟨(some 45), .pick (.t 41) (.t 44) (.c (.bool false)), none⟩, ⟨(some 46), .mov (.t 45), none⟩, ⟨(some 47), .mov (.t 5), some (46, true)⟩, ⟨(some 48), .mov (.t 0), some (46, true)⟩, ⟨(some 49), .mov (.t 1), some (46, true)⟩, ⟨(some 50), .bin .add .prim (.t 48) (.t 49), some (46, true)⟩, ⟨(some 51), .call true 11 [(.t 47), (.t 50)], some (46, true)⟩, ⟨(some 52), .pick (.t 46) (.t 51) (.c (.bool false)), none⟩, ⟨(some 53), .mov (.t 52), none⟩, ⟨(some 54), .mov (.t 5), some (53, true)⟩, ⟨(some 55), .mov (.t 0), some (53, true)⟩, ⟨(some 56), .bin .sub .prim (.t 55) (.c (.int .i64 1)), some (53, true)⟩, ⟨(some 57), .call true 11 [(.t 54), (.t 56)], some (53, true)⟩, ⟨(some 58), .un .not (.t 57), some (53, true)⟩, ⟨(some 59), .pick (.t 53) (.t 58) (.c (.bool false)), none⟩, ⟨(some 60), .mov (.t 59), none⟩, ⟨(some 61), .mov (.t 5), some (60, true)⟩, ⟨(some 62), .mov (.t 0), some (60, true)⟩, ⟨(some 63), .mov (.t 1), some (60, true)⟩, ⟨(some 64), .bin .add .prim (.t 62) (.t 63), some (60, true)⟩, ⟨(some 65), .bin .add .prim (.t 64) (.c (.int .i64 1)), some (60, true)⟩, ⟨(some 66), .call true 11 [(.t 61), (.t 65)], some (60, true)⟩, ⟨(some 67), .un .not (.t 66), some (60, true)⟩, ⟨(some 68), .pick (.t 60) (.t 67) (.c (.bool false)), none⟩, ⟨(some 69), .mov (.t 68), none⟩, ⟨(some 70), .mov (.t 5), some (69, true)⟩, ⟨(some 71), .call true 14 [(.t 70), (.c (.nils 1))], some (69, true)⟩, ⟨(some 72), .mov (.t 5), some (69, true)⟩, ⟨(some 73), .call true 13 [(.t 71), (.t 72)], some (69, true)⟩, ⟨(some 74), .pick (.t 69) (.t 73) (.c (.bool false)), none⟩, ⟨(some 75), .mov (.t 74), none⟩, ⟨(some 76), .mov (.t 5), some (75, true)⟩, ⟨(some 77), .mov (.t 5), some (75, true)⟩, ⟨(some 78), .call true 14 [(.t 76), (.t 77)], some (75, true)⟩, ⟨(some 79), .mov (.t 5), some (75, true)⟩, ⟨(some 80), .call true 13 [(.t 78), (.t 79)], some (75, true)⟩, ⟨(some 81), .pick (.t 75) (.t 80) (.c (.bool false)), none⟩, ⟨(some 82), .mov (.t 81), none⟩, ⟨(some 83), .mov (.t 6), some (82, true)⟩, ⟨(some 84), .call true 9 [(.t 83)], some (82, true)⟩, ⟨(some 85), .un .not (.t 84), some (82, true)⟩, ⟨(some 86), .pick (.t 82) (.t 85) (.c (.bool false)), none⟩, ⟨(some 87), .mov (.t 86), none⟩, ⟨(some 88), .mov (.t 7), some (87, true)⟩, ⟨(some 89), .call true 9 [(.t 88)], some (87, true)⟩, ⟨(some 90), .un .not (.t 89), some (87, true)⟩, ⟨(some 91), .pick (.t 87) (.t 90) (.c (.bool false)), none⟩, ⟨(some 92), .mov (.t 91), none⟩, ⟨(some 93), .mov (.t 5), some (92, true)⟩, ⟨(some 94), .mov (.t 6), some (92, true)⟩, ⟨(some 95), .call true 14 [(.t 93), (.t 94)], some (92, true)⟩, ⟨(some 96), .len false (.t 95), some (92, true)⟩, ⟨(some 97), .bin .eql .prim (.t 96) (.c (.int .i64 0)), some (92, true)⟩, ⟨(some 98), .pick (.t 92) (.t 97) (.c (.bool false)), none⟩, ⟨(some 99), .mov (.t 98), none⟩, ⟨(some 100), .mov (.t 7), some (99, true)⟩, ⟨(some 101), .call true 14 [(.t 100), (.c (.nils 1))], some (99, true)⟩, ⟨(some 102), .len false (.t 101), some (99, true)⟩, ⟨(some 103), .bin .eql .prim (.t 102) (.c (.int .i64 0)), some (99, true)⟩, ⟨(some 104), .pick (.t 99) (.t 103) (.c (.bool false)), none⟩, ⟨(some 4), .set (.t 104), none⟩])
  .ret))))))⟩
theorem c5 : cfun Try.prog 5 = some f5 := by kernel_rfl
def f6l0 : ACode := (.seq (.seq (.region false [⟨(some 20), .mov (.t 5), none⟩, ⟨(some 21), .bin .lss .prim (.t 20) (.c (.int .i64 4)), none⟩])
  (.cond (.t 21) .skip
  (.exit 0)))
  (.seq (.block 1 (.seq (.region true [⟨(some 24), .mov (.t 3), none⟩, ⟨(some 25), .mov (.t 5), none⟩, ⟨(some 26), .iaddr 1 (.t 24) (.t 25), none⟩, ⟨(some 27), .load none (.t 26), none⟩, ⟨(some 28), .mov (.t 4), none⟩, ⟨(some 29), .mov (.t 5), none⟩, ⟨(some 30), .iaddr 1 (.t 28) (.t 29), none⟩, ⟨(some 31), .load none (.t 30), none⟩, ⟨(some 32), .call false 13 [(.t 27), (.t 31)], none⟩, ⟨(some 33), .un .not (.t 32), none⟩, ⟨(some 34), .mov (.t 33), none⟩, ⟨(some 35), .mov (.t 3), some (34, false)⟩, ⟨(some 36), .mov (.t 5), some (34, false)⟩, ⟨(some 37), .iaddr 1 (.t 35) (.t 36), some (34, false)⟩, ⟨(some 38), .load none (.t 37), some (34, false)⟩, ⟨(some 39), .call false 9 [(.t 38)], some (34, false)⟩, ⟨(some 40), .un .not (.t 39), some (34, false)⟩, ⟨(some 41), .pick (.t 34) (.c (.bool true)) (.t 40), none⟩, ⟨(some 42), .mov (.t 41), none⟩, ⟨(some 43), .mov (.t 3), some (42, false)⟩, ⟨(some 44), .mov (.t 5), some (42, false)⟩, ⟨(some 45), .iaddr 1 (.t 43) (.t 44), some (42, false)⟩, ⟨(some 46), .load none (.t 45), some (42, false)⟩, ⟨(some 47), .mov (.t 0), some (42, false)⟩, ⟨(some 48), .call false 11 [(.t 46), (.t 47)], some (42, false)⟩, ⟨(some 49), .mov (.t 4), some (42, false)⟩, ⟨(some 50), .mov (.t 5), some (42, false)⟩, ⟨(some 51), .iaddr 1 (.t 49) (.t 50), some (42, false)⟩, ⟨(some 52), .load none (.t 51), some (42, false)⟩, ⟨(some 53), .mov (.t 0), some (42, false)⟩, ⟨(some 54), .call false 12 [(.t 52), (.t 53)], some (42, false)⟩, ⟨(some 55), .bin .neq .bool (.t 48) (.t 54), some (42, false)⟩, ⟨(some 56), .pick (.t 42) (.c (.bool true)) (.t 55), none⟩])
  (.cond (.t 56) (.seq (.region false [⟨(some 2), .set (.c (.bool false)), none⟩])
  .ret)
  .skip)))
  (.region false [⟨(some 22), .mov (.t 5), none⟩, ⟨(some 23), .bin .add .prim (.t 22) (.c (.int .i64 1)), none⟩, ⟨(some 5), .set (.t 23), none⟩])))
def f6 : AFun := ⟨1, 58, [.t 2], (.seq (.region false [⟨(some 2), .set (.c (.bool false)), none⟩])
  (.seq (.region false [⟨(some 6), .mov (.t 0), none⟩, ⟨(some 7), .conv (.int .u64) (.t 6), none⟩, ⟨(some 8), .bin .rem .prim (.t 7) (.c (.int .u64 1200000)), none⟩, ⟨(some 9), .conv (.int .i64) (.t 8), none⟩, ⟨(some 0), .set (.t 9), none⟩])
  (.seq (.region false [⟨(some 10), .call true 18 [], none⟩, ⟨(some 11), .call true 19 [], none⟩, ⟨(some 12), .call true 20 [], none⟩, ⟨(some 13), .call true 21 [], none⟩, ⟨(some 14), .bslice true 1 [(.t 10), (.t 11), (.t 12), (.t 13)], none⟩, ⟨(some 3), .set (.t 14), none⟩])
  (.seq (.region false [⟨(some 15), .call true 22 [], none⟩, ⟨(some 16), .call true 23 [], none⟩, ⟨(some 17), .call true 24 [], none⟩, ⟨(some 18), .call true 25 [], none⟩, ⟨(some 19), .bslice true 1 [(.t 15), (.t 16), (.t 17), (.t 18)], none⟩, ⟨(some 4), .set (.t 19), none⟩])
  (.seq (.seq (.region false [⟨(some 5), .set (.c (.int .i64 0)), none⟩])
  (.block 0 (.loop f6l0)))
  (.seq (.region false [⟨(some 57), .call true 7 [], none⟩, ⟨(some 2), .set (.t 57), none⟩])
  .ret))))))⟩
theorem c6 : cfun Try.prog 6 = some f6 := by kernel_rfl
def f7 : AFun := ⟨0, 18, [.t 0], (.seq (.region false [⟨(some 0), .set (.c (.bool false)), none⟩])
  (.seq (.region false [⟨(some 1), .call true 18 [], none⟩, ⟨(some 2), .call true 11 [(.t 1), (.c (.int .i64 65))], none⟩, ⟨(some 3), .mov (.t 2), none⟩, ⟨(some 4), .build [(.int .i64 0), (.int .i64 0)] [(0, 1, (.c (.int .i64 1))), (1, 1, (.c (.int .i64 2)))], some (3, true)⟩, ⟨(some 5), .bslice true 2 [(.t 4)], some (3, true)⟩, ⟨(some 6), .call true 9 [(.t 5)], some (3, true)⟩, ⟨(some 7), .pick (.t 3) (.t 6) (.c (.bool false)), none⟩, ⟨(some 8), .mov (.t 7), none⟩, ⟨(some 9), .build [(.int .i64 0), (.int .i64 0)] [(0, 1, (.c (.int .i64 1))), (1, 1, (.c (.int .i64 2)))], some (8, true)⟩, ⟨(some 10), .bslice true 2 [(.t 9)], some (8, true)⟩, ⟨(some 11), .build [(.int .i64 0), (.int .i64 0)] [(0, 1, (.c (.int .i64 3))), (1, 1, (.c (.int .i64 4)))], some (8, true)⟩, ⟨(some 12), .bslice true 2 [(.t 11)], some (8, true)⟩, ⟨(some 13), .call true 14 [(.t 10), (.t 12)], some (8, true)⟩, ⟨(some 14), .build [(.int .i64 0), (.int .i64 0)] [(0, 1, (.c (.int .i64 1))), (1, 1, (.c (.int .i64 4)))], some (8, true)⟩, ⟨(some 15), .bslice true 2 [(.t 14)], some (8, true)⟩, ⟨(some 16), .call true 13 [(.t 13), (.t 15)], some (8, true)⟩, ⟨(some 17), .pick (.t 8) (.t 16) (.c (.bool false)), none⟩, ⟨(some 0), .set (.t 17), none⟩])
  .ret))⟩
theorem c7 : cfun Try.prog 7 = some f7 := by kernel_rfl
def f8l0 : ACode := (.seq (.seq (.region false [⟨(some 22), .mov (.t 7), none⟩, ⟨(some 23), .mov (.t 6), none⟩, ⟨(some 24), .len false (.t 23), none⟩, ⟨(some 25), .bin .lss .prim (.t 22) (.t 24), none⟩])
  (.cond (.t 25) .skip
  (.exit 0)))
  (.seq (.block 1 (.region false [⟨(some 28), .mov (.t 6), none⟩, ⟨(some 29), .mov (.t 7), none⟩, ⟨(some 30), .load (some 2) (.t 3), none⟩, ⟨(some 31), .iaddr 2 (.t 28) (.t 29), none⟩, ⟨none, .store true 2 (.t 31) (.t 30), none⟩]))
  (.region false [⟨(some 26), .mov (.t 7), none⟩, ⟨(some 27), .bin .add .prim (.t 26) (.c (.int .i64 1)), none⟩, ⟨(some 7), .set (.t 27), none⟩])))
def f8 : AFun := ⟨2, 33, [.t 4], (.seq (.region false [⟨(some 3), .box (.t 1), none⟩, ⟨(some 4), .newnil 2, none⟩])
  (.seq (.region false [⟨(some 8), .mov (.t 0), none⟩, ⟨(some 9), .len false (.t 8), none⟩, ⟨(some 10), .bin .add .prim (.t 9) (.c (.int .i64 3)), none⟩, ⟨(some 11), .mkslice 2 16 [(.int .i64 0), (.int .i64 0)] (.c (.int .i64 0)) (.t 10), none⟩, ⟨(some 5), .set (.t 11), none⟩])
  (.seq (.region false [⟨(some 12), .mov (.t 5), none⟩, ⟨(some 13), .mov (.t 0), none⟩, ⟨(some 14), .append 2 16 (.t 12) (.t 13), none⟩, ⟨(some 5), .set (.t 14), none⟩])
  (.seq (.region false [⟨(some 15), .mov (.t 5), none⟩, ⟨(some 16), .mov (.t 0), none⟩, ⟨(some 17), .len false (.t 16), none⟩, ⟨(some 18), .bin .add .prim (.t 17) (.c (.int .i64 3)), none⟩, ⟨(some 19), .slice (some 2) (.t 15) none (some (.t 18)), none⟩, ⟨(some 6), .set (.t 19), none⟩])
  (.seq (.seq (.region false [⟨(some 20), .mov (.t 0), none⟩, ⟨(some 21), .len false (.t 20), none⟩, ⟨(some 7), .set (.t 21), none⟩])
  (.block 0 (.loop f8l0)))
  (.seq (.region false [⟨(some 32), .mov (.t 5), none⟩, ⟨(some 4), .set (.t 32), none⟩])
  .ret))))))⟩
theorem c8 : cfun Try.prog 8 = some f8 := by kernel_rfl
def f9l0 : ACode := (.seq (.region false [⟨(some 8), .bin .lss .prim (.t 7) (.t 6), none⟩])
  (.seq (.cond (.t 8) .skip
  (.exit 0))
  (.seq (.block 1 (.seq (.region false [⟨(some 9), .mov (.t 7), none⟩, ⟨(some 10), .iaddr 2 (.t 5) (.t 7), none⟩, ⟨(some 11), .load (some 2) (.t 10), none⟩, ⟨(some 4), .alloc [(.int .i64 0), (.int .i64 0)], none⟩, ⟨(some 3), .set (.t 9), none⟩, ⟨none, .store true 2 (.t 4) (.t 11), none⟩])
  (.seq (.region true [⟨(some 12), .faddr 0 (.t 4), none⟩, ⟨(some 13), .load none (.t 12), none⟩, ⟨(some 14), .faddr 1 (.t 4), none⟩, ⟨(some 15), .load none (.t 14), none⟩, ⟨(some 16), .bin .gtr .prim (.t 13) (.t 15), none⟩, ⟨(some 17), .mov (.t 16), none⟩, ⟨(some 18), .mov (.t 3), some (17, false)⟩, ⟨(some 19), .bin .gtr .prim (.t 18) (.c (.int .i64 0)), some (17, false)⟩, ⟨(some 20), .mov (.t 19), some (17, false)⟩, ⟨(some 21), .faddr 0 (.t 4), some (20, true)⟩, ⟨(some 22), .load none (.t 21), some (20, true)⟩, ⟨(some 23), .mov (.t 0), some (20, true)⟩, ⟨(some 24), .mov (.t 3), some (20, true)⟩, ⟨(some 25), .bin .sub .prim (.t 24) (.c (.int .i64 1)), some (20, true)⟩, ⟨(some 26), .iaddr 2 (.t 23) (.t 25), some (20, true)⟩, ⟨(some 27), .faddr 1 (.t 26), some (20, true)⟩, ⟨(some 28), .load none (.t 27), some (20, true)⟩, ⟨(some 29), .bin .leq .prim (.t 22) (.t 28), some (20, true)⟩, ⟨(some 30), .pick (.t 20) (.t 29) (.c (.bool false)), some (17, false)⟩, ⟨(some 31), .pick (.t 17) (.c (.bool true)) (.t 30), none⟩])
  (.cond (.t 31) (.seq (.region false [⟨(some 2), .set (.c (.bool false)), none⟩])
  .ret)
  .skip))))
  (.region false [⟨(some 32), .bin .add .prim (.t 7) (.c (.int .i64 1)), none⟩, ⟨(some 7), .mov (.t 32), none⟩]))))
def f9 : AFun := ⟨1, 33, [.t 2], (.seq (.region false [⟨(some 2), .set (.c (.bool false)), none⟩])
  (.seq (.seq (.region false [⟨(some 5), .mov (.t 0), none⟩, ⟨(some 6), .len false (.t 5), none⟩, ⟨(some 7), .mov (.c (.int .i64 0)), none⟩])
  (.block 0 (.loop f9l0)))
  (.seq (.region false [⟨(some 2), .set (.c (.bool true)), none⟩])
  .ret)))⟩
theorem c9 : cfun Try.prog 9 = some f9 := by kernel_rfl
def f10l0 : ACode := (.seq (.seq (.region false [⟨(some 4), .mov (.t 3), none⟩, ⟨(some 5), .mov (.t 0), none⟩, ⟨(some 6), .len false (.t 5), none⟩, ⟨(some 7), .bin .lss .prim (.t 4) (.t 6), none⟩])
  (.cond (.t 7) .skip
  (.exit 0)))
  (.seq (.block 1 (.seq (.region true [⟨(some 10), .mov (.t 0), none⟩, ⟨(some 11), .mov (.t 3), none⟩, ⟨(some 12), .iaddr 2 (.t 10) (.t 11), none⟩, ⟨(some 13), .faddr 0 (.t 12), none⟩, ⟨(some 14), .load none (.t 13), none⟩, ⟨(some 15), .mov (.t 0), none⟩, ⟨(some 16), .mov (.t 3), none⟩, ⟨(some 17), .iaddr 2 (.t 15) (.t 16), none⟩, ⟨(some 18), .faddr 1 (.t 17), none⟩, ⟨(some 19), .load none (.t 18), none⟩, ⟨(some 20), .bin .gtr .prim (.t 14) (.t 19), none⟩, ⟨(some 21), .mov (.t 20), none⟩, ⟨(some 22), .mov (.t 3), some (21, false)⟩, ⟨(some 23), .bin .gtr .prim (.t 22) (.c (.int .i64 0)), some (21, false)⟩, ⟨(some 24), .mov (.t 23), some (21, false)⟩, ⟨(some 25), .mov (.t 0), some (24, true)⟩, ⟨(some 26), .mov (.t 3), some (24, true)⟩, ⟨(some 27), .iaddr 2 (.t 25) (.t 26), some (24, true)⟩, ⟨(some 28), .faddr 0 (.t 27), some (24, true)⟩, ⟨(some 29), .load none (.t 28), some (24, true)⟩, ⟨(some 30), .mov (.t 0), some (24, true)⟩, ⟨(some 31), .mov (.t 3), some (24, true)⟩, ⟨(some 32), .bin .sub .prim (.t 31) (.c (.int .i64 1)), some (24, true)⟩, ⟨(some 33), .iaddr 2 (.t 30) (.t 32), some (24, true)⟩, ⟨(some 34), .faddr 1 (.t 33), some (24, true)⟩, ⟨(some 35), .load none (.t 34), some (24, true)⟩, ⟨(some 36), .bin .leq .prim (.t 29) (.t 35), some (24, true)⟩, ⟨(some 37), .pick (.t 24) (.t 36) (.c (.bool false)), some (21, false)⟩, ⟨(some 38), .pick (.t 21) (.c (.bool true)) (.t 37), none⟩])
  (.cond (.t 38) (.seq (.region false [⟨(some 2), .set (.c (.bool false)), none⟩])
  .ret)
  .skip)))
  (.region false [⟨(some 8), .mov (.t 3), none⟩, ⟨(some 9), .bin .add .prim (.t 8) (.c (.int .i64 1)), none⟩, ⟨(some 3), .set (.t 9), none⟩])))
def f10 : AFun := ⟨1, 39, [.t 2], (.seq (.region false [⟨(some 2), .set (.c (.bool false)), none⟩])
  (.seq (.seq (.region false [⟨(some 3), .set (.c (.int .i64 0)), none⟩])
  (.block 0 (.loop f10l0)))
  (.seq (.region false [⟨(some 2), .set (.c (.bool true)), none⟩])
  .ret)))⟩
theorem c10 : cfun Try.prog 10 = some f10 := by kernel_rfl
def f11 : AFun := ⟨2, 8, [.t 4], (.seq (.region false [⟨(some 4), .set (.c (.bool false)), none⟩])
  (.seq (.region false [⟨(some 5), .mov (.t 0), none⟩, ⟨(some 6), .mov (.t 1), none⟩, ⟨(some 7), .call true 26 [(.t 5), (.t 6), (.c (.fn 27 []))], none⟩, ⟨(some 4), .set (.t 7), none⟩])
  .ret))⟩
theorem c11 : cfun Try.prog 11 = some f11 := by kernel_rfl
def f12l0 : ACode := (.seq (.seq (.region false [⟨(some 6), .mov (.t 5), none⟩, ⟨(some 7), .mov (.t 0), none⟩, ⟨(some 8), .len false (.t 7), none⟩, ⟨(some 9), .bin .lss .prim (.t 6) (.t 8), none⟩])
  (.cond (.t 9) .skip
  (.exit 0)))
  (.seq (.block 1 (.seq (.region false [⟨(some 12), .mov (.t 1), none⟩, ⟨(some 13), .mov (.t 0), none⟩, ⟨(some 14), .mov (.t 5), none⟩, ⟨(some 15), .iaddr 2 (.t 13) (.t 14), none⟩, ⟨(some 16), .faddr 0 (.t 15), none⟩, ⟨(some 17), .load none (.t 16), none⟩, ⟨(some 18), .bin .geq .prim (.t 12) (.t 17), none⟩, ⟨(some 19), .mov (.t 18), none⟩, ⟨(some 20), .mov (.t 1), some (19, true)⟩, ⟨(some 21), .mov (.t 0), some (19, true)⟩, ⟨(some 22), .mov (.t 5), some (19, true)⟩, ⟨(some 23), .iaddr 2 (.t 21) (.t 22), some (19, true)⟩, ⟨(some 24), .faddr 1 (.t 23), some (19, true)⟩, ⟨(some 25), .load none (.t 24), some (19, true)⟩, ⟨(some 26), .bin .leq .prim (.t 20) (.t 25), some (19, true)⟩, ⟨(some 27), .pick (.t 19) (.t 26) (.c (.bool false)), none⟩])
  (.cond (.t 27) (.seq (.region false [⟨(some 4), .set (.c (.bool true)), none⟩])
  .ret)
  .skip)))
  (.region false [⟨(some 10), .mov (.t 5), none⟩, ⟨(some 11), .bin .add .prim (.t 10) (.c (.int .i64 1)), none⟩, ⟨(some 5), .set (.t 11), none⟩])))
def f12 : AFun := ⟨2, 28, [.t 4], (.seq (.region false [⟨(some 4), .set (.c (.bool false)), none⟩])
  (.seq (.seq (.region false [⟨(some 5), .set (.c (.int .i64 0)), none⟩])
  (.block 0 (.loop f12l0)))
  (.seq (.region false [⟨(some 4), .set (.c (.bool false)), none⟩])
  .ret)))⟩
theorem c12 : cfun Try.prog 12 = some f12 := by kernel_rfl
def f13 : AFun := ⟨2, 8, [.t 4], (.seq (.region false [⟨(some 4), .set (.c (.bool false)), none⟩])
  (.seq (.region false [⟨(some 5), .mov (.t 0), none⟩, ⟨(some 6), .mov (.t 1), none⟩, ⟨(some 7), .call true 28 [(.t 5), (.t 6), (.c (.fn 29 []))], none⟩, ⟨(some 4), .set (.t 7), none⟩])
  .ret))⟩
theorem c13 : cfun Try.prog 13 = some f13 := by kernel_rfl
def f14l0 : ACode := (.seq (.region false [⟨(some 27), .bin .lss .prim (.t 26) (.t 25), none⟩])
  (.seq (.cond (.t 27) .skip
  (.exit 0))
  (.seq (.block 1 (.seq (.region false [⟨(some 28), .iaddr 2 (.t 24) (.t 26), none⟩, ⟨(some 29), .load (some 2) (.t 28), none⟩, ⟨(some 8), .alloc [(.int .i64 0), (.int .i64 0)], none⟩, ⟨none, .store true 2 (.t 8) (.t 29), none⟩])
  (.seq (.seq (.region false [⟨(some 30), .mov (.t 6), none⟩, ⟨(some 31), .len false (.t 30), none⟩, ⟨(some 32), .bin .sub .prim (.t 31) (.c (.int .i64 1)), none⟩, ⟨(some 9), .set (.t 32), none⟩])
  (.seq (.region true [⟨(some 33), .mov (.t 9), none⟩, ⟨(some 34), .bin .geq .prim (.t 33) (.c (.int .i64 0)), none⟩, ⟨(some 35), .mov (.t 34), none⟩, ⟨(some 36), .mov (.t 6), some (35, true)⟩, ⟨(some 37), .mov (.t 9), some (35, true)⟩, ⟨(some 38), .iaddr 2 (.t 36) (.t 37), some (35, true)⟩, ⟨(some 39), .faddr 1 (.t 38), some (35, true)⟩, ⟨(some 40), .load none (.t 39), some (35, true)⟩, ⟨(some 41), .bin .eql .prim (.t 40) (.c (.int .i64 9223372036854775807)), some (35, true)⟩, ⟨(some 42), .mov (.t 41), some (35, true)⟩, ⟨(some 43), .faddr 0 (.t 8), some (42, false)⟩, ⟨(some 44), .load none (.t 43), some (42, false)⟩, ⟨(some 45), .mov (.t 6), some (42, false)⟩, ⟨(some 46), .mov (.t 9), some (42, false)⟩, ⟨(some 47), .iaddr 2 (.t 45) (.t 46), some (42, false)⟩, ⟨(some 48), .faddr 1 (.t 47), some (42, false)⟩, ⟨(some 49), .load none (.t 48), some (42, false)⟩, ⟨(some 50), .bin .add .prim (.t 49) (.c (.int .i64 1)), some (42, false)⟩, ⟨(some 51), .bin .leq .prim (.t 44) (.t 50), some (42, false)⟩, ⟨(some 52), .pick (.t 42) (.c (.bool true)) (.t 51), some (35, true)⟩, ⟨(some 53), .pick (.t 35) (.t 52) (.c (.bool false)), none⟩])
  (.cond (.t 53) (.seq (.region true [⟨(some 54), .mov (.t 6), none⟩, ⟨(some 55), .mov (.t 9), none⟩, ⟨(some 56), .mov (.t 6), none⟩, ⟨(some 57), .mov (.t 9), none⟩, ⟨(some 58), .iaddr 2 (.t 56) (.t 57), none⟩, ⟨(some 59), .faddr 1 (.t 58), none⟩, ⟨(some 60), .load none (.t 59), none⟩, ⟨(some 61), .faddr 1 (.t 8), none⟩, ⟨(some 62), .load none (.t 61), none⟩, ⟨(some 63), .mx [(.t 60), (.t 62)], none⟩, ⟨(some 64), .iaddr 2 (.t 54) (.t 55), none⟩, ⟨(some 65), .faddr 1 (.t 64), none⟩, ⟨none, .store true 1 (.t 65) (.t 63), none⟩])
  (.exit 1))
  .skip)))
  (.region false [⟨(some 66), .mov (.t 6), none⟩, ⟨(some 67), .load (some 2) (.t 8), none⟩, ⟨(some 68), .bslice true 2 [(.t 67)], none⟩, ⟨(some 69), .append 2 16 (.t 66) (.t 68), none⟩, ⟨(some 6), .set (.t 69), none⟩]))))
  (.region false [⟨(some 70), .bin .add .prim (.t 26) (.c (.int .i64 1)), none⟩, ⟨(some 26), .mov (.t 70), none⟩]))))
def f14 : AFun := ⟨2, 72, [.t 4], (.seq (.region false [⟨(some 4), .newnil 2, none⟩])
  (.seq (.seq (.region false [⟨(some 10), .mov (.t 0), none⟩, ⟨(some 11), .call true 9 [(.t 10)], none⟩, ⟨(some 12), .un .not (.t 11), none⟩, ⟨(some 13), .mov (.t 12), none⟩, ⟨(some 14), .mov (.t 1), some (13, false)⟩, ⟨(some 15), .call true 9 [(.t 14)], some (13, false)⟩, ⟨(some 16), .un .not (.t 15), some (13, false)⟩, ⟨(some 17), .pick (.t 13) (.c (.bool true)) (.t 16), none⟩])
  (.cond (.t 17) (.seq (.region false [⟨(some 4), .newnil 2, none⟩])
  .ret)
  .skip))
  (.seq (.region false [⟨(some 18), .mov (.t 0), none⟩, ⟨(some 19), .mov (.t 1), none⟩, ⟨(some 20), .bslice true 1 [(.t 18), (.t 19)], none⟩, ⟨(some 21), .call true 30 [(.t 20)], none⟩, ⟨(some 5), .set (.t 21), none⟩])
  (.seq (.region false [⟨(some 22), .mov (.t 5), none⟩, ⟨(some 23), .call true 31 [(.t 22), (.c (.fn 32 []))], none⟩])
  (.seq (.region false [⟨(some 6), .newnil 2, none⟩])
  (.seq (.seq (.region false [⟨(some 24), .mov (.t 5), none⟩, ⟨(some 25), .len false (.t 24), none⟩, ⟨(some 26), .mov (.c (.int .i64 0)), none⟩])
  (.block 0 (.loop f14l0)))
  (.seq (.region false [⟨(some 71), .mov (.t 6), none⟩, ⟨(some 4), .set (.t 71), none⟩])
  .ret)))))))⟩
theorem c14 : cfun Try.prog 14 = some f14 := by kernel_rfl
def f15l0 : ACode := (.seq (.seq (.region false [⟨(some 16), .mov (.t 0), none⟩, ⟨(some 17), .len false (.t 16), none⟩, ⟨(some 18), .bin .gtr .prim (.t 17) (.c (.int .i64 0)), none⟩, ⟨(some 19), .mov (.t 18), none⟩, ⟨(some 20), .mov (.t 1), some (19, false)⟩, ⟨(some 21), .len false (.t 20), some (19, false)⟩, ⟨(some 22), .bin .gtr .prim (.t 21) (.c (.int .i64 0)), some (19, false)⟩, ⟨(some 23), .pick (.t 19) (.c (.bool true)) (.t 22), none⟩])
  (.cond (.t 23) .skip
  (.exit 0)))
  (.block 1 (.seq (.region false [⟨(some 6), .alloc [(.int .i64 0), (.int .i64 0)], none⟩])
  (.seq (.seq (.region true [⟨(some 24), .mov (.t 1), none⟩, ⟨(some 25), .len false (.t 24), none⟩, ⟨(some 26), .bin .eql .prim (.t 25) (.c (.int .i64 0)), none⟩, ⟨(some 27), .mov (.t 26), none⟩, ⟨(some 28), .mov (.t 0), some (27, false)⟩, ⟨(some 29), .len false (.t 28), some (27, false)⟩, ⟨(some 30), .bin .gtr .prim (.t 29) (.c (.int .i64 0)), some (27, false)⟩, ⟨(some 31), .mov (.t 30), some (27, false)⟩, ⟨(some 32), .mov (.t 0), some (31, true)⟩, ⟨(some 33), .iaddr 2 (.t 32) (.c (.int .i64 0)), some (31, true)⟩, ⟨(some 34), .faddr 0 (.t 33), some (31, true)⟩, ⟨(some 35), .load none (.t 34), some (31, true)⟩, ⟨(some 36), .mov (.t 1), some (31, true)⟩, ⟨(some 37), .iaddr 2 (.t 36) (.c (.int .i64 0)), some (31, true)⟩, ⟨(some 38), .faddr 0 (.t 37), some (31, true)⟩, ⟨(some 39), .load none (.t 38), some (31, true)⟩, ⟨(some 40), .bin .leq .prim (.t 35) (.t 39), some (31, true)⟩, ⟨(some 41), .pick (.t 31) (.t 40) (.c (.bool false)), some (27, false)⟩, ⟨(some 42), .pick (.t 27) (.c (.bool true)) (.t 41), none⟩])
  (.cond (.t 42) (.region true [⟨(some 43), .mov (.t 0), none⟩, ⟨(some 44), .iaddr 2 (.t 43) (.c (.int .i64 0)), none⟩, ⟨(some 45), .load (some 2) (.t 44), none⟩, ⟨(some 46), .mov (.t 0), none⟩, ⟨(some 47), .slice (some 2) (.t 46) (some (.c (.int .i64 1))) none, none⟩, ⟨none, .store false 2 (.t 6) (.t 45), none⟩, ⟨(some 0), .mov (.t 47), none⟩])
  (.region true [⟨(some 48), .mov (.t 1), none⟩, ⟨(some 49), .iaddr 2 (.t 48) (.c (.int .i64 0)), none⟩, ⟨(some 50), .load (some 2) (.t 49), none⟩, ⟨(some 51), .mov (.t 1), none⟩, ⟨(some 52), .slice (some 2) (.t 51) (some (.c (.int .i64 1))) none, none⟩, ⟨none, .store false 2 (.t 6) (.t 50), none⟩, ⟨(some 1), .mov (.t 52), none⟩])))
  (.seq (.region false [⟨(some 53), .mov (.t 5), none⟩, ⟨(some 54), .len false (.t 53), none⟩, ⟨(some 7), .set (.t 54), none⟩])
  (.seq (.region true [⟨(some 55), .mov (.t 7), none⟩, ⟨(some 56), .bin .gtr .prim (.t 55) (.c (.int .i64 0)), none⟩, ⟨(some 57), .mov (.t 56), none⟩, ⟨(some 58), .faddr 0 (.t 6), some (57, true)⟩, ⟨(some 59), .load none (.t 58), some (57, true)⟩, ⟨(some 60), .mov (.t 5), some (57, true)⟩, ⟨(some 61), .mov (.t 7), some (57, true)⟩, ⟨(some 62), .bin .sub .prim (.t 61) (.c (.int .i64 1)), some (57, true)⟩, ⟨(some 63), .iaddr 2 (.t 60) (.t 62), some (57, true)⟩, ⟨(some 64), .faddr 1 (.t 63), some (57, true)⟩, ⟨(some 65), .load none (.t 64), some (57, true)⟩, ⟨(some 66), .bin .leq .prim (.t 59) (.t 65), some (57, true)⟩, ⟨(some 67), .mov (.t 66), some (57, true)⟩, ⟨(some 68), .faddr 0 (.t 6), some (67, false)⟩, ⟨(some 69), .load none (.t 68), some (67, false)⟩, ⟨(some 70), .bin .sub .prim (.t 69) (.c (.int .i64 1)), some (67, false)⟩, ⟨(some 71), .mov (.t 5), some (67, false)⟩, ⟨(some 72), .mov (.t 7), some (67, false)⟩, ⟨(some 73), .bin .sub .prim (.t 72) (.c (.int .i64 1)), some (67, false)⟩, ⟨(some 74), .iaddr 2 (.t 71) (.t 73), some (67, false)⟩, ⟨(some 75), .faddr 1 (.t 74), some (67, false)⟩, ⟨(some 76), .load none (.t 75), some (67, false)⟩, ⟨(some 77), .bin .eql .prim (.t 70) (.t 76), some (67, false)⟩, ⟨(some 78), .pick (.t 67) (.c (.bool true)) (.t 77), some (57, true)⟩, ⟨(some 79), .pick (.t 57) (.t 78) (.c (.bool false)), none⟩])
  (.cond (.t 79) (.region true [⟨(some 80), .mov (.t 5), none⟩, ⟨(some 81), .mov (.t 7), none⟩, ⟨(some 82), .bin .sub .prim (.t 81) (.c (.int .i64 1)), none⟩, ⟨(some 83), .mov (.t 5), none⟩, ⟨(some 84), .mov (.t 7), none⟩, ⟨(some 85), .bin .sub .prim (.t 84) (.c (.int .i64 1)), none⟩, ⟨(some 86), .iaddr 2 (.t 83) (.t 85), none⟩, ⟨(some 87), .faddr 1 (.t 86), none⟩, ⟨(some 88), .load none (.t 87), none⟩, ⟨(some 89), .faddr 1 (.t 6), none⟩, ⟨(some 90), .load none (.t 89), none⟩, ⟨(some 91), .mx [(.t 88), (.t 90)], none⟩, ⟨(some 92), .iaddr 2 (.t 80) (.t 82), none⟩, ⟨(some 93), .faddr 1 (.t 92), none⟩, ⟨none, .store true 1 (.t 93) (.t 91), none⟩])
  (.region false [⟨(some 94), .mov (.t 5), none⟩, ⟨(some 95), .load (some 2) (.t 6), none⟩, ⟨(some 96), .bslice true 2 [(.t 95)], none⟩, ⟨(some 97), .append 2 16 (.t 94) (.t 96), none⟩, ⟨(some 5), .set (.t 97), none⟩]))))))))
def f15 : AFun := ⟨2, 99, [.t 4], (.seq (.region false [⟨(some 4), .newnil 2, none⟩])
  (.seq (.seq (.region false [⟨(some 8), .mov (.t 0), none⟩, ⟨(some 9), .call true 10 [(.t 8)], none⟩, ⟨(some 10), .un .not (.t 9), none⟩, ⟨(some 11), .mov (.t 10), none⟩, ⟨(some 12), .mov (.t 1), some (11, false)⟩, ⟨(some 13), .call true 10 [(.t 12)], some (11, false)⟩, ⟨(some 14), .un .not (.t 13), some (11, false)⟩, ⟨(some 15), .pick (.t 11) (.c (.bool true)) (.t 14), none⟩])
  (.cond (.t 15) (.seq (.region false [⟨(some 4), .newnil 2, none⟩])
  .ret)
  .skip))
  (.seq (.region false [⟨(some 5), .newnil 2, none⟩])
  (.seq (.block 0 (.loop f15l0))
  (.seq (.region false [⟨(some 98), .mov (.t 5), none⟩, ⟨(some 4), .set (.t 98), none⟩])
  .ret)))))⟩
theorem c15 : cfun Try.prog 15 = some f15 := by kernel_rfl
def f16l0 : ACode := (.seq (.seq (.region false [⟨(some 28), .mov (.t 8), none⟩, ⟨(some 29), .mov (.t 7), none⟩, ⟨(some 30), .len false (.t 29), none⟩, ⟨(some 31), .bin .lss .prim (.t 28) (.t 30), none⟩])
  (.cond (.t 31) .skip
  (.exit 0)))
  (.seq (.block 1 (.seq (.region true [⟨(some 34), .mov (.t 7), none⟩, ⟨(some 35), .mov (.t 8), none⟩, ⟨(some 36), .iaddr 2 (.t 34) (.t 35), none⟩, ⟨(some 37), .load (some 2) (.t 36), none⟩, ⟨(some 38), .load (some 2) (.t 5), none⟩, ⟨(some 39), .bin .neq (.flat [.int, .int]) (.t 37) (.t 38), none⟩])
  (.cond (.t 39) (.seq (.region false [⟨(some 6), .set (.c (.bool false)), none⟩])
  .ret)
  .skip)))
  (.region false [⟨(some 32), .mov (.t 8), none⟩, ⟨(some 33), .bin .add .prim (.t 32) (.c (.int .i64 1)), none⟩, ⟨(some 8), .set (.t 33), none⟩])))
def f16 : AFun := ⟨3, 40, [.t 6], (.seq (.region false [⟨(some 5), .box (.t 2), none⟩, ⟨(some 6), .set (.c (.bool false)), none⟩])
  (.seq (.seq (.region false [⟨(some 9), .mov (.t 0), none⟩, ⟨(some 10), .mov (.t 1), none⟩, ⟨(some 11), .call true 13 [(.t 9), (.t 10)], none⟩, ⟨(some 12), .un .not (.t 11), none⟩, ⟨(some 13), .mov (.t 12), none⟩, ⟨(some 14), .mov (.t 0), some (13, false)⟩, ⟨(some 15), .cap (.t 14), some (13, false)⟩, ⟨(some 16), .mov (.t 1), some (13, false)⟩, ⟨(some 17), .len false (.t 16), some (13, false)⟩, ⟨(some 18), .bin .add .prim (.t 17) (.c (.int .i64 3)), some (13, false)⟩, ⟨(some 19), .bin .lss .prim (.t 15) (.t 18), some (13, false)⟩, ⟨(some 20), .pick (.t 13) (.c (.bool true)) (.t 19), none⟩])
  (.cond (.t 20) (.seq (.region false [⟨(some 6), .set (.c (.bool false)), none⟩])
  .ret)
  .skip))
  (.seq (.region false [⟨(some 21), .mov (.t 0), none⟩, ⟨(some 22), .mov (.t 1), none⟩, ⟨(some 23), .len false (.t 22), none⟩, ⟨(some 24), .bin .add .prim (.t 23) (.c (.int .i64 3)), none⟩, ⟨(some 25), .slice (some 2) (.t 21) none (some (.t 24)), none⟩, ⟨(some 7), .set (.t 25), none⟩])
  (.seq (.seq (.region false [⟨(some 26), .mov (.t 1), none⟩, ⟨(some 27), .len false (.t 26), none⟩, ⟨(some 8), .set (.t 27), none⟩])
  (.block 0 (.loop f16l0)))
  (.seq (.region false [⟨(some 6), .set (.c (.bool true)), none⟩])
  .ret)))))⟩
theorem c16 : cfun Try.prog 16 = some f16 := by kernel_rfl
def f17l0 : ACode := (.seq (.seq (.region false [⟨(some 8), .mov (.t 5), none⟩, ⟨(some 9), .bin .add .prim (.t 8) (.c (.int .i64 1)), none⟩, ⟨(some 10), .mov (.t 0), none⟩, ⟨(some 11), .len false (.t 10), none⟩, ⟨(some 12), .bin .lss .prim (.t 9) (.t 11), none⟩, ⟨(some 13), .mov (.t 12), none⟩, ⟨(some 14), .mov (.t 5), some (13, true)⟩, ⟨(some 15), .bin .lss .prim (.t 14) (.c (.int .i64 60)), some (13, true)⟩, ⟨(some 16), .pick (.t 13) (.t 15) (.c (.bool false)), none⟩])
  (.cond (.t 16) .skip
  (.exit 0)))
  (.seq (.block 1 (.seq (.region false [⟨(some 19), .mov (.t 4), none⟩, ⟨(some 20), .mov (.t 0), none⟩, ⟨(some 21), .mov (.t 5), none⟩, ⟨(some 22), .iaddr 1 (.t 20) (.t 21), none⟩, ⟨(some 23), .load none (.t 22), none⟩, ⟨(some 24), .conv (.int .u64) (.t 23), none⟩, ⟨(some 25), .bin .rem .prim (.t 24) (.c (.int .u64 5)), none⟩, ⟨(some 26), .conv (.int .i64) (.t 25), none⟩, ⟨(some 27), .bin .add .prim (.t 19) (.t 26), none⟩, ⟨(some 28), .bin .add .prim (.t 27) (.c (.int .i64 1)), none⟩, ⟨(some 6), .set (.t 28), none⟩])
  (.seq (.region false [⟨(some 29), .mov (.t 6), none⟩, ⟨(some 30), .mov (.t 0), none⟩, ⟨(some 31), .mov (.t 5), none⟩, ⟨(some 32), .bin .add .prim (.t 31) (.c (.int .i64 1)), none⟩, ⟨(some 33), .iaddr 1 (.t 30) (.t 32), none⟩, ⟨(some 34), .load none (.t 33), none⟩, ⟨(some 35), .conv (.int .u64) (.t 34), none⟩, ⟨(some 36), .bin .rem .prim (.t 35) (.c (.int .u64 6)), none⟩, ⟨(some 37), .conv (.int .i64) (.t 36), none⟩, ⟨(some 38), .bin .add .prim (.t 29) (.t 37), none⟩, ⟨(some 7), .set (.t 38), none⟩])
  (.region false [⟨(some 39), .mov (.t 3), none⟩, ⟨(some 40), .mov (.t 6), none⟩, ⟨(some 41), .mov (.t 7), none⟩, ⟨(some 42), .build [(.int .i64 0), (.int .i64 0)] [(0, 1, (.t 40)), (1, 1, (.t 41))], none⟩, ⟨(some 43), .bslice true 2 [(.t 42)], none⟩, ⟨(some 44), .append 2 16 (.t 39) (.t 43), none⟩, ⟨(some 45), .mov (.t 7), none⟩, ⟨(some 3), .set (.t 44), none⟩, ⟨(some 4), .set (.t 45), none⟩]))))
  (.region false [⟨(some 17), .mov (.t 5), none⟩, ⟨(some 18), .bin .add .prim (.t 17) (.c (.int .i64 2)), none⟩, ⟨(some 5), .set (.t 18), none⟩])))
def f17 : AFun := ⟨1, 47, [.t 2], (.seq (.region false [⟨(some 2), .newnil 2, none⟩])
  (.seq (.region false [⟨(some 3), .newnil 2, none⟩])
  (.seq (.region false [⟨(some 4), .set (.c (.int .i64 0)), none⟩])
  (.seq (.seq (.region false [⟨(some 5), .set (.c (.int .i64 0)), none⟩])
  (.block 0 (.loop f17l0)))
  (.seq (.region false [⟨(some 46), .mov (.t 3), none⟩, ⟨(some 2), .set (.t 46), none⟩])
  .ret)))))⟩
theorem c17 : cfun Try.prog 17 = some f17 := by kernel_rfl
def f18 : AFun := ⟨0, 3, [.t 0], (.seq (.region false [⟨(some 0), .newnil 2, none⟩])
  (.seq (.region false [⟨(some 1), .bslice true 1 [(.c (.int .i64 65)), (.c (.int .i64 90)), (.c (.int .i64 97)), (.c (.int .i64 122)), (.c (.int .i64 192)), (.c (.int .i64 214)), (.c (.int .i64 216)), (.c (.int .i64 246)), (.c (.int .i64 248)), (.c (.int .i64 591)), (.c (.int .i64 880)), (.c (.int .i64 1327)), (.c (.int .i64 19968)), (.c (.int .i64 40959))], none⟩, ⟨(some 2), .call true 34 [(.t 1)], none⟩, ⟨(some 0), .set (.t 2), none⟩])
  .ret))⟩
theorem c18 : cfun Try.prog 18 = some f18 := by kernel_rfl
def f19 : AFun := ⟨0, 3, [.t 0], (.seq (.region false [⟨(some 0), .newnil 2, none⟩])
  (.seq (.region false [⟨(some 1), .bslice true 1 [(.c (.int .i64 0)), (.c (.int .i64 31)), (.c (.int .i64 127)), (.c (.int .i64 160)), (.c (.int .i64 5760)), (.c (.int .i64 5760)), (.c (.int .i64 8192)), (.c (.int .i64 8202)), (.c (.int .i64 8232)), (.c (.int .i64 8239)), (.c (.int .i64 8287)), (.c (.int .i64 8287)), (.c (.int .i64 12288)), (.c (.int .i64 12288)), (.c (.int .i64 57344)), (.c (.int .i64 63743)), (.c (.int .i64 65533)), (.c (.int .i64 65535)), (.c (.int .i64 917504)), (.c (.int .i64 917631)), (.c (.int .i64 983040)), (.c (.int .i64 1114111))], none⟩, ⟨(some 2), .call true 34 [(.t 1)], none⟩, ⟨(some 0), .set (.t 2), none⟩])
  .ret))⟩
theorem c19 : cfun Try.prog 19 = some f19 := by kernel_rfl
def f20 : AFun := ⟨0, 3, [.t 0], (.seq (.region false [⟨(some 0), .newnil 2, none⟩])
  (.seq (.region false [⟨(some 1), .bslice true 1 [(.c (.int .i64 1424)), (.c (.int .i64 1535)), (.c (.int .i64 1536)), (.c (.int .i64 1791)), (.c (.int .i64 64285)), (.c (.int .i64 64335))], none⟩, ⟨(some 2), .call true 34 [(.t 1)], none⟩, ⟨(some 0), .set (.t 2), none⟩])
  .ret))⟩
theorem c20 : cfun Try.prog 20 = some f20 := by kernel_rfl
def f21 : AFun := ⟨0, 3, [.t 0], (.seq (.region false [⟨(some 0), .newnil 2, none⟩])
  (.seq (.region false [⟨(some 1), .bslice true 1 [(.c (.int .i64 173)), (.c (.int .i64 173)), (.c (.int .i64 847)), (.c (.int .i64 847)), (.c (.int .i64 6150)), (.c (.int .i64 6150)), (.c (.int .i64 8203)), (.c (.int .i64 8205)), (.c (.int .i64 8288)), (.c (.int .i64 8288)), (.c (.int .i64 65024)), (.c (.int .i64 65039)), (.c (.int .i64 65279)), (.c (.int .i64 65279))], none⟩, ⟨(some 2), .call true 34 [(.t 1)], none⟩, ⟨(some 0), .set (.t 2), none⟩])
  .ret))⟩
theorem c21 : cfun Try.prog 21 = some f21 := by kernel_rfl
def f22 : AFun := ⟨0, 3, [.t 0], (.seq (.region false [⟨(some 0), .newnil 2, none⟩])
  (.seq (.region false [⟨(some 1), .bslice true 1 [(.c (.int .i64 65)), (.c (.int .i64 90)), (.c (.int .i64 97)), (.c (.int .i64 122)), (.c (.int .i64 192)), (.c (.int .i64 214)), (.c (.int .i64 216)), (.c (.int .i64 246)), (.c (.int .i64 248)), (.c (.int .i64 591)), (.c (.int .i64 880)), (.c (.int .i64 1327)), (.c (.int .i64 19968)), (.c (.int .i64 40959))], none⟩, ⟨(some 2), .call true 35 [(.t 1)], none⟩, ⟨(some 0), .set (.t 2), none⟩])
  .ret))⟩
theorem c22 : cfun Try.prog 22 = some f22 := by kernel_rfl
def f23 : AFun := ⟨0, 3, [.t 0], (.seq (.region false [⟨(some 0), .newnil 2, none⟩])
  (.seq (.region false [⟨(some 1), .bslice true 1 [(.c (.int .i64 0)), (.c (.int .i64 31)), (.c (.int .i64 127)), (.c (.int .i64 160)), (.c (.int .i64 5760)), (.c (.int .i64 5760)), (.c (.int .i64 8192)), (.c (.int .i64 8202)), (.c (.int .i64 8232)), (.c (.int .i64 8239)), (.c (.int .i64 8287)), (.c (.int .i64 8287)), (.c (.int .i64 12288)), (.c (.int .i64 12288)), (.c (.int .i64 57344)), (.c (.int .i64 63743)), (.c (.int .i64 65533)), (.c (.int .i64 65535)), (.c (.int .i64 917504)), (.c (.int .i64 917631)), (.c (.int .i64 983040)), (.c (.int .i64 1114111))], none⟩, ⟨(some 2), .call true 35 [(.t 1)], none⟩, ⟨(some 0), .set (.t 2), none⟩])
  .ret))⟩
theorem c23 : cfun Try.prog 23 = some f23 := by kernel_rfl
def f24 : AFun := ⟨0, 3, [.t 0], (.seq (.region false [⟨(some 0), .newnil 2, none⟩])
  (.seq (.region false [⟨(some 1), .bslice true 1 [(.c (.int .i64 1424)), (.c (.int .i64 1535)), (.c (.int .i64 1536)), (.c (.int .i64 1791)), (.c (.int .i64 64285)), (.c (.int .i64 64335))], none⟩, ⟨(some 2), .call true 35 [(.t 1)], none⟩, ⟨(some 0), .set (.t 2), none⟩])
  .ret))⟩
theorem c24 : cfun Try.prog 24 = some f24 := by kernel_rfl
def f25 : AFun := ⟨0, 3, [.t 0], (.seq (.region false [⟨(some 0), .newnil 2, none⟩])
  (.seq (.region false [⟨(some 1), .bslice true 1 [(.c (.int .i64 173)), (.c (.int .i64 173)), (.c (.int .i64 847)), (.c (.int .i64 847)), (.c (.int .i64 6150)), (.c (.int .i64 6150)), (.c (.int .i64 8203)), (.c (.int .i64 8205)), (.c (.int .i64 8288)), (.c (.int .i64 8288)), (.c (.int .i64 65024)), (.c (.int .i64 65039)), (.c (.int .i64 65279)), (.c (.int .i64 65279))], none⟩, ⟨(some 2), .call true 35 [(.t 1)], none⟩, ⟨(some 0), .set (.t 2), none⟩])
  .ret))⟩
theorem c25 : cfun Try.prog 25 = some f25 := by kernel_rfl
def f26l0 : ACode := (.seq (.region false [⟨(some 12), .bin .lss .prim (.t 11) (.t 10), none⟩])
  (.seq (.cond (.t 12) .skip
  (.exit 0))
  (.seq (.block 1 (.seq (.region false [⟨(some 13), .iaddr 2 (.t 9) (.t 11), none⟩, ⟨(some 14), .load (some 2) (.t 13), none⟩, ⟨(some 8), .alloc [(.int .i64 0), (.int .i64 0)], none⟩, ⟨none, .store true 2 (.t 8) (.t 14), none⟩])
  (.seq (.region false [⟨(some 15), .mov (.t 2), none⟩, ⟨(some 16), .load (some 2) (.t 8), none⟩, ⟨(some 17), .mov (.t 1), none⟩, ⟨(some 18), .callv true (.t 15) [(.t 16), (.t 17)], none⟩])
  (.cond (.t 18) (.seq (.region false [⟨(some 6), .set (.c (.bool true)), none⟩])
  .ret)
  .skip))))
  (.region false [⟨(some 19), .bin .add .prim (.t 11) (.c (.int .i64 1)), none⟩, ⟨(some 11), .mov (.t 19), none⟩]))))
def f26 : AFun := ⟨3, 20, [.t 6], (.seq (.region false [⟨(some 6), .set (.c (.bool false)), none⟩])
  (.seq (.seq (.region false [⟨(some 9), .mov (.t 0), none⟩, ⟨(some 10), .len false (.t 9), none⟩, ⟨(some 11), .mov (.c (.int .i64 0)), none⟩])
  (.block 0 (.loop f26l0)))
  (.seq (.region false [⟨(some 6), .set (.c (.bool false)), none⟩])
  .ret)))⟩
theorem c26 : cfun Try.prog 26 = some f26 := by kernel_rfl
def f27 : AFun := ⟨2, 15, [.t 4], (.seq (.region false [⟨(some 2), .box (.t 0), none⟩, ⟨(some 4), .set (.c (.bool false)), none⟩])
  (.seq (.region false [⟨(some 5), .mov (.t 1), none⟩, ⟨(some 6), .faddr 0 (.t 2), none⟩, ⟨(some 7), .load none (.t 6), none⟩, ⟨(some 8), .bin .geq .prim (.t 5) (.t 7), none⟩, ⟨(some 9), .mov (.t 8), none⟩, ⟨(some 10), .mov (.t 1), some (9, true)⟩, ⟨(some 11), .faddr 1 (.t 2), some (9, true)⟩, ⟨(some 12), .load none (.t 11), some (9, true)⟩, ⟨(some 13), .bin .leq .prim (.t 10) (.t 12), some (9, true)⟩, ⟨(some 14), .pick (.t 9) (.t 13) (.c (.bool false)), none⟩, ⟨(some 4), .set (.t 14), none⟩])
  .ret))⟩
theorem c27 : cfun Try.prog 27 = some f27 := by kernel_rfl
def f28l0 : ACode := (.seq (.seq (.region false [⟨(some 13), .mov (.t 7), none⟩, ⟨(some 14), .mov (.t 0), none⟩, ⟨(some 15), .len false (.t 14), none⟩, ⟨(some 16), .bin .lss .prim (.t 13) (.t 15), none⟩])
  (.cond (.t 16) .skip
  (.exit 0)))
  (.seq (.block 1 (.seq (.region true [⟨(some 19), .mov (.t 2), none⟩, ⟨(some 20), .mov (.t 0), none⟩, ⟨(some 21), .mov (.t 7), none⟩, ⟨(some 22), .iaddr 2 (.t 20) (.t 21), none⟩, ⟨(some 23), .load (some 2) (.t 22), none⟩, ⟨(some 24), .mov (.t 1), none⟩, ⟨(some 25), .mov (.t 7), none⟩, ⟨(some 26), .iaddr 2 (.t 24) (.t 25), none⟩, ⟨(some 27), .load (some 2) (.t 26), none⟩, ⟨(some 28), .callv true (.t 19) [(.t 23), (.t 27)], none⟩, ⟨(some 29), .un .not (.t 28), none⟩])
  (.cond (.t 29) (.seq (.region false [⟨(some 6), .set (.c (.bool false)), none⟩])
  .ret)
  .skip)))
  (.region false [⟨(some 17), .mov (.t 7), none⟩, ⟨(some 18), .bin .add .prim (.t 17) (.c (.int .i64 1)), none⟩, ⟨(some 7), .set (.t 18), none⟩])))
def f28 : AFun := ⟨3, 30, [.t 6], (.seq (.region false [⟨(some 6), .set (.c (.bool false)), none⟩])
  (.seq (.seq (.region false [⟨(some 8), .mov (.t 0), none⟩, ⟨(some 9), .len false (.t 8), none⟩, ⟨(some 10), .mov (.t 1), none⟩, ⟨(some 11), .len false (.t 10), none⟩, ⟨(some 12), .bin .neq .prim (.t 9) (.t 11), none⟩])
  (.cond (.t 12) (.seq (.region false [⟨(some 6), .set (.c (.bool false)), none⟩])
  .ret)
  .skip))
  (.seq (.seq (.region false [⟨(some 7), .set (.c (.int .i64 0)), none⟩])
  (.block 0 (.loop f28l0)))
  (.seq (.region false [⟨(some 6), .set (.c (.bool true)), none⟩])
  .ret))))⟩
theorem c28 : cfun Try.prog 28 = some f28 := by kernel_rfl
def f29 : AFun := ⟨2, 8, [.t 4], (.seq (.region false [⟨(some 2), .box (.t 0), none⟩, ⟨(some 3), .box (.t 1), none⟩, ⟨(some 4), .set (.c (.bool false)), none⟩])
  (.seq (.region false [⟨(some 5), .load (some 2) (.t 2), none⟩, ⟨(some 6), .load (some 2) (.t 3), none⟩, ⟨(some 7), .bin .eql (.flat [.int, .int]) (.t 5) (.t 6), none⟩, ⟨(some 4), .set (.t 7), none⟩])
  .ret))⟩
theorem c29 : cfun Try.prog 29 = some f29 := by kernel_rfl
def f30l0 : ACode := (.seq (.region false [⟨(some 12), .bin .lss .prim (.t 11) (.t 10), none⟩])
  (.seq (.cond (.t 12) .skip
  (.exit 0))
  (.seq (.block 1 (.seq (.region false [⟨(some 13), .iaddr 1 (.t 9) (.t 11), none⟩, ⟨(some 14), .load none (.t 13), none⟩, ⟨(some 5), .set (.t 14), none⟩])
  (.seq (.region false [⟨(some 15), .mov (.t 3), none⟩, ⟨(some 16), .mov (.t 5), none⟩, ⟨(some 17), .len false (.t 16), none⟩, ⟨(some 18), .bin .add .prim (.t 15) (.t 17), none⟩, ⟨(some 3), .set (.t 18), none⟩])
  (.seq (.region false [⟨(some 19), .mov (.t 3), none⟩, ⟨(some 20), .bin .lss .prim (.t 19) (.c (.int .i64 0)), none⟩])
  (.cond (.t 20) (.region false [⟨(some 21), .bad, none⟩, ⟨none, .bad, none⟩])
  .skip)))))
  (.region false [⟨(some 22), .bin .add .prim (.t 11) (.c (.int .i64 1)), none⟩, ⟨(some 11), .mov (.t 22), none⟩]))))
def f30l1 : ACode := (.seq (.region false [⟨(some 28), .bin .lss .prim (.t 27) (.t 26), none⟩])
  (.seq (.cond (.t 28) .skip
  (.exit 2))
  (.seq (.block 3 (.seq (.region false [⟨(some 29), .iaddr 1 (.t 25) (.t 27), none⟩, ⟨(some 30), .load none (.t 29), none⟩, ⟨(some 8), .set (.t 30), none⟩])
  (.region false [⟨(some 31), .mov (.t 6), none⟩, ⟨(some 32), .mov (.t 8), none⟩, ⟨(some 33), .append 2 16 (.t 31) (.t 32), none⟩, ⟨(some 6), .set (.t 33), none⟩])))
  (.region false [⟨(some 34), .bin .add .prim (.t 27) (.c (.int .i64 1)), none⟩, ⟨(some 27), .mov (.t 34), none⟩]))))
def f30 : AFun := ⟨1, 36, [.t 2], (.seq (.region false [⟨(some 2), .newnil 2, none⟩])
  (.seq (.region false [⟨(some 3), .set (.c (.int .i64 0)), none⟩])
  (.seq (.seq (.region false [⟨(some 9), .mov (.t 0), none⟩, ⟨(some 10), .len false (.t 9), none⟩, ⟨(some 11), .mov (.c (.int .i64 0)), none⟩])
  (.block 0 (.loop f30l0)))
  (.seq (.region false [⟨(some 23), .mov (.t 3), none⟩, ⟨(some 24), .call true 36 [(.c (.nils 1)), (.t 23)], none⟩, ⟨(some 6), .set (.t 24), none⟩])
  (.seq (.seq (.region false [⟨(some 25), .mov (.t 0), none⟩, ⟨(some 26), .len false (.t 25), none⟩, ⟨(some 27), .mov (.c (.int .i64 0)), none⟩])
  (.block 2 (.loop f30l1)))
  (.seq (.region false [⟨(some 35), .mov (.t 6), none⟩, ⟨(some 2), .set (.t 35), none⟩])
  .ret))))))⟩
theorem c30 : cfun Try.prog 30 = some f30 := by kernel_rfl
def f32 : AFun := ⟨2, 10, [.t 4], (.seq (.region false [⟨(some 2), .box (.t 0), none⟩, ⟨(some 3), .box (.t 1), none⟩, ⟨(some 4), .set (.c (.int .i64 0)), none⟩])
  (.seq (.region false [⟨(some 5), .faddr 0 (.t 2), none⟩, ⟨(some 6), .load none (.t 5), none⟩, ⟨(some 7), .faddr 0 (.t 3), none⟩, ⟨(some 8), .load none (.t 7), none⟩, ⟨(some 9), .call true 33 [(.t 6), (.t 8)], none⟩, ⟨(some 4), .set (.t 9), none⟩])
  .ret))⟩
theorem c32 : cfun Try.prog 32 = some f32 := by kernel_rfl
def f33 : AFun := ⟨2, 20, [.t 4], (.seq (.region false [⟨(some 4), .set (.c (.int .i64 0)), none⟩])
  (.seq (.region false [⟨(some 7), .mov (.t 0), none⟩, ⟨(some 8), .call true 39 [(.t 7)], none⟩, ⟨(some 5), .set (.t 8), none⟩])
  (.seq (.region false [⟨(some 9), .mov (.t 1), none⟩, ⟨(some 10), .call true 39 [(.t 9)], none⟩, ⟨(some 6), .set (.t 10), none⟩])
  (.seq (.seq (.region false [⟨(some 11), .mov (.t 5), none⟩])
  (.cond (.t 11) (.seq (.seq (.region false [⟨(some 12), .mov (.t 6), none⟩])
  (.cond (.t 12) (.seq (.region false [⟨(some 4), .set (.c (.int .i64 0)), none⟩])
  .ret)
  .skip))
  (.seq (.region false [⟨(some 4), .set (.c (.int .i64 (-1))), none⟩])
  .ret))
  .skip))
  (.seq (.seq (.region false [⟨(some 13), .mov (.t 6), none⟩])
  (.cond (.t 13) (.seq (.region false [⟨(some 4), .set (.c (.int .i64 1)), none⟩])
  .ret)
  .skip))
  (.seq (.seq (.region false [⟨(some 14), .mov (.t 0), none⟩, ⟨(some 15), .mov (.t 1), none⟩, ⟨(some 16), .bin .lss .prim (.t 14) (.t 15), none⟩])
  (.cond (.t 16) (.seq (.region false [⟨(some 4), .set (.c (.int .i64 (-1))), none⟩])
  .ret)
  .skip))
  (.seq (.seq (.region false [⟨(some 17), .mov (.t 0), none⟩, ⟨(some 18), .mov (.t 1), none⟩, ⟨(some 19), .bin .gtr .prim (.t 17) (.t 18), none⟩])
  (.cond (.t 19) (.seq (.region false [⟨(some 4), .set (.c (.int .i64 1)), none⟩])
  .ret)
  .skip))
  (.seq (.region false [⟨(some 4), .set (.c (.int .i64 0)), none⟩])
  .ret))))))))⟩
theorem c33 : cfun Try.prog 33 = some f33 := by kernel_rfl
def f34 : AFun := ⟨1, 6, [.t 2], (.seq (.region false [⟨(some 2), .newnil 2, none⟩])
  (.seq (.region false [⟨(some 3), .mov (.t 0), none⟩, ⟨(some 4), .build [(.nils 1)] [(0, 1, (.t 3))], none⟩, ⟨(some 5), .call true 40 [(.t 4), (.c (.fn 41 []))], none⟩, ⟨(some 2), .set (.t 5), none⟩])
  .ret))⟩
theorem c34 : cfun Try.prog 34 = some f34 := by kernel_rfl
def f35l0 : ACode := (.seq (.seq (.region false [⟨(some 5), .mov (.t 4), none⟩, ⟨(some 6), .mov (.t 0), none⟩, ⟨(some 7), .len false (.t 6), none⟩, ⟨(some 8), .bin .lss .prim (.t 5) (.t 7), none⟩])
  (.cond (.t 8) .skip
  (.exit 0)))
  (.seq (.block 1 (.region true [⟨(some 11), .mov (.t 3), none⟩, ⟨(some 12), .mov (.t 0), none⟩, ⟨(some 13), .mov (.t 4), none⟩, ⟨(some 14), .iaddr 1 (.t 12) (.t 13), none⟩, ⟨(some 15), .load none (.t 14), none⟩, ⟨(some 16), .mov (.t 0), none⟩, ⟨(some 17), .mov (.t 4), none⟩, ⟨(some 18), .bin .add .prim (.t 17) (.c (.int .i64 1)), none⟩, ⟨(some 19), .iaddr 1 (.t 16) (.t 18), none⟩, ⟨(some 20), .load none (.t 19), none⟩, ⟨(some 21), .build [(.int .i64 0), (.int .i64 0)] [(0, 1, (.t 15)), (1, 1, (.t 20))], none⟩, ⟨(some 22), .bslice false 2 [(.t 21)], none⟩, ⟨(some 23), .append 2 16 (.t 11) (.t 22), none⟩, ⟨(some 3), .mov (.t 23), none⟩]))
  (.region false [⟨(some 9), .mov (.t 4), none⟩, ⟨(some 10), .bin .add .prim (.t 9) (.c (.int .i64 2)), none⟩, ⟨(some 4), .set (.t 10), none⟩])))
def f35 : AFun := ⟨1, 25, [.t 2], (.seq (.region false [⟨(some 2), .newnil 2, none⟩])
  (.seq (.region false [⟨(some 3), .newnil 2, none⟩])
  (.seq (.seq (.region false [⟨(some 4), .set (.c (.int .i64 0)), none⟩])
  (.block 0 (.loop f35l0)))
  (.seq (.region false [⟨(some 24), .mov (.t 3), none⟩, ⟨(some 2), .set (.t 24), none⟩])
  .ret))))⟩
theorem c35 : cfun Try.prog 35 = some f35 := by kernel_rfl
def f36 : AFun := ⟨2, 27, [.t 4], (.seq (.region false [⟨(some 4), .newnil 2, none⟩])
  (.seq (.seq (.region false [⟨(some 5), .mov (.t 1), none⟩, ⟨(some 6), .bin .lss .prim (.t 5) (.c (.int .i64 0)), none⟩])
  (.cond (.t 6) (.region false [⟨(some 7), .bad, none⟩, ⟨none, .bad, none⟩])
  .skip))
  (.seq (.seq (.region false [⟨(some 8), .mov (.t 1), none⟩, ⟨(some 9), .mov (.t 0), none⟩, ⟨(some 10), .cap (.t 9), none⟩, ⟨(some 11), .mov (.t 0), none⟩, ⟨(some 12), .len false (.t 11), none⟩, ⟨(some 13), .bin .sub .prim (.t 10) (.t 12), none⟩, ⟨(some 14), .bin .sub .prim (.t 8) (.t 13), none⟩, ⟨(some 1), .set (.t 14), none⟩])
  (.seq (.region false [⟨(some 15), .mov (.t 1), none⟩, ⟨(some 16), .bin .gtr .prim (.t 15) (.c (.int .i64 0)), none⟩])
  (.cond (.t 16) (.region false [⟨(some 17), .mov (.t 0), none⟩, ⟨(some 18), .mov (.t 0), none⟩, ⟨(some 19), .cap (.t 18), none⟩, ⟨(some 20), .slice (some 2) (.t 17) none (some (.t 19)), none⟩, ⟨(some 21), .mov (.t 1), none⟩, ⟨(some 22), .appendz 2 16 [(.int .i64 0), (.int .i64 0)] (.t 20) (.t 21), none⟩, ⟨(some 23), .mov (.t 0), none⟩, ⟨(some 24), .len false (.t 23), none⟩, ⟨(some 25), .slice (some 2) (.t 22) none (some (.t 24)), none⟩, ⟨(some 0), .set (.t 25), none⟩])
  .skip)))
  (.seq (.region false [⟨(some 26), .mov (.t 0), none⟩, ⟨(some 4), .set (.t 26), none⟩])
  .ret))))⟩
theorem c36 : cfun Try.prog 36 = some f36 := by kernel_rfl
def f39 : AFun := ⟨1, 6, [.t 2], (.seq (.region false [⟨(some 2), .set (.c (.bool false)), none⟩])
  (.seq (.region false [⟨(some 3), .mov (.t 0), none⟩, ⟨(some 4), .mov (.t 0), none⟩, ⟨(some 5), .bin .neq .prim (.t 3) (.t 4), none⟩, ⟨(some 2), .set (.t 5), none⟩])
  .ret))⟩
theorem c39 : cfun Try.prog 39 = some f39 := by kernel_rfl
def f40l0 : ACode := (.seq (.seq (.region false [⟨(some 9), .mov (.t 6), none⟩, ⟨(some 10), .len false (.t 9), none⟩, ⟨(some 11), .bin .gtr .prim (.t 10) (.c (.int .i64 1)), none⟩])
  (.cond (.t 11) .skip
  (.exit 0)))
  (.seq (.block 1 (.region true [⟨(some 14), .mov (.t 5), none⟩, ⟨(some 15), .mov (.t 1), none⟩, ⟨(some 16), .mov (.t 6), none⟩, ⟨(some 17), .iaddr 1 (.t 16) (.c (.int .i64 0)), none⟩, ⟨(some 18), .load none (.t 17), none⟩, ⟨(some 19), .mov (.t 6), none⟩, ⟨(some 20), .iaddr 1 (.t 19) (.c (.int .i64 1)), none⟩, ⟨(some 21), .load none (.t 20), none⟩, ⟨(some 22), .callv false (.t 15) [(.t 18), (.t 21)], none⟩, ⟨(some 23), .bslice false 2 [(.t 22)], none⟩, ⟨(some 24), .append 2 16 (.t 14) (.t 23), none⟩, ⟨(some 5), .mov (.t 24), none⟩]))
  (.region false [⟨(some 12), .mov (.t 6), none⟩, ⟨(some 13), .slice (some 1) (.t 12) (some (.c (.int .i64 2))) none, none⟩, ⟨(some 6), .set (.t 13), none⟩])))
def f40 : AFun := ⟨2, 26, [.t 4], (.seq (.region false [⟨(some 2), .box (.t 0), none⟩, ⟨(some 4), .newnil 2, none⟩])
  (.seq (.region false [⟨(some 5), .newnil 2, none⟩])
  (.seq (.seq (.region false [⟨(some 7), .faddr 0 (.t 2), none⟩, ⟨(some 8), .load none (.t 7), none⟩, ⟨(some 6), .set (.t 8), none⟩])
  (.block 0 (.loop f40l0)))
  (.seq (.region false [⟨(some 25), .mov (.t 5), none⟩, ⟨(some 4), .set (.t 25), none⟩])
  .ret))))⟩
theorem c40 : cfun Try.prog 40 = some f40 := by kernel_rfl
def f41 : AFun := ⟨2, 8, [.cell 4 (some 2)], (.seq (.region false [⟨(some 4), .alloc [(.int .i64 0), (.int .i64 0)], none⟩])
  (.seq (.region false [⟨(some 5), .mov (.t 0), none⟩, ⟨(some 6), .mov (.t 1), none⟩, ⟨(some 7), .build [(.int .i64 0), (.int .i64 0)] [(0, 1, (.t 5)), (1, 1, (.t 6))], none⟩, ⟨none, .store true 2 (.t 4) (.t 7), none⟩])
  .ret))⟩
theorem c41 : cfun Try.prog 41 = some f41 := by kernel_rfl
end Go.Proofs.Rg
