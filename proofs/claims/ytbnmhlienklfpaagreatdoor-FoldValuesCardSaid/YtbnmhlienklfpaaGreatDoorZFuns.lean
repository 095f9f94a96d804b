/- The functions that the laws of the great seat reach, as texts of our small language. -/
import Derived.Test.YtbnmhlienklfpaaGreatDoorAiCode
import Derived.Test.YtbnmhlienklfpaaGreatDoorProg
import Derived.KernelRfl
set_option linter.all false
namespace Go.Proofs.Ut
open Go.Ai
set_option maxRecDepth 100000
def f5l0 : ACode := (.seq (.seq (.region false [⟨(some 26), .mov (.t 6), none⟩, ⟨(some 27), .mov (.t 1), none⟩, ⟨(some 28), .len false (.t 27), none⟩, ⟨(some 29), .bin .lss .prim (.t 26) (.t 28), none⟩])
  (.cond (.t 29) .skip
  (.exit 0)))
  (.seq (.block 1 (.seq (.seq (.region false [⟨(some 32), .mov (.t 1), none⟩, ⟨(some 33), .mov (.t 6), none⟩, ⟨(some 34), .iaddr 1 (.t 32) (.t 33), none⟩, ⟨(some 35), .load none (.t 34), none⟩, ⟨(some 36), .call true 19 [(.t 35)], none⟩, ⟨(some 37), .un .not (.t 36), none⟩])
  (.cond (.t 37) (.seq (.region false [⟨(some 38), .call true 18 [], none⟩, ⟨(some 4), .set (.t 38), none⟩])
  .ret)
  .skip))
  (.region false [⟨(some 39), .mov (.t 5), none⟩, ⟨(some 40), .mov (.t 1), none⟩, ⟨(some 41), .mov (.t 6), none⟩, ⟨(some 42), .iaddr 1 (.t 40) (.t 41), none⟩, ⟨(some 43), .load none (.t 42), none⟩, ⟨(some 44), .len false (.t 43), none⟩, ⟨(some 45), .bin .add .prim (.t 39) (.t 44), none⟩, ⟨(some 5), .set (.t 45), none⟩])))
  (.region false [⟨(some 30), .mov (.t 6), none⟩, ⟨(some 31), .bin .add .prim (.t 30) (.c (.int .i64 1)), none⟩, ⟨(some 6), .set (.t 31), none⟩])))
def f5 : AFun := ⟨2, 97, [.t 4], (.seq (.region false [⟨(some 4), .set (.c (.bool false)), none⟩])
  (.seq (.seq (.region false [⟨(some 17), .mov (.t 0), none⟩, ⟨(some 18), .len true (.t 17), none⟩, ⟨(some 19), .bin .gtr .prim (.t 18) (.c (.int .i64 5000)), none⟩, ⟨(some 20), .mov (.t 19), none⟩, ⟨(some 21), .mov (.t 1), some (20, false)⟩, ⟨(some 22), .len false (.t 21), some (20, false)⟩, ⟨(some 23), .bin .gtr .prim (.t 22) (.c (.int .i64 70)), some (20, false)⟩, ⟨(some 24), .pick (.t 20) (.c (.bool true)) (.t 23), none⟩])
  (.cond (.t 24) (.seq (.region false [⟨(some 25), .call true 18 [], none⟩, ⟨(some 4), .set (.t 25), none⟩])
  .ret)
  .skip))
  (.seq (.region false [⟨(some 5), .set (.c (.int .i64 0)), none⟩])
  (.seq (.seq (.region false [⟨(some 6), .set (.c (.int .i64 0)), none⟩])
  (.block 0 (.loop f5l0)))
  (.seq (.seq (.region false [⟨(some 46), .mov (.t 5), none⟩, ⟨(some 47), .bin .gtr .prim (.t 46) (.c (.int .i64 200)), none⟩])
  (.cond (.t 47) (.seq (.region false [⟨(some 48), .call true 18 [], none⟩, ⟨(some 4), .set (.t 48), none⟩])
  .ret)
  .skip))
  (.seq (.region false [⟨(some 50), .mov (.t 0), none⟩, ⟨(some 51), .call true 20 [(.t 50)], none⟩, ⟨(some 49), .mov (.t 51), none⟩, ⟨(some 52), .extr (.t 49) 0, none⟩, ⟨(some 53), .extr (.t 49) 1, none⟩, ⟨(some 54), .extr (.t 49) 2, none⟩, ⟨(some 7), .set (.t 52), none⟩, ⟨(some 8), .set (.t 53), none⟩, ⟨(some 9), .set (.t 54), none⟩])
  (.seq (.region false [⟨(some 56), .mov (.t 0), none⟩, ⟨(some 57), .call true 21 [(.t 56)], none⟩, ⟨(some 55), .mov (.t 57), none⟩, ⟨(some 58), .extr (.t 55) 0, none⟩, ⟨(some 59), .extr (.t 55) 1, none⟩, ⟨(some 60), .extr (.t 55) 2, none⟩, ⟨(some 10), .set (.t 58), none⟩, ⟨(some 11), .set (.t 59), none⟩, ⟨(some 12), .set (.t 60), none⟩])
  (.seq (.region false [⟨(some 62), .mov (.t 1), none⟩, ⟨(some 63), .call true 22 [(.t 62)], none⟩, ⟨(some 61), .mov (.t 63), none⟩, ⟨(some 64), .extr (.t 61) 0, none⟩, ⟨(some 65), .extr (.t 61) 1, none⟩, ⟨(some 13), .set (.t 64), none⟩, ⟨(some 14), .set (.t 65), none⟩])
  (.seq (.region false [⟨(some 67), .mov (.t 1), none⟩, ⟨(some 68), .call true 23 [(.t 67)], none⟩, ⟨(some 66), .mov (.t 68), none⟩, ⟨(some 69), .extr (.t 66) 0, none⟩, ⟨(some 70), .extr (.t 66) 1, none⟩, ⟨(some 15), .set (.t 69), none⟩, ⟨(some 16), .set (.t 70), none⟩])
  (.seq (.region false [⟨(some 71), .call true 18 [], none⟩, ⟨(some 72), .mov (.t 71), none⟩, ⟨(some 73), .mov (.t 7), some (72, true)⟩, ⟨(some 74), .mov (.t 10), some (72, true)⟩, ⟨(some 75), .call true 24 [(.t 73), (.t 74), (.c (.fn 25 []))], some (72, true)⟩, ⟨(some 76), .pick (.t 72) (.t 75) (.c (.bool false)), none⟩, ⟨(some 77), .mov (.t 76), none⟩, ⟨(some 78), .mov (.t 8), some (77, true)⟩, ⟨(some 79), .mov (.t 11), some (77, true)⟩, ⟨(some 80), .bin .eql .prim (.t 78) (.t 79), some (77, true)⟩, ⟨(some 81), .pick (.t 77) (.t 80) (.c (.bool false)), none⟩, ⟨(some 82), .mov (.t 81), none⟩, ⟨(some 83), .mov (.t 9), some (82, true)⟩, ⟨(some 84), .mov (.t 12), some (82, true)⟩, ⟨(some 85), .bin .eql .prim (.t 83) (.t 84), some (82, true)⟩, ⟨(some 86), .pick (.t 82) (.t 85) (.c (.bool false)), none⟩, ⟨(some 87), .mov (.t 86), none⟩, ⟨(some 88), .mov (.t 13), some (87, true)⟩, ⟨(some 89), .mov (.t 15), some (87, true)⟩, ⟨(some 90), .bin .eql .prim (.t 88) (.t 89), some (87, true)⟩, ⟨(some 91), .pick (.t 87) (.t 90) (.c (.bool false)), none⟩, ⟨(some 92), .mov (.t 91), none⟩, ⟨(some 93), .mov (.t 14), some (92, true)⟩, ⟨(some 94), .mov (.t 16), some (92, true)⟩, ⟨(some 95), .bin .eql .prim (.t 93) (.t 94), some (92, true)⟩, ⟨(some 96), .pick (.t 92) (.t 95) (.c (.bool false)), none⟩, ⟨(some 4), .set (.t 96), none⟩])
  .ret))))))))))⟩
theorem c5 : cfun Tryz.prog 5 = some f5 := by kernel_rfl
def f7l0 : ACode := (.seq (.seq (.region false [⟨(some 20), .mov (.t 0), none⟩, ⟨(some 21), .bin .neq .prim (.t 20) (.c (.str [])), none⟩])
  (.cond (.t 21) .skip
  (.exit 1)))
  (.block 2 (.seq (.region false [⟨(some 23), .mov (.t 0), none⟩, ⟨(some 24), .call true 27 [(.t 23), (.c (.str [13, 10]))], none⟩, ⟨(some 22), .mov (.t 24), none⟩, ⟨(some 25), .extr (.t 22) 0, none⟩, ⟨(some 26), .extr (.t 22) 1, none⟩, ⟨(some 27), .extr (.t 22) 2, none⟩, ⟨(some 5), .set (.t 25), none⟩, ⟨(some 6), .set (.t 26), none⟩, ⟨(some 7), .set (.t 27), none⟩])
  (.seq (.region false [⟨(some 28), .mov (.t 5), none⟩, ⟨(some 29), .call true 28 [(.t 28), (.c (.str [32]))], none⟩, ⟨(some 30), .mov (.t 29), none⟩, ⟨(some 31), .mov (.t 5), some (30, false)⟩, ⟨(some 32), .call true 28 [(.t 31), (.c (.str [9]))], some (30, false)⟩, ⟨(some 33), .pick (.t 30) (.c (.bool true)) (.t 32), none⟩, ⟨(some 8), .set (.t 33), none⟩])
  (.seq (.region false [⟨(some 34), .mov (.t 4), none⟩, ⟨(some 35), .call true 29 [(.t 34)], none⟩, ⟨(some 9), .set (.t 35), none⟩])
  (.seq (.block 3 (.seq (.region false [⟨(some 40), .mov (.t 7), none⟩, ⟨(some 41), .un .not (.t 40), none⟩, ⟨(some 42), .mov (.t 41), none⟩, ⟨(some 43), .mov (.t 5), some (42, false)⟩, ⟨(some 44), .call true 30 [(.t 43), (.c (.str [13, 10]))], some (42, false)⟩, ⟨(some 45), .pick (.t 42) (.c (.bool true)) (.t 44), none⟩, ⟨(some 46), .mov (.t 45), none⟩, ⟨(some 47), .mov (.t 8), some (46, false)⟩, ⟨(some 48), .mov (.t 47), some (46, false)⟩, ⟨(some 49), .mov (.t 9), some (48, true)⟩, ⟨(some 50), .bin .eql .ptr (.t 49) (.c .nilp), some (48, true)⟩, ⟨(some 51), .pick (.t 48) (.t 50) (.c (.bool false)), some (46, false)⟩, ⟨(some 52), .pick (.t 46) (.c (.bool true)) (.t 51), none⟩, ⟨(some 39), .set (.t 52), none⟩])
  (.cond (.t 39) (.seq (.region false [⟨(some 2), .newnil 1, none⟩, ⟨(some 3), .set (.c (.int .i64 17)), none⟩])
  .ret)
  (.seq (.region false [⟨(some 54), .mov (.t 8), none⟩, ⟨(some 53), .set (.t 54), none⟩])
  (.cond (.t 53) (.region true [⟨(some 55), .mov (.t 9), none⟩, ⟨(some 56), .nilchk (.t 55), none⟩, ⟨(some 57), .load none (.t 56), none⟩, ⟨(some 58), .mov (.t 5), none⟩, ⟨(some 59), .slice none (.t 58) (some (.c (.int .i64 1))) none, none⟩, ⟨(some 60), .bin .add .prim (.t 57) (.t 59), none⟩, ⟨(some 61), .nilchk (.t 55), none⟩, ⟨none, .store true 1 (.t 61) (.t 60), none⟩])
  (.region false [⟨(some 36), .mov (.t 4), none⟩, ⟨(some 37), .mov (.t 5), none⟩, ⟨(some 38), .call true 31 [(.t 36), (.t 37)], none⟩]))))))
  (.region false [⟨(some 62), .mov (.t 6), none⟩, ⟨(some 0), .set (.t 62), none⟩])))))))
def f7 : AFun := ⟨1, 67, [.t 2, .t 3], (.seq (.region false [⟨(some 2), .newnil 1, none⟩, ⟨(some 3), .set (.c (.int .i64 0)), none⟩])
  (.seq (.block 0 (.seq (.region false [⟨(some 11), .mov (.t 0), none⟩, ⟨(some 12), .len true (.t 11), none⟩, ⟨(some 13), .bin .gtr .prim (.t 12) (.c (.int .i64 20000)), none⟩, ⟨(some 10), .set (.t 13), none⟩])
  (.cond (.t 10) (.seq (.region false [⟨(some 2), .newnil 1, none⟩, ⟨(some 3), .set (.c (.int .i64 4)), none⟩])
  .ret)
  (.seq (.region false [⟨(some 15), .mov (.t 0), none⟩, ⟨(some 16), .call true 26 [(.t 15)], none⟩, ⟨(some 17), .un .not (.t 16), none⟩, ⟨(some 14), .set (.t 17), none⟩])
  (.cond (.t 14) (.seq (.region false [⟨(some 2), .newnil 1, none⟩, ⟨(some 3), .set (.c (.int .i64 3)), none⟩])
  .ret)
  .skip)))))
  (.seq (.region false [⟨(some 18), .build [(.nils 1)] [], none⟩, ⟨(some 19), .box (.t 18), none⟩, ⟨(some 4), .set (.t 19), none⟩])
  (.seq (.block 1 (.loop f7l0))
  (.seq (.region false [⟨(some 63), .mov (.t 4), none⟩, ⟨(some 64), .nilchk (.t 63), none⟩, ⟨(some 65), .faddr 0 (.t 64), none⟩, ⟨(some 66), .load none (.t 65), none⟩, ⟨(some 2), .set (.t 66), none⟩, ⟨(some 3), .set (.c (.int .i64 0)), none⟩])
  .ret)))))⟩
theorem c7 : cfun Tryz.prog 7 = some f7 := by kernel_rfl
def f9l0 : ACode := (.block 1 (.seq (.region false [⟨(some 10), .mov (.t 0), none⟩, ⟨(some 11), .call true 27 [(.t 10), (.c (.str [92]))], none⟩, ⟨(some 9), .mov (.t 11), none⟩, ⟨(some 12), .extr (.t 9) 0, none⟩, ⟨(some 13), .extr (.t 9) 1, none⟩, ⟨(some 14), .extr (.t 9) 2, none⟩, ⟨(some 5), .set (.t 12), none⟩, ⟨(some 6), .set (.t 13), none⟩, ⟨(some 7), .set (.t 14), none⟩])
  (.seq (.region false [⟨(some 15), .mov (.t 5), none⟩, ⟨(some 16), .call true 33 [(.t 4), (.t 15)], none⟩])
  (.seq (.seq (.region false [⟨(some 17), .mov (.t 7), none⟩, ⟨(some 18), .un .not (.t 17), none⟩])
  (.cond (.t 18) (.seq (.region false [⟨(some 19), .call true 34 [(.t 4)], none⟩, ⟨(some 2), .set (.t 19), none⟩, ⟨(some 3), .set (.c (.int .i64 0)), none⟩])
  .ret)
  .skip))
  (.seq (.seq (.region false [⟨(some 20), .mov (.t 6), none⟩, ⟨(some 21), .bin .eql .prim (.t 20) (.c (.str [])), none⟩, ⟨(some 22), .mov (.t 21), none⟩, ⟨(some 23), .mov (.t 6), some (22, false)⟩, ⟨(some 24), .slice none (.t 23) none (some (.c (.int .i64 1))), some (22, false)⟩, ⟨(some 25), .call true 35 [(.c (.str [92, 44, 59, 110, 78])), (.t 24)], some (22, false)⟩, ⟨(some 26), .un .not (.t 25), some (22, false)⟩, ⟨(some 27), .pick (.t 22) (.c (.bool true)) (.t 26), none⟩])
  (.cond (.t 27) (.seq (.region false [⟨(some 2), .set (.c (.str [])), none⟩, ⟨(some 3), .set (.c (.int .i64 18)), none⟩])
  .ret)
  .skip))
  (.seq (.region false [⟨(some 28), .mov (.t 6), none⟩, ⟨(some 29), .slice none (.t 28) none (some (.c (.int .i64 1))), none⟩, ⟨(some 8), .set (.t 29), none⟩])
  (.seq (.seq (.region false [⟨(some 30), .mov (.t 8), none⟩, ⟨(some 31), .call true 36 [(.t 30), (.c (.str [110]))], none⟩])
  (.cond (.t 31) (.region false [⟨(some 8), .set (.c (.str [10])), none⟩])
  .skip))
  (.seq (.region false [⟨(some 32), .mov (.t 8), none⟩, ⟨(some 33), .call true 33 [(.t 4), (.t 32)], none⟩])
  (.region false [⟨(some 34), .mov (.t 6), none⟩, ⟨(some 35), .slice none (.t 34) (some (.c (.int .i64 1))) none, none⟩, ⟨(some 0), .set (.t 35), none⟩])))))))))
def f9 : AFun := ⟨1, 36, [.t 2, .t 3], (.seq (.region false [⟨(some 2), .set (.c (.str [])), none⟩, ⟨(some 3), .set (.c (.int .i64 0)), none⟩])
  (.seq (.region false [⟨(some 4), .allocb 57 5, none⟩])
  (.block 0 (.loop f9l0))))⟩
theorem c9 : cfun Tryz.prog 9 = some f9 := by kernel_rfl
def f11l0 : ACode := (.seq (.seq (.region false [⟨(some 23), .mov (.t 5), none⟩, ⟨(some 24), .bin .neq .prim (.t 23) (.c (.str [])), none⟩])
  (.cond (.t 24) .skip
  (.exit 2)))
  (.seq (.block 3 (.seq (.region false [⟨(some 28), .mov (.t 5), none⟩, ⟨(some 29), .call true 37 [(.t 28), (.c (.int .i64 74))], none⟩, ⟨(some 6), .set (.t 29), none⟩])
  (.region false [⟨(some 30), .mov (.t 5), none⟩, ⟨(some 31), .mov (.t 6), none⟩, ⟨(some 32), .slice none (.t 30) none (some (.t 31)), none⟩, ⟨(some 33), .bin .add .prim (.c (.str [32])) (.t 32), none⟩, ⟨(some 34), .bin .add .prim (.t 33) (.c (.str [13, 10])), none⟩, ⟨(some 35), .call true 33 [(.t 3), (.t 34)], none⟩])))
  (.region false [⟨(some 25), .mov (.t 5), none⟩, ⟨(some 26), .mov (.t 6), none⟩, ⟨(some 27), .slice none (.t 25) (some (.t 26)) none, none⟩, ⟨(some 5), .set (.t 27), none⟩])))
def f11l1 : ACode := (.seq (.region false [⟨(some 10), .bin .lss .prim (.t 9) (.t 8), none⟩])
  (.seq (.cond (.t 10) .skip
  (.exit 0))
  (.seq (.block 1 (.seq (.region false [⟨(some 11), .iaddr 1 (.t 7) (.t 9), none⟩, ⟨(some 12), .load none (.t 11), none⟩, ⟨(some 5), .set (.t 12), none⟩])
  (.seq (.region false [⟨(some 13), .mov (.t 5), none⟩, ⟨(some 14), .call true 37 [(.t 13), (.c (.int .i64 75))], none⟩, ⟨(some 6), .set (.t 14), none⟩])
  (.seq (.region false [⟨(some 15), .mov (.t 5), none⟩, ⟨(some 16), .mov (.t 6), none⟩, ⟨(some 17), .slice none (.t 15) none (some (.t 16)), none⟩, ⟨(some 18), .bin .add .prim (.t 17) (.c (.str [13, 10])), none⟩, ⟨(some 19), .call true 33 [(.t 3), (.t 18)], none⟩])
  (.seq (.region false [⟨(some 20), .mov (.t 5), none⟩, ⟨(some 21), .mov (.t 6), none⟩, ⟨(some 22), .slice none (.t 20) (some (.t 21)) none, none⟩, ⟨(some 5), .set (.t 22), none⟩])
  (.block 2 (.loop f11l0)))))))
  (.region false [⟨(some 36), .bin .add .prim (.t 9) (.c (.int .i64 1)), none⟩, ⟨(some 9), .mov (.t 36), none⟩]))))
def f11 : AFun := ⟨1, 38, [.t 2], (.seq (.region false [⟨(some 2), .set (.c (.str [])), none⟩])
  (.seq (.region false [⟨(some 3), .allocb 57 5, none⟩])
  (.seq (.seq (.region false [⟨(some 7), .mov (.t 0), none⟩, ⟨(some 8), .len false (.t 7), none⟩, ⟨(some 9), .mov (.c (.int .i64 0)), none⟩])
  (.block 0 (.loop f11l1)))
  (.seq (.region false [⟨(some 37), .call true 34 [(.t 3)], none⟩, ⟨(some 2), .set (.t 37), none⟩])
  .ret))))⟩
theorem c11 : cfun Tryz.prog 11 = some f11 := by kernel_rfl
def f13 : AFun := ⟨2, 8, [.t 4], (.seq (.region false [⟨(some 4), .set (.c (.bool false)), none⟩])
  (.seq (.region false [⟨(some 5), .mov (.t 0), none⟩, ⟨(some 6), .mov (.t 1), none⟩, ⟨(some 7), .call true 39 [(.t 5), (.t 6), (.c (.fn 40 []))], none⟩, ⟨(some 4), .set (.t 7), none⟩])
  .ret))⟩
theorem c13 : cfun Tryz.prog 13 = some f13 := by kernel_rfl
def f14 : AFun := ⟨1, 7, [.t 2], (.seq (.region false [⟨(some 2), .set (.c (.str [])), none⟩])
  (.seq (.region false [⟨(some 3), .bslice true 1 [(.c (.str [92])), (.c (.str [92, 92])), (.c (.str [44])), (.c (.str [92, 44])), (.c (.str [59])), (.c (.str [92, 59])), (.c (.str [10])), (.c (.str [92, 110])), (.c (.str [13])), (.c (.str []))], none⟩, ⟨(some 4), .call true 41 [(.t 3)], none⟩, ⟨(some 5), .mov (.t 0), none⟩, ⟨(some 6), .call true 42 [(.t 4), (.t 5)], none⟩, ⟨(some 2), .set (.t 6), none⟩])
  .ret))⟩
theorem c14 : cfun Tryz.prog 14 = some f14 := by kernel_rfl
def f16l0 : ACode := (.seq (.region false [⟨(some 14), .bin .lss .prim (.t 13) (.t 12), none⟩])
  (.seq (.cond (.t 14) .skip
  (.exit 0))
  (.seq (.block 1 (.seq (.region false [⟨(some 15), .mov (.t 13), none⟩, ⟨(some 8), .set (.t 15), none⟩])
  (.seq (.seq (.region false [⟨(some 16), .mov (.t 0), none⟩, ⟨(some 17), .mov (.t 8), none⟩, ⟨(some 18), .sidx (.t 16) (.t 17), none⟩, ⟨(some 19), .mov (.t 1), none⟩, ⟨(some 20), .bin .eql .prim (.t 18) (.t 19), none⟩, ⟨(some 21), .mov (.t 20), none⟩, ⟨(some 22), .mov (.t 7), some (21, true)⟩, ⟨(some 23), .un .not (.t 22), some (21, true)⟩, ⟨(some 24), .pick (.t 21) (.t 23) (.c (.bool false)), none⟩])
  (.cond (.t 24) (.seq (.region false [⟨(some 25), .mov (.t 5), none⟩, ⟨(some 26), .mov (.t 0), none⟩, ⟨(some 27), .mov (.t 6), none⟩, ⟨(some 28), .mov (.t 8), none⟩, ⟨(some 29), .slice none (.t 26) (some (.t 27)) (some (.t 28)), none⟩, ⟨(some 30), .call true 31 [(.t 25), (.t 29)], none⟩])
  (.region false [⟨(some 31), .mov (.t 8), none⟩, ⟨(some 32), .bin .add .prim (.t 31) (.c (.int .i64 1)), none⟩, ⟨(some 6), .set (.t 32), none⟩]))
  .skip))
  (.region false [⟨(some 33), .mov (.t 0), none⟩, ⟨(some 34), .mov (.t 8), none⟩, ⟨(some 35), .sidx (.t 33) (.t 34), none⟩, ⟨(some 36), .bin .eql .prim (.t 35) (.c (.int .u8 92)), none⟩, ⟨(some 37), .mov (.t 36), none⟩, ⟨(some 38), .mov (.t 7), some (37, true)⟩, ⟨(some 39), .un .not (.t 38), some (37, true)⟩, ⟨(some 40), .pick (.t 37) (.t 39) (.c (.bool false)), none⟩, ⟨(some 7), .set (.t 40), none⟩]))))
  (.region false [⟨(some 41), .bin .add .prim (.t 13) (.c (.int .i64 1)), none⟩, ⟨(some 13), .mov (.t 41), none⟩]))))
def f16 : AFun := ⟨2, 52, [.t 4], (.seq (.region false [⟨(some 4), .newnil 1, none⟩])
  (.seq (.region false [⟨(some 9), .build [(.nils 1)] [], none⟩, ⟨(some 10), .box (.t 9), none⟩, ⟨(some 5), .set (.t 10), none⟩])
  (.seq (.region false [⟨(some 6), .set (.c (.int .i64 0)), none⟩, ⟨(some 7), .set (.c (.bool false)), none⟩])
  (.seq (.seq (.region false [⟨(some 11), .mov (.t 0), none⟩, ⟨(some 12), .len true (.t 11), none⟩, ⟨(some 13), .mov (.c (.int .i64 0)), none⟩])
  (.block 0 (.loop f16l0)))
  (.seq (.region false [⟨(some 42), .mov (.t 5), none⟩, ⟨(some 43), .mov (.t 0), none⟩, ⟨(some 44), .mov (.t 6), none⟩, ⟨(some 45), .slice none (.t 43) (some (.t 44)) none, none⟩, ⟨(some 46), .call true 31 [(.t 42), (.t 45)], none⟩])
  (.seq (.region false [⟨(some 47), .mov (.t 5), none⟩, ⟨(some 48), .nilchk (.t 47), none⟩, ⟨(some 49), .faddr 0 (.t 48), none⟩, ⟨(some 50), .load none (.t 49), none⟩, ⟨(some 51), .call true 43 [(.t 50)], none⟩, ⟨(some 4), .set (.t 51), none⟩])
  .ret))))))⟩
theorem c16 : cfun Tryz.prog 16 = some f16 := by kernel_rfl
def f26 : AFun := ⟨1, 5, [.t 2], (.seq (.region false [⟨(some 2), .set (.c (.bool false)), none⟩])
  (.seq (.region false [⟨(some 3), .mov (.t 0), none⟩, ⟨(some 4), .call true 56 [(.t 3), (.c (.fn 57 []))], none⟩, ⟨(some 2), .set (.t 4), none⟩])
  .ret))⟩
theorem c26 : cfun Tryz.prog 26 = some f26 := by kernel_rfl
def f27 : AFun := ⟨2, 13, [.t 4, .t 5, .t 6], (.seq (.region false [⟨(some 4), .set (.c (.str [])), none⟩, ⟨(some 5), .set (.c (.str [])), none⟩, ⟨(some 6), .set (.c (.bool false)), none⟩])
  (.seq (.region false [⟨(some 7), .mov (.t 0), none⟩, ⟨(some 8), .mov (.t 1), none⟩, ⟨(some 9), .call true 58 [(.t 7), (.t 8)], none⟩, ⟨(some 10), .extr (.t 9) 0, none⟩, ⟨(some 11), .extr (.t 9) 1, none⟩, ⟨(some 12), .extr (.t 9) 2, none⟩, ⟨(some 4), .set (.t 10), none⟩, ⟨(some 5), .set (.t 11), none⟩, ⟨(some 6), .set (.t 12), none⟩])
  .ret))⟩
theorem c27 : cfun Tryz.prog 27 = some f27 := by kernel_rfl
def f28 : AFun := ⟨2, 8, [.t 4], (.seq (.region false [⟨(some 4), .set (.c (.bool false)), none⟩])
  (.seq (.region false [⟨(some 5), .mov (.t 0), none⟩, ⟨(some 6), .mov (.t 1), none⟩, ⟨(some 7), .call true 59 [(.t 5), (.t 6)], none⟩, ⟨(some 4), .set (.t 7), none⟩])
  .ret))⟩
theorem c28 : cfun Tryz.prog 28 = some f28 := by kernel_rfl
def f29 : AFun := ⟨1, 20, [.t 2], (.seq (.region false [⟨(some 2), .set (.c .nilp), none⟩])
  (.seq (.seq (.region false [⟨(some 3), .mov (.t 0), none⟩, ⟨(some 4), .nilchk (.t 3), none⟩, ⟨(some 5), .faddr 0 (.t 4), none⟩, ⟨(some 6), .load none (.t 5), none⟩, ⟨(some 7), .len false (.t 6), none⟩, ⟨(some 8), .bin .eql .prim (.t 7) (.c (.int .i64 0)), none⟩])
  (.cond (.t 8) (.seq (.region false [⟨(some 2), .set (.c .nilp), none⟩])
  .ret)
  .skip))
  (.seq (.region true [⟨(some 9), .mov (.t 0), none⟩, ⟨(some 10), .nilchk (.t 9), none⟩, ⟨(some 11), .faddr 0 (.t 10), none⟩, ⟨(some 12), .load none (.t 11), none⟩, ⟨(some 13), .mov (.t 0), none⟩, ⟨(some 14), .nilchk (.t 13), none⟩, ⟨(some 15), .faddr 0 (.t 14), none⟩, ⟨(some 16), .load none (.t 15), none⟩, ⟨(some 17), .len false (.t 16), none⟩, ⟨(some 18), .bin .sub .prim (.t 17) (.c (.int .i64 1)), none⟩, ⟨(some 19), .iaddr 1 (.t 12) (.t 18), none⟩, ⟨(some 2), .set (.t 19), none⟩])
  .ret)))⟩
theorem c29 : cfun Tryz.prog 29 = some f29 := by kernel_rfl
def f30 : AFun := ⟨2, 9, [.t 4], (.seq (.region false [⟨(some 4), .set (.c (.bool false)), none⟩])
  (.seq (.region false [⟨(some 5), .mov (.t 0), none⟩, ⟨(some 6), .mov (.t 1), none⟩, ⟨(some 7), .call true 60 [(.t 5), (.t 6)], none⟩, ⟨(some 8), .bin .geq .prim (.t 7) (.c (.int .i64 0)), none⟩, ⟨(some 4), .set (.t 8), none⟩])
  .ret))⟩
theorem c30 : cfun Tryz.prog 30 = some f30 := by kernel_rfl
def f31 : AFun := ⟨2, 14, [], (.region false [⟨(some 4), .mov (.t 0), none⟩, ⟨(some 5), .mov (.t 0), none⟩, ⟨(some 6), .nilchk (.t 5), none⟩, ⟨(some 7), .faddr 0 (.t 6), none⟩, ⟨(some 8), .load none (.t 7), none⟩, ⟨(some 9), .mov (.t 1), none⟩, ⟨(some 10), .bslice true 1 [(.t 9)], none⟩, ⟨(some 11), .append 1 16 (.t 8) (.t 10), none⟩, ⟨(some 12), .nilchk (.t 4), none⟩, ⟨(some 13), .faddr 0 (.t 12), none⟩, ⟨none, .store true 1 (.t 13) (.t 11), none⟩])⟩
theorem c31 : cfun Tryz.prog 31 = some f31 := by kernel_rfl
def f32l0 : ACode := (.seq (.seq (.region false [⟨(some 6), .mov (.t 3), none⟩, ⟨(some 7), .mov (.t 0), none⟩, ⟨(some 8), .len true (.t 7), none⟩, ⟨(some 9), .bin .lss .prim (.t 6) (.t 8), none⟩])
  (.cond (.t 9) .skip
  (.exit 0)))
  (.block 1 (.seq (.region false [⟨(some 11), .mov (.t 0), none⟩, ⟨(some 12), .mov (.t 3), none⟩, ⟨(some 13), .call true 61 [(.t 11), (.t 12)], none⟩, ⟨(some 10), .mov (.t 13), none⟩, ⟨(some 14), .extr (.t 10) 0, none⟩, ⟨(some 15), .extr (.t 10) 1, none⟩, ⟨(some 4), .set (.t 14), none⟩, ⟨(some 5), .set (.t 15), none⟩])
  (.seq (.seq (.region false [⟨(some 16), .mov (.t 5), none⟩, ⟨(some 17), .bin .eql .prim (.t 16) (.c (.int .i64 0)), none⟩])
  (.cond (.t 17) (.seq (.region false [⟨(some 2), .set (.c (.bool false)), none⟩])
  .ret)
  .skip))
  (.region false [⟨(some 18), .mov (.t 3), none⟩, ⟨(some 19), .mov (.t 5), none⟩, ⟨(some 20), .bin .add .prim (.t 18) (.t 19), none⟩, ⟨(some 3), .set (.t 20), none⟩])))))
def f32 : AFun := ⟨1, 21, [.t 2], (.seq (.region false [⟨(some 2), .set (.c (.bool false)), none⟩])
  (.seq (.seq (.region false [⟨(some 3), .set (.c (.int .i64 0)), none⟩])
  (.block 0 (.loop f32l0)))
  (.seq (.region false [⟨(some 2), .set (.c (.bool true)), none⟩])
  .ret)))⟩
theorem c32 : cfun Tryz.prog 32 = some f32 := by kernel_rfl
def f35 : AFun := ⟨2, 9, [.t 4], (.seq (.region false [⟨(some 4), .set (.c (.bool false)), none⟩])
  (.seq (.region false [⟨(some 5), .mov (.t 0), none⟩, ⟨(some 6), .mov (.t 1), none⟩, ⟨(some 7), .call true 63 [(.t 5), (.t 6)], none⟩, ⟨(some 8), .bin .geq .prim (.t 7) (.c (.int .i64 0)), none⟩, ⟨(some 4), .set (.t 8), none⟩])
  .ret))⟩
theorem c35 : cfun Tryz.prog 35 = some f35 := by kernel_rfl
def f37l0 : ACode := (.seq (.seq (.region false [⟨(some 8), .mov (.t 5), none⟩, ⟨(some 9), .mov (.t 0), none⟩, ⟨(some 10), .len true (.t 9), none⟩, ⟨(some 11), .bin .lss .prim (.t 8) (.t 10), none⟩])
  (.cond (.t 11) .skip
  (.exit 0)))
  (.block 1 (.seq (.region false [⟨(some 13), .mov (.t 0), none⟩, ⟨(some 14), .mov (.t 5), none⟩, ⟨(some 15), .slice none (.t 13) (some (.t 14)) none, none⟩, ⟨(some 16), .call true 64 [(.t 15)], none⟩, ⟨(some 12), .mov (.t 16), none⟩, ⟨(some 17), .extr (.t 12) 0, none⟩, ⟨(some 18), .extr (.t 12) 1, none⟩, ⟨(some 6), .set (.t 17), none⟩, ⟨(some 7), .set (.t 18), none⟩])
  (.seq (.seq (.region false [⟨(some 19), .mov (.t 5), none⟩, ⟨(some 20), .bin .gtr .prim (.t 19) (.c (.int .i64 0)), none⟩, ⟨(some 21), .mov (.t 20), none⟩, ⟨(some 22), .mov (.t 5), some (21, true)⟩, ⟨(some 23), .mov (.t 7), some (21, true)⟩, ⟨(some 24), .bin .add .prim (.t 22) (.t 23), some (21, true)⟩, ⟨(some 25), .mov (.t 1), some (21, true)⟩, ⟨(some 26), .bin .gtr .prim (.t 24) (.t 25), some (21, true)⟩, ⟨(some 27), .pick (.t 21) (.t 26) (.c (.bool false)), none⟩])
  (.cond (.t 27) (.exit 0)
  .skip))
  (.region false [⟨(some 28), .mov (.t 5), none⟩, ⟨(some 29), .mov (.t 7), none⟩, ⟨(some 30), .bin .add .prim (.t 28) (.t 29), none⟩, ⟨(some 5), .set (.t 30), none⟩])))))
def f37 : AFun := ⟨2, 32, [.t 4], (.seq (.region false [⟨(some 4), .set (.c (.int .i64 0)), none⟩])
  (.seq (.region false [⟨(some 5), .set (.c (.int .i64 0)), none⟩])
  (.seq (.block 0 (.loop f37l0))
  (.seq (.region false [⟨(some 31), .mov (.t 5), none⟩, ⟨(some 4), .set (.t 31), none⟩])
  .ret))))⟩
theorem c37 : cfun Tryz.prog 37 = some f37 := by kernel_rfl
def f39l0 : ACode := (.seq (.seq (.region false [⟨(some 13), .mov (.t 7), none⟩, ⟨(some 14), .mov (.t 0), none⟩, ⟨(some 15), .len false (.t 14), none⟩, ⟨(some 16), .bin .lss .prim (.t 13) (.t 15), none⟩])
  (.cond (.t 16) .skip
  (.exit 0)))
  (.seq (.block 1 (.seq (.region true [⟨(some 19), .mov (.t 2), none⟩, ⟨(some 20), .mov (.t 0), none⟩, ⟨(some 21), .mov (.t 7), none⟩, ⟨(some 22), .iaddr 1 (.t 20) (.t 21), none⟩, ⟨(some 23), .load none (.t 22), none⟩, ⟨(some 24), .mov (.t 1), none⟩, ⟨(some 25), .mov (.t 7), none⟩, ⟨(some 26), .iaddr 1 (.t 24) (.t 25), none⟩, ⟨(some 27), .load none (.t 26), none⟩, ⟨(some 28), .callv true (.t 19) [(.t 23), (.t 27)], none⟩, ⟨(some 29), .un .not (.t 28), none⟩])
  (.cond (.t 29) (.seq (.region false [⟨(some 6), .set (.c (.bool false)), none⟩])
  .ret)
  .skip)))
  (.region false [⟨(some 17), .mov (.t 7), none⟩, ⟨(some 18), .bin .add .prim (.t 17) (.c (.int .i64 1)), none⟩, ⟨(some 7), .set (.t 18), none⟩])))
def f39 : AFun := ⟨3, 30, [.t 6], (.seq (.region false [⟨(some 6), .set (.c (.bool false)), none⟩])
  (.seq (.seq (.region false [⟨(some 8), .mov (.t 0), none⟩, ⟨(some 9), .len false (.t 8), none⟩, ⟨(some 10), .mov (.t 1), none⟩, ⟨(some 11), .len false (.t 10), none⟩, ⟨(some 12), .bin .neq .prim (.t 9) (.t 11), none⟩])
  (.cond (.t 12) (.seq (.region false [⟨(some 6), .set (.c (.bool false)), none⟩])
  .ret)
  .skip))
  (.seq (.seq (.region false [⟨(some 7), .set (.c (.int .i64 0)), none⟩])
  (.block 0 (.loop f39l0)))
  (.seq (.region false [⟨(some 6), .set (.c (.bool true)), none⟩])
  .ret))))⟩
theorem c39 : cfun Tryz.prog 39 = some f39 := by kernel_rfl
def f40 : AFun := ⟨2, 8, [.t 4], (.seq (.region false [⟨(some 4), .set (.c (.bool false)), none⟩])
  (.seq (.region false [⟨(some 5), .mov (.t 0), none⟩, ⟨(some 6), .mov (.t 1), none⟩, ⟨(some 7), .bin .eql .prim (.t 5) (.t 6), none⟩, ⟨(some 4), .set (.t 7), none⟩])
  .ret))⟩
theorem c40 : cfun Tryz.prog 40 = some f40 := by kernel_rfl
def f43 : AFun := ⟨1, 8, [.t 2], (.seq (.region false [⟨(some 2), .newnil 1, none⟩])
  (.seq (.seq (.region false [⟨(some 3), .mov (.t 0), none⟩, ⟨(some 4), .bin .eql .slc (.t 3) (.c (.nils 1)), none⟩])
  (.cond (.t 4) (.seq (.region false [⟨(some 2), .newnil 1, none⟩])
  .ret)
  .skip))
  (.seq (.region false [⟨(some 5), .bslice true 1 [], none⟩, ⟨(some 6), .mov (.t 0), none⟩, ⟨(some 7), .append 1 16 (.t 5) (.t 6), none⟩, ⟨(some 2), .set (.t 7), none⟩])
  .ret)))⟩
theorem c43 : cfun Tryz.prog 43 = some f43 := by kernel_rfl
def f56 : AFun := ⟨2, 13, [.t 4], (.seq (.region false [⟨(some 4), .set (.c (.bool false)), none⟩])
  (.seq (.region false [⟨(some 5), .mov (.t 0), none⟩, ⟨(some 6), .call true 79 [(.t 5)], none⟩, ⟨(some 7), .mov (.t 6), none⟩, ⟨(some 8), .mov (.t 0), some (7, true)⟩, ⟨(some 9), .conv .s2r (.t 8), some (7, true)⟩, ⟨(some 10), .mov (.t 1), some (7, true)⟩, ⟨(some 11), .call true 80 [(.t 9), (.t 10)], some (7, true)⟩, ⟨(some 12), .pick (.t 7) (.t 11) (.c (.bool false)), none⟩, ⟨(some 4), .set (.t 12), none⟩])
  .ret))⟩
theorem c56 : cfun Tryz.prog 56 = some f56 := by kernel_rfl
def f57 : AFun := ⟨1, 17, [.t 2], (.seq (.region false [⟨(some 2), .set (.c (.bool false)), none⟩])
  (.seq (.region false [⟨(some 3), .mov (.t 0), none⟩, ⟨(some 4), .bin .eql .prim (.t 3) (.c (.int .i32 9)), none⟩, ⟨(some 5), .mov (.t 4), none⟩, ⟨(some 6), .mov (.t 0), some (5, false)⟩, ⟨(some 7), .bin .eql .prim (.t 6) (.c (.int .i32 10)), some (5, false)⟩, ⟨(some 8), .pick (.t 5) (.c (.bool true)) (.t 7), none⟩, ⟨(some 9), .mov (.t 8), none⟩, ⟨(some 10), .mov (.t 0), some (9, false)⟩, ⟨(some 11), .bin .eql .prim (.t 10) (.c (.int .i32 13)), some (9, false)⟩, ⟨(some 12), .pick (.t 9) (.c (.bool true)) (.t 11), none⟩, ⟨(some 13), .mov (.t 12), none⟩, ⟨(some 14), .mov (.t 0), some (13, false)⟩, ⟨(some 15), .call true 81 [(.t 14)], some (13, false)⟩, ⟨(some 16), .pick (.t 13) (.c (.bool true)) (.t 15), none⟩, ⟨(some 2), .set (.t 16), none⟩])
  .ret))⟩
theorem c57 : cfun Tryz.prog 57 = some f57 := by kernel_rfl
def f58 : AFun := ⟨2, 23, [.t 4, .t 5, .t 6], (.seq (.region false [⟨(some 4), .set (.c (.str [])), none⟩, ⟨(some 5), .set (.c (.str [])), none⟩, ⟨(some 6), .set (.c (.bool false)), none⟩])
  (.seq (.seq (.region false [⟨(some 8), .mov (.t 0), none⟩, ⟨(some 9), .mov (.t 1), none⟩, ⟨(some 10), .call true 82 [(.t 8), (.t 9)], none⟩, ⟨(some 7), .set (.t 10), none⟩])
  (.seq (.region false [⟨(some 11), .mov (.t 7), none⟩, ⟨(some 12), .bin .geq .prim (.t 11) (.c (.int .i64 0)), none⟩])
  (.cond (.t 12) (.seq (.region true [⟨(some 13), .mov (.t 0), none⟩, ⟨(some 14), .mov (.t 7), none⟩, ⟨(some 15), .slice none (.t 13) none (some (.t 14)), none⟩, ⟨(some 16), .mov (.t 0), none⟩, ⟨(some 17), .mov (.t 7), none⟩, ⟨(some 18), .mov (.t 1), none⟩, ⟨(some 19), .len true (.t 18), none⟩, ⟨(some 20), .bin .add .prim (.t 17) (.t 19), none⟩, ⟨(some 21), .slice none (.t 16) (some (.t 20)) none, none⟩, ⟨(some 4), .mov (.t 15), none⟩, ⟨(some 5), .mov (.t 21), none⟩, ⟨(some 6), .mov (.c (.bool true)), none⟩])
  .ret)
  .skip)))
  (.seq (.region false [⟨(some 22), .mov (.t 0), none⟩, ⟨(some 4), .set (.t 22), none⟩, ⟨(some 5), .set (.c (.str [])), none⟩, ⟨(some 6), .set (.c (.bool false)), none⟩])
  .ret)))⟩
theorem c58 : cfun Tryz.prog 58 = some f58 := by kernel_rfl
def f59 : AFun := ⟨2, 18, [.t 4], (.seq (.region false [⟨(some 4), .set (.c (.bool false)), none⟩])
  (.seq (.region false [⟨(some 5), .mov (.t 0), none⟩, ⟨(some 6), .len true (.t 5), none⟩, ⟨(some 7), .mov (.t 1), none⟩, ⟨(some 8), .len true (.t 7), none⟩, ⟨(some 9), .bin .geq .prim (.t 6) (.t 8), none⟩, ⟨(some 10), .mov (.t 9), none⟩, ⟨(some 11), .mov (.t 0), some (10, true)⟩, ⟨(some 12), .mov (.t 1), some (10, true)⟩, ⟨(some 13), .len true (.t 12), some (10, true)⟩, ⟨(some 14), .slice none (.t 11) none (some (.t 13)), some (10, true)⟩, ⟨(some 15), .mov (.t 1), some (10, true)⟩, ⟨(some 16), .bin .eql .prim (.t 14) (.t 15), some (10, true)⟩, ⟨(some 17), .pick (.t 10) (.t 16) (.c (.bool false)), none⟩, ⟨(some 4), .set (.t 17), none⟩])
  .ret))⟩
theorem c59 : cfun Tryz.prog 59 = some f59 := by kernel_rfl
def f60l0 : ACode := (.seq (.seq (.region false [⟨(some 33), .mov (.t 8), none⟩, ⟨(some 34), .mov (.t 0), none⟩, ⟨(some 35), .len true (.t 34), none⟩, ⟨(some 36), .bin .lss .prim (.t 33) (.t 35), none⟩])
  (.cond (.t 36) .skip
  (.exit 0)))
  (.seq (.block 1 (.seq (.region false [⟨(some 39), .mov (.t 0), none⟩, ⟨(some 40), .mov (.t 8), none⟩, ⟨(some 41), .sidx (.t 39) (.t 40), none⟩, ⟨(some 42), .call true 86 [(.t 6), (.t 41)], none⟩])
  (.cond (.t 42) (.seq (.region false [⟨(some 43), .mov (.t 8), none⟩, ⟨(some 4), .set (.t 43), none⟩])
  .ret)
  .skip)))
  (.region false [⟨(some 37), .mov (.t 8), none⟩, ⟨(some 38), .bin .add .prim (.t 37) (.c (.int .i64 1)), none⟩, ⟨(some 8), .set (.t 38), none⟩])))
def f60l1 : ACode := (.seq (.region false [⟨(some 46), .next (.t 45), none⟩, ⟨(some 47), .extr (.t 46) 0, none⟩])
  (.seq (.cond (.t 47) .skip
  (.exit 2))
  (.block 3 (.seq (.region false [⟨(some 48), .extr (.t 46) 1, none⟩, ⟨(some 49), .extr (.t 46) 2, none⟩, ⟨(some 9), .set (.t 48), none⟩, ⟨(some 10), .set (.t 49), none⟩])
  (.seq (.region false [⟨(some 50), .mov (.t 1), none⟩, ⟨(some 51), .mov (.t 10), none⟩, ⟨(some 52), .call true 83 [(.t 50), (.t 51)], none⟩, ⟨(some 53), .bin .geq .prim (.t 52) (.c (.int .i64 0)), none⟩])
  (.cond (.t 53) (.seq (.region false [⟨(some 54), .mov (.t 9), none⟩, ⟨(some 4), .set (.t 54), none⟩])
  .ret)
  .skip))))))
def f60 : AFun := ⟨2, 55, [.t 4], (.seq (.region false [⟨(some 4), .set (.c (.int .i64 0)), none⟩])
  (.seq (.seq (.region false [⟨(some 11), .mov (.t 1), none⟩, ⟨(some 12), .bin .eql .prim (.t 11) (.c (.str [])), none⟩])
  (.cond (.t 12) (.seq (.region false [⟨(some 4), .set (.c (.int .i64 (-1))), none⟩])
  .ret)
  .skip))
  (.seq (.seq (.region false [⟨(some 13), .mov (.t 1), none⟩, ⟨(some 14), .len true (.t 13), none⟩, ⟨(some 15), .bin .eql .prim (.t 14) (.c (.int .i64 1)), none⟩])
  (.cond (.t 15) (.seq (.region false [⟨(some 16), .mov (.t 1), none⟩, ⟨(some 17), .sidx (.t 16) (.c (.int .i64 0)), none⟩, ⟨(some 18), .conv (.int .i32) (.t 17), none⟩, ⟨(some 5), .set (.t 18), none⟩])
  (.seq (.seq (.region false [⟨(some 19), .mov (.t 5), none⟩, ⟨(some 20), .bin .geq .prim (.t 19) (.c (.int .i32 128)), none⟩])
  (.cond (.t 20) (.region false [⟨(some 5), .set (.c (.int .i32 65533)), none⟩])
  .skip))
  (.seq (.region false [⟨(some 21), .mov (.t 0), none⟩, ⟨(some 22), .mov (.t 5), none⟩, ⟨(some 23), .call true 83 [(.t 21), (.t 22)], none⟩, ⟨(some 4), .set (.t 23), none⟩])
  .ret)))
  .skip))
  (.seq (.seq (.region false [⟨(some 24), .mov (.t 0), none⟩, ⟨(some 25), .len true (.t 24), none⟩, ⟨(some 26), .call true 84 [(.t 25)], none⟩])
  (.cond (.t 26) (.seq (.region false [⟨(some 28), .mov (.t 1), none⟩, ⟨(some 29), .call true 85 [(.t 28)], none⟩, ⟨(some 27), .mov (.t 29), none⟩, ⟨(some 30), .extr (.t 27) 0, none⟩, ⟨(some 31), .extr (.t 27) 1, none⟩, ⟨(some 6), .alloc (List.replicate 256 (.bool false) ++ []), none⟩, ⟨none, .store true 256 (.t 6) (.t 30), none⟩, ⟨(some 7), .set (.t 31), none⟩])
  (.seq (.region false [⟨(some 32), .mov (.t 7), none⟩])
  (.cond (.t 32) (.seq (.seq (.region false [⟨(some 8), .set (.c (.int .i64 0)), none⟩])
  (.block 0 (.loop f60l0)))
  (.seq (.region false [⟨(some 4), .set (.c (.int .i64 (-1))), none⟩])
  .ret))
  .skip)))
  .skip))
  (.seq (.seq (.region false [⟨(some 44), .mov (.t 0), none⟩, ⟨(some 45), .range (.t 44), none⟩])
  (.block 2 (.loop f60l1)))
  (.seq (.region false [⟨(some 4), .set (.c (.int .i64 (-1))), none⟩])
  .ret))))))⟩
theorem c60 : cfun Tryz.prog 60 = some f60 := by kernel_rfl
def f61 : AFun := ⟨2, 23, [.t 4, .t 5], (.seq (.region false [⟨(some 4), .set (.c (.int .i64 0)), none⟩, ⟨(some 5), .set (.c (.int .i64 0)), none⟩])
  (.seq (.region false [⟨(some 9), .mov (.t 0), none⟩, ⟨(some 10), .mov (.t 1), none⟩, ⟨(some 11), .call true 66 [(.t 9), (.t 10)], none⟩, ⟨(some 8), .mov (.t 11), none⟩, ⟨(some 12), .extr (.t 8) 0, none⟩, ⟨(some 13), .extr (.t 8) 1, none⟩, ⟨(some 6), .set (.t 12), none⟩, ⟨(some 7), .set (.t 13), none⟩])
  (.seq (.seq (.region false [⟨(some 14), .mov (.t 7), none⟩, ⟨(some 15), .bin .eql .prim (.t 14) (.c (.int .i64 0)), none⟩, ⟨(some 16), .mov (.t 15), none⟩, ⟨(some 17), .mov (.t 6), some (16, false)⟩, ⟨(some 18), .call true 87 [(.t 17)], some (16, false)⟩, ⟨(some 19), .un .not (.t 18), some (16, false)⟩, ⟨(some 20), .pick (.t 16) (.c (.bool true)) (.t 19), none⟩])
  (.cond (.t 20) (.seq (.region false [⟨(some 4), .set (.c (.int .i64 0)), none⟩, ⟨(some 5), .set (.c (.int .i64 0)), none⟩])
  .ret)
  .skip))
  (.seq (.region false [⟨(some 21), .mov (.t 6), none⟩, ⟨(some 22), .mov (.t 7), none⟩, ⟨(some 4), .set (.t 21), none⟩, ⟨(some 5), .set (.t 22), none⟩])
  .ret))))⟩
theorem c61 : cfun Tryz.prog 61 = some f61 := by kernel_rfl
def f63 : AFun := ⟨2, 8, [.t 4], (.seq (.region false [⟨(some 4), .set (.c (.int .i64 0)), none⟩])
  (.seq (.region false [⟨(some 5), .mov (.t 0), none⟩, ⟨(some 6), .mov (.t 1), none⟩, ⟨(some 7), .call true 82 [(.t 5), (.t 6)], none⟩, ⟨(some 4), .set (.t 7), none⟩])
  .ret))⟩
theorem c63 : cfun Tryz.prog 63 = some f63 := by kernel_rfl
def f66l0 : ACode := (.seq (.seq (.region false [⟨(some 50), .mov (.t 9), none⟩, ⟨(some 51), .mov (.t 7), none⟩, ⟨(some 52), .bin .lss .prim (.t 50) (.t 51), none⟩])
  (.cond (.t 52) .skip
  (.exit 1)))
  (.seq (.block 2 (.seq (.seq (.region false [⟨(some 55), .mov (.t 0), none⟩, ⟨(some 56), .mov (.t 1), none⟩, ⟨(some 57), .mov (.t 9), none⟩, ⟨(some 58), .bin .add .prim (.t 56) (.t 57), none⟩, ⟨(some 59), .sidx (.t 55) (.t 58), none⟩, ⟨(some 60), .bin .and .prim (.t 59) (.c (.int .u8 192)), none⟩, ⟨(some 61), .bin .neq .prim (.t 60) (.c (.int .u8 128)), none⟩])
  (.cond (.t 61) (.seq (.region false [⟨(some 4), .set (.c (.int .i64 0)), none⟩, ⟨(some 5), .set (.c (.int .i64 0)), none⟩])
  .ret)
  .skip))
  (.region false [⟨(some 62), .mov (.t 6), none⟩, ⟨(some 63), .bin .shl .prim (.t 62) (.c (.int .u64 6)), none⟩, ⟨(some 64), .mov (.t 0), none⟩, ⟨(some 65), .mov (.t 1), none⟩, ⟨(some 66), .mov (.t 9), none⟩, ⟨(some 67), .bin .add .prim (.t 65) (.t 66), none⟩, ⟨(some 68), .sidx (.t 64) (.t 67), none⟩, ⟨(some 69), .bin .and .prim (.t 68) (.c (.int .u8 63)), none⟩, ⟨(some 70), .conv (.int .i64) (.t 69), none⟩, ⟨(some 71), .bin .or .prim (.t 63) (.t 70), none⟩, ⟨(some 6), .set (.t 71), none⟩])))
  (.region false [⟨(some 53), .mov (.t 9), none⟩, ⟨(some 54), .bin .add .prim (.t 53) (.c (.int .i64 1)), none⟩, ⟨(some 9), .set (.t 54), none⟩])))
def f66 : AFun := ⟨2, 89, [.t 4, .t 5], (.seq (.region false [⟨(some 4), .set (.c (.int .i64 0)), none⟩, ⟨(some 5), .set (.c (.int .i64 0)), none⟩])
  (.seq (.region false [⟨(some 10), .mov (.t 0), none⟩, ⟨(some 11), .mov (.t 1), none⟩, ⟨(some 12), .sidx (.t 10) (.t 11), none⟩, ⟨(some 13), .conv (.int .i64) (.t 12), none⟩, ⟨(some 6), .set (.t 13), none⟩])
  (.seq (.region false [⟨(some 7), .set (.c (.int .i64 1)), none⟩, ⟨(some 8), .set (.c (.int .i64 0)), none⟩])
  (.seq (.block 0 (.seq (.region false [⟨(some 15), .mov (.t 6), none⟩, ⟨(some 16), .bin .lss .prim (.t 15) (.c (.int .i64 128)), none⟩, ⟨(some 14), .set (.t 16), none⟩])
  (.cond (.t 14) .skip
  (.seq (.region false [⟨(some 18), .mov (.t 6), none⟩, ⟨(some 19), .bin .geq .prim (.t 18) (.c (.int .i64 192)), none⟩, ⟨(some 20), .mov (.t 19), none⟩, ⟨(some 21), .mov (.t 6), some (20, true)⟩, ⟨(some 22), .bin .lss .prim (.t 21) (.c (.int .i64 224)), some (20, true)⟩, ⟨(some 23), .pick (.t 20) (.t 22) (.c (.bool false)), none⟩, ⟨(some 17), .set (.t 23), none⟩])
  (.cond (.t 17) (.region false [⟨(some 24), .mov (.t 6), none⟩, ⟨(some 25), .bin .and .prim (.t 24) (.c (.int .i64 31)), none⟩, ⟨(some 7), .set (.c (.int .i64 2)), none⟩, ⟨(some 8), .set (.c (.int .i64 128)), none⟩, ⟨(some 6), .set (.t 25), none⟩])
  (.seq (.region false [⟨(some 27), .mov (.t 6), none⟩, ⟨(some 28), .bin .geq .prim (.t 27) (.c (.int .i64 224)), none⟩, ⟨(some 29), .mov (.t 28), none⟩, ⟨(some 30), .mov (.t 6), some (29, true)⟩, ⟨(some 31), .bin .lss .prim (.t 30) (.c (.int .i64 240)), some (29, true)⟩, ⟨(some 32), .pick (.t 29) (.t 31) (.c (.bool false)), none⟩, ⟨(some 26), .set (.t 32), none⟩])
  (.cond (.t 26) (.region false [⟨(some 33), .mov (.t 6), none⟩, ⟨(some 34), .bin .and .prim (.t 33) (.c (.int .i64 15)), none⟩, ⟨(some 7), .set (.c (.int .i64 3)), none⟩, ⟨(some 8), .set (.c (.int .i64 2048)), none⟩, ⟨(some 6), .set (.t 34), none⟩])
  (.seq (.region false [⟨(some 36), .mov (.t 6), none⟩, ⟨(some 37), .bin .geq .prim (.t 36) (.c (.int .i64 240)), none⟩, ⟨(some 38), .mov (.t 37), none⟩, ⟨(some 39), .mov (.t 6), some (38, true)⟩, ⟨(some 40), .bin .lss .prim (.t 39) (.c (.int .i64 248)), some (38, true)⟩, ⟨(some 41), .pick (.t 38) (.t 40) (.c (.bool false)), none⟩, ⟨(some 35), .set (.t 41), none⟩])
  (.cond (.t 35) (.region false [⟨(some 42), .mov (.t 6), none⟩, ⟨(some 43), .bin .and .prim (.t 42) (.c (.int .i64 7)), none⟩, ⟨(some 7), .set (.c (.int .i64 4)), none⟩, ⟨(some 8), .set (.c (.int .i64 65536)), none⟩, ⟨(some 6), .set (.t 43), none⟩])
  (.seq (.region false [⟨(some 4), .set (.c (.int .i64 0)), none⟩, ⟨(some 5), .set (.c (.int .i64 0)), none⟩])
  .ret))))))))))
  (.seq (.seq (.region false [⟨(some 44), .mov (.t 1), none⟩, ⟨(some 45), .mov (.t 7), none⟩, ⟨(some 46), .bin .add .prim (.t 44) (.t 45), none⟩, ⟨(some 47), .mov (.t 0), none⟩, ⟨(some 48), .len true (.t 47), none⟩, ⟨(some 49), .bin .gtr .prim (.t 46) (.t 48), none⟩])
  (.cond (.t 49) (.seq (.region false [⟨(some 4), .set (.c (.int .i64 0)), none⟩, ⟨(some 5), .set (.c (.int .i64 0)), none⟩])
  .ret)
  .skip))
  (.seq (.seq (.region false [⟨(some 9), .set (.c (.int .i64 1)), none⟩])
  (.block 1 (.loop f66l0)))
  (.seq (.seq (.region false [⟨(some 72), .mov (.t 6), none⟩, ⟨(some 73), .mov (.t 8), none⟩, ⟨(some 74), .bin .lss .prim (.t 72) (.t 73), none⟩, ⟨(some 75), .mov (.t 74), none⟩, ⟨(some 76), .mov (.t 6), some (75, false)⟩, ⟨(some 77), .bin .gtr .prim (.t 76) (.c (.int .i64 1114111)), some (75, false)⟩, ⟨(some 78), .pick (.t 75) (.c (.bool true)) (.t 77), none⟩, ⟨(some 79), .mov (.t 78), none⟩, ⟨(some 80), .mov (.t 6), some (79, false)⟩, ⟨(some 81), .bin .geq .prim (.t 80) (.c (.int .i64 55296)), some (79, false)⟩, ⟨(some 82), .mov (.t 81), some (79, false)⟩, ⟨(some 83), .mov (.t 6), some (82, true)⟩, ⟨(some 84), .bin .leq .prim (.t 83) (.c (.int .i64 57343)), some (82, true)⟩, ⟨(some 85), .pick (.t 82) (.t 84) (.c (.bool false)), some (79, false)⟩, ⟨(some 86), .pick (.t 79) (.c (.bool true)) (.t 85), none⟩])
  (.cond (.t 86) (.seq (.region false [⟨(some 4), .set (.c (.int .i64 0)), none⟩, ⟨(some 5), .set (.c (.int .i64 0)), none⟩])
  .ret)
  .skip))
  (.seq (.region false [⟨(some 87), .mov (.t 6), none⟩, ⟨(some 88), .mov (.t 7), none⟩, ⟨(some 4), .set (.t 87), none⟩, ⟨(some 5), .set (.t 88), none⟩])
  .ret))))))))⟩
theorem c66 : cfun Tryz.prog 66 = some f66 := by kernel_rfl
def f80 : AFun := ⟨2, 9, [.t 4], (.seq (.region false [⟨(some 3), .box (.t 1), none⟩, ⟨(some 4), .set (.c (.bool false)), none⟩])
  (.seq (.region false [⟨(some 5), .mov (.t 0), none⟩, ⟨(some 6), .mkfn 104 [(.t 3)], none⟩, ⟨(some 7), .call true 103 [(.t 5), (.t 6)], none⟩, ⟨(some 8), .un .not (.t 7), none⟩, ⟨(some 4), .set (.t 8), none⟩])
  .ret))⟩
theorem c80 : cfun Tryz.prog 80 = some f80 := by kernel_rfl
def f81 : AFun := ⟨1, 11, [.t 2], (.seq (.region false [⟨(some 2), .set (.c (.bool false)), none⟩])
  (.seq (.region false [⟨(some 3), .build [(.int .i32 0), (.int .i32 0)] [(0, 1, (.c (.int .i32 32))), (1, 1, (.c (.int .i32 65533)))], none⟩, ⟨(some 4), .mov (.t 0), none⟩, ⟨(some 5), .call true 105 [(.t 3), (.t 4)], none⟩, ⟨(some 6), .mov (.t 5), none⟩, ⟨(some 7), .build [(.int .i32 0), (.int .i32 0)] [(0, 1, (.c (.int .i32 65536))), (1, 1, (.c (.int .i32 1114111)))], some (6, false)⟩, ⟨(some 8), .mov (.t 0), some (6, false)⟩, ⟨(some 9), .call true 105 [(.t 7), (.t 8)], some (6, false)⟩, ⟨(some 10), .pick (.t 6) (.c (.bool true)) (.t 9), none⟩, ⟨(some 2), .set (.t 10), none⟩])
  .ret))⟩
theorem c81 : cfun Tryz.prog 81 = some f81 := by kernel_rfl
def f83l0 : ACode := (.seq (.region false [⟨(some 176), .next (.t 175), none⟩, ⟨(some 177), .extr (.t 176) 0, none⟩])
  (.seq (.cond (.t 177) .skip
  (.exit 9))
  (.block 10 (.seq (.region false [⟨(some 178), .extr (.t 176) 1, none⟩, ⟨(some 179), .extr (.t 176) 2, none⟩, ⟨(some 5), .set (.t 178), none⟩, ⟨(some 6), .set (.t 179), none⟩])
  (.seq (.region false [⟨(some 180), .mov (.t 6), none⟩, ⟨(some 181), .bin .eql .prim (.t 180) (.c (.int .i32 65533)), none⟩])
  (.cond (.t 181) (.seq (.region false [⟨(some 182), .mov (.t 5), none⟩, ⟨(some 4), .set (.t 182), none⟩])
  .ret)
  .skip))))))
def f83l1 : ACode := (.seq (.seq (.region false [⟨(some 48), .mov (.t 12), none⟩, ⟨(some 49), .mov (.t 7), none⟩, ⟨(some 50), .len true (.t 49), none⟩, ⟨(some 51), .bin .lss .prim (.t 48) (.t 50), none⟩])
  (.cond (.t 51) .skip
  (.exit 3)))
  (.seq (.block 4 (.seq (.region true [⟨(some 54), .mov (.t 0), none⟩, ⟨(some 55), .mov (.t 9), none⟩, ⟨(some 56), .mov (.t 12), none⟩, ⟨(some 57), .bin .sub .prim (.t 55) (.t 56), none⟩, ⟨(some 58), .sidx (.t 54) (.t 57), none⟩, ⟨(some 59), .mov (.t 7), none⟩, ⟨(some 60), .mov (.t 8), none⟩, ⟨(some 61), .mov (.t 12), none⟩, ⟨(some 62), .bin .sub .prim (.t 60) (.t 61), none⟩, ⟨(some 63), .sidx (.t 59) (.t 62), none⟩, ⟨(some 64), .bin .neq .prim (.t 58) (.t 63), none⟩])
  (.cond (.t 64) (.exit 1000000)
  .skip)))
  (.region false [⟨(some 52), .mov (.t 12), none⟩, ⟨(some 53), .bin .add .prim (.t 52) (.c (.int .i64 1)), none⟩, ⟨(some 12), .set (.t 53), none⟩])))
def f83l2 : ACode := (.seq (.seq (.region false [⟨(some 23), .mov (.t 9), none⟩, ⟨(some 24), .mov (.t 0), none⟩, ⟨(some 25), .len true (.t 24), none⟩, ⟨(some 26), .bin .lss .prim (.t 23) (.t 25), none⟩])
  (.cond (.t 26) .skip
  (.exit 1)))
  (.block 2 (.jump 1000000 (.seq (.seq (.region true [⟨(some 27), .mov (.t 0), none⟩, ⟨(some 28), .mov (.t 9), none⟩, ⟨(some 29), .sidx (.t 27) (.t 28), none⟩, ⟨(some 30), .mov (.t 7), none⟩, ⟨(some 31), .mov (.t 8), none⟩, ⟨(some 32), .sidx (.t 30) (.t 31), none⟩, ⟨(some 33), .bin .neq .prim (.t 29) (.t 32), none⟩])
  (.cond (.t 33) (.seq (.region true [⟨(some 34), .mov (.t 0), none⟩, ⟨(some 35), .mov (.t 9), none⟩, ⟨(some 36), .bin .add .prim (.t 35) (.c (.int .i64 1)), none⟩, ⟨(some 37), .slice none (.t 34) (some (.t 36)) none, none⟩, ⟨(some 38), .mov (.t 7), none⟩, ⟨(some 39), .mov (.t 8), none⟩, ⟨(some 40), .sidx (.t 38) (.t 39), none⟩, ⟨(some 41), .call true 110 [(.t 37), (.t 40)], none⟩, ⟨(some 11), .set (.t 41), none⟩])
  (.seq (.seq (.region false [⟨(some 42), .mov (.t 11), none⟩, ⟨(some 43), .bin .lss .prim (.t 42) (.c (.int .i64 0)), none⟩])
  (.cond (.t 43) (.seq (.region false [⟨(some 4), .set (.c (.int .i64 (-1))), none⟩])
  .ret)
  .skip))
  (.region false [⟨(some 44), .mov (.t 9), none⟩, ⟨(some 45), .mov (.t 11), none⟩, ⟨(some 46), .bin .add .prim (.t 45) (.c (.int .i64 1)), none⟩, ⟨(some 47), .bin .add .prim (.t 44) (.t 46), none⟩, ⟨(some 9), .set (.t 47), none⟩])))
  .skip))
  (.seq (.seq (.region false [⟨(some 12), .set (.c (.int .i64 1)), none⟩])
  (.block 3 (.loop f83l1)))
  (.seq (.seq (.region false [⟨(some 65), .mov (.t 9), none⟩, ⟨(some 66), .mov (.t 8), none⟩, ⟨(some 67), .bin .sub .prim (.t 65) (.t 66), none⟩, ⟨(some 4), .set (.t 67), none⟩])
  .ret)
  (.seq .skip
  (.seq (.region false [⟨(some 68), .mov (.t 10), none⟩, ⟨(some 69), .bin .add .prim (.t 68) (.c (.int .i64 1)), none⟩, ⟨(some 10), .set (.t 69), none⟩])
  (.seq (.region false [⟨(some 70), .mov (.t 9), none⟩, ⟨(some 71), .bin .add .prim (.t 70) (.c (.int .i64 1)), none⟩, ⟨(some 9), .set (.t 71), none⟩])
  (.seq (.region false [⟨(some 72), .mov (.c (.bool true)), none⟩, ⟨(some 73), .mov (.t 10), some (72, true)⟩, ⟨(some 74), .mov (.t 9), some (72, true)⟩, ⟨(some 75), .call true 108 [(.t 74)], some (72, true)⟩, ⟨(some 76), .bin .gtr .prim (.t 73) (.t 75), some (72, true)⟩, ⟨(some 77), .pick (.t 72) (.t 76) (.c (.bool false)), none⟩, ⟨(some 78), .mov (.t 77), none⟩, ⟨(some 79), .mov (.t 9), some (78, true)⟩, ⟨(some 80), .mov (.t 0), some (78, true)⟩, ⟨(some 81), .len true (.t 80), some (78, true)⟩, ⟨(some 82), .bin .lss .prim (.t 79) (.t 81), some (78, true)⟩, ⟨(some 83), .pick (.t 78) (.t 82) (.c (.bool false)), none⟩, ⟨(some 84), .mov (.t 83), none⟩, ⟨(some 85), .mov (.c (.bool false)), some (84, false)⟩, ⟨(some 86), .mov (.t 10), some (85, true)⟩, ⟨(some 87), .mov (.t 9), some (85, true)⟩, ⟨(some 88), .bin .shr .prim (.t 87) (.c (.int .u64 4)), some (85, true)⟩, ⟨(some 89), .bin .add .prim (.c (.int .i64 4)) (.t 88), some (85, true)⟩, ⟨(some 90), .bin .geq .prim (.t 86) (.t 89), some (85, true)⟩, ⟨(some 91), .pick (.t 85) (.t 90) (.c (.bool false)), some (84, false)⟩, ⟨(some 92), .mov (.t 91), some (84, false)⟩, ⟨(some 93), .mov (.t 9), some (92, true)⟩, ⟨(some 94), .mov (.t 0), some (92, true)⟩, ⟨(some 95), .len true (.t 94), some (92, true)⟩, ⟨(some 96), .bin .lss .prim (.t 93) (.t 95), some (92, true)⟩, ⟨(some 97), .pick (.t 92) (.t 96) (.c (.bool false)), some (84, false)⟩, ⟨(some 98), .pick (.t 84) (.c (.bool true)) (.t 97), none⟩])
  (.cond (.t 98) (.exit 1000001)
  .skip))))))))
  (.seq .skip
  (.seq (.region false [⟨(some 68), .mov (.t 10), none⟩, ⟨(some 69), .bin .add .prim (.t 68) (.c (.int .i64 1)), none⟩, ⟨(some 10), .set (.t 69), none⟩])
  (.seq (.region false [⟨(some 70), .mov (.t 9), none⟩, ⟨(some 71), .bin .add .prim (.t 70) (.c (.int .i64 1)), none⟩, ⟨(some 9), .set (.t 71), none⟩])
  (.seq (.region false [⟨(some 72), .mov (.c (.bool true)), none⟩, ⟨(some 73), .mov (.t 10), some (72, true)⟩, ⟨(some 74), .mov (.t 9), some (72, true)⟩, ⟨(some 75), .call true 108 [(.t 74)], some (72, true)⟩, ⟨(some 76), .bin .gtr .prim (.t 73) (.t 75), some (72, true)⟩, ⟨(some 77), .pick (.t 72) (.t 76) (.c (.bool false)), none⟩, ⟨(some 78), .mov (.t 77), none⟩, ⟨(some 79), .mov (.t 9), some (78, true)⟩, ⟨(some 80), .mov (.t 0), some (78, true)⟩, ⟨(some 81), .len true (.t 80), some (78, true)⟩, ⟨(some 82), .bin .lss .prim (.t 79) (.t 81), some (78, true)⟩, ⟨(some 83), .pick (.t 78) (.t 82) (.c (.bool false)), none⟩, ⟨(some 84), .mov (.t 83), none⟩, ⟨(some 85), .mov (.c (.bool false)), some (84, false)⟩, ⟨(some 86), .mov (.t 10), some (85, true)⟩, ⟨(some 87), .mov (.t 9), some (85, true)⟩, ⟨(some 88), .bin .shr .prim (.t 87) (.c (.int .u64 4)), some (85, true)⟩, ⟨(some 89), .bin .add .prim (.c (.int .i64 4)) (.t 88), some (85, true)⟩, ⟨(some 90), .bin .geq .prim (.t 86) (.t 89), some (85, true)⟩, ⟨(some 91), .pick (.t 85) (.t 90) (.c (.bool false)), some (84, false)⟩, ⟨(some 92), .mov (.t 91), some (84, false)⟩, ⟨(some 93), .mov (.t 9), some (92, true)⟩, ⟨(some 94), .mov (.t 0), some (92, true)⟩, ⟨(some 95), .len true (.t 94), some (92, true)⟩, ⟨(some 96), .bin .lss .prim (.t 93) (.t 95), some (92, true)⟩, ⟨(some 97), .pick (.t 92) (.t 96) (.c (.bool false)), some (84, false)⟩, ⟨(some 98), .pick (.t 84) (.c (.bool true)) (.t 97), none⟩])
  (.cond (.t 98) (.exit 1000001)
  .skip))))))))
def f83l3 : ACode := (.seq (.seq (.region false [⟨(some 140), .mov (.t 16), none⟩, ⟨(some 141), .mov (.t 7), none⟩, ⟨(some 142), .len true (.t 141), none⟩, ⟨(some 143), .bin .lss .prim (.t 140) (.t 142), none⟩])
  (.cond (.t 143) .skip
  (.exit 7)))
  (.seq (.block 8 (.seq (.region true [⟨(some 146), .mov (.t 0), none⟩, ⟨(some 147), .mov (.t 9), none⟩, ⟨(some 148), .mov (.t 16), none⟩, ⟨(some 149), .bin .sub .prim (.t 147) (.t 148), none⟩, ⟨(some 150), .sidx (.t 146) (.t 149), none⟩, ⟨(some 151), .mov (.t 7), none⟩, ⟨(some 152), .mov (.t 8), none⟩, ⟨(some 153), .mov (.t 16), none⟩, ⟨(some 154), .bin .sub .prim (.t 152) (.t 153), none⟩, ⟨(some 155), .sidx (.t 151) (.t 154), none⟩, ⟨(some 156), .bin .neq .prim (.t 150) (.t 155), none⟩])
  (.cond (.t 156) (.exit 6)
  .skip)))
  (.region false [⟨(some 144), .mov (.t 16), none⟩, ⟨(some 145), .bin .add .prim (.t 144) (.c (.int .i64 1)), none⟩, ⟨(some 16), .set (.t 145), none⟩])))
def f83l4 : ACode := (.seq (.seq (.region false [⟨(some 121), .mov (.t 9), none⟩, ⟨(some 122), .mov (.t 0), none⟩, ⟨(some 123), .len true (.t 122), none⟩, ⟨(some 124), .bin .lss .prim (.t 121) (.t 123), none⟩])
  (.cond (.t 124) .skip
  (.exit 5)))
  (.seq (.block 6 (.seq (.region false [⟨(some 127), .mov (.t 0), none⟩, ⟨(some 128), .mov (.t 9), none⟩, ⟨(some 129), .sidx (.t 127) (.t 128), none⟩, ⟨(some 130), .mov (.t 14), none⟩, ⟨(some 131), .bin .eql .prim (.t 129) (.t 130), none⟩, ⟨(some 132), .mov (.t 131), none⟩, ⟨(some 133), .mov (.t 0), some (132, true)⟩, ⟨(some 134), .mov (.t 9), some (132, true)⟩, ⟨(some 135), .bin .sub .prim (.t 134) (.c (.int .i64 1)), some (132, true)⟩, ⟨(some 136), .sidx (.t 133) (.t 135), some (132, true)⟩, ⟨(some 137), .mov (.t 15), some (132, true)⟩, ⟨(some 138), .bin .eql .prim (.t 136) (.t 137), some (132, true)⟩, ⟨(some 139), .pick (.t 132) (.t 138) (.c (.bool false)), none⟩])
  (.cond (.t 139) (.seq (.seq (.region false [⟨(some 16), .set (.c (.int .i64 2)), none⟩])
  (.block 7 (.loop f83l3)))
  (.seq (.region false [⟨(some 157), .mov (.t 9), none⟩, ⟨(some 158), .mov (.t 8), none⟩, ⟨(some 159), .bin .sub .prim (.t 157) (.t 158), none⟩, ⟨(some 4), .set (.t 159), none⟩])
  .ret))
  .skip)))
  (.region false [⟨(some 125), .mov (.t 9), none⟩, ⟨(some 126), .bin .add .prim (.t 125) (.c (.int .i64 1)), none⟩, ⟨(some 9), .set (.t 126), none⟩])))
def f83l5 : ACode := (.seq (.seq (.region false [⟨(some 140), .mov (.t 16), none⟩, ⟨(some 141), .mov (.t 7), none⟩, ⟨(some 142), .len true (.t 141), none⟩, ⟨(some 143), .bin .lss .prim (.t 140) (.t 142), none⟩])
  (.cond (.t 143) .skip
  (.exit 7)))
  (.seq (.block 8 (.seq (.region true [⟨(some 146), .mov (.t 0), none⟩, ⟨(some 147), .mov (.t 9), none⟩, ⟨(some 148), .mov (.t 16), none⟩, ⟨(some 149), .bin .sub .prim (.t 147) (.t 148), none⟩, ⟨(some 150), .sidx (.t 146) (.t 149), none⟩, ⟨(some 151), .mov (.t 7), none⟩, ⟨(some 152), .mov (.t 8), none⟩, ⟨(some 153), .mov (.t 16), none⟩, ⟨(some 154), .bin .sub .prim (.t 152) (.t 153), none⟩, ⟨(some 155), .sidx (.t 151) (.t 154), none⟩, ⟨(some 156), .bin .neq .prim (.t 150) (.t 155), none⟩])
  (.cond (.t 156) (.exit 6)
  .skip)))
  (.region false [⟨(some 144), .mov (.t 16), none⟩, ⟨(some 145), .bin .add .prim (.t 144) (.c (.int .i64 1)), none⟩, ⟨(some 16), .set (.t 145), none⟩])))
def f83l6 : ACode := (.seq (.seq (.region false [⟨(some 121), .mov (.t 9), none⟩, ⟨(some 122), .mov (.t 0), none⟩, ⟨(some 123), .len true (.t 122), none⟩, ⟨(some 124), .bin .lss .prim (.t 121) (.t 123), none⟩])
  (.cond (.t 124) .skip
  (.exit 5)))
  (.seq (.block 6 (.seq (.region false [⟨(some 127), .mov (.t 0), none⟩, ⟨(some 128), .mov (.t 9), none⟩, ⟨(some 129), .sidx (.t 127) (.t 128), none⟩, ⟨(some 130), .mov (.t 14), none⟩, ⟨(some 131), .bin .eql .prim (.t 129) (.t 130), none⟩, ⟨(some 132), .mov (.t 131), none⟩, ⟨(some 133), .mov (.t 0), some (132, true)⟩, ⟨(some 134), .mov (.t 9), some (132, true)⟩, ⟨(some 135), .bin .sub .prim (.t 134) (.c (.int .i64 1)), some (132, true)⟩, ⟨(some 136), .sidx (.t 133) (.t 135), some (132, true)⟩, ⟨(some 137), .mov (.t 15), some (132, true)⟩, ⟨(some 138), .bin .eql .prim (.t 136) (.t 137), some (132, true)⟩, ⟨(some 139), .pick (.t 132) (.t 138) (.c (.bool false)), none⟩])
  (.cond (.t 139) (.seq (.seq (.region false [⟨(some 16), .set (.c (.int .i64 2)), none⟩])
  (.block 7 (.loop f83l5)))
  (.seq (.region false [⟨(some 157), .mov (.t 9), none⟩, ⟨(some 158), .mov (.t 8), none⟩, ⟨(some 159), .bin .sub .prim (.t 157) (.t 158), none⟩, ⟨(some 4), .set (.t 159), none⟩])
  .ret))
  .skip)))
  (.region false [⟨(some 125), .mov (.t 9), none⟩, ⟨(some 126), .bin .add .prim (.t 125) (.c (.int .i64 1)), none⟩, ⟨(some 9), .set (.t 126), none⟩])))
def f83l7 : ACode := (.seq (.seq (.region false [⟨(some 140), .mov (.t 16), none⟩, ⟨(some 141), .mov (.t 7), none⟩, ⟨(some 142), .len true (.t 141), none⟩, ⟨(some 143), .bin .lss .prim (.t 140) (.t 142), none⟩])
  (.cond (.t 143) .skip
  (.exit 7)))
  (.seq (.block 8 (.seq (.region true [⟨(some 146), .mov (.t 0), none⟩, ⟨(some 147), .mov (.t 9), none⟩, ⟨(some 148), .mov (.t 16), none⟩, ⟨(some 149), .bin .sub .prim (.t 147) (.t 148), none⟩, ⟨(some 150), .sidx (.t 146) (.t 149), none⟩, ⟨(some 151), .mov (.t 7), none⟩, ⟨(some 152), .mov (.t 8), none⟩, ⟨(some 153), .mov (.t 16), none⟩, ⟨(some 154), .bin .sub .prim (.t 152) (.t 153), none⟩, ⟨(some 155), .sidx (.t 151) (.t 154), none⟩, ⟨(some 156), .bin .neq .prim (.t 150) (.t 155), none⟩])
  (.cond (.t 156) (.exit 6)
  .skip)))
  (.region false [⟨(some 144), .mov (.t 16), none⟩, ⟨(some 145), .bin .add .prim (.t 144) (.c (.int .i64 1)), none⟩, ⟨(some 16), .set (.t 145), none⟩])))
def f83l8 : ACode := (.seq (.seq (.region false [⟨(some 121), .mov (.t 9), none⟩, ⟨(some 122), .mov (.t 0), none⟩, ⟨(some 123), .len true (.t 122), none⟩, ⟨(some 124), .bin .lss .prim (.t 121) (.t 123), none⟩])
  (.cond (.t 124) .skip
  (.exit 5)))
  (.seq (.block 6 (.seq (.region false [⟨(some 127), .mov (.t 0), none⟩, ⟨(some 128), .mov (.t 9), none⟩, ⟨(some 129), .sidx (.t 127) (.t 128), none⟩, ⟨(some 130), .mov (.t 14), none⟩, ⟨(some 131), .bin .eql .prim (.t 129) (.t 130), none⟩, ⟨(some 132), .mov (.t 131), none⟩, ⟨(some 133), .mov (.t 0), some (132, true)⟩, ⟨(some 134), .mov (.t 9), some (132, true)⟩, ⟨(some 135), .bin .sub .prim (.t 134) (.c (.int .i64 1)), some (132, true)⟩, ⟨(some 136), .sidx (.t 133) (.t 135), some (132, true)⟩, ⟨(some 137), .mov (.t 15), some (132, true)⟩, ⟨(some 138), .bin .eql .prim (.t 136) (.t 137), some (132, true)⟩, ⟨(some 139), .pick (.t 132) (.t 138) (.c (.bool false)), none⟩])
  (.cond (.t 139) (.seq (.seq (.region false [⟨(some 16), .set (.c (.int .i64 2)), none⟩])
  (.block 7 (.loop f83l7)))
  (.seq (.region false [⟨(some 157), .mov (.t 9), none⟩, ⟨(some 158), .mov (.t 8), none⟩, ⟨(some 159), .bin .sub .prim (.t 157) (.t 158), none⟩, ⟨(some 4), .set (.t 159), none⟩])
  .ret))
  .skip)))
  (.region false [⟨(some 125), .mov (.t 9), none⟩, ⟨(some 126), .bin .add .prim (.t 125) (.c (.int .i64 1)), none⟩, ⟨(some 9), .set (.t 126), none⟩])))
def f83l9 : ACode := (.seq (.seq (.region false [⟨(some 140), .mov (.t 16), none⟩, ⟨(some 141), .mov (.t 7), none⟩, ⟨(some 142), .len true (.t 141), none⟩, ⟨(some 143), .bin .lss .prim (.t 140) (.t 142), none⟩])
  (.cond (.t 143) .skip
  (.exit 7)))
  (.seq (.block 8 (.seq (.region true [⟨(some 146), .mov (.t 0), none⟩, ⟨(some 147), .mov (.t 9), none⟩, ⟨(some 148), .mov (.t 16), none⟩, ⟨(some 149), .bin .sub .prim (.t 147) (.t 148), none⟩, ⟨(some 150), .sidx (.t 146) (.t 149), none⟩, ⟨(some 151), .mov (.t 7), none⟩, ⟨(some 152), .mov (.t 8), none⟩, ⟨(some 153), .mov (.t 16), none⟩, ⟨(some 154), .bin .sub .prim (.t 152) (.t 153), none⟩, ⟨(some 155), .sidx (.t 151) (.t 154), none⟩, ⟨(some 156), .bin .neq .prim (.t 150) (.t 155), none⟩])
  (.cond (.t 156) (.exit 6)
  .skip)))
  (.region false [⟨(some 144), .mov (.t 16), none⟩, ⟨(some 145), .bin .add .prim (.t 144) (.c (.int .i64 1)), none⟩, ⟨(some 16), .set (.t 145), none⟩])))
def f83l10 : ACode := (.seq (.seq (.region false [⟨(some 121), .mov (.t 9), none⟩, ⟨(some 122), .mov (.t 0), none⟩, ⟨(some 123), .len true (.t 122), none⟩, ⟨(some 124), .bin .lss .prim (.t 121) (.t 123), none⟩])
  (.cond (.t 124) .skip
  (.exit 5)))
  (.seq (.block 6 (.seq (.region false [⟨(some 127), .mov (.t 0), none⟩, ⟨(some 128), .mov (.t 9), none⟩, ⟨(some 129), .sidx (.t 127) (.t 128), none⟩, ⟨(some 130), .mov (.t 14), none⟩, ⟨(some 131), .bin .eql .prim (.t 129) (.t 130), none⟩, ⟨(some 132), .mov (.t 131), none⟩, ⟨(some 133), .mov (.t 0), some (132, true)⟩, ⟨(some 134), .mov (.t 9), some (132, true)⟩, ⟨(some 135), .bin .sub .prim (.t 134) (.c (.int .i64 1)), some (132, true)⟩, ⟨(some 136), .sidx (.t 133) (.t 135), some (132, true)⟩, ⟨(some 137), .mov (.t 15), some (132, true)⟩, ⟨(some 138), .bin .eql .prim (.t 136) (.t 137), some (132, true)⟩, ⟨(some 139), .pick (.t 132) (.t 138) (.c (.bool false)), none⟩])
  (.cond (.t 139) (.seq (.seq (.region false [⟨(some 16), .set (.c (.int .i64 2)), none⟩])
  (.block 7 (.loop f83l9)))
  (.seq (.region false [⟨(some 157), .mov (.t 9), none⟩, ⟨(some 158), .mov (.t 8), none⟩, ⟨(some 159), .bin .sub .prim (.t 157) (.t 158), none⟩, ⟨(some 4), .set (.t 159), none⟩])
  .ret))
  .skip)))
  (.region false [⟨(some 125), .mov (.t 9), none⟩, ⟨(some 126), .bin .add .prim (.t 125) (.c (.int .i64 1)), none⟩, ⟨(some 9), .set (.t 126), none⟩])))
def f83 : AFun := ⟨2, 187, [.t 4], (.seq (.region false [⟨(some 4), .set (.c (.int .i64 0)), none⟩])
  (.block 0 (.seq (.region false [⟨(some 161), .mov (.t 1), none⟩, ⟨(some 162), .bin .leq .prim (.c (.int .i32 0)) (.t 161), none⟩, ⟨(some 163), .mov (.t 162), none⟩, ⟨(some 164), .mov (.t 1), some (163, true)⟩, ⟨(some 165), .bin .lss .prim (.t 164) (.c (.int .i32 128)), some (163, true)⟩, ⟨(some 166), .pick (.t 163) (.t 165) (.c (.bool false)), none⟩, ⟨(some 160), .set (.t 166), none⟩])
  (.cond (.t 160) (.seq (.region false [⟨(some 167), .mov (.t 0), none⟩, ⟨(some 168), .mov (.t 1), none⟩, ⟨(some 169), .conv (.int .u8) (.t 168), none⟩, ⟨(some 170), .call true 110 [(.t 167), (.t 169)], none⟩, ⟨(some 4), .set (.t 170), none⟩])
  .ret)
  (.seq (.region false [⟨(some 172), .mov (.t 1), none⟩, ⟨(some 173), .bin .eql .prim (.t 172) (.c (.int .i32 65533)), none⟩, ⟨(some 171), .set (.t 173), none⟩])
  (.cond (.t 171) (.seq (.seq (.region false [⟨(some 174), .mov (.t 0), none⟩, ⟨(some 175), .range (.t 174), none⟩])
  (.block 9 (.loop f83l0)))
  (.seq (.region false [⟨(some 4), .set (.c (.int .i64 (-1))), none⟩])
  .ret))
  (.seq (.region false [⟨(some 184), .mov (.t 1), none⟩, ⟨(some 185), .call true 111 [(.t 184)], none⟩, ⟨(some 186), .un .not (.t 185), none⟩, ⟨(some 183), .set (.t 186), none⟩])
  (.cond (.t 183) (.seq (.region false [⟨(some 4), .set (.c (.int .i64 (-1))), none⟩])
  .ret)
  (.jump 1000001 (.seq (.region false [⟨(some 17), .mov (.t 1), none⟩, ⟨(some 18), .conv .i2s (.t 17), none⟩, ⟨(some 7), .set (.t 18), none⟩])
  (.seq (.region false [⟨(some 19), .mov (.t 7), none⟩, ⟨(some 20), .len true (.t 19), none⟩, ⟨(some 21), .bin .sub .prim (.t 20) (.c (.int .i64 1)), none⟩, ⟨(some 8), .set (.t 21), none⟩])
  (.seq (.region false [⟨(some 22), .mov (.t 8), none⟩, ⟨(some 9), .set (.t 22), none⟩])
  (.seq (.region false [⟨(some 10), .set (.c (.int .i64 0)), none⟩])
  (.seq (.block 1 (.loop f83l2))
  (.seq (.seq (.region false [⟨(some 4), .set (.c (.int .i64 (-1))), none⟩])
  .ret)
  (.seq .skip
  (.seq (.cond (.c (.bool true)) (.seq (.region false [⟨(some 99), .mov (.t 0), none⟩, ⟨(some 100), .mov (.t 9), none⟩, ⟨(some 101), .mov (.t 8), none⟩, ⟨(some 102), .bin .sub .prim (.t 100) (.t 101), none⟩, ⟨(some 103), .slice none (.t 99) (some (.t 102)) none, none⟩, ⟨(some 104), .mov (.t 1), none⟩, ⟨(some 105), .conv .i2s (.t 104), none⟩, ⟨(some 106), .call true 107 [(.t 103), (.t 105)], none⟩, ⟨(some 13), .set (.t 106), none⟩])
  (.seq (.region false [⟨(some 107), .mov (.t 13), none⟩, ⟨(some 108), .bin .geq .prim (.t 107) (.c (.int .i64 0)), none⟩])
  (.cond (.t 108) (.seq (.region false [⟨(some 109), .mov (.t 9), none⟩, ⟨(some 110), .mov (.t 13), none⟩, ⟨(some 111), .bin .add .prim (.t 109) (.t 110), none⟩, ⟨(some 112), .mov (.t 8), none⟩, ⟨(some 113), .bin .sub .prim (.t 111) (.t 112), none⟩, ⟨(some 4), .set (.t 113), none⟩])
  .ret)
  .skip)))
  (.jump 1000002 (.seq (.region false [⟨(some 114), .mov (.t 7), none⟩, ⟨(some 115), .mov (.t 8), none⟩, ⟨(some 116), .sidx (.t 114) (.t 115), none⟩, ⟨(some 14), .set (.t 116), none⟩])
  (.seq (.region false [⟨(some 117), .mov (.t 7), none⟩, ⟨(some 118), .mov (.t 8), none⟩, ⟨(some 119), .bin .sub .prim (.t 118) (.c (.int .i64 1)), none⟩, ⟨(some 120), .sidx (.t 117) (.t 119), none⟩, ⟨(some 15), .set (.t 120), none⟩])
  (.seq .skip
  (.block 5 (.loop f83l4)))))
  (.seq .skip
  (.block 5 (.loop f83l6)))))
  (.seq (.region false [⟨(some 4), .set (.c (.int .i64 (-1))), none⟩])
  .ret)))))))))
  (.seq .skip
  (.seq (.cond (.c (.bool true)) (.seq (.region false [⟨(some 99), .mov (.t 0), none⟩, ⟨(some 100), .mov (.t 9), none⟩, ⟨(some 101), .mov (.t 8), none⟩, ⟨(some 102), .bin .sub .prim (.t 100) (.t 101), none⟩, ⟨(some 103), .slice none (.t 99) (some (.t 102)) none, none⟩, ⟨(some 104), .mov (.t 1), none⟩, ⟨(some 105), .conv .i2s (.t 104), none⟩, ⟨(some 106), .call true 107 [(.t 103), (.t 105)], none⟩, ⟨(some 13), .set (.t 106), none⟩])
  (.seq (.region false [⟨(some 107), .mov (.t 13), none⟩, ⟨(some 108), .bin .geq .prim (.t 107) (.c (.int .i64 0)), none⟩])
  (.cond (.t 108) (.seq (.region false [⟨(some 109), .mov (.t 9), none⟩, ⟨(some 110), .mov (.t 13), none⟩, ⟨(some 111), .bin .add .prim (.t 109) (.t 110), none⟩, ⟨(some 112), .mov (.t 8), none⟩, ⟨(some 113), .bin .sub .prim (.t 111) (.t 112), none⟩, ⟨(some 4), .set (.t 113), none⟩])
  .ret)
  .skip)))
  (.jump 1000002 (.seq (.region false [⟨(some 114), .mov (.t 7), none⟩, ⟨(some 115), .mov (.t 8), none⟩, ⟨(some 116), .sidx (.t 114) (.t 115), none⟩, ⟨(some 14), .set (.t 116), none⟩])
  (.seq (.region false [⟨(some 117), .mov (.t 7), none⟩, ⟨(some 118), .mov (.t 8), none⟩, ⟨(some 119), .bin .sub .prim (.t 118) (.c (.int .i64 1)), none⟩, ⟨(some 120), .sidx (.t 117) (.t 119), none⟩, ⟨(some 15), .set (.t 120), none⟩])
  (.seq .skip
  (.block 5 (.loop f83l8)))))
  (.seq .skip
  (.block 5 (.loop f83l10)))))
  (.seq (.region false [⟨(some 4), .set (.c (.int .i64 (-1))), none⟩])
  .ret))))))))))))⟩
theorem c83 : cfun Tryz.prog 83 = some f83 := by kernel_rfl
def f84 : AFun := ⟨1, 5, [.t 2], (.seq (.region false [⟨(some 2), .set (.c (.bool false)), none⟩])
  (.seq (.region false [⟨(some 3), .mov (.t 0), none⟩, ⟨(some 4), .bin .gtr .prim (.t 3) (.c (.int .i64 8)), none⟩, ⟨(some 2), .set (.t 4), none⟩])
  .ret))⟩
theorem c84 : cfun Tryz.prog 84 = some f84 := by kernel_rfl
def f87 : AFun := ⟨1, 37, [.t 2], (.seq (.region false [⟨(some 2), .set (.c (.bool false)), none⟩])
  (.seq (.region false [⟨(some 3), .mov (.t 0), none⟩, ⟨(some 4), .bin .eql .prim (.t 3) (.c (.int .i64 9)), none⟩, ⟨(some 5), .mov (.t 4), none⟩, ⟨(some 6), .mov (.t 0), some (5, false)⟩, ⟨(some 7), .bin .eql .prim (.t 6) (.c (.int .i64 10)), some (5, false)⟩, ⟨(some 8), .pick (.t 5) (.c (.bool true)) (.t 7), none⟩, ⟨(some 9), .mov (.t 8), none⟩, ⟨(some 10), .mov (.t 0), some (9, false)⟩, ⟨(some 11), .bin .eql .prim (.t 10) (.c (.int .i64 13)), some (9, false)⟩, ⟨(some 12), .pick (.t 9) (.c (.bool true)) (.t 11), none⟩, ⟨(some 13), .mov (.t 12), none⟩, ⟨(some 14), .mov (.t 0), some (13, false)⟩, ⟨(some 15), .bin .geq .prim (.t 14) (.c (.int .i64 32)), some (13, false)⟩, ⟨(some 16), .mov (.t 15), some (13, false)⟩, ⟨(some 17), .mov (.t 0), some (16, true)⟩, ⟨(some 18), .bin .lss .prim (.t 17) (.c (.int .i64 55296)), some (16, true)⟩, ⟨(some 19), .pick (.t 16) (.t 18) (.c (.bool false)), some (13, false)⟩, ⟨(some 20), .pick (.t 13) (.c (.bool true)) (.t 19), none⟩, ⟨(some 21), .mov (.t 20), none⟩, ⟨(some 22), .mov (.t 0), some (21, false)⟩, ⟨(some 23), .bin .gtr .prim (.t 22) (.c (.int .i64 57343)), some (21, false)⟩, ⟨(some 24), .mov (.t 23), some (21, false)⟩, ⟨(some 25), .mov (.t 0), some (24, true)⟩, ⟨(some 26), .bin .lss .prim (.t 25) (.c (.int .i64 65534)), some (24, true)⟩, ⟨(some 27), .pick (.t 24) (.t 26) (.c (.bool false)), some (21, false)⟩, ⟨(some 28), .pick (.t 21) (.c (.bool true)) (.t 27), none⟩, ⟨(some 29), .mov (.t 28), none⟩, ⟨(some 30), .mov (.t 0), some (29, false)⟩, ⟨(some 31), .bin .gtr .prim (.t 30) (.c (.int .i64 65535)), some (29, false)⟩, ⟨(some 32), .mov (.t 31), some (29, false)⟩, ⟨(some 33), .mov (.t 0), some (32, true)⟩, ⟨(some 34), .bin .leq .prim (.t 33) (.c (.int .i64 1114111)), some (32, true)⟩, ⟨(some 35), .pick (.t 32) (.t 34) (.c (.bool false)), some (29, false)⟩, ⟨(some 36), .pick (.t 29) (.c (.bool true)) (.t 35), none⟩, ⟨(some 2), .set (.t 36), none⟩])
  .ret))⟩
theorem c87 : cfun Tryz.prog 87 = some f87 := by kernel_rfl
def f103 : AFun := ⟨2, 9, [.t 4], (.seq (.region false [⟨(some 4), .set (.c (.bool false)), none⟩])
  (.seq (.region false [⟨(some 5), .mov (.t 0), none⟩, ⟨(some 6), .mov (.t 1), none⟩, ⟨(some 7), .call true 125 [(.t 5), (.t 6)], none⟩, ⟨(some 8), .bin .geq .prim (.t 7) (.c (.int .i64 0)), none⟩, ⟨(some 4), .set (.t 8), none⟩])
  .ret))⟩
theorem c103 : cfun Tryz.prog 103 = some f103 := by kernel_rfl
def f104 : AFun := ⟨1, 8, [.t 3], (.seq (.region false [⟨(some 3), .set (.c (.bool false)), none⟩])
  (.seq (.region false [⟨(some 4), .load none (.t 1), none⟩, ⟨(some 5), .mov (.t 0), none⟩, ⟨(some 6), .callv true (.t 4) [(.t 5)], none⟩, ⟨(some 7), .un .not (.t 6), none⟩, ⟨(some 3), .set (.t 7), none⟩])
  .ret))⟩
theorem c104 : cfun Tryz.prog 104 = some f104 := by kernel_rfl
def f105 : AFun := ⟨2, 15, [.t 4], (.seq (.region false [⟨(some 2), .box (.t 0), none⟩, ⟨(some 4), .set (.c (.bool false)), none⟩])
  (.seq (.region false [⟨(some 5), .mov (.t 1), none⟩, ⟨(some 6), .faddr 0 (.t 2), none⟩, ⟨(some 7), .load none (.t 6), none⟩, ⟨(some 8), .bin .geq .prim (.t 5) (.t 7), none⟩, ⟨(some 9), .mov (.t 8), none⟩, ⟨(some 10), .mov (.t 1), some (9, true)⟩, ⟨(some 11), .faddr 1 (.t 2), some (9, true)⟩, ⟨(some 12), .load none (.t 11), some (9, true)⟩, ⟨(some 13), .bin .leq .prim (.t 10) (.t 12), some (9, true)⟩, ⟨(some 14), .pick (.t 9) (.t 13) (.c (.bool false)), none⟩, ⟨(some 4), .set (.t 14), none⟩])
  .ret))⟩
theorem c105 : cfun Tryz.prog 105 = some f105 := by kernel_rfl
def f110 : AFun := ⟨2, 8, [.t 4], (.seq (.region false [⟨(some 4), .set (.c (.int .i64 0)), none⟩])
  (.seq (.region false [⟨(some 5), .mov (.t 0), none⟩, ⟨(some 6), .mov (.t 1), none⟩, ⟨(some 7), .call true 106 [(.t 5), (.t 6)], none⟩, ⟨(some 4), .set (.t 7), none⟩])
  .ret))⟩
theorem c110 : cfun Tryz.prog 110 = some f110 := by kernel_rfl
def f111 : AFun := ⟨1, 17, [.t 2], (.seq (.region false [⟨(some 2), .set (.c (.bool false)), none⟩])
  (.seq (.block 0 (.seq (.region false [⟨(some 4), .mov (.t 0), none⟩, ⟨(some 5), .bin .leq .prim (.c (.int .i32 0)) (.t 4), none⟩, ⟨(some 6), .mov (.t 5), none⟩, ⟨(some 7), .mov (.t 0), some (6, true)⟩, ⟨(some 8), .bin .lss .prim (.t 7) (.c (.int .i32 55296)), some (6, true)⟩, ⟨(some 9), .pick (.t 6) (.t 8) (.c (.bool false)), none⟩, ⟨(some 3), .set (.t 9), none⟩])
  (.cond (.t 3) (.seq (.region false [⟨(some 2), .set (.c (.bool true)), none⟩])
  .ret)
  (.seq (.region false [⟨(some 11), .mov (.t 0), none⟩, ⟨(some 12), .bin .lss .prim (.c (.int .i32 57343)) (.t 11), none⟩, ⟨(some 13), .mov (.t 12), none⟩, ⟨(some 14), .mov (.t 0), some (13, true)⟩, ⟨(some 15), .bin .leq .prim (.t 14) (.c (.int .i32 1114111)), some (13, true)⟩, ⟨(some 16), .pick (.t 13) (.t 15) (.c (.bool false)), none⟩, ⟨(some 10), .set (.t 16), none⟩])
  (.cond (.t 10) (.seq (.region false [⟨(some 2), .set (.c (.bool true)), none⟩])
  .ret)
  .skip)))))
  (.seq (.region false [⟨(some 2), .set (.c (.bool false)), none⟩])
  .ret)))⟩
theorem c111 : cfun Tryz.prog 111 = some f111 := by kernel_rfl
def f119 : AFun := ⟨2, 11, [.t 4, .t 5], (.seq (.region false [⟨(some 4), .set (.c (.str [])), none⟩, ⟨(some 5), .set (.c (.bool false)), none⟩])
  (.seq (.region false [⟨(some 6), .mov (.t 0), none⟩, ⟨(some 7), .mov (.t 1), none⟩, ⟨(some 8), .call true 137 [(.t 6), (.t 7)], none⟩, ⟨(some 9), .extr (.t 8) 0, none⟩, ⟨(some 10), .extr (.t 8) 1, none⟩, ⟨(some 4), .set (.t 9), none⟩, ⟨(some 5), .set (.t 10), none⟩])
  .ret))⟩
theorem c119 : cfun Tryz.prog 119 = some f119 := by kernel_rfl
def f125l0 : ACode := (.seq (.region false [⟨(some 9), .bin .lss .prim (.t 8) (.t 7), none⟩])
  (.seq (.cond (.t 9) .skip
  (.exit 0))
  (.seq (.block 1 (.seq (.region false [⟨(some 10), .mov (.t 8), none⟩, ⟨(some 5), .set (.t 10), none⟩])
  (.seq (.region false [⟨(some 11), .mov (.t 1), none⟩, ⟨(some 12), .mov (.t 0), none⟩, ⟨(some 13), .mov (.t 5), none⟩, ⟨(some 14), .iaddr 1 (.t 12) (.t 13), none⟩, ⟨(some 15), .load none (.t 14), none⟩, ⟨(some 16), .callv true (.t 11) [(.t 15)], none⟩])
  (.cond (.t 16) (.seq (.region false [⟨(some 17), .mov (.t 5), none⟩, ⟨(some 4), .set (.t 17), none⟩])
  .ret)
  .skip))))
  (.region false [⟨(some 18), .bin .add .prim (.t 8) (.c (.int .i64 1)), none⟩, ⟨(some 8), .mov (.t 18), none⟩]))))
def f125 : AFun := ⟨2, 19, [.t 4], (.seq (.region false [⟨(some 4), .set (.c (.int .i64 0)), none⟩])
  (.seq (.seq (.region false [⟨(some 6), .mov (.t 0), none⟩, ⟨(some 7), .len false (.t 6), none⟩, ⟨(some 8), .mov (.c (.int .i64 0)), none⟩])
  (.block 0 (.loop f125l0)))
  (.seq (.region false [⟨(some 4), .set (.c (.int .i64 (-1))), none⟩])
  .ret)))⟩
theorem c125 : cfun Tryz.prog 125 = some f125 := by kernel_rfl
def f137 : AFun := ⟨2, 15, [.t 4, .t 5], (.seq (.region false [⟨(some 4), .set (.c (.str [])), none⟩, ⟨(some 5), .set (.c (.bool false)), none⟩])
  (.seq (.seq (.region false [⟨(some 6), .mov (.t 0), none⟩, ⟨(some 7), .mov (.t 1), none⟩, ⟨(some 8), .call true 59 [(.t 6), (.t 7)], none⟩, ⟨(some 9), .un .not (.t 8), none⟩])
  (.cond (.t 9) (.seq (.region false [⟨(some 10), .mov (.t 0), none⟩, ⟨(some 4), .set (.t 10), none⟩, ⟨(some 5), .set (.c (.bool false)), none⟩])
  .ret)
  .skip))
  (.seq (.region false [⟨(some 11), .mov (.t 0), none⟩, ⟨(some 12), .mov (.t 1), none⟩, ⟨(some 13), .len true (.t 12), none⟩, ⟨(some 14), .slice none (.t 11) (some (.t 13)) none, none⟩, ⟨(some 4), .set (.t 14), none⟩, ⟨(some 5), .set (.c (.bool true)), none⟩])
  .ret)))⟩
theorem c137 : cfun Tryz.prog 137 = some f137 := by kernel_rfl
def f152 : AFun := ⟨2, 9, [.t 4], (.seq (.region false [⟨(some 4), .set (.c (.bool false)), none⟩])
  (.seq (.region false [⟨(some 5), .mov (.t 0), none⟩, ⟨(some 6), .mov (.t 1), none⟩, ⟨(some 7), .call true 83 [(.t 5), (.t 6)], none⟩, ⟨(some 8), .bin .geq .prim (.t 7) (.c (.int .i64 0)), none⟩, ⟨(some 4), .set (.t 8), none⟩])
  .ret))⟩
theorem c152 : cfun Tryz.prog 152 = some f152 := by kernel_rfl
end Go.Proofs.Ut
