/- The functions of strings.Replacer, as texts of our small language. -/
import Derived.Test.YtbnmhlienklfpaaGreatDoorAiCode
import Derived.Test.YtbnmhlienklfpaaGreatDoorProg
import Derived.KernelRfl
set_option linter.all false
namespace Go.Proofs.Ut
open Go.Ai
set_option maxRecDepth 100000
def f41 : AFun := ⟨1, 12, [.t 2], (.seq (.region false [⟨(some 2), .set (.c .nilp), none⟩])
  (.seq (.seq (.region false [⟨(some 3), .mov (.t 0), none⟩, ⟨(some 4), .len false (.t 3), none⟩, ⟨(some 5), .bin .rem .prim (.t 4) (.c (.int .i64 2)), none⟩, ⟨(some 6), .bin .eql .prim (.t 5) (.c (.int .i64 1)), none⟩])
  (.cond (.t 6) (.region false [⟨(some 7), .mkifc 9 (.c (.str [115, 116, 114, 105, 110, 103, 115, 46, 78, 101, 119, 82, 101, 112, 108, 97, 99, 101, 114, 58, 32, 111, 100, 100, 32, 97, 114, 103, 117, 109, 101, 110, 116, 32, 99, 111, 117, 110, 116])), none⟩, ⟨none, .bad, none⟩])
  .skip))
  (.seq (.region false [⟨(some 8), .mov (.t 0), none⟩, ⟨(some 9), .append 1 16 (.c (.nils 1)) (.t 8), none⟩, ⟨(some 10), .build [(.int .u32 0), (.int .i32 0), (.int .u32 0), .nili, (.nils 1)] [(4, 1, (.t 9))], none⟩, ⟨(some 11), .box (.t 10), none⟩, ⟨(some 2), .set (.t 11), none⟩])
  .ret)))⟩
theorem c41 : cfun Tryz.prog 41 = some f41 := by kernel_rfl
def f42 : AFun := ⟨2, 17, [.t 4], (.seq (.region false [⟨(some 4), .set (.c (.str [])), none⟩])
  (.seq (.region false [⟨(some 5), .mov (.t 0), none⟩, ⟨(some 6), .nilchk (.t 5), none⟩, ⟨(some 7), .faddr 0 (.t 6), none⟩, ⟨(some 8), .mov (.t 0), none⟩, ⟨(some 9), .mkbnd 68 (.t 8), none⟩, ⟨(some 10), .call true 67 [(.t 7), (.t 9)], none⟩])
  (.seq (.region false [⟨(some 11), .mov (.t 0), none⟩, ⟨(some 12), .nilchk (.t 11), none⟩, ⟨(some 13), .faddr 3 (.t 12), none⟩, ⟨(some 14), .load none (.t 13), none⟩, ⟨(some 15), .mov (.t 1), none⟩, ⟨(some 16), .inv true "Replace" (.t 14) [(.t 15)], none⟩, ⟨(some 4), .set (.t 16), none⟩])
  .ret)))⟩
theorem c42 : cfun Tryz.prog 42 = some f42 := by kernel_rfl
def f68 : AFun := ⟨1, 10, [], (.seq (.region false [⟨(some 2), .mov (.t 0), none⟩, ⟨(some 3), .mov (.t 0), none⟩, ⟨(some 4), .call true 94 [(.t 3)], none⟩, ⟨(some 5), .nilchk (.t 2), none⟩, ⟨(some 6), .faddr 3 (.t 5), none⟩, ⟨none, .store true 1 (.t 6) (.t 4), none⟩])
  (.region false [⟨(some 7), .mov (.t 0), none⟩, ⟨(some 8), .nilchk (.t 7), none⟩, ⟨(some 9), .faddr 4 (.t 8), none⟩, ⟨none, .store true 1 (.t 9) (.c (.nils 1)), none⟩]))⟩
theorem c68 : cfun Tryz.prog 68 = some f68 := by kernel_rfl
def f94l0 : ACode := (.seq (.seq (.region false [⟨(some 37), .mov (.t 5), none⟩, ⟨(some 38), .mov (.t 3), none⟩, ⟨(some 39), .len false (.t 38), none⟩, ⟨(some 40), .bin .lss .prim (.t 37) (.t 39), none⟩])
  (.cond (.t 40) .skip
  (.exit 0)))
  (.seq (.block 1 (.seq (.seq (.region false [⟨(some 43), .mov (.t 3), none⟩, ⟨(some 44), .mov (.t 5), none⟩, ⟨(some 45), .iaddr 1 (.t 43) (.t 44), none⟩, ⟨(some 46), .load none (.t 45), none⟩, ⟨(some 47), .len true (.t 46), none⟩, ⟨(some 48), .bin .neq .prim (.t 47) (.c (.int .i64 1)), none⟩])
  (.cond (.t 48) (.seq (.region false [⟨(some 49), .mov (.t 3), none⟩, ⟨(some 50), .call true 117 [(.t 49)], none⟩, ⟨(some 51), .mkifc 172 (.t 50), none⟩, ⟨(some 2), .set (.t 51), none⟩])
  .ret)
  .skip))
  (.seq (.region false [⟨(some 52), .mov (.t 3), none⟩, ⟨(some 53), .mov (.t 5), none⟩, ⟨(some 54), .bin .add .prim (.t 53) (.c (.int .i64 1)), none⟩, ⟨(some 55), .iaddr 1 (.t 52) (.t 54), none⟩, ⟨(some 56), .load none (.t 55), none⟩, ⟨(some 57), .len true (.t 56), none⟩, ⟨(some 58), .bin .neq .prim (.t 57) (.c (.int .i64 1)), none⟩])
  (.cond (.t 58) (.region false [⟨(some 4), .set (.c (.bool false)), none⟩])
  .skip))))
  (.region false [⟨(some 41), .mov (.t 5), none⟩, ⟨(some 42), .bin .add .prim (.t 41) (.c (.int .i64 2)), none⟩, ⟨(some 5), .set (.t 42), none⟩])))
def f94l1 : ACode := (.seq (.region false [⟨(some 62), .bin .lss .prim (.t 61) (.c (.int .i64 256)), none⟩])
  (.seq (.cond (.t 62) .skip
  (.exit 2))
  (.seq (.block 3 (.seq (.region false [⟨(some 63), .mov (.t 61), none⟩, ⟨(some 7), .set (.t 63), none⟩])
  (.region false [⟨(some 64), .mov (.t 7), none⟩, ⟨(some 65), .mov (.t 7), none⟩, ⟨(some 66), .conv (.int .u8) (.t 65), none⟩, ⟨(some 67), .baddr 256 1 (.t 6) (.t 64), none⟩, ⟨none, .store true 1 (.t 67) (.t 66), none⟩])))
  (.region false [⟨(some 68), .bin .add .prim (.t 61) (.c (.int .i64 1)), none⟩, ⟨(some 61), .mov (.t 68), none⟩]))))
def f94l2 : ACode := (.seq (.seq (.region false [⟨(some 72), .mov (.t 8), none⟩, ⟨(some 73), .bin .geq .prim (.t 72) (.c (.int .i64 0)), none⟩])
  (.cond (.t 73) .skip
  (.exit 4)))
  (.seq (.block 5 (.seq (.region false [⟨(some 76), .mov (.t 3), none⟩, ⟨(some 77), .mov (.t 8), none⟩, ⟨(some 78), .iaddr 1 (.t 76) (.t 77), none⟩, ⟨(some 79), .load none (.t 78), none⟩, ⟨(some 80), .sidx (.t 79) (.c (.int .i64 0)), none⟩, ⟨(some 9), .set (.t 80), none⟩])
  (.seq (.region false [⟨(some 81), .mov (.t 3), none⟩, ⟨(some 82), .mov (.t 8), none⟩, ⟨(some 83), .bin .add .prim (.t 82) (.c (.int .i64 1)), none⟩, ⟨(some 84), .iaddr 1 (.t 81) (.t 83), none⟩, ⟨(some 85), .load none (.t 84), none⟩, ⟨(some 86), .sidx (.t 85) (.c (.int .i64 0)), none⟩, ⟨(some 10), .set (.t 86), none⟩])
  (.region false [⟨(some 87), .mov (.t 9), none⟩, ⟨(some 88), .mov (.t 10), none⟩, ⟨(some 89), .baddr 256 1 (.t 6) (.t 87), none⟩, ⟨none, .store true 1 (.t 89) (.t 88), none⟩]))))
  (.region false [⟨(some 74), .mov (.t 8), none⟩, ⟨(some 75), .bin .sub .prim (.t 74) (.c (.int .i64 2)), none⟩, ⟨(some 8), .set (.t 75), none⟩])))
def f94l3 : ACode := (.seq (.seq (.region false [⟨(some 99), .mov (.t 12), none⟩, ⟨(some 100), .bin .geq .prim (.t 99) (.c (.int .i64 0)), none⟩])
  (.cond (.t 100) .skip
  (.exit 6)))
  (.seq (.block 7 (.seq (.region false [⟨(some 103), .mov (.t 3), none⟩, ⟨(some 104), .mov (.t 12), none⟩, ⟨(some 105), .iaddr 1 (.t 103) (.t 104), none⟩, ⟨(some 106), .load none (.t 105), none⟩, ⟨(some 107), .sidx (.t 106) (.c (.int .i64 0)), none⟩, ⟨(some 13), .set (.t 107), none⟩])
  (.seq (.region false [⟨(some 108), .mov (.t 3), none⟩, ⟨(some 109), .mov (.t 12), none⟩, ⟨(some 110), .bin .add .prim (.t 109) (.c (.int .i64 1)), none⟩, ⟨(some 111), .iaddr 1 (.t 108) (.t 110), none⟩, ⟨(some 112), .load none (.t 111), none⟩, ⟨(some 14), .set (.t 112), none⟩])
  (.seq (.seq (.region false [⟨(some 113), .mov (.t 13), none⟩, ⟨(some 114), .faddr 0 (.t 11), none⟩, ⟨(some 115), .baddr 256 1 (.t 114) (.t 113), none⟩, ⟨(some 116), .load none (.t 115), none⟩, ⟨(some 117), .bin .eql .slc (.t 116) (.c (.nils 1)), none⟩])
  (.cond (.t 117) (.region false [⟨(some 118), .faddr 256 (.t 11), none⟩, ⟨(some 119), .load none (.t 118), none⟩, ⟨(some 120), .mov (.t 13), none⟩, ⟨(some 121), .bslice true 1 [(.t 120)], none⟩, ⟨(some 122), .conv .b2s (.t 121), none⟩, ⟨(some 123), .bslice true 1 [(.t 122)], none⟩, ⟨(some 124), .append 1 16 (.t 119) (.t 123), none⟩, ⟨(some 125), .faddr 256 (.t 11), none⟩, ⟨none, .store true 1 (.t 125) (.t 124), none⟩])
  .skip))
  (.region false [⟨(some 126), .mov (.t 13), none⟩, ⟨(some 127), .mov (.t 14), none⟩, ⟨(some 128), .conv .s2b (.t 127), none⟩, ⟨(some 129), .faddr 0 (.t 11), none⟩, ⟨(some 130), .baddr 256 1 (.t 129) (.t 126), none⟩, ⟨none, .store true 1 (.t 130) (.t 128), none⟩])))))
  (.region false [⟨(some 101), .mov (.t 12), none⟩, ⟨(some 102), .bin .sub .prim (.t 101) (.c (.int .i64 2)), none⟩, ⟨(some 12), .set (.t 102), none⟩])))
def f94 : AFun := ⟨1, 132, [.t 2], (.seq (.region false [⟨(some 2), .set (.c .nili), none⟩])
  (.seq (.region false [⟨(some 15), .mov (.t 0), none⟩, ⟨(some 16), .nilchk (.t 15), none⟩, ⟨(some 17), .faddr 4 (.t 16), none⟩, ⟨(some 18), .load none (.t 17), none⟩, ⟨(some 3), .set (.t 18), none⟩])
  (.seq (.seq (.region false [⟨(some 19), .mov (.t 3), none⟩, ⟨(some 20), .len false (.t 19), none⟩, ⟨(some 21), .bin .eql .prim (.t 20) (.c (.int .i64 2)), none⟩, ⟨(some 22), .mov (.t 21), none⟩, ⟨(some 23), .mov (.t 3), some (22, true)⟩, ⟨(some 24), .iaddr 1 (.t 23) (.c (.int .i64 0)), some (22, true)⟩, ⟨(some 25), .load none (.t 24), some (22, true)⟩, ⟨(some 26), .len true (.t 25), some (22, true)⟩, ⟨(some 27), .bin .gtr .prim (.t 26) (.c (.int .i64 1)), some (22, true)⟩, ⟨(some 28), .pick (.t 22) (.t 27) (.c (.bool false)), none⟩])
  (.cond (.t 28) (.seq (.region true [⟨(some 29), .mov (.t 3), none⟩, ⟨(some 30), .iaddr 1 (.t 29) (.c (.int .i64 0)), none⟩, ⟨(some 31), .load none (.t 30), none⟩, ⟨(some 32), .mov (.t 3), none⟩, ⟨(some 33), .iaddr 1 (.t 32) (.c (.int .i64 1)), none⟩, ⟨(some 34), .load none (.t 33), none⟩, ⟨(some 35), .call true 116 [(.t 31), (.t 34)], none⟩, ⟨(some 36), .mkifc 170 (.t 35), none⟩, ⟨(some 2), .set (.t 36), none⟩])
  .ret)
  .skip))
  (.seq (.region false [⟨(some 4), .set (.c (.bool true)), none⟩])
  (.seq (.seq (.region false [⟨(some 5), .set (.c (.int .i64 0)), none⟩])
  (.block 0 (.loop f94l0)))
  (.seq (.seq (.region false [⟨(some 59), .mov (.t 4), none⟩])
  (.cond (.t 59) (.seq (.region false [⟨(some 60), .bad, none⟩, ⟨(some 6), .alloc (List.replicate 256 (.int .u8 0) ++ []), none⟩, ⟨none, .store true 256 (.t 6) (.t 60), none⟩])
  (.seq (.seq (.region false [⟨(some 61), .mov (.c (.int .i64 0)), none⟩])
  (.block 2 (.loop f94l1)))
  (.seq (.seq (.region false [⟨(some 69), .mov (.t 3), none⟩, ⟨(some 70), .len false (.t 69), none⟩, ⟨(some 71), .bin .sub .prim (.t 70) (.c (.int .i64 2)), none⟩, ⟨(some 8), .set (.t 71), none⟩])
  (.block 4 (.loop f94l2)))
  (.seq (.region false [⟨(some 90), .mkifc 175 (.t 6), none⟩, ⟨(some 2), .set (.t 90), none⟩])
  .ret))))
  .skip))
  (.seq (.region false [⟨(some 91), .mov (.t 3), none⟩, ⟨(some 92), .len false (.t 91), none⟩, ⟨(some 93), .bin .quo .prim (.t 92) (.c (.int .i64 2)), none⟩, ⟨(some 94), .mkslice 1 16 [(.str [])] (.c (.int .i64 0)) (.t 93), none⟩, ⟨(some 95), .build (List.replicate 257 (.emp true 1) ++ []) [(256, 1, (.t 94))], none⟩, ⟨(some 11), .alloc (List.replicate 257 (.emp true 1) ++ []), none⟩, ⟨none, .store true 257 (.t 11) (.t 95), none⟩])
  (.seq (.seq (.region false [⟨(some 96), .mov (.t 3), none⟩, ⟨(some 97), .len false (.t 96), none⟩, ⟨(some 98), .bin .sub .prim (.t 97) (.c (.int .i64 2)), none⟩, ⟨(some 12), .set (.t 98), none⟩])
  (.block 6 (.loop f94l3)))
  (.seq (.region false [⟨(some 131), .mkifc 179 (.t 11), none⟩, ⟨(some 2), .set (.t 131), none⟩])
  .ret)))))))))⟩
theorem c94 : cfun Tryz.prog 94 = some f94 := by kernel_rfl
def f189l0 : ACode := (.seq (.region false [⟨(some 33), .bin .lss .prim (.t 32) (.t 31), none⟩])
  (.seq (.cond (.t 33) .skip
  (.exit 0))
  (.seq (.block 1 (.seq (.region false [⟨(some 34), .iaddr 1 (.t 30) (.t 32), none⟩, ⟨(some 35), .load none (.t 34), none⟩, ⟨(some 8), .set (.t 35), none⟩])
  (.seq (.region false [⟨(some 36), .mov (.t 1), none⟩, ⟨(some 37), .mov (.t 8), none⟩, ⟨(some 38), .call true 191 [(.t 36), (.t 37)], none⟩, ⟨(some 9), .set (.t 38), none⟩])
  (.seq (.region false [⟨(some 39), .mov (.t 9), none⟩, ⟨(some 40), .bin .neq .prim (.t 39) (.c (.int .i64 0)), none⟩])
  (.cond (.t 40) (.seq (.region true [⟨(some 41), .mov (.t 5), none⟩, ⟨(some 42), .mov (.t 9), none⟩, ⟨(some 43), .mov (.t 0), none⟩, ⟨(some 44), .mov (.t 8), none⟩, ⟨(some 45), .sidx (.t 44) (.c (.int .i64 0)), none⟩, ⟨(some 46), .nilchk (.t 43), none⟩, ⟨(some 47), .faddr 0 (.t 46), none⟩, ⟨(some 48), .baddr 256 1 (.t 47) (.t 45), none⟩, ⟨(some 49), .load none (.t 48), none⟩, ⟨(some 50), .len false (.t 49), none⟩, ⟨(some 51), .bin .sub .prim (.t 50) (.c (.int .i64 1)), none⟩, ⟨(some 52), .bin .mul .prim (.t 42) (.t 51), none⟩, ⟨(some 53), .bin .add .prim (.t 41) (.t 52), none⟩, ⟨(some 5), .set (.t 53), none⟩])
  (.region false [⟨(some 6), .set (.c (.bool true)), none⟩]))
  .skip)))))
  (.region false [⟨(some 54), .bin .add .prim (.t 32) (.c (.int .i64 1)), none⟩, ⟨(some 32), .mov (.t 54), none⟩]))))
def f189l1 : ACode := (.seq (.seq (.region false [⟨(some 55), .mov (.t 10), none⟩, ⟨(some 56), .mov (.t 1), none⟩, ⟨(some 57), .len true (.t 56), none⟩, ⟨(some 58), .bin .lss .prim (.t 55) (.t 57), none⟩])
  (.cond (.t 58) .skip
  (.exit 2)))
  (.seq (.block 3 (.seq (.region false [⟨(some 61), .mov (.t 1), none⟩, ⟨(some 62), .mov (.t 10), none⟩, ⟨(some 63), .sidx (.t 61) (.t 62), none⟩, ⟨(some 11), .set (.t 63), none⟩])
  (.seq (.region false [⟨(some 64), .mov (.t 0), none⟩, ⟨(some 65), .mov (.t 11), none⟩, ⟨(some 66), .nilchk (.t 64), none⟩, ⟨(some 67), .faddr 0 (.t 66), none⟩, ⟨(some 68), .baddr 256 1 (.t 67) (.t 65), none⟩, ⟨(some 69), .load none (.t 68), none⟩, ⟨(some 70), .bin .neq .slc (.t 69) (.c (.nils 1)), none⟩])
  (.cond (.t 70) (.seq (.region false [⟨(some 71), .mov (.t 5), none⟩, ⟨(some 72), .mov (.t 0), none⟩, ⟨(some 73), .mov (.t 11), none⟩, ⟨(some 74), .nilchk (.t 72), none⟩, ⟨(some 75), .faddr 0 (.t 74), none⟩, ⟨(some 76), .baddr 256 1 (.t 75) (.t 73), none⟩, ⟨(some 77), .load none (.t 76), none⟩, ⟨(some 78), .len false (.t 77), none⟩, ⟨(some 79), .bin .sub .prim (.t 78) (.c (.int .i64 1)), none⟩, ⟨(some 80), .bin .add .prim (.t 71) (.t 79), none⟩, ⟨(some 5), .set (.t 80), none⟩])
  (.region false [⟨(some 6), .set (.c (.bool true)), none⟩]))
  .skip))))
  (.region false [⟨(some 59), .mov (.t 10), none⟩, ⟨(some 60), .bin .add .prim (.t 59) (.c (.int .i64 1)), none⟩, ⟨(some 10), .set (.t 60), none⟩])))
def f189l2 : ACode := (.seq (.seq (.region false [⟨(some 86), .mov (.t 14), none⟩, ⟨(some 87), .mov (.t 1), none⟩, ⟨(some 88), .len true (.t 87), none⟩, ⟨(some 89), .bin .lss .prim (.t 86) (.t 88), none⟩])
  (.cond (.t 89) .skip
  (.exit 4)))
  (.seq (.block 5 (.seq (.region false [⟨(some 92), .mov (.t 1), none⟩, ⟨(some 93), .mov (.t 14), none⟩, ⟨(some 94), .sidx (.t 92) (.t 93), none⟩, ⟨(some 15), .set (.t 94), none⟩])
  (.seq (.region false [⟨(some 95), .mov (.t 0), none⟩, ⟨(some 96), .mov (.t 15), none⟩, ⟨(some 97), .nilchk (.t 95), none⟩, ⟨(some 98), .faddr 0 (.t 97), none⟩, ⟨(some 99), .baddr 256 1 (.t 98) (.t 96), none⟩, ⟨(some 100), .load none (.t 99), none⟩, ⟨(some 101), .bin .neq .slc (.t 100) (.c (.nils 1)), none⟩])
  (.cond (.t 101) (.region true [⟨(some 102), .mov (.t 13), none⟩, ⟨(some 103), .mov (.t 12), none⟩, ⟨(some 104), .mov (.t 13), none⟩, ⟨(some 105), .slice (some 1) (.t 103) (some (.t 104)) none, none⟩, ⟨(some 106), .mov (.t 0), none⟩, ⟨(some 107), .mov (.t 15), none⟩, ⟨(some 108), .nilchk (.t 106), none⟩, ⟨(some 109), .faddr 0 (.t 108), none⟩, ⟨(some 110), .baddr 256 1 (.t 109) (.t 107), none⟩, ⟨(some 111), .load none (.t 110), none⟩, ⟨(some 112), .cpy 1 (.t 105) (.t 111), none⟩, ⟨(some 113), .bin .add .prim (.t 102) (.t 112), none⟩, ⟨(some 13), .set (.t 113), none⟩])
  (.seq (.region false [⟨(some 114), .mov (.t 12), none⟩, ⟨(some 115), .mov (.t 13), none⟩, ⟨(some 116), .mov (.t 15), none⟩, ⟨(some 117), .iaddr 1 (.t 114) (.t 115), none⟩, ⟨none, .store true 1 (.t 117) (.t 116), none⟩])
  (.region false [⟨(some 118), .mov (.t 13), none⟩, ⟨(some 119), .bin .add .prim (.t 118) (.c (.int .i64 1)), none⟩, ⟨(some 13), .set (.t 119), none⟩]))))))
  (.region false [⟨(some 90), .mov (.t 14), none⟩, ⟨(some 91), .bin .add .prim (.t 90) (.c (.int .i64 1)), none⟩, ⟨(some 14), .set (.t 91), none⟩])))
def f189t : ACode := (.seq (.seq (.region false [⟨(some 81), .mov (.t 6), none⟩, ⟨(some 82), .un .not (.t 81), none⟩])
  (.cond (.t 82) (.seq (.region false [⟨(some 83), .mov (.t 1), none⟩, ⟨(some 4), .set (.t 83), none⟩])
  .ret)
  .skip))
  (.seq (.region false [⟨(some 84), .mov (.t 5), none⟩, ⟨(some 85), .mkslice 1 1 [(.int .u8 0)] (.t 84) (.t 84), none⟩, ⟨(some 12), .set (.t 85), none⟩])
  (.seq (.region false [⟨(some 13), .set (.c (.int .i64 0)), none⟩])
  (.seq (.seq (.region false [⟨(some 14), .set (.c (.int .i64 0)), none⟩])
  (.block 4 (.loop f189l2)))
  (.seq (.region false [⟨(some 120), .mov (.t 12), none⟩, ⟨(some 121), .conv .b2s (.t 120), none⟩, ⟨(some 4), .set (.t 121), none⟩])
  .ret)))))
def f189 : AFun := ⟨2, 122, [.t 4], (.seq (.region false [⟨(some 4), .set (.c (.str [])), none⟩])
  (.seq (.region false [⟨(some 16), .mov (.t 1), none⟩, ⟨(some 17), .len true (.t 16), none⟩, ⟨(some 5), .set (.t 17), none⟩])
  (.seq (.region false [⟨(some 6), .set (.c (.bool false)), none⟩])
  (.seq (.seq (.region false [⟨(some 18), .mov (.t 0), none⟩, ⟨(some 19), .nilchk (.t 18), none⟩, ⟨(some 20), .faddr 256 (.t 19), none⟩, ⟨(some 21), .load none (.t 20), none⟩, ⟨(some 22), .len false (.t 21), none⟩, ⟨(some 23), .bin .mul .prim (.t 22) (.c (.int .i64 8)), none⟩, ⟨(some 24), .mov (.t 1), none⟩, ⟨(some 25), .len true (.t 24), none⟩, ⟨(some 26), .bin .leq .prim (.t 23) (.t 25), none⟩])
  (.cond (.t 26) (.seq (.region false [⟨(some 27), .mov (.t 0), none⟩, ⟨(some 28), .nilchk (.t 27), none⟩, ⟨(some 29), .faddr 256 (.t 28), none⟩, ⟨(some 30), .load none (.t 29), none⟩, ⟨(some 31), .len false (.t 30), none⟩, ⟨(some 32), .mov (.c (.int .i64 0)), none⟩])
  (.block 0 (.loop f189l0)))
  (.seq (.region false [⟨(some 10), .set (.c (.int .i64 0)), none⟩])
  (.block 2 (.loop f189l1)))))
  f189t))))⟩
theorem c189 : cfun Tryz.prog 189 = some f189 := by kernel_rfl

end Go.Proofs.Ut
