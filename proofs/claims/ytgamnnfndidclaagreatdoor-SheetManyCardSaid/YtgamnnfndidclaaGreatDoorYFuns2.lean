/- The functions that the laws of sheet and contact reach, as texts of our small language. -/
import Derived.Test.YtgamnnfndidclaaGreatDoorAiCode
import Derived.Test.YtgamnnfndidclaaGreatDoorProg
import Derived.KernelRfl
set_option linter.all false
namespace Go.Proofs.Ut
open Go.Ai
set_option maxRecDepth 100000
def f35 : AFun := ⟨1, 82, [.t 2], (.seq (.region false [oO 1 (.box (.t 0)), oO 2 (.set (.c (.bool false)))])
  (.seq (.region false [oO 6 (.faddr 4 (.t 1)), oO 7 (.load none (.t 6)), oO 8 (.call true 63 [(.t 7)]), oM 5 8, oO 9 (.extr (.t 5) 0), oO 10 (.extr (.t 5) 1), oS 3 9, oS 4 10])
  (.seq (.seq (.region false [oO 11 (.faddr 0 (.t 1)), oO 12 (.load none (.t 11)), oO 13 (.bin .eql .prim (.t 12) (.c (.str []))), oM 14 13, ⟨(some 15), .faddr 4 (.t 1), some (14, false)⟩, ⟨(some 16), .load none (.t 15), some (14, false)⟩, ⟨(some 17), .bin .neq .prim (.t 16) (.c (.str [])), some (14, false)⟩, ⟨(some 18), .mov (.t 17), some (14, false)⟩, oG 19 18 (.mov (.t 4)), oG 20 18 (.bin .neq .prim (.t 19) (oI 0)), oG 21 18 (.mov (.t 20)), ⟨(some 22), .mov (.t 3), some (21, false)⟩, ⟨(some 23), .faddr 4 (.t 1), some (21, false)⟩, ⟨(some 24), .load none (.t 23), some (21, false)⟩, ⟨(some 25), .bin .neq .prim (.t 22) (.t 24), some (21, false)⟩, oG 26 18 (.pick (.t 21) (.c (.bool true)) (.t 25)), ⟨(some 27), .pick (.t 18) (.t 26) (.c (.bool false)), some (14, false)⟩, oO 28 (.pick (.t 14) (.c (.bool true)) (.t 27)), oM 29 28, ⟨(some 30), .faddr 10 (.t 1), some (29, false)⟩, ⟨(some 31), .load none (.t 30), some (29, false)⟩, ⟨(some 32), .len false (.t 31), some (29, false)⟩, ⟨(some 33), .bin .gtr .prim (.t 32) (oI 40), some (29, false)⟩, oO 34 (.pick (.t 29) (.c (.bool true)) (.t 33))])
  (.cond (.t 34) (.seq (.region false [oO 2 (.set (.c (.bool false)))])
  .ret)
  .skip))
  (.seq (.seq (.region false [oO 35 (.faddr 7 (.t 1)), oO 36 (.load none (.t 35)), oO 37 (.call true 64 [(.t 36)]), oO 38 (.un .not (.t 37)), oM 39 38, ⟨(some 40), .faddr 7 (.t 1), some (39, false)⟩, ⟨(some 41), .load none (.t 40), some (39, false)⟩, ⟨(some 42), .call true 65 [(.t 41), (.c (.str [13]))], some (39, false)⟩, oO 43 (.pick (.t 39) (.c (.bool true)) (.t 42)), oM 44 43, ⟨(some 45), .faddr 7 (.t 1), some (44, false)⟩, ⟨(some 46), .load none (.t 45), some (44, false)⟩, ⟨(some 47), .call true 66 [(.t 46)], some (44, false)⟩, ⟨(some 48), .bin .gtr .prim (.t 47) (oI 500), some (44, false)⟩, oO 49 (.pick (.t 44) (.c (.bool true)) (.t 48))])
  (.cond (.t 49) (.seq (.region false [oO 2 (.set (.c (.bool false)))])
  .ret)
  .skip))
  (.seq (.region false [oO 51 (.faddr 10 (.t 1)), oO 52 (.load none (.t 51)), oO 53 (.bslice true 1 [(.t 52)]), oO 54 (.call true 67 [(.t 53)]), oM 50 54, oO 55 (.extr (.t 50) 0), oO 56 (.extr (.t 50) 1), oS 4 56])
  (.seq (.region false [oM 57 4, oO 58 (.bin .eql .prim (.t 57) (oI 0)), oM 59 58, oG 60 59 (.faddr 9 (.t 1)), oG 61 59 (.load none (.t 60)), oG 62 59 (.call true 68 [(.t 61)]), oO 63 (.pick (.t 59) (.t 62) (.c (.bool false))), oM 64 63, oG 65 64 (.faddr 0 (.t 1)), oG 66 64 (.load none (.t 65)), oG 67 64 (.faddr 1 (.t 1)), oG 68 64 (.load none (.t 67)), oG 69 64 (.faddr 2 (.t 1)), oG 70 64 (.load none (.t 69)), oG 71 64 (.faddr 3 (.t 1)), oG 72 64 (.load none (.t 71)), oG 73 64 (.faddr 5 (.t 1)), oG 74 64 (.load none (.t 73)), oG 75 64 (.faddr 6 (.t 1)), oG 76 64 (.load none (.t 75)), oG 77 64 (.faddr 8 (.t 1)), oG 78 64 (.load none (.t 77)), oG 79 64 (.bslice true 1 [(.t 66), (.t 68), (.t 70), (.t 72), (.t 74), (.t 76), (.t 78)]), oG 80 64 (.call true 69 [(.t 79)]), oO 81 (.pick (.t 64) (.t 80) (.c (.bool false))), oS 2 81])
  .ret))))))⟩
theorem c35 : cfun Tryz.prog 35 = some f35 := by kernel_rfl
def f41l0 : ACode := (.seq (.region false [oO 15 (.bin .lss .prim (.t 14) (.t 13))])
  (.seq (.cond (.t 15) .skip
  (.exit 0))
  (.seq (.block 1 (.seq (.region false [oM 16 14, oO 17 (.iaddr 1 (.t 12) (.t 14)), oO 18 (.load none (.t 17)), oS 6 16, oS 7 18])
  (.seq (.region false [oM 19 4, oM 20 7, oO 21 (.call true 83 [(.t 19), (.t 20)]), oO 22 (.un .not (.t 21)), oM 23 22, ⟨(some 24), .mov (.t 5), some (23, false)⟩, ⟨(some 25), .mov (.t 6), some (23, false)⟩, ⟨(some 26), .slice (some 1) (.t 24) none (some (.t 25)), some (23, false)⟩, ⟨(some 27), .mov (.t 7), some (23, false)⟩, ⟨(some 28), .call true 83 [(.t 26), (.t 27)], some (23, false)⟩, oO 29 (.pick (.t 23) (.c (.bool true)) (.t 28))])
  (.cond (.t 29) (.seq (.region false [oO 2 (.newnil 1), oO 3 (.set (.c (.bool false)))])
  .ret)
  .skip))))
  (.region false [oO 30 (.bin .add .prim (.t 14) (oI 1)), oM 14 30]))))
def f41 : AFun := ⟨1, 37, [.t 2, .t 3], (.seq (.region false [oO 2 (.newnil 1), oO 3 (.set (.c (.bool false)))])
  (.seq (.region false [oO 8 (.call true 48 []), oO 9 (.call true 47 [(.t 8), (.c (.fn 80 []))]), oS 4 9])
  (.seq (.region false [oM 10 0, oO 11 (.call true 81 [(.t 10), (.c (.fn 82 []))]), oS 5 11])
  (.seq (.seq (.region false [oM 12 5, oO 13 (.len false (.t 12)), oO 14 (.mov (oI 0))])
  (.block 0 (.loop f41l0)))
  (.seq (.region false [oM 31 5, oM 32 5, oM 33 4, oO 34 (.iaddr 1 (.t 33) (oI 0)), oO 35 (.load none (.t 34)), oO 36 (.call true 83 [(.t 32), (.t 35)]), oS 2 31, oS 3 36])
  .ret)))))⟩
theorem c41 : cfun Tryz.prog 41 = some f41 := by kernel_rfl
def f42l0 : ACode := (.seq (.region false [oO 21 (.bin .lss .prim (.t 20) (.t 19))])
  (.seq (.cond (.t 21) .skip
  (.exit 0))
  (.seq (.block 1 (.seq (.region false [oO 22 (.iaddr 3 (.t 18) (.t 20)), oO 23 (.load (some 3) (.t 22)), oO 8 (.alloc [(.str []), .nilfn, .nilfn]), ⟨none, .store true 3 (.t 8) (.t 23), none⟩])
  (.seq (.region false [oM 24 0, oO 25 (.faddr 0 (.t 8)), oO 26 (.load none (.t 25)), oO 27 (.call true 84 [(.t 24), (.t 26)]), oS 9 27])
  (.seq (.seq (.region false [oM 28 9, oO 29 (.bin .lss .prim (.t 28) (oI 0))])
  (.cond (.t 29) (.exit 1)
  .skip))
  (.seq (.region true [oO 30 (.faddr 1 (.t 8)), oO 31 (.load none (.t 30)), oM 32 1, oM 33 9, oO 34 (.iaddr 1 (.t 32) (.t 33)), oO 35 (.load none (.t 34)), oO 36 (.callv true (.t 31) [(.t 6), (.t 35)]), oS 10 36])
  (.seq (.region false [oM 37 10, oO 38 (.bin .neq .prim (.t 37) (oI 0))])
  (.cond (.t 38) (.seq (.region false [oO 39 (.load (some 11) (.t 6)), oM 40 10, ⟨none, .store true 11 (.t 4) (.t 39), none⟩, oS 5 40])
  .ret)
  .skip)))))))
  (.region false [oO 41 (.bin .add .prim (.t 20) (oI 1)), oM 20 41]))))
def f42 : AFun := ⟨2, 47, [.cell 4 (some 11), .t 5], (.seq (.region false [oO 4 (.alloc [(.str []), (.str []), (.str []), (.str []), (.str []), (.str []), (.str []), (.str []), (.str []), (.nils 1), (.nils 4)]), oO 5 (.set (oI 0))])
  (.seq (.region false [oO 11 (.build [(.str []), (.str []), (.str []), (.str []), (.str []), (.str []), (.str []), (.str []), (.str []), (.nils 1), (.nils 4)] []), oO 6 (.alloc [(.str []), (.str []), (.str []), (.str []), (.str []), (.str []), (.str []), (.str []), (.str []), (.nils 1), (.nils 4)]), ⟨none, .store true 11 (.t 6) (.t 11), none⟩])
  (.seq (.seq (.region false [oM 12 1, oO 13 (.len false (.t 12)), oM 14 0, oO 15 (.len false (.t 14)), oO 16 (.bin .neq .prim (.t 13) (.t 15))])
  (.cond (.t 16) (.seq (.region false [oO 17 (.load (some 11) (.t 6)), ⟨none, .store true 11 (.t 4) (.t 17), none⟩, oO 5 (.set (oI 12))])
  .ret)
  .skip))
  (.seq (.seq (.region false [oO 18 (.call true 48 []), oO 19 (.len false (.t 18)), oO 20 (.mov (oI 0))])
  (.block 0 (.loop f42l0)))
  (.seq (.seq (.region false [oO 42 (.load (some 11) (.t 6)), oO 43 (.call true 35 [(.t 42)]), oO 44 (.un .not (.t 43))])
  (.cond (.t 44) (.seq (.region false [oO 45 (.load (some 11) (.t 6)), ⟨none, .store true 11 (.t 4) (.t 45), none⟩, oO 5 (.set (oI 12))])
  .ret)
  .skip))
  (.seq (.region false [oO 46 (.load (some 11) (.t 6)), ⟨none, .store true 11 (.t 4) (.t 46), none⟩, oO 5 (.set (oI 0))])
  .ret))))))⟩
theorem c42 : cfun Tryz.prog 42 = some f42 := by kernel_rfl
def f45 : AFun := ⟨1, 12, [.t 2], (.seq (.region false [oO 1 (.box (.t 0)), oO 2 (.set (.c (.bool false)))])
  (.seq (.region false [oO 3 (.load (some 11) (.t 1)), oO 4 (.call true 35 [(.t 3)]), oO 5 (.un .not (.t 4)), oM 6 5, ⟨(some 7), .faddr 10 (.t 1), some (6, false)⟩, ⟨(some 8), .load none (.t 7), some (6, false)⟩, ⟨(some 9), .len false (.t 8), some (6, false)⟩, ⟨(some 10), .bin .gtr .prim (.t 9) (oI 0), some (6, false)⟩, oO 11 (.pick (.t 6) (.c (.bool true)) (.t 10)), oS 2 11])
  .ret))⟩
theorem c45 : cfun Tryz.prog 45 = some f45 := by kernel_rfl
def f46 : AFun := ⟨2, 9, [.t 4], (.seq (.region false [oO 4 (.set (.c (.bool false)))])
  (.seq (.region false [oM 5 0, oM 6 1, oO 7 (.call true 88 [(.t 5), (.t 6)]), oO 8 (.bin .geq .prim (.t 7) (oI 0)), oS 4 8])
  .ret))⟩
theorem c46 : cfun Tryz.prog 46 = some f46 := by kernel_rfl
def f47l0 : ACode := (.seq (.region false [oO 11 (.bin .lss .prim (.t 10) (.t 9))])
  (.seq (.cond (.t 11) .skip
  (.exit 0))
  (.seq (.block 1 (.seq (.region false [oO 12 (.iaddr 3 (.t 8) (.t 10)), oO 13 (.load (some 3) (.t 12)), oO 7 (.alloc [(.str []), .nilfn, .nilfn]), ⟨none, .store true 3 (.t 7) (.t 13), none⟩])
  (.region false [oM 14 5, oM 15 1, oO 16 (.load (some 3) (.t 7)), oO 17 (.callv true (.t 15) [(.t 16)]), oO 18 (.bslice true 1 [(.t 17)]), oO 19 (.append 1 16 (.t 14) (.t 18)), oS 5 19])))
  (.region false [oO 20 (.bin .add .prim (.t 10) (oI 1)), oM 10 20]))))
def f47 : AFun := ⟨2, 22, [.t 4], (.seq (.region false [oO 4 (.newnil 1)])
  (.seq (.region false [oO 5 (.newnil 1)])
  (.seq (.seq (.region false [oM 8 0, oO 9 (.len false (.t 8)), oO 10 (.mov (oI 0))])
  (.block 0 (.loop f47l0)))
  (.seq (.region false [oM 21 5, oS 4 21])
  .ret))))⟩
theorem c47 : cfun Tryz.prog 47 = some f47 := by kernel_rfl
def f48 : AFun := ⟨0, 12, [.t 0], (.seq (.region false [oO 0 (.newnil 3)])
  (.seq (.region false [oO 1 (.call true 89 [(.c (.str [110, 97, 109, 101])), (.c (.fn 90 []))]), oO 2 (.call true 89 [(.c (.str [102, 97, 109, 105, 108, 121])), (.c (.fn 91 []))]), oO 3 (.call true 89 [(.c (.str [103, 105, 118, 101, 110])), (.c (.fn 92 []))]), oO 4 (.call true 89 [(.c (.str [110, 105, 99, 107])), (.c (.fn 93 []))]), oO 5 (.build [(.str []), .nilfn, .nilfn] [(0, 1, (.c (.str [106, 105, 100]))), (1, 1, (.c (.fn 94 []))), (2, 1, (.c (.fn 95 [])))]), oO 6 (.call true 89 [(.c (.str [101, 109, 97, 105, 108])), (.c (.fn 96 []))]), oO 7 (.call true 89 [(.c (.str [116, 101, 108])), (.c (.fn 97 []))]), oO 8 (.call true 89 [(.c (.str [110, 111, 116, 101])), (.c (.fn 98 []))]), oO 9 (.call true 89 [(.c (.str [117, 105, 100])), (.c (.fn 99 []))]), oO 10 (.build [(.str []), .nilfn, .nilfn] [(0, 1, (.c (.str [103, 114, 111, 117, 112, 115]))), (1, 1, (.c (.fn 100 []))), (2, 1, (.c (.fn 101 [])))]), oO 11 (.bslice true 3 [(.t 1), (.t 2), (.t 3), (.t 4), (.t 5), (.t 6), (.t 7), (.t 8), (.t 9), (.t 10)]), oS 0 11])
  .ret))⟩
theorem c48 : cfun Tryz.prog 48 = some f48 := by kernel_rfl
def f49 : AFun := ⟨1, 5, [.t 2], (.seq (.region false [oO 1 (.box (.t 0)), oO 2 (.set (.c (.str [])))])
  (.seq (.region false [oO 3 (.faddr 0 (.t 1)), oO 4 (.load none (.t 3)), oS 2 4])
  .ret))⟩
theorem c49 : cfun Tryz.prog 49 = some f49 := by kernel_rfl
def f50 : AFun := ⟨1, 8, [.t 3], (.seq (.region false [oO 2 (.box (.t 0)), oO 3 (.set (.c (.str [])))])
  (.seq (.region false [oO 4 (.faddr 2 (.t 2)), oO 5 (.load none (.t 4)), oO 6 (.load (some 11) (.t 1)), oO 7 (.callv true (.t 5) [(.t 6)]), oS 3 7])
  .ret))⟩
theorem c50 : cfun Tryz.prog 50 = some f50 := by kernel_rfl
def f63 : AFun := ⟨1, 21, [.t 2, .t 3], (.seq (.region false [oO 2 (.set (.c (.str []))), oO 3 (.set (oI 0))])
  (.seq (.region false [oM 7 0, oO 8 (.call true 122 [(.t 7)]), oM 6 8, oO 9 (.extr (.t 6) 0), oO 10 (.extr (.t 6) 1), oO 4 (.alloc [(.str []), (.str []), (.str [])]), ⟨none, .store true 3 (.t 4) (.t 9), none⟩, oS 5 10])
  (.seq (.block 0 (.seq (.region false [oM 12 5, oO 13 (.bin .neq .prim (.t 12) (oI 0)), oS 11 13])
  (.cond (.t 11) (.seq (.region false [oM 14 5, oO 2 (.set (.c (.str []))), oS 3 14])
  .ret)
  (.seq (.region false [oO 16 (.faddr 2 (.t 4)), oO 17 (.load none (.t 16)), oO 18 (.bin .neq .prim (.t 17) (.c (.str []))), oS 15 18])
  (.cond (.t 15) (.seq (.region false [oO 2 (.set (.c (.str []))), oO 3 (.set (oI 14))])
  .ret)
  .skip)))))
  (.seq (.region false [oO 19 (.load (some 3) (.t 4)), oO 20 (.call true 123 [(.t 19)]), oS 2 20, oO 3 (.set (oI 0))])
  .ret))))⟩
theorem c63 : cfun Tryz.prog 63 = some f63 := by kernel_rfl
def f64 : AFun := ⟨1, 5, [.t 2], (.seq (.region false [oO 2 (.set (.c (.bool false)))])
  (.seq (.region false [oM 3 0, oO 4 (.call true 124 [(.t 3), (.c (.fn 125 []))]), oS 2 4])
  .ret))⟩
theorem c64 : cfun Tryz.prog 64 = some f64 := by kernel_rfl
def f65 : AFun := ⟨2, 9, [.t 4], (.seq (.region false [oO 4 (.set (.c (.bool false)))])
  (.seq (.region false [oM 5 0, oM 6 1, oO 7 (.call true 126 [(.t 5), (.t 6)]), oO 8 (.bin .geq .prim (.t 7) (oI 0)), oS 4 8])
  .ret))⟩
theorem c65 : cfun Tryz.prog 65 = some f65 := by kernel_rfl
def f66 : AFun := ⟨1, 6, [.t 2], (.seq (.region false [oO 2 (.set (oI 0))])
  (.seq (.region false [oM 3 0, oO 4 (.call true 127 [(.t 3)]), oO 5 (.len false (.t 4)), oS 2 5])
  .ret))⟩
theorem c66 : cfun Tryz.prog 66 = some f66 := by kernel_rfl
def f67l0 : ACode := (.seq (.region false [oO 32 (.bin .lss .prim (.t 31) (.t 30))])
  (.seq (.cond (.t 32) .skip
  (.exit 2))
  (.seq (.block 3 (.seq (.region false [oO 33 (.iaddr 4 (.t 29) (.t 31)), oO 34 (.load (some 4) (.t 33)), oO 8 (.alloc [(.str []), (.str []), (.nils 2), (.str [])]), ⟨none, .store true 4 (.t 8) (.t 34), none⟩])
  (.region false [oM 35 4, oO 36 (.load (some 4) (.t 8)), oO 37 (.call true 131 [(.t 36)]), oO 38 (.bslice true 1 [(.t 37)]), oO 39 (.append 1 16 (.t 35) (.t 38)), oS 4 39])))
  (.region false [oO 40 (.bin .add .prim (.t 31) (oI 1)), oM 31 40]))))
def f67l1 : ACode := (.seq (.region false [oO 16 (.bin .lss .prim (.t 15) (.t 14))])
  (.seq (.cond (.t 16) .skip
  (.exit 0))
  (.seq (.block 1 (.seq (.region false [oO 17 (.iaddr 1 (.t 13) (.t 15)), oO 18 (.load none (.t 17)), oS 6 18])
  (.seq (.seq (.region false [oM 19 6, oO 20 (.len false (.t 19)), oO 21 (.bin .gtr .prim (.t 20) (oI 40)), oM 22 21, ⟨(some 23), .mov (.t 6), some (22, false)⟩, ⟨(some 24), .call true 128 [(.t 23), (.c (.fn 129 []))], some (22, false)⟩, oO 25 (.pick (.t 22) (.c (.bool true)) (.t 24))])
  (.cond (.t 25) (.seq (.region false [oO 2 (.set (.c (.str []))), oO 3 (.set (oI 12))])
  .ret)
  .skip))
  (.seq (.region false [oM 26 4, oO 27 (.bslice true 1 [(.c (.str [66, 69, 71, 73, 78, 58, 86, 67, 65, 82, 68])), (.c (.str [86, 69, 82, 83, 73, 79, 78, 58, 52, 46, 48]))]), oO 28 (.append 1 16 (.t 26) (.t 27)), oS 4 28])
  (.seq (.seq (.region false [oM 29 6, oO 30 (.len false (.t 29)), oO 31 (.mov (oI 0))])
  (.block 2 (.loop f67l0)))
  (.region false [oM 41 4, oO 42 (.bslice true 1 [(.c (.str [69, 78, 68, 58, 86, 67, 65, 82, 68]))]), oO 43 (.append 1 16 (.t 41) (.t 42)), oS 4 43]))))))
  (.region false [oO 44 (.bin .add .prim (.t 15) (oI 1)), oM 15 44]))))
def f67 : AFun := ⟨1, 51, [.t 2, .t 3], (.seq (.region false [oO 2 (.set (.c (.str []))), oO 3 (.set (oI 0))])
  (.seq (.seq (.region false [oM 10 0, oO 11 (.len false (.t 10)), oO 12 (.bin .gtr .prim (.t 11) (oI 60))])
  (.cond (.t 12) (.seq (.region false [oO 2 (.set (.c (.str []))), oO 3 (.set (oI 12))])
  .ret)
  .skip))
  (.seq (.region false [oO 4 (.newnil 1)])
  (.seq (.seq (.region false [oM 13 0, oO 14 (.len false (.t 13)), oO 15 (.mov (oI 0))])
  (.block 0 (.loop f67l1)))
  (.seq (.region false [oM 45 4, oO 46 (.call true 132 [(.t 45)]), oS 9 46])
  (.seq (.seq (.region false [oM 47 9, oO 48 (.len true (.t 47)), oO 49 (.bin .gtr .prim (.t 48) (oI 20000))])
  (.cond (.t 49) (.seq (.region false [oO 2 (.set (.c (.str []))), oO 3 (.set (oI 4))])
  .ret)
  .skip))
  (.seq (.region false [oM 50 9, oS 2 50, oO 3 (.set (oI 0))])
  .ret)))))))⟩
theorem c67 : cfun Tryz.prog 67 = some f67 := by kernel_rfl
def f68l0 : ACode := (.seq (.region false [oO 8 (.bin .lss .prim (.t 7) (.t 6))])
  (.seq (.cond (.t 8) .skip
  (.exit 0))
  (.seq (.block 1 (.seq (.region false [oM 9 7, oO 10 (.iaddr 1 (.t 5) (.t 7)), oO 11 (.load none (.t 10)), oS 3 9, oS 4 11])
  (.seq (.region false [oM 12 4, oO 13 (.bin .eql .prim (.t 12) (.c (.str []))), oM 14 13, ⟨(some 15), .mov (.t 3), some (14, false)⟩, ⟨(some 16), .bin .gtr .prim (.t 15) (oI 0), some (14, false)⟩, ⟨(some 17), .mov (.t 16), some (14, false)⟩, oG 18 17 (.mov (.t 4)), oG 19 17 (.mov (.t 0)), oG 20 17 (.mov (.t 3)), oG 21 17 (.bin .sub .prim (.t 20) (oI 1)), oG 22 17 (.iaddr 1 (.t 19) (.t 21)), oG 23 17 (.load none (.t 22)), oG 24 17 (.bin .leq .prim (.t 18) (.t 23)), ⟨(some 25), .pick (.t 17) (.t 24) (.c (.bool false)), some (14, false)⟩, oO 26 (.pick (.t 14) (.c (.bool true)) (.t 25))])
  (.cond (.t 26) (.seq (.region false [oO 2 (.set (.c (.bool false)))])
  .ret)
  .skip))))
  (.region false [oO 27 (.bin .add .prim (.t 7) (oI 1)), oM 7 27]))))
def f68 : AFun := ⟨1, 35, [.t 2], (.seq (.region false [oO 2 (.set (.c (.bool false)))])
  (.seq (.seq (.region false [oM 5 0, oO 6 (.len false (.t 5)), oO 7 (.mov (oI 0))])
  (.block 0 (.loop f68l0)))
  (.seq (.region false [oM 28 0, oO 29 (.len false (.t 28)), oO 30 (.bin .leq .prim (.t 29) (oI 8)), oM 31 30, oG 32 31 (.mov (.t 0)), oG 33 31 (.call true 69 [(.t 32)]), oO 34 (.pick (.t 31) (.t 33) (.c (.bool false))), oS 2 34])
  .ret)))⟩
theorem c68 : cfun Tryz.prog 68 = some f68 := by kernel_rfl
def f69 : AFun := ⟨1, 6, [.t 2], (.seq (.region false [oO 2 (.set (.c (.bool false)))])
  (.seq (.region false [oM 3 0, oO 4 (.call true 133 [(.t 3), (.c (.fn 134 []))]), oO 5 (.un .not (.t 4)), oS 2 5])
  .ret))⟩
theorem c69 : cfun Tryz.prog 69 = some f69 := by kernel_rfl
def f80 : AFun := ⟨1, 5, [.t 2], (.seq (.region false [oO 1 (.box (.t 0)), oO 2 (.set (.c (.str [])))])
  (.seq (.region false [oO 3 (.faddr 0 (.t 1)), oO 4 (.load none (.t 3)), oS 2 4])
  .ret))⟩
theorem c80 : cfun Tryz.prog 80 = some f80 := by kernel_rfl
def f81l0 : ACode := (.seq (.region false [oO 11 (.bin .lss .prim (.t 10) (.t 9))])
  (.seq (.cond (.t 11) .skip
  (.exit 0))
  (.seq (.block 1 (.seq (.region false [oO 12 (.iaddr 1 (.t 8) (.t 10)), oO 13 (.load none (.t 12)), oS 7 13])
  (.region false [oM 14 5, oM 15 1, oM 16 7, oO 17 (.callv true (.t 15) [(.t 16)]), oO 18 (.bslice true 1 [(.t 17)]), oO 19 (.append 1 16 (.t 14) (.t 18)), oS 5 19])))
  (.region false [oO 20 (.bin .add .prim (.t 10) (oI 1)), oM 10 20]))))
def f81 : AFun := ⟨2, 22, [.t 4], (.seq (.region false [oO 4 (.newnil 1)])
  (.seq (.region false [oO 5 (.newnil 1)])
  (.seq (.seq (.region false [oM 8 0, oO 9 (.len false (.t 8)), oO 10 (.mov (oI 0))])
  (.block 0 (.loop f81l0)))
  (.seq (.region false [oM 21 5, oS 4 21])
  .ret))))⟩
theorem c81 : cfun Tryz.prog 81 = some f81 := by kernel_rfl
def f82l0 : ACode := (.seq (.region false [oO 11 (.bin .lss .prim (.t 10) (.t 9))])
  (.seq (.cond (.t 11) .skip
  (.exit 0))
  (.seq (.block 1 (.seq (.region false [oM 12 10, oO 13 (.iaddr 1 (.t 8) (.t 10)), oO 14 (.load none (.t 13)), oS 4 12, oS 5 14])
  (.seq (.region false [oM 15 5, oO 16 (.bin .geq .prim (.t 15) (.c (.int .u8 65))), oM 17 16, oG 18 17 (.mov (.t 5)), oG 19 17 (.bin .leq .prim (.t 18) (.c (.int .u8 90))), oO 20 (.pick (.t 17) (.t 19) (.c (.bool false)))])
  (.cond (.t 20) (.region false [oM 21 3, oM 22 4, oM 23 5, oO 24 (.bin .sub .prim (.t 23) (.c (.int .u8 65))), oO 25 (.bin .add .prim (.t 24) (.c (.int .u8 97))), oO 26 (.iaddr 1 (.t 21) (.t 22)), ⟨none, .store true 1 (.t 26) (.t 25), none⟩])
  .skip))))
  (.region false [oO 27 (.bin .add .prim (.t 10) (oI 1)), oM 10 27]))))
def f82 : AFun := ⟨1, 30, [.t 2], (.seq (.region false [oO 2 (.set (.c (.str [])))])
  (.seq (.region false [oM 6 0, oO 7 (.conv .s2b (.t 6)), oS 3 7])
  (.seq (.seq (.region false [oM 8 3, oO 9 (.len false (.t 8)), oO 10 (.mov (oI 0))])
  (.block 0 (.loop f82l0)))
  (.seq (.region false [oM 28 3, oO 29 (.conv .b2s (.t 28)), oS 2 29])
  .ret))))⟩
theorem c82 : cfun Tryz.prog 82 = some f82 := by kernel_rfl
def f83 : AFun := ⟨2, 9, [.t 4], (.seq (.region false [oO 4 (.set (.c (.bool false)))])
  (.seq (.region false [oM 5 0, oM 6 1, oO 7 (.call true 84 [(.t 5), (.t 6)]), oO 8 (.bin .geq .prim (.t 7) (oI 0)), oS 4 8])
  .ret))⟩
theorem c83 : cfun Tryz.prog 83 = some f83 := by kernel_rfl
def f84l0 : ACode := (.seq (.region false [oO 9 (.bin .lss .prim (.t 8) (.t 7))])
  (.seq (.cond (.t 9) .skip
  (.exit 0))
  (.seq (.block 1 (.seq (.region false [oM 10 8, oS 5 10])
  (.seq (.region false [oM 11 1, oM 12 0, oM 13 5, oO 14 (.iaddr 1 (.t 12) (.t 13)), oO 15 (.load none (.t 14)), oO 16 (.bin .eql .prim (.t 11) (.t 15))])
  (.cond (.t 16) (.seq (.region false [oM 17 5, oS 4 17])
  .ret)
  .skip))))
  (.region false [oO 18 (.bin .add .prim (.t 8) (oI 1)), oM 8 18]))))
def f84 : AFun := ⟨2, 19, [.t 4], (.seq (.region false [oO 4 (.set (oI 0))])
  (.seq (.seq (.region false [oM 6 0, oO 7 (.len false (.t 6)), oO 8 (.mov (oI 0))])
  (.block 0 (.loop f84l0)))
  (.seq (.region false [oO 4 (.set (.c (.int .i64 (-1))))])
  .ret)))⟩
theorem c84 : cfun Tryz.prog 84 = some f84 := by kernel_rfl
def f88l0 : ACode := (.seq (.region false [oO 9 (.bin .lss .prim (.t 8) (.t 7))])
  (.seq (.cond (.t 9) .skip
  (.exit 0))
  (.seq (.block 1 (.seq (.region false [oM 10 8, oS 5 10])
  (.seq (.region false [oM 11 1, oM 12 0, oM 13 5, oO 14 (.iaddr 11 (.t 12) (.t 13)), oO 15 (.load (some 11) (.t 14)), oO 16 (.callv true (.t 11) [(.t 15)])])
  (.cond (.t 16) (.seq (.region false [oM 17 5, oS 4 17])
  .ret)
  .skip))))
  (.region false [oO 18 (.bin .add .prim (.t 8) (oI 1)), oM 8 18]))))
def f88 : AFun := ⟨2, 19, [.t 4], (.seq (.region false [oO 4 (.set (oI 0))])
  (.seq (.seq (.region false [oM 6 0, oO 7 (.len false (.t 6)), oO 8 (.mov (oI 0))])
  (.block 0 (.loop f88l0)))
  (.seq (.region false [oO 4 (.set (.c (.int .i64 (-1))))])
  .ret)))⟩
theorem c88 : cfun Tryz.prog 88 = some f88 := by kernel_rfl
def f89 : AFun := ⟨2, 9, [.cell 4 (some 3)], (.seq (.region false [oO 3 (.box (.t 1)), oO 4 (.alloc [(.str []), .nilfn, .nilfn])])
  (.seq (.region false [oM 5 0, oO 6 (.mkfn 143 [(.t 3)]), oO 7 (.mkfn 144 [(.t 3)]), oO 8 (.build [(.str []), .nilfn, .nilfn] [(0, 1, (.t 5)), (1, 1, (.t 6)), (2, 1, (.t 7))]), ⟨none, .store true 3 (.t 4) (.t 8), none⟩])
  .ret))⟩
theorem c89 : cfun Tryz.prog 89 = some f89 := by kernel_rfl
def f90 : AFun := ⟨1, 6, [.t 2], (.seq (.region false [oO 2 (.set (.c .nilp))])
  (.seq (.region false [oM 3 0, oO 4 (.nilchk (.t 3)), oO 5 (.faddr 0 (.t 4)), oS 2 5])
  .ret))⟩
theorem c90 : cfun Tryz.prog 90 = some f90 := by kernel_rfl
def f91 : AFun := ⟨1, 6, [.t 2], (.seq (.region false [oO 2 (.set (.c .nilp))])
  (.seq (.region false [oM 3 0, oO 4 (.nilchk (.t 3)), oO 5 (.faddr 1 (.t 4)), oS 2 5])
  .ret))⟩
theorem c91 : cfun Tryz.prog 91 = some f91 := by kernel_rfl
def f92 : AFun := ⟨1, 6, [.t 2], (.seq (.region false [oO 2 (.set (.c .nilp))])
  (.seq (.region false [oM 3 0, oO 4 (.nilchk (.t 3)), oO 5 (.faddr 2 (.t 4)), oS 2 5])
  .ret))⟩
theorem c92 : cfun Tryz.prog 92 = some f92 := by kernel_rfl
def f93 : AFun := ⟨1, 6, [.t 2], (.seq (.region false [oO 2 (.set (.c .nilp))])
  (.seq (.region false [oM 3 0, oO 4 (.nilchk (.t 3)), oO 5 (.faddr 3 (.t 4)), oS 2 5])
  .ret))⟩
theorem c93 : cfun Tryz.prog 93 = some f93 := by kernel_rfl
def f94 : AFun := ⟨2, 19, [.t 4], (.seq (.region false [oO 4 (.set (oI 0))])
  (.seq (.seq (.region false [oM 7 1, oO 8 (.bin .eql .prim (.t 7) (.c (.str [])))])
  (.cond (.t 8) (.seq (.region false [oO 4 (.set (oI 0))])
  .ret)
  .skip))
  (.seq (.region false [oM 10 1, oO 11 (.call true 63 [(.t 10)]), oM 9 11, oO 12 (.extr (.t 9) 0), oO 13 (.extr (.t 9) 1), oS 5 12, oS 6 13])
  (.seq (.region false [oM 14 0, oM 15 5, oO 16 (.nilchk (.t 14)), oO 17 (.faddr 4 (.t 16)), ⟨none, .store true 1 (.t 17) (.t 15), none⟩])
  (.seq (.region false [oM 18 6, oS 4 18])
  .ret)))))⟩
theorem c94 : cfun Tryz.prog 94 = some f94 := by kernel_rfl
def f95 : AFun := ⟨1, 5, [.t 2], (.seq (.region false [oO 1 (.box (.t 0)), oO 2 (.set (.c (.str [])))])
  (.seq (.region false [oO 3 (.faddr 4 (.t 1)), oO 4 (.load none (.t 3)), oS 2 4])
  .ret))⟩
theorem c95 : cfun Tryz.prog 95 = some f95 := by kernel_rfl
def f96 : AFun := ⟨1, 6, [.t 2], (.seq (.region false [oO 2 (.set (.c .nilp))])
  (.seq (.region false [oM 3 0, oO 4 (.nilchk (.t 3)), oO 5 (.faddr 5 (.t 4)), oS 2 5])
  .ret))⟩
theorem c96 : cfun Tryz.prog 96 = some f96 := by kernel_rfl
def f97 : AFun := ⟨1, 6, [.t 2], (.seq (.region false [oO 2 (.set (.c .nilp))])
  (.seq (.region false [oM 3 0, oO 4 (.nilchk (.t 3)), oO 5 (.faddr 6 (.t 4)), oS 2 5])
  .ret))⟩
theorem c97 : cfun Tryz.prog 97 = some f97 := by kernel_rfl
def f98 : AFun := ⟨1, 6, [.t 2], (.seq (.region false [oO 2 (.set (.c .nilp))])
  (.seq (.region false [oM 3 0, oO 4 (.nilchk (.t 3)), oO 5 (.faddr 7 (.t 4)), oS 2 5])
  .ret))⟩
theorem c98 : cfun Tryz.prog 98 = some f98 := by kernel_rfl
def f99 : AFun := ⟨1, 6, [.t 2], (.seq (.region false [oO 2 (.set (.c .nilp))])
  (.seq (.region false [oM 3 0, oO 4 (.nilchk (.t 3)), oO 5 (.faddr 8 (.t 4)), oS 2 5])
  .ret))⟩
theorem c99 : cfun Tryz.prog 99 = some f99 := by kernel_rfl
def f100l0 : ACode := (.seq (.region false [oO 14 (.bin .lss .prim (.t 13) (.t 12))])
  (.seq (.cond (.t 14) .skip
  (.exit 0))
  (.seq (.block 1 (.seq (.region false [oO 15 (.iaddr 1 (.t 11) (.t 13)), oO 16 (.load none (.t 15)), oS 7 16])
  (.seq (.region false [oM 18 7, oO 19 (.call true 146 [(.t 18)]), oM 17 19, oO 20 (.extr (.t 17) 0), oO 21 (.extr (.t 17) 1), oS 8 20, oS 9 21])
  (.seq (.seq (.region false [oM 22 9, oO 23 (.bin .neq .prim (.t 22) (oI 0))])
  (.cond (.t 23) (.seq (.region false [oM 24 9, oS 4 24])
  .ret)
  .skip))
  (.region false [oM 25 5, oM 26 8, oO 27 (.bslice true 1 [(.t 26)]), oO 28 (.append 1 16 (.t 25) (.t 27)), oS 5 28])))))
  (.region false [oO 29 (.bin .add .prim (.t 13) (oI 1)), oM 13 29]))))
def f100 : AFun := ⟨2, 35, [.t 4], (.seq (.region false [oO 4 (.set (oI 0))])
  (.seq (.region false [oO 5 (.newnil 1)])
  (.seq (.seq (.region false [oM 10 1, oO 11 (.call true 145 [(.t 10), (.c (.int .u8 59))]), oO 12 (.len false (.t 11)), oO 13 (.mov (oI 0))])
  (.block 0 (.loop f100l0)))
  (.seq (.region false [oM 30 0, oM 31 5, oO 32 (.call true 147 [(.t 31)]), oO 33 (.nilchk (.t 30)), oO 34 (.faddr 9 (.t 33)), ⟨none, .store true 1 (.t 34) (.t 32), none⟩])
  (.seq (.region false [oO 4 (.set (oI 0))])
  .ret)))))⟩
theorem c100 : cfun Tryz.prog 100 = some f100 := by kernel_rfl
def f101l0 : ACode := (.seq (.region false [oO 10 (.bin .lss .prim (.t 9) (.t 8))])
  (.seq (.cond (.t 10) .skip
  (.exit 0))
  (.seq (.block 1 (.seq (.region false [oO 11 (.iaddr 1 (.t 7) (.t 9)), oO 12 (.load none (.t 11)), oS 5 12])
  (.region false [oM 13 3, oM 14 5, oO 15 (.call true 148 [(.t 14)]), oO 16 (.bslice true 1 [(.t 15)]), oO 17 (.append 1 16 (.t 13) (.t 16)), oS 3 17])))
  (.region false [oO 18 (.bin .add .prim (.t 9) (oI 1)), oM 9 18]))))
def f101 : AFun := ⟨1, 21, [.t 2], (.seq (.region false [oO 1 (.box (.t 0)), oO 2 (.set (.c (.str [])))])
  (.seq (.region false [oO 3 (.newnil 1)])
  (.seq (.seq (.region false [oO 6 (.faddr 9 (.t 1)), oO 7 (.load none (.t 6)), oO 8 (.len false (.t 7)), oO 9 (.mov (oI 0))])
  (.block 0 (.loop f101l0)))
  (.seq (.region false [oM 19 3, oO 20 (.call true 149 [(.t 19), (.c (.str [59]))]), oS 2 20])
  .ret))))⟩
theorem c101 : cfun Tryz.prog 101 = some f101 := by kernel_rfl

end Go.Proofs.Ut
