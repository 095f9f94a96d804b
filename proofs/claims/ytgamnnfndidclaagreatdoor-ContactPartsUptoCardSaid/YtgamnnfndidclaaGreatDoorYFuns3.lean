/- The functions that the laws of sheet and contact reach, as texts of our small language. -/
import Derived.Test.YtgamnnfndidclaaGreatDoorAiCode
import Derived.Test.YtgamnnfndidclaaGreatDoorProg
import Derived.KernelRfl
set_option linter.all false
namespace Go.Proofs.Ut
open Go.Ai
set_option maxRecDepth 100000
def f104l0 : ACode := (.seq (.region false [oO 9 (.bin .lss .prim (.t 8) (.t 7))])
  (.seq (.cond (.t 9) .skip
  (.exit 0))
  (.seq (.block 1 (.seq (.region false [oM 10 8, oS 5 10])
  (.seq (.region false [oM 11 1, oM 12 0, oM 13 5, oO 14 (.iaddr 3 (.t 12) (.t 13)), oO 15 (.load (some 3) (.t 14)), oO 16 (.callv true (.t 11) [(.t 15)])])
  (.cond (.t 16) (.seq (.region false [oM 17 5, oS 4 17])
  .ret)
  .skip))))
  (.region false [oO 18 (.bin .add .prim (.t 8) (oI 1)), oM 8 18]))))
def f104 : AFun := ⟨2, 19, [.t 4], (.seq (.region false [oO 4 (.set (oI 0))])
  (.seq (.seq (.region false [oM 6 0, oO 7 (.len false (.t 6)), oO 8 (.mov (oI 0))])
  (.block 0 (.loop f104l0)))
  (.seq (.region false [oO 4 (.set (.c (.int .i64 (-1))))])
  .ret)))⟩
theorem c104 : cfun Tryz.prog 104 = some f104 := by kernel_rfl
def f105 : AFun := ⟨1, 8, [.t 3], (.seq (.region false [oO 2 (.box (.t 0)), oO 3 (.set (.c (.bool false)))])
  (.seq (.region false [oO 4 (.faddr 0 (.t 2)), oO 5 (.load none (.t 4)), oO 6 (.load none (.t 1)), oO 7 (.bin .eql .prim (.t 5) (.t 6)), oS 3 7])
  .ret))⟩
theorem c105 : cfun Tryz.prog 105 = some f105 := by kernel_rfl
def f106 : AFun := ⟨2, 9, [.cell 4 (some 3)], (.seq (.region false [oO 3 (.box (.t 1)), oO 4 (.alloc [(.str []), .nilfn, .nilfn])])
  (.seq (.region false [oM 5 0, oO 6 (.mkfn 152 [(.t 3)]), oO 7 (.mkfn 153 [(.t 3)]), oO 8 (.build [(.str []), .nilfn, .nilfn] [(0, 1, (.t 5)), (1, 1, (.t 6)), (2, 1, (.t 7))]), ⟨none, .store true 3 (.t 4) (.t 8), none⟩])
  .ret))⟩
theorem c106 : cfun Tryz.prog 106 = some f106 := by kernel_rfl
def f107 : AFun := ⟨1, 6, [.t 2], (.seq (.region false [oO 2 (.set (.c .nilp))])
  (.seq (.region false [oM 3 0, oO 4 (.nilchk (.t 3)), oO 5 (.faddr 0 (.t 4)), oS 2 5])
  .ret))⟩
theorem c107 : cfun Tryz.prog 107 = some f107 := by kernel_rfl
def f108l0 : ACode := (.seq (.region false [oO 15 (.bin .lss .prim (.t 14) (.t 13))])
  (.seq (.cond (.t 15) .skip
  (.exit 0))
  (.seq (.block 1 (.seq (.region false [oO 16 (.iaddr 1 (.t 12) (.t 14)), oO 17 (.load none (.t 16)), oS 8 17])
  (.seq (.region false [oM 19 8, oO 20 (.call true 146 [(.t 19)]), oM 18 20, oO 21 (.extr (.t 18) 0), oO 22 (.extr (.t 18) 1), oS 9 21, oS 10 22])
  (.seq (.seq (.region false [oM 23 10, oO 24 (.bin .neq .prim (.t 23) (oI 0))])
  (.cond (.t 24) (.seq (.region false [oM 25 10, oO 4 (.set (.c (.bool true))), oS 5 25])
  .ret)
  .skip))
  (.region false [oM 26 6, oM 27 9, oO 28 (.bslice true 1 [(.t 27)]), oO 29 (.append 1 16 (.t 26) (.t 28)), oS 6 29])))))
  (.region false [oO 30 (.bin .add .prim (.t 14) (oI 1)), oM 14 30]))))
def f108 : AFun := ⟨2, 52, [.t 4, .t 5], (.seq (.region false [oO 4 (.set (.c (.bool false))), oO 5 (.set (oI 0))])
  (.seq (.region false [oO 6 (.newnil 1)])
  (.seq (.seq (.region false [oM 11 1, oO 12 (.call true 145 [(.t 11), (.c (.int .u8 59))]), oO 13 (.len false (.t 12)), oO 14 (.mov (oI 0))])
  (.block 0 (.loop f108l0)))
  (.seq (.seq (.region false [oM 31 6, oO 32 (.len false (.t 31)), oO 33 (.bin .neq .prim (.t 32) (oI 5)), oM 34 33, ⟨(some 35), .mov (.t 6), some (34, false)⟩, ⟨(some 36), .slice (some 1) (.t 35) (some (oI 2)) none, some (34, false)⟩, ⟨(some 37), .call true 149 [(.t 36), (.c (.str []))], some (34, false)⟩, ⟨(some 38), .bin .neq .prim (.t 37) (.c (.str [])), some (34, false)⟩, oO 39 (.pick (.t 34) (.c (.bool true)) (.t 38))])
  (.cond (.t 39) (.seq (.region false [oO 4 (.set (.c (.bool true))), oO 5 (.set (oI 12))])
  .ret)
  .skip))
  (.seq (.region true [oM 40 0, oM 41 0, oM 42 6, oO 43 (.iaddr 1 (.t 42) (oI 0)), oO 44 (.load none (.t 43)), oM 45 6, oO 46 (.iaddr 1 (.t 45) (oI 1)), oO 47 (.load none (.t 46)), oO 48 (.nilchk (.t 40)), oO 49 (.faddr 1 (.t 48)), ⟨none, .store false 1 (.t 49) (.t 44), none⟩, oO 50 (.nilchk (.t 41)), oO 51 (.faddr 2 (.t 50)), ⟨none, .store false 1 (.t 51) (.t 47), none⟩])
  (.seq (.region false [oO 4 (.set (.c (.bool true))), oO 5 (.set (oI 0))])
  .ret))))))⟩
theorem c108 : cfun Tryz.prog 108 = some f108 := by kernel_rfl
def f110 : AFun := ⟨1, 6, [.t 2], (.seq (.region false [oO 2 (.set (.c .nilp))])
  (.seq (.region false [oM 3 0, oO 4 (.nilchk (.t 3)), oO 5 (.faddr 3 (.t 4)), oS 2 5])
  .ret))⟩
theorem c110 : cfun Tryz.prog 110 = some f110 := by kernel_rfl
def f111 : AFun := ⟨2, 33, [.t 4, .t 5], (.seq (.region false [oO 4 (.set (.c (.bool false))), oO 5 (.set (oI 0))])
  (.seq (.region false [oM 10 1, oO 11 (.call true 154 [(.t 10), (.c (.str [120, 109, 112, 112, 58]))]), oM 9 11, oO 12 (.extr (.t 9) 0), oO 13 (.extr (.t 9) 1), oS 1 12, oS 6 13])
  (.seq (.seq (.region false [oM 14 6, oO 15 (.un .not (.t 14))])
  (.cond (.t 15) (.seq (.region false [oO 4 (.set (.c (.bool false))), oO 5 (.set (oI 0))])
  .ret)
  .skip))
  (.seq (.region false [oM 17 1, oO 18 (.call true 146 [(.t 17)]), oM 16 18, oO 19 (.extr (.t 16) 0), oO 20 (.extr (.t 16) 1), oS 7 19, oS 8 20])
  (.seq (.seq (.region false [oM 21 8, oO 22 (.bin .neq .prim (.t 21) (oI 0))])
  (.cond (.t 22) (.seq (.region false [oM 23 8, oO 4 (.set (.c (.bool true))), oS 5 23])
  .ret)
  .skip))
  (.seq (.region false [oM 25 0, oM 26 7, oO 27 (.call true 63 [(.t 26)]), oM 24 27, oO 28 (.extr (.t 24) 0), oO 29 (.extr (.t 24) 1), oO 30 (.nilchk (.t 25)), oO 31 (.faddr 4 (.t 30)), ⟨none, .store true 1 (.t 31) (.t 28), none⟩, oS 8 29])
  (.seq (.region false [oM 32 8, oO 4 (.set (.c (.bool true))), oS 5 32])
  .ret)))))))⟩
theorem c111 : cfun Tryz.prog 111 = some f111 := by kernel_rfl
def f113 : AFun := ⟨1, 6, [.t 2], (.seq (.region false [oO 2 (.set (.c .nilp))])
  (.seq (.region false [oM 3 0, oO 4 (.nilchk (.t 3)), oO 5 (.faddr 5 (.t 4)), oS 2 5])
  .ret))⟩
theorem c113 : cfun Tryz.prog 113 = some f113 := by kernel_rfl
def f114 : AFun := ⟨1, 6, [.t 2], (.seq (.region false [oO 2 (.set (.c .nilp))])
  (.seq (.region false [oM 3 0, oO 4 (.nilchk (.t 3)), oO 5 (.faddr 6 (.t 4)), oS 2 5])
  .ret))⟩
theorem c114 : cfun Tryz.prog 114 = some f114 := by kernel_rfl
def f117 : AFun := ⟨1, 6, [.t 2], (.seq (.region false [oO 2 (.set (.c .nilp))])
  (.seq (.region false [oM 3 0, oO 4 (.nilchk (.t 3)), oO 5 (.faddr 7 (.t 4)), oS 2 5])
  .ret))⟩
theorem c117 : cfun Tryz.prog 117 = some f117 := by kernel_rfl
def f118 : AFun := ⟨1, 6, [.t 2], (.seq (.region false [oO 2 (.set (.c .nilp))])
  (.seq (.region false [oM 3 0, oO 4 (.nilchk (.t 3)), oO 5 (.faddr 8 (.t 4)), oS 2 5])
  .ret))⟩
theorem c118 : cfun Tryz.prog 118 = some f118 := by kernel_rfl
def f119 : AFun := ⟨1, 8, [.t 2], (.seq (.region false [oO 2 (.newnil 2)])
  (.seq (.seq (.region false [oM 3 0, oO 4 (.bin .eql .slc (.t 3) (.c (.nils 1)))])
  (.cond (.t 4) (.seq (.region false [oO 2 (.newnil 2)])
  .ret)
  .skip))
  (.seq (.region false [oO 5 (.bslice true 2 []), oM 6 0, oO 7 (.append 2 32 (.t 5) (.t 6)), oS 2 7])
  .ret)))⟩
theorem c119 : cfun Tryz.prog 119 = some f119 := by kernel_rfl
def f122 : AFun := ⟨1, 47, [.cell 2 (some 3), .t 3], (.seq (.region false [oO 2 (.alloc [(.str []), (.str []), (.str [])]), oO 3 (.set (oI 0))])
  (.seq (.region false [oM 10 0, oO 11 (.call true 158 [(.t 10)]), oM 9 11, oO 12 (.extr (.t 9) 0), oO 13 (.extr (.t 9) 1), oO 14 (.extr (.t 9) 2), oO 4 (.alloc [(.str []), (.bool false)]), oO 6 (.alloc [(.str []), (.bool false)]), ⟨none, .store true 2 (.t 4) (.t 12), none⟩, oS 5 13, ⟨none, .store true 2 (.t 6) (.t 14), none⟩])
  (.seq (.region false [oO 15 (.build [(.str []), (.str []), (.str [])] []), oO 7 (.alloc [(.str []), (.str []), (.str [])]), ⟨none, .store true 3 (.t 7) (.t 15), none⟩, oO 8 (.set (oI 0))])
  (.seq (.seq (.region false [oM 17 5, oO 18 (.call true 159 [(.t 17)]), oM 16 18, oO 19 (.extr (.t 16) 0), oO 20 (.extr (.t 16) 1), oO 21 (.faddr 1 (.t 7)), ⟨none, .store true 1 (.t 21) (.t 19), none⟩, oS 8 20])
  (.seq (.region false [oM 22 8, oO 23 (.bin .neq .prim (.t 22) (oI 0))])
  (.cond (.t 23) (.seq (.region false [oO 24 (.build [(.str []), (.str []), (.str [])] []), oM 25 8, ⟨none, .store true 3 (.t 2) (.t 24), none⟩, oS 3 25])
  .ret)
  .skip)))
  (.seq (.seq (.region false [oO 27 (.load (some 2) (.t 4)), oO 28 (.call true 160 [(.t 27), (.c (.fn 161 [])), (oI 64)]), oM 26 28, oO 29 (.extr (.t 26) 0), oO 30 (.extr (.t 26) 1), oO 31 (.faddr 0 (.t 7)), ⟨none, .store true 1 (.t 31) (.t 29), none⟩, oS 8 30])
  (.seq (.region false [oM 32 8, oO 33 (.bin .neq .prim (.t 32) (oI 0))])
  (.cond (.t 33) (.seq (.region false [oO 34 (.build [(.str []), (.str []), (.str [])] []), oM 35 8, ⟨none, .store true 3 (.t 2) (.t 34), none⟩, oS 3 35])
  .ret)
  .skip)))
  (.seq (.seq (.region false [oO 37 (.load (some 2) (.t 6)), oO 38 (.call true 160 [(.t 37), (.c (.fn 162 [])), (oI 64)]), oM 36 38, oO 39 (.extr (.t 36) 0), oO 40 (.extr (.t 36) 1), oO 41 (.faddr 2 (.t 7)), ⟨none, .store true 1 (.t 41) (.t 39), none⟩, oS 8 40])
  (.seq (.region false [oM 42 8, oO 43 (.bin .neq .prim (.t 42) (oI 0))])
  (.cond (.t 43) (.seq (.region false [oO 44 (.build [(.str []), (.str []), (.str [])] []), oM 45 8, ⟨none, .store true 3 (.t 2) (.t 44), none⟩, oS 3 45])
  .ret)
  .skip)))
  (.seq (.region false [oO 46 (.load (some 3) (.t 7)), ⟨none, .store true 3 (.t 2) (.t 46), none⟩, oO 3 (.set (oI 0))])
  .ret)))))))⟩
theorem c122 : cfun Tryz.prog 122 = some f122 := by kernel_rfl
def f123 : AFun := ⟨1, 23, [.t 2], (.seq (.region false [oO 1 (.box (.t 0)), oO 2 (.set (.c (.str [])))])
  (.seq (.region false [oO 4 (.faddr 1 (.t 1)), oO 5 (.load none (.t 4)), oS 3 5])
  (.seq (.seq (.region false [oO 6 (.faddr 0 (.t 1)), oO 7 (.load none (.t 6)), oO 8 (.bin .neq .prim (.t 7) (.c (.str [])))])
  (.cond (.t 8) (.region false [oO 9 (.faddr 0 (.t 1)), oO 10 (.load none (.t 9)), oO 11 (.bin .add .prim (.t 10) (.c (.str [64]))), oM 12 3, oO 13 (.bin .add .prim (.t 11) (.t 12)), oS 3 13])
  .skip))
  (.seq (.seq (.region false [oO 14 (.faddr 2 (.t 1)), oO 15 (.load none (.t 14)), oO 16 (.bin .neq .prim (.t 15) (.c (.str [])))])
  (.cond (.t 16) (.region false [oM 17 3, oO 18 (.faddr 2 (.t 1)), oO 19 (.load none (.t 18)), oO 20 (.bin .add .prim (.c (.str [47])) (.t 19)), oO 21 (.bin .add .prim (.t 17) (.t 20)), oS 3 21])
  .skip))
  (.seq (.region false [oM 22 3, oS 2 22])
  .ret)))))⟩
theorem c123 : cfun Tryz.prog 123 = some f123 := by kernel_rfl
def f124 : AFun := ⟨2, 13, [.t 4], (.seq (.region false [oO 4 (.set (.c (.bool false)))])
  (.seq (.region false [oM 5 0, oO 6 (.call true 163 [(.t 5)]), oM 7 6, oG 8 7 (.mov (.t 0)), oG 9 7 (.conv .s2r (.t 8)), oG 10 7 (.mov (.t 1)), oG 11 7 (.call true 164 [(.t 9), (.t 10)]), oO 12 (.pick (.t 7) (.t 11) (.c (.bool false))), oS 4 12])
  .ret))⟩
theorem c124 : cfun Tryz.prog 124 = some f124 := by kernel_rfl
def f125 : AFun := ⟨1, 17, [.t 2], (.seq (.region false [oO 2 (.set (.c (.bool false)))])
  (.seq (.region false [oM 3 0, oO 4 (.bin .eql .prim (.t 3) (.c (.int .i32 9))), oM 5 4, ⟨(some 6), .mov (.t 0), some (5, false)⟩, ⟨(some 7), .bin .eql .prim (.t 6) (.c (.int .i32 10)), some (5, false)⟩, oO 8 (.pick (.t 5) (.c (.bool true)) (.t 7)), oM 9 8, ⟨(some 10), .mov (.t 0), some (9, false)⟩, ⟨(some 11), .bin .eql .prim (.t 10) (.c (.int .i32 13)), some (9, false)⟩, oO 12 (.pick (.t 9) (.c (.bool true)) (.t 11)), oM 13 12, ⟨(some 14), .mov (.t 0), some (13, false)⟩, ⟨(some 15), .call true 165 [(.t 14)], some (13, false)⟩, oO 16 (.pick (.t 13) (.c (.bool true)) (.t 15)), oS 2 16])
  .ret))⟩
theorem c125 : cfun Tryz.prog 125 = some f125 := by kernel_rfl
def f126 : AFun := ⟨2, 8, [.t 4], (.seq (.region false [oO 4 (.set (oI 0))])
  (.seq (.region false [oM 5 0, oM 6 1, oO 7 (.call true 166 [(.t 5), (.t 6)]), oS 4 7])
  .ret))⟩
theorem c126 : cfun Tryz.prog 126 = some f126 := by kernel_rfl
def f127l0 : ACode := (.seq (.region false [oO 11 (.next (.t 10)), oO 12 (.extr (.t 11) 0)])
  (.seq (.cond (.t 12) .skip
  (.exit 0))
  (.block 1 (.seq (.region false [oO 13 (.extr (.t 11) 2), oS 5 13])
  (.region false [oM 14 3, oM 15 5, oO 16 (.conv (.int .i64) (.t 15)), oO 17 (.bslice true 1 [(.t 16)]), oO 18 (.append 1 8 (.t 14) (.t 17)), oS 3 18])))))
def f127 : AFun := ⟨1, 20, [.t 2], (.seq (.region false [oO 2 (.newnil 1)])
  (.seq (.seq (.region false [oM 6 0, oO 7 (.call true 64 [(.t 6)]), oO 8 (.un .not (.t 7))])
  (.cond (.t 8) (.seq (.region false [oO 2 (.newnil 1)])
  .ret)
  .skip))
  (.seq (.region false [oO 3 (.newnil 1)])
  (.seq (.seq (.region false [oM 9 0, oO 10 (.range (.t 9))])
  (.block 0 (.loop f127l0)))
  (.seq (.region false [oM 19 3, oS 2 19])
  .ret)))))⟩
theorem c127 : cfun Tryz.prog 127 = some f127 := by kernel_rfl
def f128 : AFun := ⟨2, 9, [.t 4], (.seq (.region false [oO 4 (.set (.c (.bool false)))])
  (.seq (.region false [oM 5 0, oM 6 1, oO 7 (.call true 167 [(.t 5), (.t 6)]), oO 8 (.bin .geq .prim (.t 7) (oI 0)), oS 4 8])
  .ret))⟩
theorem c128 : cfun Tryz.prog 128 = some f128 := by kernel_rfl
def f129 : AFun := ⟨1, 6, [.t 2], (.seq (.region false [oO 1 (.box (.t 0)), oO 2 (.set (.c (.bool false)))])
  (.seq (.region false [oO 3 (.load (some 4) (.t 1)), oO 4 (.call true 130 [(.t 3)]), oO 5 (.un .not (.t 4)), oS 2 5])
  .ret))⟩
theorem c129 : cfun Tryz.prog 129 = some f129 := by kernel_rfl
def f130 : AFun := ⟨1, 60, [.t 2], (.seq (.region false [oO 1 (.box (.t 0)), oO 2 (.set (.c (.bool false)))])
  (.seq (.region false [oO 6 (.load (some 4) (.t 1)), oO 7 (.call true 131 [(.t 6)]), oS 3 7])
  (.seq (.region false [oM 9 3, oO 10 (.call true 168 [(.t 9)]), oM 8 10, oO 11 (.extr (.t 8) 0), oO 12 (.extr (.t 8) 1), oO 4 (.alloc [(.str []), (.str []), (.nils 2), (.str [])]), ⟨none, .store true 4 (.t 4) (.t 11), none⟩, oS 5 12])
  (.seq (.region false [oM 13 5, oM 14 13, oG 15 14 (.faddr 0 (.t 4)), oG 16 14 (.load none (.t 15)), oG 17 14 (.faddr 0 (.t 1)), oG 18 14 (.load none (.t 17)), oG 19 14 (.bin .eql .prim (.t 16) (.t 18)), oO 20 (.pick (.t 14) (.t 19) (.c (.bool false))), oM 21 20, oG 22 21 (.faddr 1 (.t 4)), oG 23 21 (.load none (.t 22)), oG 24 21 (.faddr 1 (.t 1)), oG 25 21 (.load none (.t 24)), oG 26 21 (.bin .eql .prim (.t 23) (.t 25)), oO 27 (.pick (.t 21) (.t 26) (.c (.bool false))), oM 28 27, oG 29 28 (.faddr 3 (.t 4)), oG 30 28 (.load none (.t 29)), oG 31 28 (.faddr 3 (.t 1)), oG 32 28 (.load none (.t 31)), oG 33 28 (.bin .eql .prim (.t 30) (.t 32)), oO 34 (.pick (.t 28) (.t 33) (.c (.bool false))), oM 35 34, oG 36 35 (.faddr 2 (.t 4)), oG 37 35 (.load none (.t 36)), oG 38 35 (.faddr 2 (.t 1)), oG 39 35 (.load none (.t 38)), oG 40 35 (.call true 169 [(.t 37), (.t 39)]), oO 41 (.pick (.t 35) (.t 40) (.c (.bool false))), oM 42 41, oG 43 42 (.load (some 4) (.t 4)), oG 44 42 (.call true 170 [(.t 43)]), oO 45 (.pick (.t 42) (.t 44) (.c (.bool false))), oM 46 45, oG 47 46 (.mov (.t 3)), oG 48 46 (.call true 171 [(.t 47), (.c (.str [69, 78, 68, 58, 86, 67, 65, 82, 68]))]), oG 49 46 (.un .not (.t 48)), oO 50 (.pick (.t 46) (.t 49) (.c (.bool false))), oM 51 50, oG 52 51 (.mov (.t 3)), oG 53 51 (.call true 64 [(.t 52)]), oO 54 (.pick (.t 51) (.t 53) (.c (.bool false))), oM 55 54, oG 56 55 (.mov (.t 3)), oG 57 55 (.call true 172 [(.t 56), (.c (.str [13, 10]))]), oG 58 55 (.un .not (.t 57)), oO 59 (.pick (.t 55) (.t 58) (.c (.bool false))), oS 2 59])
  .ret))))⟩
theorem c130 : cfun Tryz.prog 130 = some f130 := by kernel_rfl
def f131l0 : ACode := (.seq (.region false [oO 21 (.bin .lss .prim (.t 20) (.t 19))])
  (.seq (.cond (.t 21) .skip
  (.exit 0))
  (.seq (.block 1 (.seq (.region false [oO 22 (.iaddr 2 (.t 18) (.t 20)), oO 23 (.load (some 2) (.t 22)), oO 5 (.alloc [(.str []), (.str [])]), ⟨none, .store true 2 (.t 5) (.t 23), none⟩])
  (.seq (.region false [oO 24 (.faddr 1 (.t 5)), oO 25 (.load none (.t 24)), oS 6 25])
  (.seq (.seq (.region false [oM 26 6, oO 27 (.bin .eql .prim (.t 26) (.c (.str []))), oM 28 27, ⟨(some 29), .mov (.t 6), some (28, false)⟩, ⟨(some 30), .call true 172 [(.t 29), (.c (.str [59, 58, 44]))], some (28, false)⟩, oO 31 (.pick (.t 28) (.c (.bool true)) (.t 30))])
  (.cond (.t 31) (.region false [oM 32 6, oO 33 (.bin .add .prim (.c (.str [34])) (.t 32)), oO 34 (.bin .add .prim (.t 33) (.c (.str [34]))), oS 6 34])
  .skip))
  (.region false [oM 35 3, oO 36 (.faddr 0 (.t 5)), oO 37 (.load none (.t 36)), oO 38 (.bin .add .prim (.c (.str [59])) (.t 37)), oO 39 (.bin .add .prim (.t 38) (.c (.str [61]))), oM 40 6, oO 41 (.bin .add .prim (.t 39) (.t 40)), oO 42 (.bin .add .prim (.t 35) (.t 41)), oS 3 42])))))
  (.region false [oO 43 (.bin .add .prim (.t 20) (oI 1)), oM 20 43]))))
def f131 : AFun := ⟨1, 49, [.t 2], (.seq (.region false [oO 1 (.box (.t 0)), oO 2 (.set (.c (.str [])))])
  (.seq (.region false [oO 7 (.faddr 1 (.t 1)), oO 8 (.load none (.t 7)), oS 3 8])
  (.seq (.seq (.region false [oO 9 (.faddr 0 (.t 1)), oO 10 (.load none (.t 9)), oO 11 (.bin .neq .prim (.t 10) (.c (.str [])))])
  (.cond (.t 11) (.region false [oO 12 (.faddr 0 (.t 1)), oO 13 (.load none (.t 12)), oO 14 (.bin .add .prim (.t 13) (.c (.str [46]))), oM 15 3, oO 16 (.bin .add .prim (.t 14) (.t 15)), oS 3 16])
  .skip))
  (.seq (.seq (.region false [oO 17 (.faddr 2 (.t 1)), oO 18 (.load none (.t 17)), oO 19 (.len false (.t 18)), oO 20 (.mov (oI 0))])
  (.block 0 (.loop f131l0)))
  (.seq (.region false [oM 44 3, oO 45 (.bin .add .prim (.t 44) (.c (.str [58]))), oO 46 (.faddr 3 (.t 1)), oO 47 (.load none (.t 46)), oO 48 (.bin .add .prim (.t 45) (.t 47)), oS 2 48])
  .ret)))))⟩
theorem c131 : cfun Tryz.prog 131 = some f131 := by kernel_rfl
def f132l0 : ACode := (.seq (.seq (.region false [oM 23 5, oO 24 (.bin .neq .prim (.t 23) (.c (.str [])))])
  (.cond (.t 24) .skip
  (.exit 2)))
  (.seq (.block 3 (.seq (.region false [oM 28 5, oO 29 (.call true 173 [(.t 28), (oI 74)]), oS 6 29])
  (.region false [oM 30 5, oM 31 6, oO 32 (.slice none (.t 30) none (some (.t 31))), oO 33 (.bin .add .prim (.c (.str [32])) (.t 32)), oO 34 (.bin .add .prim (.t 33) (.c (.str [13, 10]))), oO 35 (.call true 174 [(.t 3), (.t 34)])])))
  (.region false [oM 25 5, oM 26 6, oO 27 (.slice none (.t 25) (some (.t 26)) none), oS 5 27])))
def f132l1 : ACode := (.seq (.region false [oO 10 (.bin .lss .prim (.t 9) (.t 8))])
  (.seq (.cond (.t 10) .skip
  (.exit 0))
  (.seq (.block 1 (.seq (.region false [oO 11 (.iaddr 1 (.t 7) (.t 9)), oO 12 (.load none (.t 11)), oS 5 12])
  (.seq (.region false [oM 13 5, oO 14 (.call true 173 [(.t 13), (oI 75)]), oS 6 14])
  (.seq (.region false [oM 15 5, oM 16 6, oO 17 (.slice none (.t 15) none (some (.t 16))), oO 18 (.bin .add .prim (.t 17) (.c (.str [13, 10]))), oO 19 (.call true 174 [(.t 3), (.t 18)])])
  (.seq (.region false [oM 20 5, oM 21 6, oO 22 (.slice none (.t 20) (some (.t 21)) none), oS 5 22])
  (.block 2 (.loop f132l0)))))))
  (.region false [oO 36 (.bin .add .prim (.t 9) (oI 1)), oM 9 36]))))
def f132 : AFun := ⟨1, 38, [.t 2], (.seq (.region false [oO 2 (.set (.c (.str [])))])
  (.seq (.region false [oO 3 (.allocb 169 5)])
  (.seq (.seq (.region false [oM 7 0, oO 8 (.len false (.t 7)), oO 9 (.mov (oI 0))])
  (.block 0 (.loop f132l1)))
  (.seq (.region false [oO 37 (.call true 175 [(.t 3)]), oS 2 37])
  .ret))))⟩
theorem c132 : cfun Tryz.prog 132 = some f132 := by kernel_rfl
def f133 : AFun := ⟨2, 9, [.t 4], (.seq (.region false [oO 4 (.set (.c (.bool false)))])
  (.seq (.region false [oM 5 0, oM 6 1, oO 7 (.call true 176 [(.t 5), (.t 6)]), oO 8 (.bin .geq .prim (.t 7) (oI 0)), oS 4 8])
  .ret))⟩
theorem c133 : cfun Tryz.prog 133 = some f133 := by kernel_rfl
def f134 : AFun := ⟨1, 6, [.t 2], (.seq (.region false [oO 2 (.set (.c (.bool false)))])
  (.seq (.region false [oM 3 0, oO 4 (.call true 135 [(.t 3), (oI 100)]), oO 5 (.un .not (.t 4)), oS 2 5])
  .ret))⟩
theorem c134 : cfun Tryz.prog 134 = some f134 := by kernel_rfl
def f135 : AFun := ⟨2, 13, [.t 4], (.seq (.region false [oO 4 (.set (.c (.bool false)))])
  (.seq (.region false [oM 5 0, oO 6 (.call true 124 [(.t 5), (.c (.fn 165 []))]), oM 7 6, oG 8 7 (.mov (.t 0)), oG 9 7 (.call true 66 [(.t 8)]), oG 10 7 (.mov (.t 1)), oG 11 7 (.bin .leq .prim (.t 9) (.t 10)), oO 12 (.pick (.t 7) (.t 11) (.c (.bool false))), oS 4 12])
  .ret))⟩
theorem c135 : cfun Tryz.prog 135 = some f135 := by kernel_rfl
def f137l0 : ACode := (.seq (.seq (.region false [oM 33 7, oM 34 5, oO 35 (.len true (.t 34)), oO 36 (.bin .lss .prim (.t 33) (.t 35))])
  (.cond (.t 36) .skip
  (.exit 2)))
  (.seq (.block 3 (.region false [oM 39 6, oM 40 39, ⟨(some 41), .mov (.t 5), some (40, false)⟩, ⟨(some 42), .mov (.t 7), some (40, false)⟩, ⟨(some 43), .sidx (.t 41) (.t 42), some (40, false)⟩, ⟨(some 44), .bin .eql .prim (.t 43) (.c (.int .u8 59)), some (40, false)⟩, oO 45 (.pick (.t 40) (.c (.bool true)) (.t 44)), oM 46 45, ⟨(some 47), .mov (.t 5), some (46, false)⟩, ⟨(some 48), .mov (.t 7), some (46, false)⟩, ⟨(some 49), .sidx (.t 47) (.t 48), some (46, false)⟩, ⟨(some 50), .bin .eql .prim (.t 49) (.c (.int .u8 58)), some (46, false)⟩, oO 51 (.pick (.t 46) (.c (.bool true)) (.t 50)), oM 52 51, ⟨(some 53), .mov (.t 5), some (52, false)⟩, ⟨(some 54), .mov (.t 7), some (52, false)⟩, ⟨(some 55), .sidx (.t 53) (.t 54), some (52, false)⟩, ⟨(some 56), .bin .eql .prim (.t 55) (.c (.int .u8 44)), some (52, false)⟩, oO 57 (.pick (.t 52) (.c (.bool true)) (.t 56)), oS 6 57]))
  (.region false [oM 37 7, oO 38 (.bin .add .prim (.t 37) (oI 1)), oS 7 38])))
def f137l1 : ACode := (.seq (.seq (.region false [oM 18 4, oO 19 (.faddr 2 (.t 1)), oO 20 (.load none (.t 19)), oO 21 (.len false (.t 20)), oO 22 (.bin .lss .prim (.t 18) (.t 21))])
  (.cond (.t 22) .skip
  (.exit 0)))
  (.seq (.block 1 (.seq (.region false [oO 25 (.faddr 2 (.t 1)), oO 26 (.load none (.t 25)), oM 27 4, oO 28 (.iaddr 2 (.t 26) (.t 27)), oO 29 (.faddr 1 (.t 28)), oO 30 (.load none (.t 29)), oS 5 30])
  (.seq (.region false [oM 31 5, oO 32 (.bin .eql .prim (.t 31) (.c (.str []))), oS 6 32])
  (.seq (.seq (.region false [oO 7 (.set (oI 0))])
  (.block 2 (.loop f137l0)))
  (.seq (.seq (.region false [oM 58 6])
  (.cond (.t 58) (.region false [oM 59 5, oO 60 (.bin .add .prim (.c (.str [34])) (.t 59)), oO 61 (.bin .add .prim (.t 60) (.c (.str [34]))), oS 5 61])
  .skip))
  (.region false [oM 62 3, oO 63 (.bin .add .prim (.t 62) (.c (.str [59]))), oO 64 (.faddr 2 (.t 1)), oO 65 (.load none (.t 64)), oM 66 4, oO 67 (.iaddr 2 (.t 65) (.t 66)), oO 68 (.faddr 0 (.t 67)), oO 69 (.load none (.t 68)), oO 70 (.bin .add .prim (.t 63) (.t 69)), oO 71 (.bin .add .prim (.t 70) (.c (.str [61]))), oM 72 5, oO 73 (.bin .add .prim (.t 71) (.t 72)), oS 3 73]))))))
  (.region false [oM 23 4, oO 24 (.bin .add .prim (.t 23) (oI 1)), oS 4 24])))
def f137 : AFun := ⟨1, 79, [.t 2], (.seq (.region false [oO 1 (.box (.t 0)), oO 2 (.set (.c (.str [])))])
  (.seq (.region false [oO 8 (.faddr 1 (.t 1)), oO 9 (.load none (.t 8)), oS 3 9])
  (.seq (.seq (.region false [oO 10 (.faddr 0 (.t 1)), oO 11 (.load none (.t 10)), oO 12 (.bin .neq .prim (.t 11) (.c (.str [])))])
  (.cond (.t 12) (.region false [oO 13 (.faddr 0 (.t 1)), oO 14 (.load none (.t 13)), oO 15 (.bin .add .prim (.t 14) (.c (.str [46]))), oM 16 3, oO 17 (.bin .add .prim (.t 15) (.t 16)), oS 3 17])
  .skip))
  (.seq (.seq (.region false [oO 4 (.set (oI 0))])
  (.block 0 (.loop f137l1)))
  (.seq (.region false [oM 74 3, oO 75 (.bin .add .prim (.t 74) (.c (.str [58]))), oO 76 (.faddr 3 (.t 1)), oO 77 (.load none (.t 76)), oO 78 (.bin .add .prim (.t 75) (.t 77)), oS 2 78])
  .ret)))))⟩
def f138l0 : ACode := (.seq (.seq (.region false [oM 5 4, oM 6 0, oO 7 (.len false (.t 6)), oO 8 (.bin .lss .prim (.t 5) (.t 7))])
  (.cond (.t 8) .skip
  (.exit 0)))
  (.seq (.block 1 (.region false [oM 11 3, oM 12 0, oM 13 4, oO 14 (.iaddr 1 (.t 12) (.t 13)), oO 15 (.load none (.t 14)), oO 16 (.call true 178 [(.t 15)]), oO 17 (.bin .add .prim (.t 11) (.t 16)), oS 3 17]))
  (.region false [oM 9 4, oO 10 (.bin .add .prim (.t 9) (oI 1)), oS 4 10])))
def f138 : AFun := ⟨1, 19, [.t 2], (.seq (.region false [oO 2 (.set (.c (.str [])))])
  (.seq (.region false [oO 3 (.set (.c (.str [])))])
  (.seq (.seq (.region false [oO 4 (.set (oI 0))])
  (.block 0 (.loop f138l0)))
  (.seq (.region false [oM 18 3, oS 2 18])
  .ret))))⟩
def f139 : AFun := ⟨2, 23, [.t 4, .t 5], (.seq (.region false [oO 4 (.set (oI 0)), oO 5 (.set (oI 0))])
  (.seq (.region false [oM 9 0, oM 10 1, oO 11 (.call true 179 [(.t 9), (.t 10)]), oM 8 11, oO 12 (.extr (.t 8) 0), oO 13 (.extr (.t 8) 1), oS 6 12, oS 7 13])
  (.seq (.seq (.region false [oM 14 7, oO 15 (.bin .eql .prim (.t 14) (oI 0)), oM 16 15, ⟨(some 17), .mov (.t 6), some (16, false)⟩, ⟨(some 18), .call true 180 [(.t 17)], some (16, false)⟩, ⟨(some 19), .un .not (.t 18), some (16, false)⟩, oO 20 (.pick (.t 16) (.c (.bool true)) (.t 19))])
  (.cond (.t 20) (.seq (.region false [oO 4 (.set (oI 0)), oO 5 (.set (oI 0))])
  .ret)
  .skip))
  (.seq (.region false [oM 21 6, oM 22 7, oS 4 21, oS 5 22])
  .ret))))⟩
theorem c139 : cfun Tryz.prog 139 = some f139 := by kernel_rfl
def f143 : AFun := ⟨2, 11, [.t 5], (.seq (.region false [oO 5 (.set (oI 0))])
  (.seq (.region false [oO 6 (.load none (.t 2)), oM 7 0, oO 8 (.callv true (.t 6) [(.t 7)]), oM 9 1, oO 10 (.nilchk (.t 8)), ⟨none, .store true 1 (.t 10) (.t 9), none⟩])
  (.seq (.region false [oO 5 (.set (oI 0))])
  .ret)))⟩
def f145l0 : ACode := (.seq (.region false [oO 14 (.bin .lss .prim (.t 13) (.t 12))])
  (.seq (.cond (.t 14) .skip
  (.exit 0))
  (.seq (.block 1 (.seq (.region false [oM 15 13, oS 8 15])
  (.seq (.seq (.region false [oM 16 0, oM 17 8, oO 18 (.sidx (.t 16) (.t 17)), oM 19 1, oO 20 (.bin .eql .prim (.t 18) (.t 19)), oM 21 20, oG 22 21 (.mov (.t 7)), oG 23 21 (.un .not (.t 22)), oO 24 (.pick (.t 21) (.t 23) (.c (.bool false)))])
  (.cond (.t 24) (.seq (.region false [oM 25 5, oM 26 0, oM 27 6, oM 28 8, oO 29 (.slice none (.t 26) (some (.t 27)) (some (.t 28))), oO 30 (.call true 181 [(.t 25), (.t 29)])])
  (.region false [oM 31 8, oO 32 (.bin .add .prim (.t 31) (oI 1)), oS 6 32]))
  .skip))
  (.region false [oM 33 0, oM 34 8, oO 35 (.sidx (.t 33) (.t 34)), oO 36 (.bin .eql .prim (.t 35) (.c (.int .u8 92))), oM 37 36, oG 38 37 (.mov (.t 7)), oG 39 37 (.un .not (.t 38)), oO 40 (.pick (.t 37) (.t 39) (.c (.bool false))), oS 7 40]))))
  (.region false [oO 41 (.bin .add .prim (.t 13) (oI 1)), oM 13 41]))))
def f145 : AFun := ⟨2, 52, [.t 4], (.seq (.region false [oO 4 (.newnil 1)])
  (.seq (.region false [oO 9 (.build [(.nils 1)] []), oO 10 (.box (.t 9)), oS 5 10])
  (.seq (.region false [oO 6 (.set (oI 0)), oO 7 (.set (.c (.bool false)))])
  (.seq (.seq (.region false [oM 11 0, oO 12 (.len true (.t 11)), oO 13 (.mov (oI 0))])
  (.block 0 (.loop f145l0)))
  (.seq (.region false [oM 42 5, oM 43 0, oM 44 6, oO 45 (.slice none (.t 43) (some (.t 44)) none), oO 46 (.call true 181 [(.t 42), (.t 45)])])
  (.seq (.region false [oM 47 5, oO 48 (.nilchk (.t 47)), oO 49 (.faddr 0 (.t 48)), oO 50 (.load none (.t 49)), oO 51 (.call true 182 [(.t 50)]), oS 4 51])
  .ret))))))⟩
theorem c145 : cfun Tryz.prog 145 = some f145 := by kernel_rfl
def f146l0 : ACode := (.block 1 (.seq (.region false [oM 10 0, oO 11 (.call true 183 [(.t 10), (.c (.str [92]))]), oM 9 11, oO 12 (.extr (.t 9) 0), oO 13 (.extr (.t 9) 1), oO 14 (.extr (.t 9) 2), oS 5 12, oS 6 13, oS 7 14])
  (.seq (.region false [oM 15 5, oO 16 (.call true 174 [(.t 4), (.t 15)])])
  (.seq (.seq (.region false [oM 17 7, oO 18 (.un .not (.t 17))])
  (.cond (.t 18) (.seq (.region false [oO 19 (.call true 175 [(.t 4)]), oS 2 19, oO 3 (.set (oI 0))])
  .ret)
  .skip))
  (.seq (.seq (.region false [oM 20 6, oO 21 (.bin .eql .prim (.t 20) (.c (.str []))), oM 22 21, ⟨(some 23), .mov (.t 6), some (22, false)⟩, ⟨(some 24), .slice none (.t 23) none (some (oI 1)), some (22, false)⟩, ⟨(some 25), .call true 65 [(.c (.str [92, 44, 59, 110, 78])), (.t 24)], some (22, false)⟩, ⟨(some 26), .un .not (.t 25), some (22, false)⟩, oO 27 (.pick (.t 22) (.c (.bool true)) (.t 26))])
  (.cond (.t 27) (.seq (.region false [oO 2 (.set (.c (.str []))), oO 3 (.set (oI 18))])
  .ret)
  .skip))
  (.seq (.region false [oM 28 6, oO 29 (.slice none (.t 28) none (some (oI 1))), oS 8 29])
  (.seq (.seq (.region false [oM 30 8, oO 31 (.call true 171 [(.t 30), (.c (.str [110]))])])
  (.cond (.t 31) (.region false [oO 8 (.set (.c (.str [10])))])
  .skip))
  (.seq (.region false [oM 32 8, oO 33 (.call true 174 [(.t 4), (.t 32)])])
  (.region false [oM 34 6, oO 35 (.slice none (.t 34) (some (oI 1)) none), oS 0 35])))))))))
def f146 : AFun := ⟨1, 36, [.t 2, .t 3], (.seq (.region false [oO 2 (.set (.c (.str []))), oO 3 (.set (oI 0))])
  (.seq (.region false [oO 4 (.allocb 169 5)])
  (.block 0 (.loop f146l0))))⟩
theorem c146 : cfun Tryz.prog 146 = some f146 := by kernel_rfl
def f149l0 : ACode := (.seq (.region false [oO 42 (.bin .lss .prim (.t 41) (.t 40))])
  (.seq (.cond (.t 42) .skip
  (.exit 1))
  (.seq (.block 2 (.seq (.region false [oO 43 (.iaddr 1 (.t 39) (.t 41)), oO 44 (.load none (.t 43)), oS 7 44])
  (.seq (.seq (.region false [oM 45 7, oO 46 (.len true (.t 45)), oM 47 5, oO 48 (.bin .sub .prim (oI 9223372036854775807) (.t 47)), oO 49 (.bin .gtr .prim (.t 46) (.t 48))])
  (.cond (.t 49) (.region false [oO 50 (.mkifc 9 (.c (.str [115, 116, 114, 105, 110, 103, 115, 58, 32, 74, 111, 105, 110, 32, 111, 117, 116, 112, 117, 116, 32, 108, 101, 110, 103, 116, 104, 32, 111, 118, 101, 114, 102, 108, 111, 119]))), ⟨none, .bad, none⟩])
  .skip))
  (.region false [oM 51 5, oM 52 7, oO 53 (.len true (.t 52)), oO 54 (.bin .add .prim (.t 51) (.t 53)), oS 5 54]))))
  (.region false [oO 55 (.bin .add .prim (.t 41) (oI 1)), oM 41 55]))))
def f149l1 : ACode := (.seq (.region false [oO 66 (.bin .lss .prim (.t 65) (.t 64))])
  (.seq (.cond (.t 66) .skip
  (.exit 3))
  (.seq (.block 4 (.seq (.region false [oO 67 (.iaddr 1 (.t 63) (.t 65)), oO 68 (.load none (.t 67)), oS 10 68])
  (.seq (.region false [oM 69 1, oO 70 (.call true 174 [(.t 8), (.t 69)])])
  (.region false [oM 71 10, oO 72 (.call true 174 [(.t 8), (.t 71)])]))))
  (.region false [oO 73 (.bin .add .prim (.t 65) (oI 1)), oM 65 73]))))
def f149 : AFun := ⟨2, 75, [.t 4], (.seq (.region false [oO 4 (.set (.c (.str [])))])
  (.seq (.seq (.region false [oM 11 0, oO 12 (.len false (.t 11))])
  (.block 0 (.seq (.region false [oO 14 (.bin .eql .prim (.t 12) (oI 0)), oS 13 14])
  (.cond (.t 13) (.seq (.region false [oO 4 (.set (.c (.str [])))])
  .ret)
  (.seq (.region false [oO 16 (.bin .eql .prim (.t 12) (oI 1)), oS 15 16])
  (.cond (.t 15) (.seq (.region false [oM 17 0, oO 18 (.iaddr 1 (.t 17) (oI 0)), oO 19 (.load none (.t 18)), oS 4 19])
  .ret)
  .skip))))))
  (.seq (.region false [oO 5 (.set (oI 0))])
  (.seq (.seq (.region false [oM 20 1, oO 21 (.len true (.t 20)), oO 22 (.bin .gtr .prim (.t 21) (oI 0))])
  (.cond (.t 22) (.seq (.seq (.region false [oM 23 1, oO 24 (.len true (.t 23)), oM 25 0, oO 26 (.len false (.t 25)), oO 27 (.bin .sub .prim (.t 26) (oI 1)), oO 28 (.bin .quo .prim (oI 9223372036854775807) (.t 27)), oO 29 (.bin .geq .prim (.t 24) (.t 28))])
  (.cond (.t 29) (.region false [oO 30 (.mkifc 9 (.c (.str [115, 116, 114, 105, 110, 103, 115, 58, 32, 74, 111, 105, 110, 32, 111, 117, 116, 112, 117, 116, 32, 108, 101, 110, 103, 116, 104, 32, 111, 118, 101, 114, 102, 108, 111, 119]))), ⟨none, .bad, none⟩])
  .skip))
  (.region false [oM 31 5, oM 32 1, oO 33 (.len true (.t 32)), oM 34 0, oO 35 (.len false (.t 34)), oO 36 (.bin .sub .prim (.t 35) (oI 1)), oO 37 (.bin .mul .prim (.t 33) (.t 36)), oO 38 (.bin .add .prim (.t 31) (.t 37)), oS 5 38]))
  .skip))
  (.seq (.seq (.region false [oM 39 0, oO 40 (.len false (.t 39)), oO 41 (.mov (oI 0))])
  (.block 1 (.loop f149l0)))
  (.seq (.region false [oO 8 (.allocb 169 5)])
  (.seq (.region false [oM 56 5, oO 57 (.call true 190 [(.t 8), (.t 56)])])
  (.seq (.region false [oM 58 0, oO 59 (.iaddr 1 (.t 58) (oI 0)), oO 60 (.load none (.t 59)), oO 61 (.call true 174 [(.t 8), (.t 60)])])
  (.seq (.seq (.region false [oM 62 0, oO 63 (.slice (some 1) (.t 62) (some (oI 1)) none), oO 64 (.len false (.t 63)), oO 65 (.mov (oI 0))])
  (.block 3 (.loop f149l1)))
  (.seq (.region false [oO 74 (.call true 175 [(.t 8)]), oS 4 74])
  .ret))))))))))⟩
theorem c149 : cfun Tryz.prog 149 = some f149 := by kernel_rfl
def f151 : AFun := ⟨1, 23, [.t 2], (.seq (.region false [oO 1 (.box (.t 0)), oO 2 (.set (.c (.str [])))])
  (.seq (.region false [oO 4 (.faddr 1 (.t 1)), oO 5 (.load none (.t 4)), oS 3 5])
  (.seq (.seq (.region false [oO 6 (.faddr 0 (.t 1)), oO 7 (.load none (.t 6)), oO 8 (.bin .neq .prim (.t 7) (.c (.str [])))])
  (.cond (.t 8) (.region false [oO 9 (.faddr 0 (.t 1)), oO 10 (.load none (.t 9)), oO 11 (.bin .add .prim (.t 10) (.c (.str [64]))), oM 12 3, oO 13 (.bin .add .prim (.t 11) (.t 12)), oS 3 13])
  .skip))
  (.seq (.seq (.region false [oO 14 (.faddr 2 (.t 1)), oO 15 (.load none (.t 14)), oO 16 (.bin .neq .prim (.t 15) (.c (.str [])))])
  (.cond (.t 16) (.region false [oM 17 3, oO 18 (.bin .add .prim (.t 17) (.c (.str [47]))), oO 19 (.faddr 2 (.t 1)), oO 20 (.load none (.t 19)), oO 21 (.bin .add .prim (.t 18) (.t 20)), oS 3 21])
  .skip))
  (.seq (.region false [oM 22 3, oS 2 22])
  .ret)))))⟩
def f152 : AFun := ⟨2, 20, [.t 5, .t 6], (.seq (.region false [oO 5 (.set (.c (.bool false))), oO 6 (.set (oI 0))])
  (.seq (.region false [oM 10 1, oO 11 (.call true 146 [(.t 10)]), oM 9 11, oO 12 (.extr (.t 9) 0), oO 13 (.extr (.t 9) 1), oS 7 12, oS 8 13])
  (.seq (.region false [oO 14 (.load none (.t 2)), oM 15 0, oO 16 (.callv true (.t 14) [(.t 15)]), oM 17 7, oO 18 (.nilchk (.t 16)), ⟨none, .store true 1 (.t 18) (.t 17), none⟩])
  (.seq (.region false [oM 19 8, oO 5 (.set (.c (.bool true))), oS 6 19])
  .ret))))⟩
theorem c152 : cfun Tryz.prog 152 = some f152 := by kernel_rfl
def f153 : AFun := ⟨1, 9, [.t 3], (.seq (.region false [oO 2 (.box (.t 0)), oO 3 (.set (.c (.str [])))])
  (.seq (.region false [oO 4 (.load none (.t 1)), oO 5 (.callv true (.t 4) [(.t 2)]), oO 6 (.nilchk (.t 5)), oO 7 (.load none (.t 6)), oO 8 (.call true 148 [(.t 7)]), oS 3 8])
  .ret))⟩
def f154 : AFun := ⟨2, 11, [.t 4, .t 5], (.seq (.region false [oO 4 (.set (.c (.str []))), oO 5 (.set (.c (.bool false)))])
  (.seq (.region false [oM 6 0, oM 7 1, oO 8 (.call true 195 [(.t 6), (.t 7)]), oO 9 (.extr (.t 8) 0), oO 10 (.extr (.t 8) 1), oS 4 9, oS 5 10])
  .ret))⟩
theorem c154 : cfun Tryz.prog 154 = some f154 := by kernel_rfl
def f158 : AFun := ⟨1, 33, [.cell 2 (some 2), .t 3, .cell 4 (some 2)], (.seq (.region false [oO 2 (.alloc [(.str []), (.bool false)]), oO 3 (.set (.c (.str []))), oO 4 (.alloc [(.str []), (.bool false)])])
  (.seq (.region false [oM 12 0, oO 13 (.call true 183 [(.t 12), (.c (.str [47]))]), oM 11 13, oO 14 (.extr (.t 11) 0), oO 15 (.extr (.t 11) 1), oO 16 (.extr (.t 11) 2), oS 5 14, oS 6 15, oS 7 16])
  (.seq (.region false [oM 18 5, oO 19 (.call true 183 [(.t 18), (.c (.str [64]))]), oM 17 19, oO 20 (.extr (.t 17) 0), oO 21 (.extr (.t 17) 1), oO 22 (.extr (.t 17) 2), oS 8 20, oS 9 21, oS 10 22])
  (.seq (.seq (.region false [oM 23 10, oO 24 (.un .not (.t 23))])
  (.cond (.t 24) (.region false [oM 25 5, oO 8 (.set (.c (.str []))), oS 9 25])
  .skip))
  (.seq (.region false [oM 26 8, oM 27 10, oO 28 (.build [(.str []), (.bool false)] [(0, 1, (.t 26)), (1, 1, (.t 27))]), oM 29 9, oM 30 6, oM 31 7, oO 32 (.build [(.str []), (.bool false)] [(0, 1, (.t 30)), (1, 1, (.t 31))]), ⟨none, .store true 2 (.t 2) (.t 28), none⟩, oS 3 29, ⟨none, .store true 2 (.t 4) (.t 32), none⟩])
  .ret)))))⟩
theorem c158 : cfun Tryz.prog 158 = some f158 := by kernel_rfl
def f159 : AFun := ⟨1, 24, [.t 2, .t 3], (.seq (.region false [oO 2 (.set (.c (.str []))), oO 3 (.set (oI 0))])
  (.seq (.region false [oM 6 0, oO 7 (.call true 198 [(.t 6)]), oM 5 7, oO 8 (.extr (.t 5) 0), oO 9 (.extr (.t 5) 1), oS 0 8, oS 4 9])
  (.seq (.seq (.region false [oM 10 4, oO 11 (.bin .neq .prim (.t 10) (oI 0))])
  (.cond (.t 11) (.seq (.region false [oM 12 4, oO 2 (.set (.c (.str []))), oS 3 12])
  .ret)
  .skip))
  (.seq (.region false [oM 13 0, oO 14 (.call true 199 [(.t 13), (.c (.str [46]))]), oS 0 14])
  (.seq (.seq (.region false [oM 15 0, oO 16 (.len true (.t 15)), oO 17 (.bin .gtr .prim (.t 16) (oI 100)), oM 18 17, ⟨(some 19), .mov (.t 0), some (18, false)⟩, ⟨(some 20), .call true 200 [(.t 19)], some (18, false)⟩, ⟨(some 21), .un .not (.t 20), some (18, false)⟩, oO 22 (.pick (.t 18) (.c (.bool true)) (.t 21))])
  (.cond (.t 22) (.seq (.region false [oO 2 (.set (.c (.str []))), oO 3 (.set (oI 14))])
  .ret)
  .skip))
  (.seq (.region false [oM 23 0, oS 2 23, oO 3 (.set (oI 0))])
  .ret))))))⟩
theorem c159 : cfun Tryz.prog 159 = some f159 := by kernel_rfl
def f160 : AFun := ⟨3, 35, [.t 6, .t 7], (.seq (.region false [oO 3 (.box (.t 0)), oO 6 (.set (.c (.str []))), oO 7 (.set (oI 0))])
  (.seq (.region false [oM 11 1, oO 12 (.faddr 0 (.t 3)), oO 13 (.load none (.t 12)), oO 14 (.callv true (.t 11) [(.t 13)]), oM 10 14, oO 15 (.extr (.t 10) 0), oO 16 (.extr (.t 10) 1), oS 8 15, oS 9 16])
  (.seq (.block 0 (.seq (.region false [oM 18 9, oO 19 (.bin .neq .prim (.t 18) (oI 0)), oS 17 19])
  (.cond (.t 17) (.seq (.region false [oM 20 9, oO 6 (.set (.c (.str []))), oS 7 20])
  .ret)
  (.seq (.region false [oO 22 (.faddr 1 (.t 3)), oO 23 (.load none (.t 22)), oM 24 23, oG 25 24 (.mov (.t 8)), oG 26 24 (.bin .eql .prim (.t 25) (.c (.str []))), oG 27 24 (.mov (.t 26)), ⟨(some 28), .mov (.t 8), some (27, false)⟩, ⟨(some 29), .len true (.t 28), some (27, false)⟩, ⟨(some 30), .mov (.t 2), some (27, false)⟩, ⟨(some 31), .bin .gtr .prim (.t 29) (.t 30), some (27, false)⟩, oG 32 24 (.pick (.t 27) (.c (.bool true)) (.t 31)), oO 33 (.pick (.t 24) (.t 32) (.c (.bool false))), oS 21 33])
  (.cond (.t 21) (.seq (.region false [oO 6 (.set (.c (.str []))), oO 7 (.set (oI 14))])
  .ret)
  .skip)))))
  (.seq (.region false [oM 34 8, oS 6 34, oO 7 (.set (oI 0))])
  .ret))))⟩
theorem c160 : cfun Tryz.prog 160 = some f160 := by kernel_rfl
def f161 : AFun := ⟨1, 9, [.t 2, .t 3], (.seq (.region false [oO 2 (.set (.c (.str []))), oO 3 (.set (oI 0))])
  (.seq (.region false [oM 4 0, oO 5 (.build [.nilfn, .nilfn] [(0, 1, (.c (.fn 202 []))), (1, 1, (.c (.fn 203 [])))]), oO 6 (.call true 201 [(.t 4), (.t 5)]), oO 7 (.extr (.t 6) 0), oO 8 (.extr (.t 6) 1), oS 2 7, oS 3 8])
  .ret))⟩
theorem c161 : cfun Tryz.prog 161 = some f161 := by kernel_rfl
def f162 : AFun := ⟨1, 9, [.t 2, .t 3], (.seq (.region false [oO 2 (.set (.c (.str []))), oO 3 (.set (oI 0))])
  (.seq (.region false [oM 4 0, oO 5 (.build [.nilfn, .nilfn] [(0, 1, (.c (.fn 206 []))), (1, 1, (.c (.fn 207 [])))]), oO 6 (.call true 201 [(.t 4), (.t 5)]), oO 7 (.extr (.t 6) 0), oO 8 (.extr (.t 6) 1), oS 2 7, oS 3 8])
  .ret))⟩
theorem c162 : cfun Tryz.prog 162 = some f162 := by kernel_rfl
def f164 : AFun := ⟨2, 9, [.t 4], (.seq (.region false [oO 3 (.box (.t 1)), oO 4 (.set (.c (.bool false)))])
  (.seq (.region false [oM 5 0, oO 6 (.mkfn 210 [(.t 3)]), oO 7 (.call true 209 [(.t 5), (.t 6)]), oO 8 (.un .not (.t 7)), oS 4 8])
  .ret))⟩
theorem c164 : cfun Tryz.prog 164 = some f164 := by kernel_rfl
def f165 : AFun := ⟨1, 11, [.t 2], (.seq (.region false [oO 2 (.set (.c (.bool false)))])
  (.seq (.region false [oO 3 (.build [(.int .i32 0), (.int .i32 0)] [(0, 1, (.c (.int .i32 32))), (1, 1, (.c (.int .i32 65533)))]), oM 4 0, oO 5 (.call true 211 [(.t 3), (.t 4)]), oM 6 5, ⟨(some 7), .build [(.int .i32 0), (.int .i32 0)] [(0, 1, (.c (.int .i32 65536))), (1, 1, (.c (.int .i32 1114111)))], some (6, false)⟩, ⟨(some 8), .mov (.t 0), some (6, false)⟩, ⟨(some 9), .call true 211 [(.t 7), (.t 8)], some (6, false)⟩, oO 10 (.pick (.t 6) (.c (.bool true)) (.t 9)), oS 2 10])
  .ret))⟩
theorem c165 : cfun Tryz.prog 165 = some f165 := by kernel_rfl
def f166l0 : ACode := (.seq (.seq (.region false [oM 57 8, oM 58 9, oO 59 (.bin .lss .prim (.t 57) (.t 58))])
  (.cond (.t 59) .skip
  (.exit 1)))
  (.block 2 (.seq (.seq (.region false [oM 60 0, oM 61 8, oO 62 (.sidx (.t 60) (.t 61)), oM 63 6, oO 64 (.bin .neq .prim (.t 62) (.t 63))])
  (.cond (.t 64) (.seq (.region false [oM 65 0, oM 66 8, oO 67 (.bin .add .prim (.t 66) (oI 1)), oM 68 9, oO 69 (.slice none (.t 65) (some (.t 67)) (some (.t 68))), oM 70 6, oO 71 (.call true 212 [(.t 69), (.t 70)]), oS 11 71])
  (.seq (.seq (.region false [oM 72 11, oO 73 (.bin .lss .prim (.t 72) (oI 0))])
  (.cond (.t 73) (.seq (.region false [oO 4 (.set (.c (.int .i64 (-1))))])
  .ret)
  .skip))
  (.region false [oM 74 8, oM 75 11, oO 76 (.bin .add .prim (.t 75) (oI 1)), oO 77 (.bin .add .prim (.t 74) (.t 76)), oS 8 77])))
  .skip))
  (.seq (.seq (.region false [oM 78 0, oM 79 8, oO 80 (.bin .add .prim (.t 79) (oI 1)), oO 81 (.sidx (.t 78) (.t 80)), oM 82 7, oO 83 (.bin .eql .prim (.t 81) (.t 82)), oM 84 83, oG 85 84 (.mov (.t 0)), oG 86 84 (.mov (.t 8)), oG 87 84 (.mov (.t 8)), oG 88 84 (.mov (.t 5)), oG 89 84 (.bin .add .prim (.t 87) (.t 88)), oG 90 84 (.slice none (.t 85) (some (.t 86)) (some (.t 89))), oG 91 84 (.mov (.t 1)), oG 92 84 (.bin .eql .prim (.t 90) (.t 91)), oO 93 (.pick (.t 84) (.t 92) (.c (.bool false)))])
  (.cond (.t 93) (.seq (.region false [oM 94 8, oS 4 94])
  .ret)
  .skip))
  (.seq (.region false [oM 95 8, oO 96 (.bin .add .prim (.t 95) (oI 1)), oS 8 96])
  (.seq (.region false [oM 97 10, oO 98 (.bin .add .prim (.t 97) (oI 1)), oS 10 98])
  (.seq (.region false [oM 99 5, oO 100 (.bad), oO 101 (.bin .leq .prim (.t 99) (.t 100)), oM 102 101, oG 103 102 (.mov (.t 10)), oG 104 102 (.mov (.t 8)), oG 105 102 (.call true 214 [(.t 104)]), oG 106 102 (.bin .gtr .prim (.t 103) (.t 105)), oO 107 (.pick (.t 102) (.t 106) (.c (.bool false)))])
  (.cond (.t 107) (.seq (.region false [oM 108 0, oM 109 8, oO 110 (.slice none (.t 108) (some (.t 109)) none), oM 111 1, oO 112 (.call true 213 [(.t 110), (.t 111)]), oS 12 112])
  (.seq (.seq (.region false [oM 113 12, oO 114 (.bin .geq .prim (.t 113) (oI 0))])
  (.cond (.t 114) (.seq (.region false [oM 115 12, oM 116 8, oO 117 (.bin .add .prim (.t 115) (.t 116)), oS 4 117])
  .ret)
  .skip))
  (.seq (.region false [oO 4 (.set (.c (.int .i64 (-1))))])
  .ret)))
  (.seq (.region false [oM 118 5, oO 119 (.bad), oO 120 (.bin .gtr .prim (.t 118) (.t 119)), oM 121 120, oG 122 121 (.mov (.t 10)), oG 123 121 (.mov (.t 8)), oG 124 121 (.bin .shr .prim (.t 123) (.c (.int .u64 4))), oG 125 121 (.bin .add .prim (oI 4) (.t 124)), oG 126 121 (.bin .geq .prim (.t 122) (.t 125)), oO 127 (.pick (.t 121) (.t 126) (.c (.bool false))), oM 128 127, oG 129 128 (.mov (.t 8)), oG 130 128 (.mov (.t 9)), oG 131 128 (.bin .lss .prim (.t 129) (.t 130)), oO 132 (.pick (.t 128) (.t 131) (.c (.bool false)))])
  (.cond (.t 132) (.seq (.region false [oM 133 0, oM 134 8, oO 135 (.slice none (.t 133) (some (.t 134)) none), oM 136 1, oO 137 (.call true 215 [(.t 135), (.t 136)]), oS 13 137])
  (.seq (.seq (.region false [oM 138 13, oO 139 (.bin .lss .prim (.t 138) (oI 0))])
  (.cond (.t 139) (.seq (.region false [oO 4 (.set (.c (.int .i64 (-1))))])
  .ret)
  .skip))
  (.seq (.region false [oM 140 8, oM 141 13, oO 142 (.bin .add .prim (.t 140) (.t 141)), oS 4 142])
  .ret)))
  .skip))))))))))
def f166 : AFun := ⟨2, 143, [.t 4], (.seq (.region false [oO 4 (.set (oI 0))])
  (.seq (.region false [oM 14 1, oO 15 (.len true (.t 14)), oS 5 15])
  (.seq (.block 0 (.seq (.region false [oM 17 5, oO 18 (.bin .eql .prim (.t 17) (oI 0)), oM 19 18, ⟨(some 20), .mov (.t 1), some (19, false)⟩, ⟨(some 21), .mov (.t 0), some (19, false)⟩, ⟨(some 22), .bin .eql .prim (.t 20) (.t 21), some (19, false)⟩, oO 23 (.pick (.t 19) (.c (.bool true)) (.t 22)), oS 16 23])
  (.cond (.t 16) (.seq (.region false [oO 4 (.set (oI 0))])
  .ret)
  (.seq (.region false [oM 25 5, oO 26 (.bin .eql .prim (.t 25) (oI 1)), oS 24 26])
  (.cond (.t 24) (.seq (.region false [oM 27 0, oM 28 1, oO 29 (.sidx (.t 28) (oI 0)), oO 30 (.call true 212 [(.t 27), (.t 29)]), oS 4 30])
  .ret)
  (.seq (.region false [oM 32 5, oM 33 0, oO 34 (.len true (.t 33)), oO 35 (.bin .geq .prim (.t 32) (.t 34)), oS 31 35])
  (.cond (.t 31) (.seq (.region false [oO 4 (.set (.c (.int .i64 (-1))))])
  .ret)
  (.seq (.region false [oM 37 5, oO 38 (.bad), oO 39 (.bin .leq .prim (.t 37) (.t 38)), oM 40 39, oG 41 40 (.mov (.t 0)), oG 42 40 (.len true (.t 41)), oG 43 40 (.bin .leq .prim (.t 42) (oI 64)), oO 44 (.pick (.t 40) (.t 43) (.c (.bool false))), oS 36 44])
  (.cond (.t 36) (.seq (.region false [oM 45 0, oM 46 1, oO 47 (.call true 213 [(.t 45), (.t 46)]), oS 4 47])
  .ret)
  .skip)))))))))
  (.seq (.region false [oM 48 1, oO 49 (.sidx (.t 48) (oI 0)), oS 6 49])
  (.seq (.region false [oM 50 1, oO 51 (.sidx (.t 50) (oI 1)), oS 7 51])
  (.seq (.region false [oO 8 (.set (oI 0))])
  (.seq (.region false [oM 52 0, oO 53 (.len true (.t 52)), oM 54 5, oO 55 (.bin .sub .prim (.t 53) (.t 54)), oO 56 (.bin .add .prim (.t 55) (oI 1)), oS 9 56])
  (.seq (.region false [oO 10 (.set (oI 0))])
  (.seq (.block 1 (.loop f166l0))
  (.seq (.region false [oO 4 (.set (.c (.int .i64 (-1))))])
  .ret))))))))))⟩
def f167l0 : ACode := (.seq (.region false [oO 9 (.bin .lss .prim (.t 8) (.t 7))])
  (.seq (.cond (.t 9) .skip
  (.exit 0))
  (.seq (.block 1 (.seq (.region false [oM 10 8, oS 5 10])
  (.seq (.region false [oM 11 1, oM 12 0, oM 13 5, oO 14 (.iaddr 4 (.t 12) (.t 13)), oO 15 (.load (some 4) (.t 14)), oO 16 (.callv true (.t 11) [(.t 15)])])
  (.cond (.t 16) (.seq (.region false [oM 17 5, oS 4 17])
  .ret)
  .skip))))
  (.region false [oO 18 (.bin .add .prim (.t 8) (oI 1)), oM 8 18]))))
def f167 : AFun := ⟨2, 19, [.t 4], (.seq (.region false [oO 4 (.set (oI 0))])
  (.seq (.seq (.region false [oM 6 0, oO 7 (.len false (.t 6)), oO 8 (.mov (oI 0))])
  (.block 0 (.loop f167l0)))
  (.seq (.region false [oO 4 (.set (.c (.int .i64 (-1))))])
  .ret)))⟩
theorem c167 : cfun Tryz.prog 167 = some f167 := by kernel_rfl
def f168l0 : ACode := (.seq (.seq (.region false [oO 29 (.faddr 1 (.t 5)), oO 30 (.load none (.t 29)), oO 31 (.bin .neq .prim (.t 30) (.c (.str []))), oM 32 31, oG 33 32 (.mov (.t 4)), oG 34 32 (.call true 217 [(.t 33), (.c (.str [59]))]), oO 35 (.pick (.t 32) (.t 34) (.c (.bool false)))])
  (.cond (.t 35) .skip
  (.exit 0)))
  (.block 1 (.seq (.region false [oM 37 4, oO 38 (.call true 219 [(.t 37)]), oM 36 38, oO 39 (.extr (.t 36) 0), oO 40 (.extr (.t 36) 1), oO 7 (.alloc [(.str []), (.str [])]), ⟨none, .store true 2 (.t 7) (.t 39), none⟩, oS 8 40])
  (.seq (.seq (.region false [oM 41 8, oO 42 (.un .not (.t 41))])
  (.cond (.t 42) (.seq (.region false [oO 43 (.load (some 4) (.t 5)), ⟨none, .store true 4 (.t 2) (.t 43), none⟩, oO 3 (.set (.c (.bool false)))])
  .ret)
  .skip))
  (.region false [oO 44 (.faddr 2 (.t 5)), oO 45 (.load none (.t 44)), oO 46 (.load (some 2) (.t 7)), oO 47 (.bslice true 2 [(.t 46)]), oO 48 (.append 2 32 (.t 45) (.t 47)), oO 49 (.faddr 2 (.t 5)), ⟨none, .store true 1 (.t 49) (.t 48), none⟩])))))
def f168 : AFun := ⟨1, 64, [.cell 2 (some 4), .t 3], (.seq (.region false [oO 2 (.alloc [(.str []), (.str []), (.nils 2), (.str [])]), oO 3 (.set (.c (.bool false)))])
  (.seq (.region false [oM 10 0, oO 11 (.build [(.str [])] [(0, 1, (.t 10))]), oO 12 (.box (.t 11)), oO 13 (.build [(.str []), (.str []), (.nils 2), (.str [])] []), oO 5 (.alloc [(.str []), (.str []), (.nils 2), (.str [])]), oS 4 12, ⟨none, .store true 4 (.t 5) (.t 13), none⟩])
  (.seq (.region false [oM 14 4, oO 15 (.call true 216 [(.t 14)]), oS 6 15])
  (.seq (.seq (.region false [oM 16 6, oO 17 (.bin .neq .prim (.t 16) (.c (.str []))), oM 18 17, oG 19 18 (.mov (.t 4)), oG 20 18 (.call true 217 [(.t 19), (.c (.str [46]))]), oO 21 (.pick (.t 18) (.t 20) (.c (.bool false)))])
  (.cond (.t 21) (.region false [oM 22 6, oM 23 4, oO 24 (.call true 216 [(.t 23)]), oO 25 (.faddr 0 (.t 5)), ⟨none, .store true 1 (.t 25) (.t 22), none⟩, oS 6 24])
  .skip))
  (.seq (.region false [oM 26 6, oO 27 (.call true 218 [(.t 26)]), oO 28 (.faddr 1 (.t 5)), ⟨none, .store true 1 (.t 28) (.t 27), none⟩])
  (.seq (.block 0 (.loop f168l0))
  (.seq (.region false [oM 50 4, oO 51 (.call true 217 [(.t 50), (.c (.str [58]))]), oS 9 51])
  (.seq (.region false [oM 52 4, oO 53 (.nilchk (.t 52)), oO 54 (.faddr 0 (.t 53)), oO 55 (.load none (.t 54)), oO 56 (.faddr 3 (.t 5)), ⟨none, .store true 1 (.t 56) (.t 55), none⟩])
  (.seq (.region false [oO 57 (.load (some 4) (.t 5)), oO 58 (.faddr 1 (.t 5)), oO 59 (.load none (.t 58)), oO 60 (.bin .neq .prim (.t 59) (.c (.str []))), oM 61 60, oG 62 61 (.mov (.t 9)), oO 63 (.pick (.t 61) (.t 62) (.c (.bool false))), ⟨none, .store true 4 (.t 2) (.t 57), none⟩, oS 3 63])
  .ret)))))))))⟩
theorem c168 : cfun Tryz.prog 168 = some f168 := by kernel_rfl
def f169l0 : ACode := (.seq (.region false [oO 14 (.bin .lss .prim (.t 13) (.t 12))])
  (.seq (.cond (.t 14) .skip
  (.exit 0))
  (.seq (.block 1 (.seq (.region false [oM 15 13, oS 5 15])
  (.seq (.region true [oM 16 0, oM 17 5, oO 18 (.iaddr 2 (.t 16) (.t 17)), oO 19 (.load (some 2) (.t 18)), oM 20 1, oM 21 5, oO 22 (.iaddr 2 (.t 20) (.t 21)), oO 23 (.load (some 2) (.t 22)), oO 24 (.bin .neq (.flat [.str, .str]) (.t 19) (.t 23))])
  (.cond (.t 24) (.seq (.region false [oO 4 (.set (.c (.bool false)))])
  .ret)
  .skip))))
  (.region false [oO 25 (.bin .add .prim (.t 13) (oI 1)), oM 13 25]))))
def f169 : AFun := ⟨2, 26, [.t 4], (.seq (.region false [oO 4 (.set (.c (.bool false)))])
  (.seq (.seq (.region false [oM 6 0, oO 7 (.len false (.t 6)), oM 8 1, oO 9 (.len false (.t 8)), oO 10 (.bin .neq .prim (.t 7) (.t 9))])
  (.cond (.t 10) (.seq (.region false [oO 4 (.set (.c (.bool false)))])
  .ret)
  .skip))
  (.seq (.seq (.region false [oM 11 0, oO 12 (.len false (.t 11)), oO 13 (.mov (oI 0))])
  (.block 0 (.loop f169l0)))
  (.seq (.region false [oO 4 (.set (.c (.bool true)))])
  .ret))))⟩
theorem c169 : cfun Tryz.prog 169 = some f169 := by kernel_rfl
def f170 : AFun := ⟨1, 11, [.t 2], (.seq (.region false [oO 1 (.box (.t 0)), oO 2 (.set (.c (.bool false)))])
  (.seq (.region false [oO 3 (.faddr 1 (.t 1)), oO 4 (.load none (.t 3)), oO 5 (.bin .neq .prim (.t 4) (.c (.str [66, 69, 71, 73, 78]))), oM 6 5, oG 7 6 (.faddr 1 (.t 1)), oG 8 6 (.load none (.t 7)), oG 9 6 (.bin .neq .prim (.t 8) (.c (.str [86, 69, 82, 83, 73, 79, 78]))), oO 10 (.pick (.t 6) (.t 9) (.c (.bool false))), oS 2 10])
  .ret))⟩
theorem c170 : cfun Tryz.prog 170 = some f170 := by kernel_rfl
def f171l0 : ACode := (.seq (.seq (.region false [oM 19 5, oM 20 6, oO 21 (.bin .lss .prim (.t 19) (.t 20))])
  (.cond (.t 21) .skip
  (.exit 0)))
  (.seq (.block 1 (.seq (.region false [oM 24 0, oM 25 5, oO 26 (.sidx (.t 24) (.t 25)), oS 7 26])
  (.seq (.region false [oM 27 1, oM 28 5, oO 29 (.sidx (.t 27) (.t 28)), oS 8 29])
  (.seq (.seq (.region false [oM 30 7, oM 31 8, oO 32 (.bin .or .prim (.t 30) (.t 31)), oO 33 (.bin .geq .prim (.t 32) (.c (.int .u8 128)))])
  (.cond (.t 33) (.exit 1000000)
  .skip))
  (.seq (.seq (.region false [oM 34 8, oM 35 7, oO 36 (.bin .eql .prim (.t 34) (.t 35))])
  (.cond (.t 36) (.exit 1)
  .skip))
  (.seq (.seq (.region false [oM 37 8, oM 38 7, oO 39 (.bin .lss .prim (.t 37) (.t 38))])
  (.cond (.t 39) (.region false [oM 40 7, oM 41 8, oS 8 40, oS 7 41])
  .skip))
  (.seq (.seq (.region false [oM 42 7, oO 43 (.bin .leq .prim (.c (.int .u8 65)) (.t 42)), oM 44 43, oG 45 44 (.mov (.t 7)), oG 46 44 (.bin .leq .prim (.t 45) (.c (.int .u8 90))), oO 47 (.pick (.t 44) (.t 46) (.c (.bool false))), oM 48 47, oG 49 48 (.mov (.t 8)), oG 50 48 (.mov (.t 7)), oG 51 48 (.bin .add .prim (.t 50) (.c (.int .u8 97))), oG 52 48 (.bin .sub .prim (.t 51) (.c (.int .u8 65))), oG 53 48 (.bin .eql .prim (.t 49) (.t 52)), oO 54 (.pick (.t 48) (.t 53) (.c (.bool false)))])
  (.cond (.t 54) (.exit 1)
  .skip))
  (.seq (.region false [oO 4 (.set (.c (.bool false)))])
  .ret))))))))
  (.region false [oM 22 5, oO 23 (.bin .add .prim (.t 22) (oI 1)), oS 5 23])))
def f171l1 : ACode := (.seq (.seq (.region false [oM 107 13, oM 108 10, oO 109 (.bin .neq .prim (.t 107) (.t 108)), oM 110 109, oG 111 110 (.mov (.t 13)), oG 112 110 (.mov (.t 11)), oG 113 110 (.bin .lss .prim (.t 111) (.t 112)), oO 114 (.pick (.t 110) (.t 113) (.c (.bool false)))])
  (.cond (.t 114) .skip
  (.exit 4)))
  (.block 5 (.region false [oM 115 13, oO 116 (.call true 221 [(.t 115)]), oS 13 116])))
def f171l2 : ACode := (.seq (.region false [oO 68 (.next (.t 67)), oO 69 (.extr (.t 68) 0)])
  (.seq (.cond (.t 69) .skip
  (.exit 2))
  (.block 3 (.seq (.region false [oO 70 (.extr (.t 68) 2), oS 10 70])
  (.seq (.seq (.region false [oM 71 1, oO 72 (.len true (.t 71)), oO 73 (.bin .eql .prim (.t 72) (oI 0))])
  (.cond (.t 73) (.seq (.region false [oO 4 (.set (.c (.bool false)))])
  .ret)
  .skip))
  (.seq (.region false [oM 75 1, oO 76 (.call true 220 [(.t 75)]), oM 74 76, oO 77 (.extr (.t 74) 0), oO 78 (.extr (.t 74) 1), oS 11 77, oS 12 78])
  (.seq (.region false [oM 79 1, oM 80 12, oO 81 (.slice none (.t 79) (some (.t 80)) none), oS 1 81])
  (.seq (.seq (.region false [oM 82 11, oM 83 10, oO 84 (.bin .eql .prim (.t 82) (.t 83))])
  (.cond (.t 84) (.exit 3)
  .skip))
  (.seq (.seq (.region false [oM 85 11, oM 86 10, oO 87 (.bin .lss .prim (.t 85) (.t 86))])
  (.cond (.t 87) (.region false [oM 88 10, oM 89 11, oS 11 88, oS 10 89])
  .skip))
  (.seq (.seq (.region false [oM 90 11, oO 91 (.bin .lss .prim (.t 90) (.c (.int .i32 128)))])
  (.cond (.t 91) (.seq (.seq (.region false [oM 92 10, oO 93 (.bin .leq .prim (.c (.int .i32 65)) (.t 92)), oM 94 93, oG 95 94 (.mov (.t 10)), oG 96 94 (.bin .leq .prim (.t 95) (.c (.int .i32 90))), oO 97 (.pick (.t 94) (.t 96) (.c (.bool false))), oM 98 97, oG 99 98 (.mov (.t 11)), oG 100 98 (.mov (.t 10)), oG 101 98 (.bin .add .prim (.t 100) (.c (.int .i32 97))), oG 102 98 (.bin .sub .prim (.t 101) (.c (.int .i32 65))), oG 103 98 (.bin .eql .prim (.t 99) (.t 102)), oO 104 (.pick (.t 98) (.t 103) (.c (.bool false)))])
  (.cond (.t 104) (.exit 3)
  .skip))
  (.seq (.region false [oO 4 (.set (.c (.bool false)))])
  .ret))
  .skip))
  (.seq (.region false [oM 105 10, oO 106 (.call true 221 [(.t 105)]), oS 13 106])
  (.seq (.block 4 (.loop f171l1))
  (.seq (.seq (.region false [oM 117 13, oM 118 11, oO 119 (.bin .eql .prim (.t 117) (.t 118))])
  (.cond (.t 119) (.exit 3)
  .skip))
  (.seq (.region false [oO 4 (.set (.c (.bool false)))])
  .ret))))))))))))))
def f171l3 : ACode := (.seq (.seq (.region false [oM 107 13, oM 108 10, oO 109 (.bin .neq .prim (.t 107) (.t 108)), oM 110 109, oG 111 110 (.mov (.t 13)), oG 112 110 (.mov (.t 11)), oG 113 110 (.bin .lss .prim (.t 111) (.t 112)), oO 114 (.pick (.t 110) (.t 113) (.c (.bool false)))])
  (.cond (.t 114) .skip
  (.exit 4)))
  (.block 5 (.region false [oM 115 13, oO 116 (.call true 221 [(.t 115)]), oS 13 116])))
def f171l4 : ACode := (.seq (.region false [oO 68 (.next (.t 67)), oO 69 (.extr (.t 68) 0)])
  (.seq (.cond (.t 69) .skip
  (.exit 2))
  (.block 3 (.seq (.region false [oO 70 (.extr (.t 68) 2), oS 10 70])
  (.seq (.seq (.region false [oM 71 1, oO 72 (.len true (.t 71)), oO 73 (.bin .eql .prim (.t 72) (oI 0))])
  (.cond (.t 73) (.seq (.region false [oO 4 (.set (.c (.bool false)))])
  .ret)
  .skip))
  (.seq (.region false [oM 75 1, oO 76 (.call true 220 [(.t 75)]), oM 74 76, oO 77 (.extr (.t 74) 0), oO 78 (.extr (.t 74) 1), oS 11 77, oS 12 78])
  (.seq (.region false [oM 79 1, oM 80 12, oO 81 (.slice none (.t 79) (some (.t 80)) none), oS 1 81])
  (.seq (.seq (.region false [oM 82 11, oM 83 10, oO 84 (.bin .eql .prim (.t 82) (.t 83))])
  (.cond (.t 84) (.exit 3)
  .skip))
  (.seq (.seq (.region false [oM 85 11, oM 86 10, oO 87 (.bin .lss .prim (.t 85) (.t 86))])
  (.cond (.t 87) (.region false [oM 88 10, oM 89 11, oS 11 88, oS 10 89])
  .skip))
  (.seq (.seq (.region false [oM 90 11, oO 91 (.bin .lss .prim (.t 90) (.c (.int .i32 128)))])
  (.cond (.t 91) (.seq (.seq (.region false [oM 92 10, oO 93 (.bin .leq .prim (.c (.int .i32 65)) (.t 92)), oM 94 93, oG 95 94 (.mov (.t 10)), oG 96 94 (.bin .leq .prim (.t 95) (.c (.int .i32 90))), oO 97 (.pick (.t 94) (.t 96) (.c (.bool false))), oM 98 97, oG 99 98 (.mov (.t 11)), oG 100 98 (.mov (.t 10)), oG 101 98 (.bin .add .prim (.t 100) (.c (.int .i32 97))), oG 102 98 (.bin .sub .prim (.t 101) (.c (.int .i32 65))), oG 103 98 (.bin .eql .prim (.t 99) (.t 102)), oO 104 (.pick (.t 98) (.t 103) (.c (.bool false)))])
  (.cond (.t 104) (.exit 3)
  .skip))
  (.seq (.region false [oO 4 (.set (.c (.bool false)))])
  .ret))
  .skip))
  (.seq (.region false [oM 105 10, oO 106 (.call true 221 [(.t 105)]), oS 13 106])
  (.seq (.block 4 (.loop f171l3))
  (.seq (.seq (.region false [oM 117 13, oM 118 11, oO 119 (.bin .eql .prim (.t 117) (.t 118))])
  (.cond (.t 119) (.exit 3)
  .skip))
  (.seq (.region false [oO 4 (.set (.c (.bool false)))])
  .ret))))))))))))))
def f171 : AFun := ⟨2, 123, [.t 4], (.seq (.region false [oO 4 (.set (.c (.bool false)))])
  (.jump 1000000 (.seq (.region false [oO 5 (.set (oI 0))])
  (.seq (.seq (.region false [oM 14 0, oO 15 (.len true (.t 14)), oM 16 1, oO 17 (.len true (.t 16)), oO 18 (.mn [(.t 15), (.t 17)]), oS 6 18])
  (.block 0 (.loop f171l0)))
  (.seq (.seq (.region false [oM 55 0, oO 56 (.len true (.t 55)), oM 57 1, oO 58 (.len true (.t 57)), oO 59 (.bin .eql .prim (.t 56) (.t 58)), oS 4 59])
  .ret)
  (.seq .skip
  (.seq (.region false [oM 60 0, oM 61 5, oO 62 (.slice none (.t 60) (some (.t 61)) none), oS 0 62])
  (.seq (.region false [oM 63 1, oM 64 5, oO 65 (.slice none (.t 63) (some (.t 64)) none), oS 1 65])
  (.seq (.seq (.region false [oM 66 0, oO 67 (.range (.t 66))])
  (.block 2 (.loop f171l2)))
  (.seq (.region false [oM 120 1, oO 121 (.len true (.t 120)), oO 122 (.bin .eql .prim (.t 121) (oI 0)), oS 4 122])
  .ret))))))))
  (.seq .skip
  (.seq (.region false [oM 60 0, oM 61 5, oO 62 (.slice none (.t 60) (some (.t 61)) none), oS 0 62])
  (.seq (.region false [oM 63 1, oM 64 5, oO 65 (.slice none (.t 63) (some (.t 64)) none), oS 1 65])
  (.seq (.seq (.region false [oM 66 0, oO 67 (.range (.t 66))])
  (.block 2 (.loop f171l4)))
  (.seq (.region false [oM 120 1, oO 121 (.len true (.t 120)), oO 122 (.bin .eql .prim (.t 121) (oI 0)), oS 4 122])
  .ret)))))))⟩
theorem c171 : cfun Tryz.prog 171 = some f171 := by kernel_rfl
def f172 : AFun := ⟨2, 9, [.t 4], (.seq (.region false [oO 4 (.set (.c (.bool false)))])
  (.seq (.region false [oM 5 0, oM 6 1, oO 7 (.call true 222 [(.t 5), (.t 6)]), oO 8 (.bin .geq .prim (.t 7) (oI 0)), oS 4 8])
  .ret))⟩
theorem c172 : cfun Tryz.prog 172 = some f172 := by kernel_rfl
def f173l0 : ACode := (.seq (.seq (.region false [oM 8 5, oM 9 0, oO 10 (.len true (.t 9)), oO 11 (.bin .lss .prim (.t 8) (.t 10))])
  (.cond (.t 11) .skip
  (.exit 0)))
  (.block 1 (.seq (.region false [oM 13 0, oM 14 5, oO 15 (.slice none (.t 13) (some (.t 14)) none), oO 16 (.call true 220 [(.t 15)]), oM 12 16, oO 17 (.extr (.t 12) 0), oO 18 (.extr (.t 12) 1), oS 6 17, oS 7 18])
  (.seq (.seq (.region false [oM 19 5, oO 20 (.bin .gtr .prim (.t 19) (oI 0)), oM 21 20, oG 22 21 (.mov (.t 5)), oG 23 21 (.mov (.t 7)), oG 24 21 (.bin .add .prim (.t 22) (.t 23)), oG 25 21 (.mov (.t 1)), oG 26 21 (.bin .gtr .prim (.t 24) (.t 25)), oO 27 (.pick (.t 21) (.t 26) (.c (.bool false)))])
  (.cond (.t 27) (.exit 0)
  .skip))
  (.region false [oM 28 5, oM 29 7, oO 30 (.bin .add .prim (.t 28) (.t 29)), oS 5 30])))))
def f173 : AFun := ⟨2, 32, [.t 4], (.seq (.region false [oO 4 (.set (oI 0))])
  (.seq (.region false [oO 5 (.set (oI 0))])
  (.seq (.block 0 (.loop f173l0))
  (.seq (.region false [oM 31 5, oS 4 31])
  .ret))))⟩
theorem c173 : cfun Tryz.prog 173 = some f173 := by kernel_rfl
def f176l0 : ACode := (.seq (.region false [oO 9 (.bin .lss .prim (.t 8) (.t 7))])
  (.seq (.cond (.t 9) .skip
  (.exit 0))
  (.seq (.block 1 (.seq (.region false [oM 10 8, oS 5 10])
  (.seq (.region false [oM 11 1, oM 12 0, oM 13 5, oO 14 (.iaddr 1 (.t 12) (.t 13)), oO 15 (.load none (.t 14)), oO 16 (.callv true (.t 11) [(.t 15)])])
  (.cond (.t 16) (.seq (.region false [oM 17 5, oS 4 17])
  .ret)
  .skip))))
  (.region false [oO 18 (.bin .add .prim (.t 8) (oI 1)), oM 8 18]))))
def f176 : AFun := ⟨2, 19, [.t 4], (.seq (.region false [oO 4 (.set (oI 0))])
  (.seq (.seq (.region false [oM 6 0, oO 7 (.len false (.t 6)), oO 8 (.mov (oI 0))])
  (.block 0 (.loop f176l0)))
  (.seq (.region false [oO 4 (.set (.c (.int .i64 (-1))))])
  .ret)))⟩
theorem c176 : cfun Tryz.prog 176 = some f176 := by kernel_rfl
def f179l0 : ACode := (.seq (.seq (.region false [oM 50 9, oM 51 7, oO 52 (.bin .lss .prim (.t 50) (.t 51))])
  (.cond (.t 52) .skip
  (.exit 1)))
  (.seq (.block 2 (.seq (.seq (.region false [oM 55 0, oM 56 1, oM 57 9, oO 58 (.bin .add .prim (.t 56) (.t 57)), oO 59 (.sidx (.t 55) (.t 58)), oO 60 (.bin .and .prim (.t 59) (.c (.int .u8 192))), oO 61 (.bin .neq .prim (.t 60) (.c (.int .u8 128)))])
  (.cond (.t 61) (.seq (.region false [oO 4 (.set (oI 0)), oO 5 (.set (oI 0))])
  .ret)
  .skip))
  (.region false [oM 62 6, oO 63 (.bin .shl .prim (.t 62) (.c (.int .u64 6))), oM 64 0, oM 65 1, oM 66 9, oO 67 (.bin .add .prim (.t 65) (.t 66)), oO 68 (.sidx (.t 64) (.t 67)), oO 69 (.bin .and .prim (.t 68) (.c (.int .u8 63))), oO 70 (.conv (.int .i64) (.t 69)), oO 71 (.bin .or .prim (.t 63) (.t 70)), oS 6 71])))
  (.region false [oM 53 9, oO 54 (.bin .add .prim (.t 53) (oI 1)), oS 9 54])))
def f179 : AFun := ⟨2, 89, [.t 4, .t 5], (.seq (.region false [oO 4 (.set (oI 0)), oO 5 (.set (oI 0))])
  (.seq (.region false [oM 10 0, oM 11 1, oO 12 (.sidx (.t 10) (.t 11)), oO 13 (.conv (.int .i64) (.t 12)), oS 6 13])
  (.seq (.region false [oO 7 (.set (oI 1)), oO 8 (.set (oI 0))])
  (.seq (.block 0 (.seq (.region false [oM 15 6, oO 16 (.bin .lss .prim (.t 15) (oI 128)), oS 14 16])
  (.cond (.t 14) .skip
  (.seq (.region false [oM 18 6, oO 19 (.bin .geq .prim (.t 18) (oI 192)), oM 20 19, oG 21 20 (.mov (.t 6)), oG 22 20 (.bin .lss .prim (.t 21) (oI 224)), oO 23 (.pick (.t 20) (.t 22) (.c (.bool false))), oS 17 23])
  (.cond (.t 17) (.region false [oM 24 6, oO 25 (.bin .and .prim (.t 24) (oI 31)), oO 7 (.set (oI 2)), oO 8 (.set (oI 128)), oS 6 25])
  (.seq (.region false [oM 27 6, oO 28 (.bin .geq .prim (.t 27) (oI 224)), oM 29 28, oG 30 29 (.mov (.t 6)), oG 31 29 (.bin .lss .prim (.t 30) (oI 240)), oO 32 (.pick (.t 29) (.t 31) (.c (.bool false))), oS 26 32])
  (.cond (.t 26) (.region false [oM 33 6, oO 34 (.bin .and .prim (.t 33) (oI 15)), oO 7 (.set (oI 3)), oO 8 (.set (oI 2048)), oS 6 34])
  (.seq (.region false [oM 36 6, oO 37 (.bin .geq .prim (.t 36) (oI 240)), oM 38 37, oG 39 38 (.mov (.t 6)), oG 40 38 (.bin .lss .prim (.t 39) (oI 248)), oO 41 (.pick (.t 38) (.t 40) (.c (.bool false))), oS 35 41])
  (.cond (.t 35) (.region false [oM 42 6, oO 43 (.bin .and .prim (.t 42) (oI 7)), oO 7 (.set (oI 4)), oO 8 (.set (oI 65536)), oS 6 43])
  (.seq (.region false [oO 4 (.set (oI 0)), oO 5 (.set (oI 0))])
  .ret))))))))))
  (.seq (.seq (.region false [oM 44 1, oM 45 7, oO 46 (.bin .add .prim (.t 44) (.t 45)), oM 47 0, oO 48 (.len true (.t 47)), oO 49 (.bin .gtr .prim (.t 46) (.t 48))])
  (.cond (.t 49) (.seq (.region false [oO 4 (.set (oI 0)), oO 5 (.set (oI 0))])
  .ret)
  .skip))
  (.seq (.seq (.region false [oO 9 (.set (oI 1))])
  (.block 1 (.loop f179l0)))
  (.seq (.seq (.region false [oM 72 6, oM 73 8, oO 74 (.bin .lss .prim (.t 72) (.t 73)), oM 75 74, ⟨(some 76), .mov (.t 6), some (75, false)⟩, ⟨(some 77), .bin .gtr .prim (.t 76) (oI 1114111), some (75, false)⟩, oO 78 (.pick (.t 75) (.c (.bool true)) (.t 77)), oM 79 78, ⟨(some 80), .mov (.t 6), some (79, false)⟩, ⟨(some 81), .bin .geq .prim (.t 80) (oI 55296), some (79, false)⟩, ⟨(some 82), .mov (.t 81), some (79, false)⟩, oG 83 82 (.mov (.t 6)), oG 84 82 (.bin .leq .prim (.t 83) (oI 57343)), ⟨(some 85), .pick (.t 82) (.t 84) (.c (.bool false)), some (79, false)⟩, oO 86 (.pick (.t 79) (.c (.bool true)) (.t 85))])
  (.cond (.t 86) (.seq (.region false [oO 4 (.set (oI 0)), oO 5 (.set (oI 0))])
  .ret)
  .skip))
  (.seq (.region false [oM 87 6, oM 88 7, oS 4 87, oS 5 88])
  .ret))))))))⟩
theorem c179 : cfun Tryz.prog 179 = some f179 := by kernel_rfl
def f180 : AFun := ⟨1, 37, [.t 2], (.seq (.region false [oO 2 (.set (.c (.bool false)))])
  (.seq (.region false [oM 3 0, oO 4 (.bin .eql .prim (.t 3) (oI 9)), oM 5 4, ⟨(some 6), .mov (.t 0), some (5, false)⟩, ⟨(some 7), .bin .eql .prim (.t 6) (oI 10), some (5, false)⟩, oO 8 (.pick (.t 5) (.c (.bool true)) (.t 7)), oM 9 8, ⟨(some 10), .mov (.t 0), some (9, false)⟩, ⟨(some 11), .bin .eql .prim (.t 10) (oI 13), some (9, false)⟩, oO 12 (.pick (.t 9) (.c (.bool true)) (.t 11)), oM 13 12, ⟨(some 14), .mov (.t 0), some (13, false)⟩, ⟨(some 15), .bin .geq .prim (.t 14) (oI 32), some (13, false)⟩, ⟨(some 16), .mov (.t 15), some (13, false)⟩, oG 17 16 (.mov (.t 0)), oG 18 16 (.bin .lss .prim (.t 17) (oI 55296)), ⟨(some 19), .pick (.t 16) (.t 18) (.c (.bool false)), some (13, false)⟩, oO 20 (.pick (.t 13) (.c (.bool true)) (.t 19)), oM 21 20, ⟨(some 22), .mov (.t 0), some (21, false)⟩, ⟨(some 23), .bin .gtr .prim (.t 22) (oI 57343), some (21, false)⟩, ⟨(some 24), .mov (.t 23), some (21, false)⟩, oG 25 24 (.mov (.t 0)), oG 26 24 (.bin .lss .prim (.t 25) (oI 65534)), ⟨(some 27), .pick (.t 24) (.t 26) (.c (.bool false)), some (21, false)⟩, oO 28 (.pick (.t 21) (.c (.bool true)) (.t 27)), oM 29 28, ⟨(some 30), .mov (.t 0), some (29, false)⟩, ⟨(some 31), .bin .gtr .prim (.t 30) (oI 65535), some (29, false)⟩, ⟨(some 32), .mov (.t 31), some (29, false)⟩, oG 33 32 (.mov (.t 0)), oG 34 32 (.bin .leq .prim (.t 33) (oI 1114111)), ⟨(some 35), .pick (.t 32) (.t 34) (.c (.bool false)), some (29, false)⟩, oO 36 (.pick (.t 29) (.c (.bool true)) (.t 35)), oS 2 36])
  .ret))⟩
theorem c180 : cfun Tryz.prog 180 = some f180 := by kernel_rfl
def f181 : AFun := ⟨2, 14, [], (.region false [oM 4 0, oM 5 0, oO 6 (.nilchk (.t 5)), oO 7 (.faddr 0 (.t 6)), oO 8 (.load none (.t 7)), oM 9 1, oO 10 (.bslice true 1 [(.t 9)]), oO 11 (.append 1 16 (.t 8) (.t 10)), oO 12 (.nilchk (.t 4)), oO 13 (.faddr 0 (.t 12)), ⟨none, .store true 1 (.t 13) (.t 11), none⟩])⟩
theorem c181 : cfun Tryz.prog 181 = some f181 := by kernel_rfl
def f182 : AFun := ⟨1, 8, [.t 2], (.seq (.region false [oO 2 (.newnil 1)])
  (.seq (.seq (.region false [oM 3 0, oO 4 (.bin .eql .slc (.t 3) (.c (.nils 1)))])
  (.cond (.t 4) (.seq (.region false [oO 2 (.newnil 1)])
  .ret)
  .skip))
  (.seq (.region false [oO 5 (.bslice true 1 []), oM 6 0, oO 7 (.append 1 16 (.t 5) (.t 6)), oS 2 7])
  .ret)))⟩
theorem c182 : cfun Tryz.prog 182 = some f182 := by kernel_rfl
def f183 : AFun := ⟨2, 13, [.t 4, .t 5, .t 6], (.seq (.region false [oO 4 (.set (.c (.str []))), oO 5 (.set (.c (.str []))), oO 6 (.set (.c (.bool false)))])
  (.seq (.region false [oM 7 0, oM 8 1, oO 9 (.call true 224 [(.t 7), (.t 8)]), oO 10 (.extr (.t 9) 0), oO 11 (.extr (.t 9) 1), oO 12 (.extr (.t 9) 2), oS 4 10, oS 5 11, oS 6 12])
  .ret))⟩
theorem c183 : cfun Tryz.prog 183 = some f183 := by kernel_rfl
def f195 : AFun := ⟨2, 15, [.t 4, .t 5], (.seq (.region false [oO 4 (.set (.c (.str []))), oO 5 (.set (.c (.bool false)))])
  (.seq (.seq (.region false [oM 6 0, oM 7 1, oO 8 (.call true 232 [(.t 6), (.t 7)]), oO 9 (.un .not (.t 8))])
  (.cond (.t 9) (.seq (.region false [oM 10 0, oS 4 10, oO 5 (.set (.c (.bool false)))])
  .ret)
  .skip))
  (.seq (.region false [oM 11 0, oM 12 1, oO 13 (.len true (.t 12)), oO 14 (.slice none (.t 11) (some (.t 13)) none), oS 4 14, oO 5 (.set (.c (.bool true)))])
  .ret)))⟩
theorem c195 : cfun Tryz.prog 195 = some f195 := by kernel_rfl
def f197 : AFun := ⟨1, 8, [.t 2], (.seq (.region false [oO 2 (.set (oI 0))])
  (.seq (.cond (.c (.bool false)) (.seq (.region false [oM 3 0, oO 4 (.conv (.int .u32) (.t 3)), oO 5 (.call true 242 [(.t 4)]), oS 2 5])
  .ret)
  .skip)
  (.seq (.region false [oM 6 0, oO 7 (.call true 243 [(.t 6)]), oS 2 7])
  .ret)))⟩
def f198 : AFun := ⟨1, 9, [.t 2, .t 3], (.seq (.region false [oO 2 (.set (.c (.str []))), oO 3 (.set (oI 0))])
  (.seq (.region false [oM 4 0, oO 5 (.build [.nilfn, .nilfn] [(0, 1, (.c (.fn 202 []))), (1, 1, (.c (.fn 244 [])))]), oO 6 (.call true 201 [(.t 4), (.t 5)]), oO 7 (.extr (.t 6) 0), oO 8 (.extr (.t 6) 1), oS 2 7, oS 3 8])
  .ret))⟩
theorem c198 : cfun Tryz.prog 198 = some f198 := by kernel_rfl
def f199 : AFun := ⟨2, 8, [.t 4], (.seq (.region false [oO 4 (.set (.c (.str [])))])
  (.seq (.region false [oM 5 0, oM 6 1, oO 7 (.call true 248 [(.t 5), (.t 6)]), oS 4 7])
  .ret))⟩
theorem c199 : cfun Tryz.prog 199 = some f199 := by kernel_rfl
def f200l0 : ACode := (.seq (.region false [oO 9 (.bin .lss .prim (.t 8) (.t 7))])
  (.seq (.cond (.t 9) .skip
  (.exit 0))
  (.seq (.block 1 (.seq (.region false [oO 10 (.iaddr 1 (.t 6) (.t 8)), oO 11 (.load none (.t 10)), oS 4 11])
  (.seq (.region false [oM 12 4, oO 13 (.bin .eql .prim (.t 12) (.c (.str []))), oM 14 13, ⟨(some 15), .mov (.t 4), some (14, false)⟩, ⟨(some 16), .call true 250 [(.t 15), (.c (.str [45]))], some (14, false)⟩, oO 17 (.pick (.t 14) (.c (.bool true)) (.t 16)), oM 18 17, ⟨(some 19), .mov (.t 4), some (18, false)⟩, ⟨(some 20), .call true 251 [(.t 19), (.c (.str [45]))], some (18, false)⟩, oO 21 (.pick (.t 18) (.c (.bool true)) (.t 20))])
  (.cond (.t 21) (.seq (.region false [oO 2 (.set (.c (.bool false)))])
  .ret)
  .skip))))
  (.region false [oO 22 (.bin .add .prim (.t 8) (oI 1)), oM 8 22]))))
def f200 : AFun := ⟨1, 23, [.t 2], (.seq (.region false [oO 2 (.set (.c (.bool false)))])
  (.seq (.seq (.region false [oM 5 0, oO 6 (.call true 249 [(.t 5), (.c (.str [46]))]), oO 7 (.len false (.t 6)), oO 8 (.mov (oI 0))])
  (.block 0 (.loop f200l0)))
  (.seq (.region false [oO 2 (.set (.c (.bool true)))])
  .ret)))⟩
theorem c200 : cfun Tryz.prog 200 = some f200 := by kernel_rfl
def f201l0 : ACode := (.seq (.region false [oO 29 (.bin .lss .prim (.t 28) (.t 27))])
  (.seq (.cond (.t 29) .skip
  (.exit 1))
  (.seq (.block 2 (.seq (.region false [oO 30 (.iaddr 1 (.t 26) (.t 28)), oO 31 (.load none (.t 30)), oS 9 31])
  (.region false [oM 32 7, oM 33 9, oO 34 (.conv (.int .i32) (.t 33)), oO 35 (.conv .i2s (.t 34)), oO 36 (.bin .add .prim (.t 32) (.t 35)), oS 7 36])))
  (.region false [oO 37 (.bin .add .prim (.t 28) (oI 1)), oM 28 37]))))
def f201 : AFun := ⟨2, 39, [.t 4, .t 5], (.seq (.region false [oO 3 (.box (.t 1)), oO 4 (.set (.c (.str []))), oO 5 (.set (oI 0))])
  (.seq (.seq (.region false [oM 10 0, oO 11 (.call true 64 [(.t 10)]), oO 12 (.un .not (.t 11))])
  (.cond (.t 12) (.seq (.region false [oO 4 (.set (.c (.str []))), oO 5 (.set (oI 3))])
  .ret)
  .skip))
  (.seq (.region true [oM 13 0, oO 14 (.call false 127 [(.t 13)]), oO 15 (.faddr 0 (.t 3)), oO 16 (.load none (.t 15)), oO 17 (.call false 252 [(.t 14), (.t 16)]), oM 6 17])
  (.seq (.block 0 (.seq (.region false [oM 19 6, oO 20 (.mkfn 254 [(.t 3)]), oO 21 (.call true 253 [(.t 19), (.t 20)]), oS 18 21])
  (.cond (.t 18) (.seq (.region false [oO 4 (.set (.c (.str []))), oO 5 (.set (oI 15))])
  .ret)
  (.seq (.region false [oM 23 6, oO 24 (.call true 255 [(.t 23)]), oO 25 (.un .not (.t 24)), oS 22 25])
  (.cond (.t 22) (.seq (.region false [oO 4 (.set (.c (.str []))), oO 5 (.set (oI 16))])
  .ret)
  .skip)))))
  (.seq (.region false [oO 7 (.set (.c (.str [])))])
  (.seq (.seq (.region false [oM 26 6, oO 27 (.len false (.t 26)), oO 28 (.mov (oI 0))])
  (.block 1 (.loop f201l0)))
  (.seq (.region false [oM 38 7, oS 4 38, oO 5 (.set (oI 0))])
  .ret)))))))⟩
theorem c201 : cfun Tryz.prog 201 = some f201 := by kernel_rfl
def f202 : AFun := ⟨1, 31, [.t 2], (.seq (.region false [oO 2 (.newnil 1)])
  (.seq (.block 0 (.seq (.region false [oM 4 0, oO 5 (.bin .geq .prim (.t 4) (oI 65)), oM 6 5, oG 7 6 (.mov (.t 0)), oG 8 6 (.bin .leq .prim (.t 7) (oI 90)), oO 9 (.pick (.t 6) (.t 8) (.c (.bool false))), oM 10 9, ⟨(some 11), .mov (.t 0), some (10, false)⟩, ⟨(some 12), .bin .geq .prim (.t 11) (oI 192), some (10, false)⟩, ⟨(some 13), .mov (.t 12), some (10, false)⟩, oG 14 13 (.mov (.t 0)), oG 15 13 (.bin .leq .prim (.t 14) (oI 222)), ⟨(some 16), .pick (.t 13) (.t 15) (.c (.bool false)), some (10, false)⟩, ⟨(some 17), .mov (.t 16), some (10, false)⟩, oG 18 17 (.mov (.t 0)), oG 19 17 (.bin .neq .prim (.t 18) (oI 215)), ⟨(some 20), .pick (.t 17) (.t 19) (.c (.bool false)), some (10, false)⟩, oO 21 (.pick (.t 10) (.c (.bool true)) (.t 20)), oS 3 21])
  (.cond (.t 3) (.seq (.region false [oM 22 0, oO 23 (.bin .add .prim (.t 22) (oI 32)), oO 24 (.bslice true 1 [(.t 23)]), oS 2 24])
  .ret)
  (.seq (.region false [oM 26 0, oO 27 (.bin .eql .prim (.t 26) (oI 223)), oS 25 27])
  (.cond (.t 25) (.seq (.region false [oO 28 (.bslice true 1 [(oI 115), (oI 115)]), oS 2 28])
  .ret)
  .skip)))))
  (.seq (.region false [oM 29 0, oO 30 (.call true 206 [(.t 29)]), oS 2 30])
  .ret)))⟩
theorem c202 : cfun Tryz.prog 202 = some f202 := by kernel_rfl
def f203 : AFun := ⟨1, 12, [.t 2], (.seq (.region false [oO 2 (.set (.c (.bool false)))])
  (.seq (.region false [oM 3 0, oO 4 (.call true 204 [(.t 3)]), oO 5 (.un .not (.t 4)), oM 6 5, oG 7 6 (.bslice true 1 [(oI 32), (oI 34), (oI 38), (oI 39), (oI 47), (oI 58), (oI 60), (oI 62), (oI 64)]), oG 8 6 (.mov (.t 0)), oG 9 6 (.call true 205 [(.t 7), (.t 8)]), oG 10 6 (.un .not (.t 9)), oO 11 (.pick (.t 6) (.t 10) (.c (.bool false))), oS 2 11])
  .ret))⟩
theorem c203 : cfun Tryz.prog 203 = some f203 := by kernel_rfl
def f204 : AFun := ⟨1, 6, [.t 2], (.seq (.region false [oO 2 (.set (.c (.bool false)))])
  (.seq (.region false [oO 3 (.call true 256 []), oM 4 0, oO 5 (.call true 245 [(.t 3), (.t 4)]), oS 2 5])
  .ret))⟩
theorem c204 : cfun Tryz.prog 204 = some f204 := by kernel_rfl
def f205 : AFun := ⟨2, 9, [.t 4], (.seq (.region false [oO 4 (.set (.c (.bool false)))])
  (.seq (.region false [oM 5 0, oM 6 1, oO 7 (.call true 257 [(.t 5), (.t 6)]), oO 8 (.bin .geq .prim (.t 7) (oI 0)), oS 4 8])
  .ret))⟩
theorem c205 : cfun Tryz.prog 205 = some f205 := by kernel_rfl
def f206 : AFun := ⟨1, 8, [.t 2], (.seq (.region false [oO 2 (.newnil 1)])
  (.seq (.seq (.region false [oO 3 (.call true 258 []), oM 4 0, oO 5 (.call true 245 [(.t 3), (.t 4)])])
  (.cond (.t 5) (.seq (.region false [oO 2 (.newnil 1)])
  .ret)
  .skip))
  (.seq (.region false [oM 6 0, oO 7 (.bslice true 1 [(.t 6)]), oS 2 7])
  .ret)))⟩
theorem c206 : cfun Tryz.prog 206 = some f206 := by kernel_rfl
def f207 : AFun := ⟨1, 6, [.t 2], (.seq (.region false [oO 2 (.set (.c (.bool false)))])
  (.seq (.region false [oM 3 0, oO 4 (.call true 204 [(.t 3)]), oO 5 (.un .not (.t 4)), oS 2 5])
  .ret))⟩
theorem c207 : cfun Tryz.prog 207 = some f207 := by kernel_rfl
def f209 : AFun := ⟨2, 9, [.t 4], (.seq (.region false [oO 4 (.set (.c (.bool false)))])
  (.seq (.region false [oM 5 0, oM 6 1, oO 7 (.call true 259 [(.t 5), (.t 6)]), oO 8 (.bin .geq .prim (.t 7) (oI 0)), oS 4 8])
  .ret))⟩
theorem c209 : cfun Tryz.prog 209 = some f209 := by kernel_rfl
def f210 : AFun := ⟨1, 8, [.t 3], (.seq (.region false [oO 3 (.set (.c (.bool false)))])
  (.seq (.region false [oO 4 (.load none (.t 1)), oM 5 0, oO 6 (.callv true (.t 4) [(.t 5)]), oO 7 (.un .not (.t 6)), oS 3 7])
  .ret))⟩
theorem c210 : cfun Tryz.prog 210 = some f210 := by kernel_rfl
def f211 : AFun := ⟨2, 15, [.t 4], (.seq (.region false [oO 2 (.box (.t 0)), oO 4 (.set (.c (.bool false)))])
  (.seq (.region false [oM 5 1, oO 6 (.faddr 0 (.t 2)), oO 7 (.load none (.t 6)), oO 8 (.bin .geq .prim (.t 5) (.t 7)), oM 9 8, oG 10 9 (.mov (.t 1)), oG 11 9 (.faddr 1 (.t 2)), oG 12 9 (.load none (.t 11)), oG 13 9 (.bin .leq .prim (.t 10) (.t 12)), oO 14 (.pick (.t 9) (.t 13) (.c (.bool false))), oS 4 14])
  .ret))⟩
theorem c211 : cfun Tryz.prog 211 = some f211 := by kernel_rfl
def f216 : AFun := ⟨1, 28, [.t 2], (.seq (.region false [oO 2 (.set (.c (.str [])))])
  (.seq (.region false [oM 5 0, oO 6 (.nilchk (.t 5)), oO 7 (.faddr 0 (.t 6)), oO 8 (.load none (.t 7)), oO 9 (.call true 262 [(.t 8), (.c (.str [65, 66, 67, 68, 69, 70, 71, 72, 73, 74, 75, 76, 77, 78, 79, 80, 81, 82, 83, 84, 85, 86, 87, 88, 89, 90, 97, 98, 99, 100, 101, 102, 103, 104, 105, 106, 107, 108, 109, 110, 111, 112, 113, 114, 115, 116, 117, 118, 119, 120, 121, 122, 48, 49, 50, 51, 52, 53, 54, 55, 56, 57, 45]))]), oS 3 9])
  (.seq (.region true [oM 10 0, oO 11 (.nilchk (.t 10)), oO 12 (.faddr 0 (.t 11)), oO 13 (.load none (.t 12)), oM 14 0, oO 15 (.nilchk (.t 14)), oO 16 (.faddr 0 (.t 15)), oO 17 (.load none (.t 16)), oO 18 (.len true (.t 17)), oM 19 3, oO 20 (.len true (.t 19)), oO 21 (.bin .sub .prim (.t 18) (.t 20)), oO 22 (.slice none (.t 13) none (some (.t 21))), oS 4 22])
  (.seq (.region false [oM 23 0, oM 24 3, oO 25 (.nilchk (.t 23)), oO 26 (.faddr 0 (.t 25)), ⟨none, .store true 1 (.t 26) (.t 24), none⟩])
  (.seq (.region false [oM 27 4, oS 2 27])
  .ret)))))⟩
theorem c216 : cfun Tryz.prog 216 = some f216 := by kernel_rfl
def f217 : AFun := ⟨2, 21, [.t 4], (.seq (.region false [oO 4 (.set (.c (.bool false)))])
  (.seq (.region false [oM 8 0, oO 9 (.nilchk (.t 8)), oO 10 (.faddr 0 (.t 9)), oO 11 (.load none (.t 10)), oM 12 1, oO 13 (.call true 154 [(.t 11), (.t 12)]), oM 7 13, oO 14 (.extr (.t 7) 0), oO 15 (.extr (.t 7) 1), oS 5 14, oS 6 15])
  (.seq (.region false [oM 16 0, oM 17 5, oO 18 (.nilchk (.t 16)), oO 19 (.faddr 0 (.t 18)), ⟨none, .store true 1 (.t 19) (.t 17), none⟩])
  (.seq (.region false [oM 20 6, oS 4 20])
  .ret))))⟩
theorem c217 : cfun Tryz.prog 217 = some f217 := by kernel_rfl

end Go.Proofs.Ut
