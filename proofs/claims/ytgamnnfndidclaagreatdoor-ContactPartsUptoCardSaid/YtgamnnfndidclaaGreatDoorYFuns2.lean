/- The functions that the laws of sheet and contact reach, as texts of our small language. -/
import Derived.Test.YtgamnnfndidclaaGreatDoorAiCode
import Derived.Test.YtgamnnfndidclaaGreatDoorProg
import Derived.KernelRfl
set_option linter.all false
namespace Go.Proofs.Ut
open Go.Ai
set_option maxRecDepth 100000
def f27l0 : ACode := (.seq (.region false [oO 17 (.bin .lss .prim (.t 16) (.t 15))])
  (.seq (.cond (.t 17) .skip
  (.exit 0))
  (.seq (.block 1 (.seq (.region false [oO 18 (.iaddr 4 (.t 14) (.t 16)), oO 19 (.load (some 4) (.t 18)), oO 7 (.alloc [(.str []), (.str []), (.nils 2), (.str [])]), ⟨none, .store true 4 (.t 7) (.t 19), none⟩])
  (.seq (.both (.wk (.region true [oO 21 (.call true 56 []), oO 22 (.faddr 1 (.t 7)), oO 23 (.load none (.t 22)), oO 24 (.call true 55 [(.t 21), (.t 23)]), oM 20 24, oO 25 (.extr (.t 20) 0), oO 26 (.extr (.t 20) 1), oO 8 (.alloc [(.str []), .nilfn, .nilfn]), ⟨none, .store true 3 (.t 8) (.t 25), none⟩, oS 9 26]))
  (.both (.wk (.region true [oO 21 (.call true 56 []), oO 22 (.faddr 1 (.t 7)), oO 23 (.load none (.t 22)), oO 24 (.call true 55 [(.t 21), (.t 23)]), oM 20 24, oO 25 (.extr (.t 20) 0), oO 8 (.alloc [(.str []), .nilfn, .nilfn]), ⟨none, .store true 3 (.t 8) (.t 25), none⟩, oO 26 (.extr (.t 20) 1), oS 9 26]))
  (.both (.wk (.region true [oO 21 (.call true 56 []), oO 22 (.faddr 1 (.t 7)), oO 23 (.load none (.t 22)), oO 8 (.alloc [(.str []), .nilfn, .nilfn]), oO 24 (.call true 55 [(.t 21), (.t 23)]), oM 20 24, oO 25 (.extr (.t 20) 0), oO 26 (.extr (.t 20) 1), ⟨none, .store true 3 (.t 8) (.t 25), none⟩, oS 9 26]))
  (.both (.wk (.region true [oO 21 (.call true 56 []), oO 22 (.faddr 1 (.t 7)), oO 23 (.load none (.t 22)), oO 8 (.alloc [(.str []), .nilfn, .nilfn]), oO 24 (.call true 55 [(.t 21), (.t 23)]), oM 20 24, oO 25 (.extr (.t 20) 0), ⟨none, .store true 3 (.t 8) (.t 25), none⟩, oO 26 (.extr (.t 20) 1), oS 9 26]))
  (.both (.wk (.region true [oO 8 (.alloc [(.str []), .nilfn, .nilfn]), oO 21 (.call true 56 []), oO 22 (.faddr 1 (.t 7)), oO 23 (.load none (.t 22)), oO 24 (.call true 55 [(.t 21), (.t 23)]), oM 20 24, oO 25 (.extr (.t 20) 0), oO 26 (.extr (.t 20) 1), ⟨none, .store true 3 (.t 8) (.t 25), none⟩, oS 9 26]))
  (.both (.wk (.region true [oO 8 (.alloc [(.str []), .nilfn, .nilfn]), oO 21 (.call true 56 []), oO 22 (.faddr 1 (.t 7)), oO 23 (.load none (.t 22)), oO 24 (.call true 55 [(.t 21), (.t 23)]), oM 20 24, oO 25 (.extr (.t 20) 0), ⟨none, .store true 3 (.t 8) (.t 25), none⟩, oO 26 (.extr (.t 20) 1), oS 9 26]))
  (.both (.wk (.region true [oO 22 (.faddr 1 (.t 7)), oO 21 (.call true 56 []), oO 23 (.load none (.t 22)), oO 24 (.call true 55 [(.t 21), (.t 23)]), oM 20 24, oO 25 (.extr (.t 20) 0), oO 26 (.extr (.t 20) 1), oO 8 (.alloc [(.str []), .nilfn, .nilfn]), ⟨none, .store true 3 (.t 8) (.t 25), none⟩, oS 9 26]))
  (.both (.wk (.region true [oO 22 (.faddr 1 (.t 7)), oO 21 (.call true 56 []), oO 23 (.load none (.t 22)), oO 24 (.call true 55 [(.t 21), (.t 23)]), oM 20 24, oO 25 (.extr (.t 20) 0), oO 8 (.alloc [(.str []), .nilfn, .nilfn]), ⟨none, .store true 3 (.t 8) (.t 25), none⟩, oO 26 (.extr (.t 20) 1), oS 9 26]))
  (.both (.wk (.region true [oO 22 (.faddr 1 (.t 7)), oO 21 (.call true 56 []), oO 23 (.load none (.t 22)), oO 8 (.alloc [(.str []), .nilfn, .nilfn]), oO 24 (.call true 55 [(.t 21), (.t 23)]), oM 20 24, oO 25 (.extr (.t 20) 0), oO 26 (.extr (.t 20) 1), ⟨none, .store true 3 (.t 8) (.t 25), none⟩, oS 9 26]))
  (.both (.wk (.region true [oO 22 (.faddr 1 (.t 7)), oO 21 (.call true 56 []), oO 23 (.load none (.t 22)), oO 8 (.alloc [(.str []), .nilfn, .nilfn]), oO 24 (.call true 55 [(.t 21), (.t 23)]), oM 20 24, oO 25 (.extr (.t 20) 0), ⟨none, .store true 3 (.t 8) (.t 25), none⟩, oO 26 (.extr (.t 20) 1), oS 9 26]))
  (.both (.wk (.region true [oO 22 (.faddr 1 (.t 7)), oO 8 (.alloc [(.str []), .nilfn, .nilfn]), oO 21 (.call true 56 []), oO 23 (.load none (.t 22)), oO 24 (.call true 55 [(.t 21), (.t 23)]), oM 20 24, oO 25 (.extr (.t 20) 0), oO 26 (.extr (.t 20) 1), ⟨none, .store true 3 (.t 8) (.t 25), none⟩, oS 9 26]))
  (.both (.wk (.region true [oO 22 (.faddr 1 (.t 7)), oO 8 (.alloc [(.str []), .nilfn, .nilfn]), oO 21 (.call true 56 []), oO 23 (.load none (.t 22)), oO 24 (.call true 55 [(.t 21), (.t 23)]), oM 20 24, oO 25 (.extr (.t 20) 0), ⟨none, .store true 3 (.t 8) (.t 25), none⟩, oO 26 (.extr (.t 20) 1), oS 9 26]))
  (.both (.wk (.region true [oO 22 (.faddr 1 (.t 7)), oO 23 (.load none (.t 22)), oO 21 (.call true 56 []), oO 24 (.call true 55 [(.t 21), (.t 23)]), oM 20 24, oO 25 (.extr (.t 20) 0), oO 26 (.extr (.t 20) 1), oO 8 (.alloc [(.str []), .nilfn, .nilfn]), ⟨none, .store true 3 (.t 8) (.t 25), none⟩, oS 9 26]))
  (.both (.wk (.region true [oO 22 (.faddr 1 (.t 7)), oO 23 (.load none (.t 22)), oO 21 (.call true 56 []), oO 24 (.call true 55 [(.t 21), (.t 23)]), oM 20 24, oO 25 (.extr (.t 20) 0), oO 8 (.alloc [(.str []), .nilfn, .nilfn]), ⟨none, .store true 3 (.t 8) (.t 25), none⟩, oO 26 (.extr (.t 20) 1), oS 9 26]))
  (.both (.wk (.region true [oO 22 (.faddr 1 (.t 7)), oO 23 (.load none (.t 22)), oO 21 (.call true 56 []), oO 8 (.alloc [(.str []), .nilfn, .nilfn]), oO 24 (.call true 55 [(.t 21), (.t 23)]), oM 20 24, oO 25 (.extr (.t 20) 0), oO 26 (.extr (.t 20) 1), ⟨none, .store true 3 (.t 8) (.t 25), none⟩, oS 9 26]))
  (.both (.wk (.region true [oO 22 (.faddr 1 (.t 7)), oO 23 (.load none (.t 22)), oO 21 (.call true 56 []), oO 8 (.alloc [(.str []), .nilfn, .nilfn]), oO 24 (.call true 55 [(.t 21), (.t 23)]), oM 20 24, oO 25 (.extr (.t 20) 0), ⟨none, .store true 3 (.t 8) (.t 25), none⟩, oO 26 (.extr (.t 20) 1), oS 9 26]))
  (.both (.wk (.region true [oO 22 (.faddr 1 (.t 7)), oO 23 (.load none (.t 22)), oO 8 (.alloc [(.str []), .nilfn, .nilfn]), oO 21 (.call true 56 []), oO 24 (.call true 55 [(.t 21), (.t 23)]), oM 20 24, oO 25 (.extr (.t 20) 0), oO 26 (.extr (.t 20) 1), ⟨none, .store true 3 (.t 8) (.t 25), none⟩, oS 9 26]))
  (.wk (.region true [oO 22 (.faddr 1 (.t 7)), oO 23 (.load none (.t 22)), oO 8 (.alloc [(.str []), .nilfn, .nilfn]), oO 21 (.call true 56 []), oO 24 (.call true 55 [(.t 21), (.t 23)]), oM 20 24, oO 25 (.extr (.t 20) 0), ⟨none, .store true 3 (.t 8) (.t 25), none⟩, oO 26 (.extr (.t 20) 1), oS 9 26])))))))))))))))))))
  (.seq (.seq (.region false [oM 27 9, oM 28 27, oG 29 28 (.faddr 0 (.t 7)), oG 30 28 (.load none (.t 29)), oG 31 28 (.bin .eql .prim (.t 30) (.c (.str []))), oO 32 (.pick (.t 28) (.t 31) (.c (.bool false))), oM 33 32, oG 34 33 (.faddr 2 (.t 7)), oG 35 33 (.load none (.t 34)), oG 36 33 (.len false (.t 35)), oG 37 33 (.bin .eql .prim (.t 36) (oI 0)), oO 38 (.pick (.t 33) (.t 37) (.c (.bool false))), oM 39 38, oG 40 39 (.mov (.t 5)), oG 41 39 (.faddr 1 (.t 7)), oG 42 39 (.load none (.t 41)), oG 43 39 (.look false (.int .i64 0) (.t 40) (.t 42)), oG 44 39 (.bin .eql .prim (.t 43) (oI 0)), oO 45 (.pick (.t 39) (.t 44) (.c (.bool false))), oS 9 45])
  (.seq (.region false [oM 46 9])
  (.cond (.t 46) (.seq (.region false [oO 48 (.faddr 1 (.t 8)), oO 49 (.load none (.t 48)), oO 50 (.faddr 3 (.t 7)), oO 51 (.load none (.t 50)), oO 52 (.callv true (.t 49) [(.t 4), (.t 51)]), oM 47 52, oO 53 (.extr (.t 47) 0), oO 54 (.extr (.t 47) 1), oS 10 53, oS 11 54])
  (.seq (.seq (.region false [oM 55 11, oO 56 (.bin .neq .prim (.t 55) (oI 0))])
  (.cond (.t 56) (.seq (.region false [oO 57 (.build [(.str []), (.str []), (.str []), (.str []), (.str []), (.str []), (.str []), (.str []), (.str []), (.nils 1), (.nils 4)] []), oM 58 11, ⟨none, .store true 11 (.t 2) (.t 57), none⟩, oS 3 58])
  .ret)
  .skip))
  (.region false [oM 59 10, oS 9 59])))
  .skip)))
  (.seq (.seq (.region false [oM 60 9, oO 61 (.un .not (.t 60))])
  (.cond (.t 61) (.seq (.region true [oO 62 (.faddr 10 (.t 4)), oO 63 (.load none (.t 62)), oO 64 (.load (some 4) (.t 7)), oO 65 (.call false 57 [(.t 64)]), oO 66 (.bslice false 4 [(.t 65)]), oO 67 (.append 4 72 (.t 63) (.t 66)), oO 68 (.faddr 10 (.t 4)), ⟨none, .store false 1 (.t 68) (.t 67), none⟩])
  (.exit 1))
  .skip))
  (.region false [oM 69 5, oO 70 (.faddr 1 (.t 7)), oO 71 (.load none (.t 70)), oO 72 (.look false (.int .i64 0) (.t 69) (.t 71)), oO 73 (.bin .add .prim (.t 72) (oI 1)), ⟨none, .mput (.t 69) (.t 71) (.t 73), none⟩]))))))
  (.region false [oO 74 (.bin .add .prim (.t 16) (oI 1)), oM 16 74]))))
def f27 : AFun := ⟨1, 80, [.cell 2 (some 11), .t 3], (.seq (.region false [oO 2 (.alloc [(.str []), (.str []), (.str []), (.str []), (.str []), (.str []), (.str []), (.str []), (.str []), (.nils 1), (.nils 4)]), oO 3 (.set (oI 0))])
  (.seq (.region false [oO 12 (.build [(.str []), (.str []), (.str []), (.str []), (.str []), (.str []), (.str []), (.str []), (.str []), (.nils 1), (.nils 4)] []), oO 13 (.mkmap), oO 4 (.alloc [(.str []), (.str []), (.str []), (.str []), (.str []), (.str []), (.str []), (.str []), (.str []), (.nils 1), (.nils 4)]), ⟨none, .store true 11 (.t 4) (.t 12), none⟩, oS 5 13])
  (.seq (.seq (.region false [oM 14 0, oO 15 (.len false (.t 14)), oO 16 (.mov (oI 0))])
  (.block 0 (.loop f27l0)))
  (.seq (.seq (.region false [oO 75 (.load (some 11) (.t 4)), oO 76 (.call true 35 [(.t 75)]), oO 77 (.un .not (.t 76))])
  (.cond (.t 77) (.seq (.region false [oO 78 (.build [(.str []), (.str []), (.str []), (.str []), (.str []), (.str []), (.str []), (.str []), (.str []), (.nils 1), (.nils 4)] []), ⟨none, .store true 11 (.t 2) (.t 78), none⟩, oO 3 (.set (oI 12))])
  .ret)
  .skip))
  (.seq (.region false [oO 79 (.load (some 11) (.t 4)), ⟨none, .store true 11 (.t 2) (.t 79), none⟩, oO 3 (.set (oI 0))])
  .ret)))))⟩
theorem c27 : cfun Tryz.prog 27 = some f27 := by kernel_rfl
def f28 : AFun := ⟨0, 33, [.t 0], (.seq (.region false [oO 0 (.set (.c (.bool false)))])
  (.seq (.region false [oO 4 (.build [(.str []), (.str []), (.nils 2), (.str [])] [(1, 1, (.c (.str [70, 78]))), (3, 1, (.c (.str [97, 92, 44, 98])))]), oO 5 (.build [(.str []), (.str []), (.nils 2), (.str [])] [(1, 1, (.c (.str [73, 77, 80, 80]))), (3, 1, (.c (.str [120, 109, 112, 112, 58, 65, 64, 72])))]), oO 6 (.build [(.str []), (.str []), (.nils 2), (.str [])] [(1, 1, (.c (.str [88]))), (3, 1, (.c (.str [121])))]), oO 7 (.bslice true 4 [(.t 4), (.t 5), (.t 6)]), oO 8 (.call true 27 [(.t 7)]), oM 3 8, oO 9 (.extr (.t 3) 0), oO 10 (.extr (.t 3) 1), oO 1 (.alloc [(.str []), (.str []), (.str []), (.str []), (.str []), (.str []), (.str []), (.str []), (.str []), (.nils 1), (.nils 4)]), ⟨none, .store true 11 (.t 1) (.t 9), none⟩, oS 2 10])
  (.seq (.region false [oM 11 2, oO 12 (.bin .eql .prim (.t 11) (oI 0)), oM 13 12, oG 14 13 (.faddr 0 (.t 1)), oG 15 13 (.load none (.t 14)), oG 16 13 (.bin .eql .prim (.t 15) (.c (.str [97, 44, 98]))), oO 17 (.pick (.t 13) (.t 16) (.c (.bool false))), oM 18 17, oG 19 18 (.faddr 4 (.t 1)), oG 20 18 (.load none (.t 19)), oG 21 18 (.bin .eql .prim (.t 20) (.c (.str [97, 64, 104]))), oO 22 (.pick (.t 18) (.t 21) (.c (.bool false))), oM 23 22, oG 24 23 (.faddr 10 (.t 1)), oG 25 23 (.load none (.t 24)), oG 26 23 (.len false (.t 25)), oG 27 23 (.bin .eql .prim (.t 26) (oI 1)), oO 28 (.pick (.t 23) (.t 27) (.c (.bool false))), oM 29 28, oG 30 29 (.load (some 11) (.t 1)), oG 31 29 (.call true 35 [(.t 30)]), oO 32 (.pick (.t 29) (.t 31) (.c (.bool false))), oS 0 32])
  .ret)))⟩
theorem c28 : cfun Tryz.prog 28 = some f28 := by kernel_rfl
def f35 : AFun := ⟨1, 82, [.t 2], (.seq (.region false [oO 1 (.box (.t 0)), oO 2 (.set (.c (.bool false)))])
  (.seq (.region false [oO 6 (.faddr 4 (.t 1)), oO 7 (.load none (.t 6)), oO 8 (.call true 63 [(.t 7)]), oM 5 8, oO 9 (.extr (.t 5) 0), oO 10 (.extr (.t 5) 1), oS 3 9, oS 4 10])
  (.seq (.seq (.region false [oO 11 (.faddr 0 (.t 1)), oO 12 (.load none (.t 11)), oO 13 (.bin .eql .prim (.t 12) (.c (.str []))), oM 14 13, ⟨(some 15), .faddr 4 (.t 1), some (14, false)⟩, ⟨(some 16), .load none (.t 15), some (14, false)⟩, ⟨(some 17), .bin .neq .prim (.t 16) (.c (.str [])), some (14, false)⟩, ⟨(some 18), .mov (.t 17), some (14, false)⟩, oG 19 18 (.mov (.t 4)), oG 20 18 (.bin .neq .prim (.t 19) (oI 0)), oG 21 18 (.mov (.t 20)), ⟨(some 22), .mov (.t 3), some (21, false)⟩, ⟨(some 23), .faddr 4 (.t 1), some (21, false)⟩, ⟨(some 24), .load none (.t 23), some (21, false)⟩, ⟨(some 25), .bin .neq .prim (.t 22) (.t 24), some (21, false)⟩, oG 26 18 (.pick (.t 21) (.c (.bool true)) (.t 25)), ⟨(some 27), .pick (.t 18) (.t 26) (.c (.bool false)), some (14, false)⟩, oO 28 (.pick (.t 14) (.c (.bool true)) (.t 27)), oM 29 28, ⟨(some 30), .faddr 10 (.t 1), some (29, false)⟩, ⟨(some 31), .load none (.t 30), some (29, false)⟩, ⟨(some 32), .len false (.t 31), some (29, false)⟩, ⟨(some 33), .bin .gtr .prim (.t 32) (oI 40), some (29, false)⟩, oO 34 (.pick (.t 29) (.c (.bool true)) (.t 33))])
  (.cond (.t 34) (.seq (.region false [oO 2 (.set (.c (.bool false)))])
  .ret)
  .skip))
  (.seq (.seq (.region false [oO 35 (.faddr 7 (.t 1)), oO 36 (.load none (.t 35)), oO 37 (.call true 64 [(.t 36)]), oO 38 (.un .not (.t 37)), oM 39 38, ⟨(some 40), .faddr 7 (.t 1), some (39, false)⟩, ⟨(some 41), .load none (.t 40), some (39, false)⟩, ⟨(some 42), .call true 65 [(.t 41), (.c (.str [13]))], some (39, false)⟩, oO 43 (.pick (.t 39) (.c (.bool true)) (.t 42)), oM 44 43, ⟨(some 45), .faddr 7 (.t 1), some (44, false)⟩, ⟨(some 46), .load none (.t 45), some (44, false)⟩, ⟨(some 47), .call true 66 [(.t 46)], some (44, false)⟩, ⟨(some 48), .bin .gtr .prim (.t 47) (oI 500), some (44, false)⟩, oO 49 (.pick (.t 44) (.c (.bool true)) (.t 48))])
  (.cond (.t 49) (.seq (.region false [oO 2 (.set (.c (.bool false)))])
  .ret)
  .skip))
  (.seq (.region false [oO 51 (.faddr 10 (.t 1)), oO 52 (.load none (.t 51)), oO 53 (.bslice true 1 [(.t 52)]), oO 54 (.call true 67 [(.t 53)]), oM 50 54, oO 55 (.extr (.t 50) 0), oO 56 (.extr (.t 50) 1), oS 4 56])
  (.seq (.region false [oM 57 4, oO 58 (.bin .eql .prim (.t 57) (oI 0)), oM 59 58, oG 60 59 (.faddr 9 (.t 1)), oG 61 59 (.load none (.t 60)), oG 62 59 (.call true 68 [(.t 61)]), oO 63 (.pick (.t 59) (.t 62) (.c (.bool false))), oM 64 63, oG 65 64 (.faddr 0 (.t 1)), oG 66 64 (.load none (.t 65)), oG 67 64 (.faddr 1 (.t 1)), oG 68 64 (.load none (.t 67)), oG 69 64 (.faddr 2 (.t 1)), oG 70 64 (.load none (.t 69)), oG 71 64 (.faddr 3 (.t 1)), oG 72 64 (.load none (.t 71)), oG 73 64 (.faddr 5 (.t 1)), oG 74 64 (.load none (.t 73)), oG 75 64 (.faddr 6 (.t 1)), oG 76 64 (.load none (.t 75)), oG 77 64 (.faddr 8 (.t 1)), oG 78 64 (.load none (.t 77)), oG 79 64 (.bslice true 1 [(.t 66), (.t 68), (.t 70), (.t 72), (.t 74), (.t 76), (.t 78)]), oG 80 64 (.call true 69 [(.t 79)]), oO 81 (.pick (.t 64) (.t 80) (.c (.bool false))), oS 2 81])
  .ret))))))⟩
theorem c35 : cfun Tryz.prog 35 = some f35 := by kernel_rfl
def f40l0 : ACode := (.seq (.seq (.region false [oM 9 6, oM 10 5, oO 11 (.len false (.t 10)), oO 12 (.bin .lss .prim (.t 9) (.t 11))])
  (.cond (.t 12) .skip
  (.exit 0)))
  (.seq (.block 1 (.seq (.region false [oM 15 5, oM 16 6, oO 17 (.iaddr 1 (.t 15) (.t 16)), oO 18 (.load none (.t 17)), oO 19 (.bin .lss .prim (.t 18) (oI 32))])
  (.cond (.t 19) (.seq (.region false [oO 4 (.set (.c (.bool false)))])
  .ret)
  .skip)))
  (.region false [oM 13 6, oO 14 (.bin .add .prim (.t 13) (oI 1)), oS 6 14])))
def f40 : AFun := ⟨2, 28, [.t 4], (.seq (.region false [oO 4 (.set (.c (.bool false)))])
  (.seq (.region false [oM 7 0, oO 8 (.call true 72 [(.t 7)]), oS 5 8])
  (.seq (.seq (.region false [oO 6 (.set (oI 0))])
  (.block 0 (.loop f40l0)))
  (.seq (.region false [oM 20 0, oO 21 (.call true 71 [(.t 20)]), oM 22 21, oG 23 22 (.mov (.t 5)), oG 24 22 (.len false (.t 23)), oG 25 22 (.mov (.t 1)), oG 26 22 (.bin .leq .prim (.t 24) (.t 25)), oO 27 (.pick (.t 22) (.t 26) (.c (.bool false))), oS 4 27])
  .ret))))⟩
theorem c40 : cfun Tryz.prog 40 = some f40 := by kernel_rfl
def f55 : AFun := ⟨2, 17, [.cell 4 (some 3), .t 5], (.seq (.region false [oO 3 (.box (.t 1)), oO 4 (.alloc [(.str []), .nilfn, .nilfn]), oO 5 (.set (.c (.bool false)))])
  (.seq (.region false [oM 7 0, oO 8 (.mkfn 105 [(.t 3)]), oO 9 (.call true 104 [(.t 7), (.t 8)]), oS 6 9])
  (.seq (.seq (.region false [oM 10 6, oO 11 (.bin .lss .prim (.t 10) (oI 0))])
  (.cond (.t 11) (.seq (.region false [oO 12 (.build [(.str []), .nilfn, .nilfn] []), ⟨none, .store true 3 (.t 4) (.t 12), none⟩, oO 5 (.set (.c (.bool false)))])
  .ret)
  .skip))
  (.seq (.region false [oM 13 0, oM 14 6, oO 15 (.iaddr 3 (.t 13) (.t 14)), oO 16 (.load (some 3) (.t 15)), ⟨none, .store true 3 (.t 4) (.t 16), none⟩, oO 5 (.set (.c (.bool true)))])
  .ret))))⟩
theorem c55 : cfun Tryz.prog 55 = some f55 := by kernel_rfl
def f56 : AFun := ⟨0, 11, [.t 0], (.seq (.region false [oO 0 (.newnil 3)])
  (.seq (.region false [oO 1 (.call true 106 [(.c (.str [70, 78])), (.c (.fn 107 []))]), oO 2 (.build [(.str []), .nilfn, .nilfn] [(0, 1, (.c (.str [78]))), (1, 1, (.c (.fn 108 []))), (2, 1, (.c (.fn 109 [])))]), oO 3 (.call true 106 [(.c (.str [78, 73, 67, 75, 78, 65, 77, 69])), (.c (.fn 110 []))]), oO 4 (.build [(.str []), .nilfn, .nilfn] [(0, 1, (.c (.str [73, 77, 80, 80]))), (1, 1, (.c (.fn 111 []))), (2, 1, (.c (.fn 112 [])))]), oO 5 (.call true 106 [(.c (.str [69, 77, 65, 73, 76])), (.c (.fn 113 []))]), oO 6 (.call true 106 [(.c (.str [84, 69, 76])), (.c (.fn 114 []))]), oO 7 (.build [(.str []), .nilfn, .nilfn] [(0, 1, (.c (.str [67, 65, 84, 69, 71, 79, 82, 73, 69, 83]))), (1, 1, (.c (.fn 115 []))), (2, 1, (.c (.fn 116 [])))]), oO 8 (.call true 106 [(.c (.str [78, 79, 84, 69])), (.c (.fn 117 []))]), oO 9 (.call true 106 [(.c (.str [85, 73, 68])), (.c (.fn 118 []))]), oO 10 (.bslice true 3 [(.t 1), (.t 2), (.t 3), (.t 4), (.t 5), (.t 6), (.t 7), (.t 8), (.t 9)]), oS 0 10])
  .ret))⟩
theorem c56 : cfun Tryz.prog 56 = some f56 := by kernel_rfl
def f57 : AFun := ⟨1, 8, [.cell 2 (some 4)], (.seq (.region false [oO 1 (.box (.t 0)), oO 2 (.alloc [(.str []), (.str []), (.nils 2), (.str [])])])
  (.seq (.region false [oO 3 (.faddr 2 (.t 1)), oO 4 (.load none (.t 3)), oO 5 (.call true 119 [(.t 4)]), oO 6 (.faddr 2 (.t 1)), ⟨none, .store true 1 (.t 6) (.t 5), none⟩])
  (.seq (.region false [oO 7 (.load (some 4) (.t 1)), ⟨none, .store true 4 (.t 2) (.t 7), none⟩])
  .ret)))⟩
theorem c57 : cfun Tryz.prog 57 = some f57 := by kernel_rfl
def f63 : AFun := ⟨1, 21, [.t 2, .t 3], (.seq (.region false [oO 2 (.set (.c (.str []))), oO 3 (.set (oI 0))])
  (.seq (.region false [oM 7 0, oO 8 (.call true 122 [(.t 7)]), oM 6 8, oO 9 (.extr (.t 6) 0), oO 10 (.extr (.t 6) 1), oO 4 (.alloc [(.str []), (.str []), (.str [])]), ⟨none, .store true 3 (.t 4) (.t 9), none⟩, oS 5 10])
  (.seq (.block 0 (.seq (.region false [oM 12 5, oO 13 (.bin .neq .prim (.t 12) (oI 0)), oS 11 13])
  (.cond (.t 11) (.seq (.region false [oM 14 5, oO 2 (.set (.c (.str []))), oS 3 14])
  .ret)
  (.seq (.region false [oO 16 (.faddr 2 (.t 4)), oO 17 (.load none (.t 16)), oO 18 (.bin .neq .prim (.t 17) (.c (.str []))), oS 15 18])
  (.cond (.t 15) (.seq (.region false [oO 2 (.set (.c (.str []))), oO 3 (.set (oI 14))])
  .ret)
  .skip)))))
  (.seq (.region false [oO 19 (.load (some 3) (.t 4)), oO 20 (.call true 123 [(.t 19)]), oS 2 20, oO 3 (.set (oI 0))])
  .ret))))⟩
theorem c63 : cfun Tryz.prog 63 = some f63 := by kernel_rfl
def f64 : AFun := ⟨1, 5, [.t 2], (.seq (.region false [oO 2 (.set (.c (.bool false)))])
  (.seq (.region false [oM 3 0, oO 4 (.call true 124 [(.t 3), (.c (.fn 125 []))]), oS 2 4])
  .ret))⟩
theorem c64 : cfun Tryz.prog 64 = some f64 := by kernel_rfl
def f65 : AFun := ⟨2, 9, [.t 4], (.seq (.region false [oO 4 (.set (.c (.bool false)))])
  (.seq (.region false [oM 5 0, oM 6 1, oO 7 (.call true 126 [(.t 5), (.t 6)]), oO 8 (.bin .geq .prim (.t 7) (oI 0)), oS 4 8])
  .ret))⟩
theorem c65 : cfun Tryz.prog 65 = some f65 := by kernel_rfl
def f66 : AFun := ⟨1, 6, [.t 2], (.seq (.region false [oO 2 (.set (oI 0))])
  (.seq (.region false [oM 3 0, oO 4 (.call true 127 [(.t 3)]), oO 5 (.len false (.t 4)), oS 2 5])
  .ret))⟩
theorem c66 : cfun Tryz.prog 66 = some f66 := by kernel_rfl
def f67l0 : ACode := (.seq (.region false [oO 32 (.bin .lss .prim (.t 31) (.t 30))])
  (.seq (.cond (.t 32) .skip
  (.exit 2))
  (.seq (.block 3 (.seq (.region false [oO 33 (.iaddr 4 (.t 29) (.t 31)), oO 34 (.load (some 4) (.t 33)), oO 8 (.alloc [(.str []), (.str []), (.nils 2), (.str [])]), ⟨none, .store true 4 (.t 8) (.t 34), none⟩])
  (.region false [oM 35 4, oO 36 (.load (some 4) (.t 8)), oO 37 (.call true 131 [(.t 36)]), oO 38 (.bslice true 1 [(.t 37)]), oO 39 (.append 1 16 (.t 35) (.t 38)), oS 4 39])))
  (.region false [oO 40 (.bin .add .prim (.t 31) (oI 1)), oM 31 40]))))
def f67l1 : ACode := (.seq (.region false [oO 16 (.bin .lss .prim (.t 15) (.t 14))])
  (.seq (.cond (.t 16) .skip
  (.exit 0))
  (.seq (.block 1 (.seq (.region false [oO 17 (.iaddr 1 (.t 13) (.t 15)), oO 18 (.load none (.t 17)), oS 6 18])
  (.seq (.seq (.region false [oM 19 6, oO 20 (.len false (.t 19)), oO 21 (.bin .gtr .prim (.t 20) (oI 40)), oM 22 21, ⟨(some 23), .mov (.t 6), some (22, false)⟩, ⟨(some 24), .call true 128 [(.t 23), (.c (.fn 129 []))], some (22, false)⟩, oO 25 (.pick (.t 22) (.c (.bool true)) (.t 24))])
  (.cond (.t 25) (.seq (.region false [oO 2 (.set (.c (.str []))), oO 3 (.set (oI 12))])
  .ret)
  .skip))
  (.seq (.region false [oM 26 4, oO 27 (.bslice true 1 [(.c (.str [66, 69, 71, 73, 78, 58, 86, 67, 65, 82, 68])), (.c (.str [86, 69, 82, 83, 73, 79, 78, 58, 52, 46, 48]))]), oO 28 (.append 1 16 (.t 26) (.t 27)), oS 4 28])
  (.seq (.seq (.region false [oM 29 6, oO 30 (.len false (.t 29)), oO 31 (.mov (oI 0))])
  (.block 2 (.loop f67l0)))
  (.region false [oM 41 4, oO 42 (.bslice true 1 [(.c (.str [69, 78, 68, 58, 86, 67, 65, 82, 68]))]), oO 43 (.append 1 16 (.t 41) (.t 42)), oS 4 43]))))))
  (.region false [oO 44 (.bin .add .prim (.t 15) (oI 1)), oM 15 44]))))
def f67 : AFun := ⟨1, 51, [.t 2, .t 3], (.seq (.region false [oO 2 (.set (.c (.str []))), oO 3 (.set (oI 0))])
  (.seq (.seq (.region false [oM 10 0, oO 11 (.len false (.t 10)), oO 12 (.bin .gtr .prim (.t 11) (oI 60))])
  (.cond (.t 12) (.seq (.region false [oO 2 (.set (.c (.str []))), oO 3 (.set (oI 12))])
  .ret)
  .skip))
  (.seq (.region false [oO 4 (.newnil 1)])
  (.seq (.seq (.region false [oM 13 0, oO 14 (.len false (.t 13)), oO 15 (.mov (oI 0))])
  (.block 0 (.loop f67l1)))
  (.seq (.region false [oM 45 4, oO 46 (.call true 132 [(.t 45)]), oS 9 46])
  (.seq (.seq (.region false [oM 47 9, oO 48 (.len true (.t 47)), oO 49 (.bin .gtr .prim (.t 48) (oI 20000))])
  (.cond (.t 49) (.seq (.region false [oO 2 (.set (.c (.str []))), oO 3 (.set (oI 4))])
  .ret)
  .skip))
  (.seq (.region false [oM 50 9, oS 2 50, oO 3 (.set (oI 0))])
  .ret)))))))⟩
theorem c67 : cfun Tryz.prog 67 = some f67 := by kernel_rfl
def f68l0 : ACode := (.seq (.region false [oO 8 (.bin .lss .prim (.t 7) (.t 6))])
  (.seq (.cond (.t 8) .skip
  (.exit 0))
  (.seq (.block 1 (.seq (.region false [oM 9 7, oO 10 (.iaddr 1 (.t 5) (.t 7)), oO 11 (.load none (.t 10)), oS 3 9, oS 4 11])
  (.seq (.region false [oM 12 4, oO 13 (.bin .eql .prim (.t 12) (.c (.str []))), oM 14 13, ⟨(some 15), .mov (.t 3), some (14, false)⟩, ⟨(some 16), .bin .gtr .prim (.t 15) (oI 0), some (14, false)⟩, ⟨(some 17), .mov (.t 16), some (14, false)⟩, oG 18 17 (.mov (.t 4)), oG 19 17 (.mov (.t 0)), oG 20 17 (.mov (.t 3)), oG 21 17 (.bin .sub .prim (.t 20) (oI 1)), oG 22 17 (.iaddr 1 (.t 19) (.t 21)), oG 23 17 (.load none (.t 22)), oG 24 17 (.bin .leq .prim (.t 18) (.t 23)), ⟨(some 25), .pick (.t 17) (.t 24) (.c (.bool false)), some (14, false)⟩, oO 26 (.pick (.t 14) (.c (.bool true)) (.t 25))])
  (.cond (.t 26) (.seq (.region false [oO 2 (.set (.c (.bool false)))])
  .ret)
  .skip))))
  (.region false [oO 27 (.bin .add .prim (.t 7) (oI 1)), oM 7 27]))))
def f68 : AFun := ⟨1, 35, [.t 2], (.seq (.region false [oO 2 (.set (.c (.bool false)))])
  (.seq (.seq (.region false [oM 5 0, oO 6 (.len false (.t 5)), oO 7 (.mov (oI 0))])
  (.block 0 (.loop f68l0)))
  (.seq (.region false [oM 28 0, oO 29 (.len false (.t 28)), oO 30 (.bin .leq .prim (.t 29) (oI 8)), oM 31 30, oG 32 31 (.mov (.t 0)), oG 33 31 (.call true 69 [(.t 32)]), oO 34 (.pick (.t 31) (.t 33) (.c (.bool false))), oS 2 34])
  .ret)))⟩
theorem c68 : cfun Tryz.prog 68 = some f68 := by kernel_rfl
def f69 : AFun := ⟨1, 6, [.t 2], (.seq (.region false [oO 2 (.set (.c (.bool false)))])
  (.seq (.region false [oM 3 0, oO 4 (.call true 133 [(.t 3), (.c (.fn 134 []))]), oO 5 (.un .not (.t 4)), oS 2 5])
  .ret))⟩
theorem c69 : cfun Tryz.prog 69 = some f69 := by kernel_rfl
def f71l0 : ACode := (.seq (.seq (.region false [oM 6 3, oM 7 0, oO 8 (.len true (.t 7)), oO 9 (.bin .lss .prim (.t 6) (.t 8))])
  (.cond (.t 9) .skip
  (.exit 0)))
  (.block 1 (.seq (.region false [oM 11 0, oM 12 3, oO 13 (.call true 139 [(.t 11), (.t 12)]), oM 10 13, oO 14 (.extr (.t 10) 0), oO 15 (.extr (.t 10) 1), oS 4 14, oS 5 15])
  (.seq (.seq (.region false [oM 16 5, oO 17 (.bin .eql .prim (.t 16) (oI 0))])
  (.cond (.t 17) (.seq (.region false [oO 2 (.set (.c (.bool false)))])
  .ret)
  .skip))
  (.region false [oM 18 3, oM 19 5, oO 20 (.bin .add .prim (.t 18) (.t 19)), oS 3 20])))))
def f71 : AFun := ⟨1, 21, [.t 2], (.seq (.region false [oO 2 (.set (.c (.bool false)))])
  (.seq (.seq (.region false [oO 3 (.set (oI 0))])
  (.block 0 (.loop f71l0)))
  (.seq (.region false [oO 2 (.set (.c (.bool true)))])
  .ret)))⟩
theorem c71 : cfun Tryz.prog 71 = some f71 := by kernel_rfl
def f72l0 : ACode := (.seq (.seq (.region false [oM 10 4, oM 11 0, oO 12 (.len true (.t 11)), oO 13 (.bin .lss .prim (.t 10) (.t 12))])
  (.cond (.t 13) .skip
  (.exit 0)))
  (.block 1 (.seq (.region false [oM 15 0, oM 16 4, oO 17 (.call true 139 [(.t 15), (.t 16)]), oM 14 17, oO 18 (.extr (.t 14) 0), oO 19 (.extr (.t 14) 1), oS 5 18, oS 6 19])
  (.seq (.region false [oM 20 3, oM 21 5, oO 22 (.bslice true 1 [(.t 21)]), oO 23 (.append 1 8 (.t 20) (.t 22)), oS 3 23])
  (.region false [oM 24 4, oM 25 6, oO 26 (.bin .add .prim (.t 24) (.t 25)), oS 4 26])))))
def f72 : AFun := ⟨1, 28, [.t 2], (.seq (.region false [oO 2 (.newnil 1)])
  (.seq (.seq (.region false [oM 7 0, oO 8 (.call true 71 [(.t 7)]), oO 9 (.un .not (.t 8))])
  (.cond (.t 9) (.seq (.region false [oO 2 (.newnil 1)])
  .ret)
  .skip))
  (.seq (.region false [oO 3 (.newnil 1)])
  (.seq (.seq (.region false [oO 4 (.set (oI 0))])
  (.block 0 (.loop f72l0)))
  (.seq (.region false [oM 27 3, oS 2 27])
  .ret)))))⟩
theorem c72 : cfun Tryz.prog 72 = some f72 := by kernel_rfl
end Go.Proofs.Ut
