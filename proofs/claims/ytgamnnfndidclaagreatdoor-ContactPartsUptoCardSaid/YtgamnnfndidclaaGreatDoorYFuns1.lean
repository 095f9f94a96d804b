/- The functions that the laws of sheet and contact reach, as texts of our small language. -/
import Derived.Test.YtgamnnfndidclaaGreatDoorAiCode
import Derived.Test.YtgamnnfndidclaaGreatDoorProg
import Derived.KernelRfl
set_option linter.all false
namespace Go.Proofs.Ut
open Go.Ai
set_option maxRecDepth 100000
def f3l0 : ACode := (.seq (.seq (.region false [oM 48 11, oM 49 1, oO 50 (.bin .lss .prim (.t 48) (.t 49))])
  (.cond (.t 50) .skip
  (.exit 0)))
  (.seq (.block 1 (.region false [oM 53 10, oO 54 (.bslice true 1 [(.c (.str [110])), (.c (.str [])), (.c (.str []))]), oO 55 (.bslice true 1 [(.t 54)]), oO 56 (.append 1 24 (.t 53) (.t 55)), oS 10 56]))
  (.region false [oM 51 11, oO 52 (.bin .add .prim (.t 51) (oI 1)), oS 11 52])))
def f3 : AFun := ⟨2, 121, [.t 4], (.seq (.region false [oO 4 (.set (.c (.bool false)))])
  (.seq (.region false [oM 20 1, oO 21 (.conv (.int .u64) (.t 20)), oO 22 (.bin .rem .prim (.t 21) (.c (.int .u64 5))), oO 23 (.conv (.int .i64) (.t 22)), oS 1 23])
  (.seq (.region false [oO 24 (.bslice true 1 []), oO 25 (.bslice true 1 [(.c (.str [106, 105, 100]))]), oO 26 (.bslice true 1 [(.c (.str [110, 97, 109, 101])), (.c (.str [110, 97, 109, 101]))]), oO 27 (.bslice true 1 [(.c (.str [110, 97, 109, 101])), (.c (.str [78, 65, 77, 69]))]), oO 28 (.bslice true 1 [(.c (.str [110, 97, 109, 101])), (.c (.str [120]))]), oO 29 (.bslice true 1 [(.c (.str [110, 97, 109, 101])), (.c (.str []))]), oO 30 (.bslice true 1 [(.t 24), (.t 25), (.t 26), (.t 27), (.t 28), (.t 29)]), oS 5 30])
  (.seq (.region false [oM 31 0, oO 32 (.conv (.int .u64) (.t 31)), oO 33 (.bin .rem .prim (.t 32) (.c (.int .u64 6))), oO 34 (.conv (.int .i64) (.t 33)), oS 6 34])
  (.seq (.region false [oM 36 5, oM 37 6, oO 38 (.iaddr 1 (.t 36) (.t 37)), oO 39 (.load none (.t 38)), oO 40 (.bslice true 1 [(.c (.str [97]))]), oO 41 (.bslice true 1 [(.t 39), (.t 40)]), oO 42 (.call true 14 [(.t 41)]), oM 35 42, oO 43 (.extr (.t 35) 0), oO 44 (.extr (.t 35) 1), oO 45 (.extr (.t 35) 2), oS 7 43, oS 8 44, oS 9 45])
  (.seq (.region false [oO 46 (.bslice true 1 [(.c (.str [110, 97, 109, 101])), (.c (.str [106, 105, 100])), (.c (.str [103, 114, 111, 117, 112, 115]))]), oO 47 (.bslice true 1 [(.t 46)]), oS 10 47])
  (.seq (.seq (.region false [oO 11 (.set (oI 0))])
  (.block 0 (.loop f3l0)))
  (.seq (.region false [oO 57 (.bslice true 1 [(.c (.str [110])), (.c (.str []))]), oO 58 (.bslice true 1 [(.c (.str [110])), (.c (.str [64])), (.c (.str []))]), oO 59 (.bslice true 1 [(.c (.str [110])), (.c (.str [])), (.c (.str [92]))]), oO 60 (.bslice true 1 [(.c (.str [])), (.c (.str [])), (.c (.str []))]), oO 61 (.bslice true 1 [(.c (.str [110])), (.c (.str [])), (.c (.str [])), (.c (.str []))]), oO 62 (.bslice true 1 [(.c (.str [110])), (.c (.str [97, 64, 98, 47, 99])), (.c (.str [92]))]), oO 63 (.bslice true 1 [(.t 57), (.t 58), (.t 59), (.t 60), (.t 61), (.t 62)]), oS 12 63])
  (.seq (.region false [oO 64 (.bslice true 1 [(oI 12), (oI 14), (oI 18), (oI 12), (oI 12), (oI 14)]), oS 13 64])
  (.seq (.region false [oM 66 10, oM 67 12, oM 68 6, oO 69 (.iaddr 1 (.t 67) (.t 68)), oO 70 (.load none (.t 69)), oO 71 (.bslice true 1 [(.t 70)]), oO 72 (.appendf 1 24 (.t 66) (.t 71)), oO 73 (.call true 14 [(.t 72)]), oM 65 73, oO 74 (.extr (.t 65) 0), oO 75 (.extr (.t 65) 1), oO 76 (.extr (.t 65) 2), oS 14 74, oS 15 75, oS 16 76])
  (.seq (.region false [oM 78 10, oO 79 (.call true 14 [(.t 78)]), oM 77 79, oO 80 (.extr (.t 77) 0), oO 81 (.extr (.t 77) 1), oO 82 (.extr (.t 77) 2), oS 17 80, oS 18 81, oS 19 82])
  (.seq (.region false [oO 83 (.call true 15 []), oM 84 83, oG 85 84 (.mov (.t 9)), oG 86 84 (.bin .eql .prim (.t 85) (oI 21)), oO 87 (.pick (.t 84) (.t 86) (.c (.bool false))), oM 88 87, oG 89 88 (.mov (.t 8)), oG 90 88 (.bin .eql .prim (.t 89) (oI 0)), oO 91 (.pick (.t 88) (.t 90) (.c (.bool false))), oM 92 91, oG 93 92 (.mov (.t 16)), oG 94 92 (.mov (.t 13)), oG 95 92 (.mov (.t 6)), oG 96 92 (.iaddr 1 (.t 94) (.t 95)), oG 97 92 (.load none (.t 96)), oG 98 92 (.bin .eql .prim (.t 93) (.t 97)), oO 99 (.pick (.t 92) (.t 98) (.c (.bool false))), oM 100 99, oG 101 100 (.mov (.t 15)), oG 102 100 (.mov (.t 1)), oG 103 100 (.bin .add .prim (.t 102) (oI 1)), oG 104 100 (.bin .eql .prim (.t 101) (.t 103)), oO 105 (.pick (.t 100) (.t 104) (.c (.bool false))), oM 106 105, oG 107 106 (.mov (.t 14)), oG 108 106 (.len false (.t 107)), oG 109 106 (.bin .eql .prim (.t 108) (oI 0)), oO 110 (.pick (.t 106) (.t 109) (.c (.bool false))), oM 111 110, oG 112 111 (.mov (.t 19)), oG 113 111 (.bin .eql .prim (.t 112) (oI 0)), oO 114 (.pick (.t 111) (.t 113) (.c (.bool false))), oM 115 114, oG 116 115 (.mov (.t 17)), oG 117 115 (.len false (.t 116)), oG 118 115 (.mov (.t 1)), oG 119 115 (.bin .eql .prim (.t 117) (.t 118)), oO 120 (.pick (.t 115) (.t 119) (.c (.bool false))), oS 4 120])
  .ret))))))))))))⟩
theorem c3 : cfun Tryz.prog 3 = some f3 := by kernel_rfl
def f4l0 : ACode := (.seq (.seq (.region false [oM 27 6, oM 28 0, oO 29 (.len false (.t 28)), oO 30 (.bin .lss .prim (.t 27) (.t 29))])
  (.cond (.t 30) .skip
  (.exit 0)))
  (.seq (.block 1 (.region false [oM 33 5, oO 34 (.bin .add .prim (.t 33) (oI 5)), oM 35 0, oM 36 6, oO 37 (.iaddr 1 (.t 35) (.t 36)), oO 38 (.load none (.t 37)), oO 39 (.call true 16 [(.t 38)]), oO 40 (.bin .add .prim (.t 34) (.t 39)), oS 5 40]))
  (.region false [oM 31 6, oO 32 (.bin .add .prim (.t 31) (oI 1)), oS 6 32])))
def f4l1 : ACode := (.seq (.seq (.region false [oM 41 7, oM 42 1, oO 43 (.len false (.t 42)), oO 44 (.bin .lss .prim (.t 41) (.t 43))])
  (.cond (.t 44) .skip
  (.exit 2)))
  (.seq (.block 3 (.seq (.region false [oM 47 1, oM 48 7, oO 49 (.iaddr 11 (.t 47) (.t 48)), oO 50 (.load (some 11) (.t 49)), oO 51 (.call true 17 [(.t 50)]), oO 52 (.un .not (.t 51))])
  (.cond (.t 52) (.seq (.region false [oO 53 (.call true 15 []), oS 4 53])
  .ret)
  .skip)))
  (.region false [oM 45 7, oO 46 (.bin .add .prim (.t 45) (oI 1)), oS 7 46])))
def f4 : AFun := ⟨2, 105, [.t 4], (.seq (.region false [oO 4 (.set (.c (.bool false)))])
  (.seq (.seq (.region false [oM 18 0, oO 19 (.len false (.t 18)), oO 20 (.bin .gtr .prim (.t 19) (oI 80)), oM 21 20, ⟨(some 22), .mov (.t 1), some (21, false)⟩, ⟨(some 23), .len false (.t 22), some (21, false)⟩, ⟨(some 24), .bin .gtr .prim (.t 23) (oI 70), some (21, false)⟩, oO 25 (.pick (.t 21) (.c (.bool true)) (.t 24))])
  (.cond (.t 25) (.seq (.region false [oO 26 (.call true 15 []), oS 4 26])
  .ret)
  .skip))
  (.seq (.region false [oO 5 (.set (oI 0))])
  (.seq (.seq (.region false [oO 6 (.set (oI 0))])
  (.block 0 (.loop f4l0)))
  (.seq (.seq (.region false [oO 7 (.set (oI 0))])
  (.block 2 (.loop f4l1)))
  (.seq (.seq (.region false [oM 54 5, oO 55 (.bin .gtr .prim (.t 54) (oI 6000))])
  (.cond (.t 55) (.seq (.region false [oO 56 (.call true 15 []), oS 4 56])
  .ret)
  .skip))
  (.seq (.region false [oM 58 0, oO 59 (.call true 14 [(.t 58)]), oM 57 59, oO 60 (.extr (.t 57) 0), oO 61 (.extr (.t 57) 1), oO 62 (.extr (.t 57) 2), oS 8 60, oS 9 61, oS 10 62])
  (.seq (.region false [oM 64 0, oO 65 (.call true 18 [(.t 64)]), oM 63 65, oO 66 (.extr (.t 63) 0), oO 67 (.extr (.t 63) 1), oO 68 (.extr (.t 63) 2), oS 11 66, oS 12 67, oS 13 68])
  (.seq (.region false [oM 70 1, oO 71 (.call true 19 [(.t 70)]), oM 69 71, oO 72 (.extr (.t 69) 0), oO 73 (.extr (.t 69) 1), oS 14 72, oS 15 73])
  (.seq (.region false [oM 75 1, oO 76 (.call true 20 [(.t 75)]), oM 74 76, oO 77 (.extr (.t 74) 0), oO 78 (.extr (.t 74) 1), oS 16 77, oS 17 78])
  (.seq (.region false [oO 79 (.call true 15 []), oM 80 79, oG 81 80 (.mov (.t 8)), oG 82 80 (.mov (.t 11)), oG 83 80 (.call true 21 [(.t 81), (.t 82), (.c (.fn 22 []))]), oO 84 (.pick (.t 80) (.t 83) (.c (.bool false))), oM 85 84, oG 86 85 (.mov (.t 9)), oG 87 85 (.mov (.t 12)), oG 88 85 (.bin .eql .prim (.t 86) (.t 87)), oO 89 (.pick (.t 85) (.t 88) (.c (.bool false))), oM 90 89, oG 91 90 (.mov (.t 10)), oG 92 90 (.mov (.t 13)), oG 93 90 (.bin .eql .prim (.t 91) (.t 92)), oO 94 (.pick (.t 90) (.t 93) (.c (.bool false))), oM 95 94, oG 96 95 (.mov (.t 14)), oG 97 95 (.mov (.t 16)), oG 98 95 (.call true 23 [(.t 96), (.t 97)]), oO 99 (.pick (.t 95) (.t 98) (.c (.bool false))), oM 100 99, oG 101 100 (.mov (.t 15)), oG 102 100 (.mov (.t 17)), oG 103 100 (.bin .eql .prim (.t 101) (.t 102)), oO 104 (.pick (.t 100) (.t 103) (.c (.bool false))), oS 4 104])
  .ret)))))))))))⟩
theorem c4 : cfun Tryz.prog 4 = some f4 := by kernel_rfl
def f9l0 : ACode := (.seq (.seq (.region false [oM 36 10, oM 37 2, oO 38 (.bin .lss .prim (.t 36) (.t 37))])
  (.cond (.t 38) .skip
  (.exit 0)))
  (.seq (.block 1 (.region false [oM 41 9, oO 42 (.bin .add .prim (.t 41) (.c (.str [59]))), oS 9 42]))
  (.region false [oM 39 10, oO 40 (.bin .add .prim (.t 39) (oI 1)), oS 10 40])))
def f9 : AFun := ⟨4, 159, [.t 8], (.seq (.region false [oO 8 (.set (.c (.bool false)))])
  (.seq (.region false [oM 18 0, oO 19 (.call true 25 [(.t 18), (oI 30)]), oM 20 1, oO 21 (.call true 25 [(.t 20), (oI 30)]), oS 0 19, oS 1 21])
  (.seq (.region false [oM 22 2, oO 23 (.conv (.int .u64) (.t 22)), oO 24 (.bin .rem .prim (.t 23) (.c (.int .u64 8))), oO 25 (.conv (.int .i64) (.t 24)), oM 26 3, oO 27 (.conv (.int .u64) (.t 26)), oO 28 (.bin .rem .prim (.t 27) (.c (.int .u64 5))), oO 29 (.conv (.int .i64) (.t 28)), oS 2 25, oS 3 29])
  (.seq (.region false [oM 30 0, oO 31 (.call true 26 [(.t 30)]), oO 32 (.bin .add .prim (.t 31) (.c (.str [59]))), oM 33 1, oO 34 (.call true 26 [(.t 33)]), oO 35 (.bin .add .prim (.t 32) (.t 34)), oS 9 35])
  (.seq (.seq (.region false [oO 10 (.set (oI 2))])
  (.block 0 (.loop f9l0)))
  (.seq (.region false [oO 44 (.build [(.str []), (.str []), (.nils 2), (.str [])] [(1, 1, (.c (.str [70, 78]))), (3, 1, (.c (.str [110])))]), oM 45 9, oO 46 (.build [(.str []), (.str []), (.nils 2), (.str [])] [(1, 1, (.c (.str [78]))), (3, 1, (.t 45))]), oO 47 (.bslice true 4 [(.t 44), (.t 46)]), oO 48 (.call true 27 [(.t 47)]), oM 43 48, oO 49 (.extr (.t 43) 0), oO 50 (.extr (.t 43) 1), oO 11 (.alloc [(.str []), (.str []), (.str []), (.str []), (.str []), (.str []), (.str []), (.str []), (.str []), (.nils 1), (.nils 4)]), ⟨none, .store true 11 (.t 11) (.t 49), none⟩, oS 12 50])
  (.seq (.region false [oO 51 (.bslice true 1 [(.c (.str [])), (.c (.str [])), (.c (.str [])), (.c (.str [])), (.c (.str []))]), oS 13 51])
  (.seq (.region false [oM 52 13, oM 53 3, oO 54 (.iaddr 1 (.t 52) (.t 53)), ⟨none, .store true 1 (.t 54) (.c (.str [120])), none⟩])
  (.seq (.both (.wk (.region true [oM 57 13, oM 61 13, oM 66 13, oM 71 13, oM 76 13, oO 56 (.build [(.str []), (.str []), (.nils 2), (.str [])] [(1, 1, (.c (.str [70, 78]))), (3, 1, (.c (.str [110])))]), oO 58 (.iaddr 1 (.t 57) (oI 0)), oO 59 (.load none (.t 58)), oO 60 (.bin .add .prim (.t 59) (.c (.str [59]))), oO 62 (.iaddr 1 (.t 61) (oI 1)), oO 63 (.load none (.t 62)), oO 64 (.bin .add .prim (.t 60) (.t 63)), oO 65 (.bin .add .prim (.t 64) (.c (.str [59]))), oO 67 (.iaddr 1 (.t 66) (oI 2)), oO 68 (.load none (.t 67)), oO 69 (.bin .add .prim (.t 65) (.t 68)), oO 70 (.bin .add .prim (.t 69) (.c (.str [59]))), oO 72 (.iaddr 1 (.t 71) (oI 3)), oO 73 (.load none (.t 72)), oO 74 (.bin .add .prim (.t 70) (.t 73)), oO 75 (.bin .add .prim (.t 74) (.c (.str [59]))), oO 77 (.iaddr 1 (.t 76) (oI 4)), oO 78 (.load none (.t 77)), oO 79 (.bin .add .prim (.t 75) (.t 78)), oO 80 (.build [(.str []), (.str []), (.nils 2), (.str [])] [(1, 1, (.c (.str [78]))), (3, 1, (.t 79))]), oO 81 (.bslice true 4 [(.t 56), (.t 80)]), oO 82 (.call true 27 [(.t 81)]), oM 55 82, oO 83 (.extr (.t 55) 0), oO 84 (.extr (.t 55) 1), oO 14 (.alloc [(.str []), (.str []), (.str []), (.str []), (.str []), (.str []), (.str []), (.str []), (.str []), (.nils 1), (.nils 4)]), ⟨none, .store true 11 (.t 14) (.t 83), none⟩, oS 15 84]))
  (.both (.wk (.region true [oM 57 13, oM 61 13, oM 66 13, oM 71 13, oM 76 13, oO 56 (.build [(.str []), (.str []), (.nils 2), (.str [])] [(1, 1, (.c (.str [70, 78]))), (3, 1, (.c (.str [110])))]), oO 58 (.iaddr 1 (.t 57) (oI 0)), oO 59 (.load none (.t 58)), oO 60 (.bin .add .prim (.t 59) (.c (.str [59]))), oO 62 (.iaddr 1 (.t 61) (oI 1)), oO 63 (.load none (.t 62)), oO 64 (.bin .add .prim (.t 60) (.t 63)), oO 65 (.bin .add .prim (.t 64) (.c (.str [59]))), oO 67 (.iaddr 1 (.t 66) (oI 2)), oO 68 (.load none (.t 67)), oO 69 (.bin .add .prim (.t 65) (.t 68)), oO 70 (.bin .add .prim (.t 69) (.c (.str [59]))), oO 72 (.iaddr 1 (.t 71) (oI 3)), oO 73 (.load none (.t 72)), oO 74 (.bin .add .prim (.t 70) (.t 73)), oO 75 (.bin .add .prim (.t 74) (.c (.str [59]))), oO 77 (.iaddr 1 (.t 76) (oI 4)), oO 78 (.load none (.t 77)), oO 79 (.bin .add .prim (.t 75) (.t 78)), oO 80 (.build [(.str []), (.str []), (.nils 2), (.str [])] [(1, 1, (.c (.str [78]))), (3, 1, (.t 79))]), oO 81 (.bslice true 4 [(.t 56), (.t 80)]), oO 82 (.call true 27 [(.t 81)]), oM 55 82, oO 83 (.extr (.t 55) 0), oO 14 (.alloc [(.str []), (.str []), (.str []), (.str []), (.str []), (.str []), (.str []), (.str []), (.str []), (.nils 1), (.nils 4)]), ⟨none, .store true 11 (.t 14) (.t 83), none⟩, oO 84 (.extr (.t 55) 1), oS 15 84]))
  (.both (.wk (.region true [oM 57 13, oM 61 13, oM 66 13, oM 71 13, oM 76 13, oO 56 (.build [(.str []), (.str []), (.nils 2), (.str [])] [(1, 1, (.c (.str [70, 78]))), (3, 1, (.c (.str [110])))]), oO 58 (.iaddr 1 (.t 57) (oI 0)), oO 59 (.load none (.t 58)), oO 60 (.bin .add .prim (.t 59) (.c (.str [59]))), oO 62 (.iaddr 1 (.t 61) (oI 1)), oO 63 (.load none (.t 62)), oO 64 (.bin .add .prim (.t 60) (.t 63)), oO 65 (.bin .add .prim (.t 64) (.c (.str [59]))), oO 67 (.iaddr 1 (.t 66) (oI 2)), oO 68 (.load none (.t 67)), oO 69 (.bin .add .prim (.t 65) (.t 68)), oO 70 (.bin .add .prim (.t 69) (.c (.str [59]))), oO 72 (.iaddr 1 (.t 71) (oI 3)), oO 73 (.load none (.t 72)), oO 74 (.bin .add .prim (.t 70) (.t 73)), oO 75 (.bin .add .prim (.t 74) (.c (.str [59]))), oO 77 (.iaddr 1 (.t 76) (oI 4)), oO 78 (.load none (.t 77)), oO 79 (.bin .add .prim (.t 75) (.t 78)), oO 80 (.build [(.str []), (.str []), (.nils 2), (.str [])] [(1, 1, (.c (.str [78]))), (3, 1, (.t 79))]), oO 81 (.bslice true 4 [(.t 56), (.t 80)]), oO 14 (.alloc [(.str []), (.str []), (.str []), (.str []), (.str []), (.str []), (.str []), (.str []), (.str []), (.nils 1), (.nils 4)]), oO 82 (.call true 27 [(.t 81)]), oM 55 82, oO 83 (.extr (.t 55) 0), oO 84 (.extr (.t 55) 1), ⟨none, .store true 11 (.t 14) (.t 83), none⟩, oS 15 84]))
  (.both (.wk (.region true [oM 57 13, oM 61 13, oM 66 13, oM 71 13, oM 76 13, oO 56 (.build [(.str []), (.str []), (.nils 2), (.str [])] [(1, 1, (.c (.str [70, 78]))), (3, 1, (.c (.str [110])))]), oO 58 (.iaddr 1 (.t 57) (oI 0)), oO 59 (.load none (.t 58)), oO 60 (.bin .add .prim (.t 59) (.c (.str [59]))), oO 62 (.iaddr 1 (.t 61) (oI 1)), oO 63 (.load none (.t 62)), oO 64 (.bin .add .prim (.t 60) (.t 63)), oO 65 (.bin .add .prim (.t 64) (.c (.str [59]))), oO 67 (.iaddr 1 (.t 66) (oI 2)), oO 68 (.load none (.t 67)), oO 69 (.bin .add .prim (.t 65) (.t 68)), oO 70 (.bin .add .prim (.t 69) (.c (.str [59]))), oO 72 (.iaddr 1 (.t 71) (oI 3)), oO 73 (.load none (.t 72)), oO 74 (.bin .add .prim (.t 70) (.t 73)), oO 75 (.bin .add .prim (.t 74) (.c (.str [59]))), oO 77 (.iaddr 1 (.t 76) (oI 4)), oO 78 (.load none (.t 77)), oO 79 (.bin .add .prim (.t 75) (.t 78)), oO 80 (.build [(.str []), (.str []), (.nils 2), (.str [])] [(1, 1, (.c (.str [78]))), (3, 1, (.t 79))]), oO 81 (.bslice true 4 [(.t 56), (.t 80)]), oO 14 (.alloc [(.str []), (.str []), (.str []), (.str []), (.str []), (.str []), (.str []), (.str []), (.str []), (.nils 1), (.nils 4)]), oO 82 (.call true 27 [(.t 81)]), oM 55 82, oO 83 (.extr (.t 55) 0), ⟨none, .store true 11 (.t 14) (.t 83), none⟩, oO 84 (.extr (.t 55) 1), oS 15 84]))
  (.both (.wk (.region true [oM 57 13, oM 61 13, oM 66 13, oM 71 13, oM 76 13, oO 56 (.build [(.str []), (.str []), (.nils 2), (.str [])] [(1, 1, (.c (.str [70, 78]))), (3, 1, (.c (.str [110])))]), oO 58 (.iaddr 1 (.t 57) (oI 0)), oO 59 (.load none (.t 58)), oO 60 (.bin .add .prim (.t 59) (.c (.str [59]))), oO 62 (.iaddr 1 (.t 61) (oI 1)), oO 63 (.load none (.t 62)), oO 64 (.bin .add .prim (.t 60) (.t 63)), oO 65 (.bin .add .prim (.t 64) (.c (.str [59]))), oO 67 (.iaddr 1 (.t 66) (oI 2)), oO 68 (.load none (.t 67)), oO 69 (.bin .add .prim (.t 65) (.t 68)), oO 70 (.bin .add .prim (.t 69) (.c (.str [59]))), oO 72 (.iaddr 1 (.t 71) (oI 3)), oO 73 (.load none (.t 72)), oO 74 (.bin .add .prim (.t 70) (.t 73)), oO 75 (.bin .add .prim (.t 74) (.c (.str [59]))), oO 77 (.iaddr 1 (.t 76) (oI 4)), oO 78 (.load none (.t 77)), oO 79 (.bin .add .prim (.t 75) (.t 78)), oO 80 (.build [(.str []), (.str []), (.nils 2), (.str [])] [(1, 1, (.c (.str [78]))), (3, 1, (.t 79))]), oO 14 (.alloc [(.str []), (.str []), (.str []), (.str []), (.str []), (.str []), (.str []), (.str []), (.str []), (.nils 1), (.nils 4)]), oO 81 (.bslice true 4 [(.t 56), (.t 80)]), oO 82 (.call true 27 [(.t 81)]), oM 55 82, oO 83 (.extr (.t 55) 0), oO 84 (.extr (.t 55) 1), ⟨none, .store true 11 (.t 14) (.t 83), none⟩, oS 15 84]))
  (.wk (.region true [oM 57 13, oM 61 13, oM 66 13, oM 71 13, oM 76 13, oO 56 (.build [(.str []), (.str []), (.nils 2), (.str [])] [(1, 1, (.c (.str [70, 78]))), (3, 1, (.c (.str [110])))]), oO 58 (.iaddr 1 (.t 57) (oI 0)), oO 59 (.load none (.t 58)), oO 60 (.bin .add .prim (.t 59) (.c (.str [59]))), oO 62 (.iaddr 1 (.t 61) (oI 1)), oO 63 (.load none (.t 62)), oO 64 (.bin .add .prim (.t 60) (.t 63)), oO 65 (.bin .add .prim (.t 64) (.c (.str [59]))), oO 67 (.iaddr 1 (.t 66) (oI 2)), oO 68 (.load none (.t 67)), oO 69 (.bin .add .prim (.t 65) (.t 68)), oO 70 (.bin .add .prim (.t 69) (.c (.str [59]))), oO 72 (.iaddr 1 (.t 71) (oI 3)), oO 73 (.load none (.t 72)), oO 74 (.bin .add .prim (.t 70) (.t 73)), oO 75 (.bin .add .prim (.t 74) (.c (.str [59]))), oO 77 (.iaddr 1 (.t 76) (oI 4)), oO 78 (.load none (.t 77)), oO 79 (.bin .add .prim (.t 75) (.t 78)), oO 80 (.build [(.str []), (.str []), (.nils 2), (.str [])] [(1, 1, (.c (.str [78]))), (3, 1, (.t 79))]), oO 14 (.alloc [(.str []), (.str []), (.str []), (.str []), (.str []), (.str []), (.str []), (.str []), (.str []), (.nils 1), (.nils 4)]), oO 81 (.bslice true 4 [(.t 56), (.t 80)]), oO 82 (.call true 27 [(.t 81)]), oM 55 82, oO 83 (.extr (.t 55) 0), ⟨none, .store true 11 (.t 14) (.t 83), none⟩, oO 84 (.extr (.t 55) 1), oS 15 84])))))))
  (.seq (.region false [oO 86 (.build [(.str []), (.str []), (.nils 2), (.str [])] [(1, 1, (.c (.str [70, 78]))), (3, 1, (.c (.str [110])))]), oO 87 (.build [(.str []), (.str []), (.nils 2), (.str [])] [(1, 1, (.c (.str [78]))), (3, 1, (.c (.str [92, 120, 59, 59])))]), oO 88 (.bslice true 4 [(.t 86), (.t 87)]), oO 89 (.call true 27 [(.t 88)]), oM 85 89, oO 90 (.extr (.t 85) 0), oO 91 (.extr (.t 85) 1), oO 16 (.alloc [(.str []), (.str []), (.str []), (.str []), (.str []), (.str []), (.str []), (.str []), (.str []), (.nils 1), (.nils 4)]), ⟨none, .store true 11 (.t 16) (.t 90), none⟩, oS 17 91])
  (.seq (.region true [oO 92 (.call true 28 []), oM 93 92, oG 94 93 (.mov (.t 2)), oG 95 93 (.mx [(.t 94), (oI 2)]), oG 96 93 (.bin .eql .prim (.t 95) (oI 5)), oG 97 93 (.mov (.t 96)), oG 98 97 (.mov (.t 12)), oG 99 97 (.bin .eql .prim (.t 98) (oI 0)), oG 100 93 (.pick (.t 97) (.t 99) (.c (.bool false))), oG 101 93 (.mov (.t 100)), oG 102 101 (.faddr 1 (.t 11)), oG 103 101 (.load none (.t 102)), oG 104 101 (.mov (.t 0)), oG 105 101 (.bin .eql .prim (.t 103) (.t 104)), oG 106 93 (.pick (.t 101) (.t 105) (.c (.bool false))), oG 107 93 (.mov (.t 106)), oG 108 107 (.faddr 2 (.t 11)), oG 109 107 (.load none (.t 108)), oG 110 107 (.mov (.t 1)), oG 111 107 (.bin .eql .prim (.t 109) (.t 110)), oG 112 93 (.pick (.t 107) (.t 111) (.c (.bool false))), oG 113 93 (.mov (.t 112)), ⟨(some 114), .mov (.t 2), some (113, false)⟩, ⟨(some 115), .mx [(.t 114), (oI 2)], some (113, false)⟩, ⟨(some 116), .bin .neq .prim (.t 115) (oI 5), some (113, false)⟩, ⟨(some 117), .mov (.t 116), some (113, false)⟩, oG 118 117 (.mov (.t 12)), oG 119 117 (.bin .eql .prim (.t 118) (oI 12)), ⟨(some 120), .pick (.t 117) (.t 119) (.c (.bool false)), some (113, false)⟩, oG 121 93 (.pick (.t 113) (.c (.bool true)) (.t 120)), oO 122 (.pick (.t 93) (.t 121) (.c (.bool false))), oM 123 122, oG 124 123 (.mov (.t 3)), oG 125 123 (.bin .lss .prim (.t 124) (oI 2)), oG 126 123 (.mov (.t 125)), oG 127 126 (.mov (.t 15)), oG 128 126 (.bin .eql .prim (.t 127) (oI 0)), oG 129 123 (.pick (.t 126) (.t 128) (.c (.bool false))), oG 130 123 (.mov (.t 129)), oG 131 130 (.faddr 1 (.t 14)), oG 132 130 (.load none (.t 131)), oG 133 130 (.mov (.t 13)), oG 134 130 (.iaddr 1 (.t 133) (oI 0)), oG 135 130 (.load none (.t 134)), oG 136 130 (.bin .eql .prim (.t 132) (.t 135)), oG 137 123 (.pick (.t 130) (.t 136) (.c (.bool false))), oG 138 123 (.mov (.t 137)), oG 139 138 (.faddr 2 (.t 14)), oG 140 138 (.load none (.t 139)), oG 141 138 (.mov (.t 13)), oG 142 138 (.iaddr 1 (.t 141) (oI 1)), oG 143 138 (.load none (.t 142)), oG 144 138 (.bin .eql .prim (.t 140) (.t 143)), oG 145 123 (.pick (.t 138) (.t 144) (.c (.bool false))), oG 146 123 (.mov (.t 145)), ⟨(some 147), .mov (.t 3), some (146, false)⟩, ⟨(some 148), .bin .geq .prim (.t 147) (oI 2), some (146, false)⟩, ⟨(some 149), .mov (.t 148), some (146, false)⟩, oG 150 149 (.mov (.t 15)), oG 151 149 (.bin .eql .prim (.t 150) (oI 12)), ⟨(some 152), .pick (.t 149) (.t 151) (.c (.bool false)), some (146, false)⟩, oG 153 123 (.pick (.t 146) (.c (.bool true)) (.t 152)), oO 154 (.pick (.t 123) (.t 153) (.c (.bool false))), oM 155 154, oG 156 155 (.mov (.t 17)), oG 157 155 (.bin .eql .prim (.t 156) (oI 18)), oO 158 (.pick (.t 155) (.t 157) (.c (.bool false))), oS 8 158])
  .ret)))))))))))⟩
theorem c9 : cfun Tryz.prog 9 = some f9 := by kernel_rfl
def f25l0 : ACode := (.seq (.seq (.region false [oM 11 6, oM 12 0, oO 13 (.len true (.t 12)), oO 14 (.bin .lss .prim (.t 11) (.t 13)), oM 15 14, oG 16 15 (.mov (.t 5)), oG 17 15 (.len true (.t 16)), oG 18 15 (.mov (.t 1)), oG 19 15 (.bin .lss .prim (.t 17) (.t 18)), oO 20 (.pick (.t 15) (.t 19) (.c (.bool false)))])
  (.cond (.t 20) .skip
  (.exit 0)))
  (.seq (.block 1 (.seq (.region false [oM 23 0, oM 24 6, oO 25 (.sidx (.t 23) (.t 24)), oO 26 (.bin .geq .prim (.t 25) (.c (.int .u8 32))), oM 27 26, oG 28 27 (.mov (.t 0)), oG 29 27 (.mov (.t 6)), oG 30 27 (.sidx (.t 28) (.t 29)), oG 31 27 (.bin .lss .prim (.t 30) (.c (.int .u8 127))), oO 32 (.pick (.t 27) (.t 31) (.c (.bool false)))])
  (.cond (.t 32) (.region false [oM 33 5, oM 34 0, oM 35 6, oM 36 6, oO 37 (.bin .add .prim (.t 36) (oI 1)), oO 38 (.slice none (.t 34) (some (.t 35)) (some (.t 37))), oO 39 (.bin .add .prim (.t 33) (.t 38)), oS 5 39])
  .skip)))
  (.region false [oM 21 6, oO 22 (.bin .add .prim (.t 21) (oI 1)), oS 6 22])))
def f25 : AFun := ⟨2, 41, [.t 4], (.seq (.region false [oO 4 (.set (.c (.str [])))])
  (.seq (.seq (.region false [oM 7 0, oM 8 1, oO 9 (.call true 40 [(.t 7), (.t 8)])])
  (.cond (.t 9) (.seq (.region false [oM 10 0, oS 4 10])
  .ret)
  .skip))
  (.seq (.region false [oO 5 (.set (.c (.str [])))])
  (.seq (.seq (.region false [oO 6 (.set (oI 0))])
  (.block 0 (.loop f25l0)))
  (.seq (.region false [oM 40 5, oS 4 40])
  .ret)))))⟩
theorem c25 : cfun Tryz.prog 25 = some f25 := by kernel_rfl
def f26l0 : ACode := (.seq (.seq (.region false [oM 5 4, oM 6 0, oO 7 (.len true (.t 6)), oO 8 (.bin .lss .prim (.t 5) (.t 7))])
  (.cond (.t 8) .skip
  (.exit 0)))
  (.seq (.block 1 (.seq (.region false [oM 11 0, oM 12 4, oO 13 (.sidx (.t 11) (.t 12))])
  (.block 2 (.seq (.seq (.region false [oO 22 (.bin .eql .prim (.t 13) (.c (.int .u8 92))), oS 21 22])
  (.cond (.t 21) .skip
  (.seq (.region false [oO 23 (.bin .eql .prim (.t 13) (.c (.int .u8 44))), oS 21 23])
  (.cond (.t 21) .skip
  (.region false [oO 24 (.bin .eql .prim (.t 13) (.c (.int .u8 59))), oS 21 24])))))
  (.cond (.t 21) (.region false [oM 25 3, oO 26 (.bin .add .prim (.t 25) (.c (.str [92]))), oM 27 0, oM 28 4, oM 29 4, oO 30 (.bin .add .prim (.t 29) (oI 1)), oO 31 (.slice none (.t 27) (some (.t 28)) (some (.t 30))), oO 32 (.bin .add .prim (.t 26) (.t 31)), oS 3 32])
  (.seq (.region false [oO 34 (.bin .eql .prim (.t 13) (.c (.int .u8 10))), oS 33 34])
  (.cond (.t 33) (.region false [oM 35 3, oO 36 (.bin .add .prim (.t 35) (.c (.str [92, 110]))), oS 3 36])
  (.seq (.region false [oO 38 (.bin .eql .prim (.t 13) (.c (.int .u8 13))), oS 37 38])
  (.cond (.t 37) .skip
  (.region false [oM 14 3, oM 15 0, oM 16 4, oM 17 4, oO 18 (.bin .add .prim (.t 17) (oI 1)), oO 19 (.slice none (.t 15) (some (.t 16)) (some (.t 18))), oO 20 (.bin .add .prim (.t 14) (.t 19)), oS 3 20]))))))))))
  (.region false [oM 9 4, oO 10 (.bin .add .prim (.t 9) (oI 1)), oS 4 10])))
def f26 : AFun := ⟨1, 40, [.t 2], (.seq (.region false [oO 2 (.set (.c (.str [])))])
  (.seq (.region false [oO 3 (.set (.c (.str [])))])
  (.seq (.seq (.region false [oO 4 (.set (oI 0))])
  (.block 0 (.loop f26l0)))
  (.seq (.region false [oM 39 3, oS 2 39])
  .ret))))⟩
theorem c26 : cfun Tryz.prog 26 = some f26 := by kernel_rfl

end Go.Proofs.Ut
