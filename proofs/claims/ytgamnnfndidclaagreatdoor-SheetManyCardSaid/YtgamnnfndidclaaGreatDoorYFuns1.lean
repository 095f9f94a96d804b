/- The functions that the laws of sheet and contact reach, as texts of our small language. -/
import Derived.Test.YtgamnnfndidclaaGreatDoorAiCode
import Derived.Test.YtgamnnfndidclaaGreatDoorProg
import Derived.KernelRfl
set_option linter.all false
namespace Go.Proofs.Ut
open Go.Ai
set_option maxRecDepth 100000
def f3l0 : ACode := (.seq (.seq (.region false [oM 48 11, oM 49 1, oO 50 (.bin .lss .prim (.t 48) (.t 49))])
  (.cond (.t 50) .skip
  (.exit 0)))
  (.seq (.block 1 (.region false [oM 53 10, oO 54 (.bslice true 1 [(.c (.str [110])), (.c (.str [])), (.c (.str []))]), oO 55 (.bslice true 1 [(.t 54)]), oO 56 (.append 1 24 (.t 53) (.t 55)), oS 10 56]))
  (.region false [oM 51 11, oO 52 (.bin .add .prim (.t 51) (oI 1)), oS 11 52])))
def f3 : AFun := ⟨2, 121, [.t 4], (.seq (.region false [oO 4 (.set (.c (.bool false)))])
  (.seq (.region false [oM 20 1, oO 21 (.conv (.int .u64) (.t 20)), oO 22 (.bin .rem .prim (.t 21) (.c (.int .u64 5))), oO 23 (.conv (.int .i64) (.t 22)), oS 1 23])
  (.seq (.region false [oO 24 (.bslice true 1 []), oO 25 (.bslice true 1 [(.c (.str [106, 105, 100]))]), oO 26 (.bslice true 1 [(.c (.str [110, 97, 109, 101])), (.c (.str [110, 97, 109, 101]))]), oO 27 (.bslice true 1 [(.c (.str [110, 97, 109, 101])), (.c (.str [78, 65, 77, 69]))]), oO 28 (.bslice true 1 [(.c (.str [110, 97, 109, 101])), (.c (.str [120]))]), oO 29 (.bslice true 1 [(.c (.str [110, 97, 109, 101])), (.c (.str []))]), oO 30 (.bslice true 1 [(.t 24), (.t 25), (.t 26), (.t 27), (.t 28), (.t 29)]), oS 5 30])
  (.seq (.region false [oM 31 0, oO 32 (.conv (.int .u64) (.t 31)), oO 33 (.bin .rem .prim (.t 32) (.c (.int .u64 6))), oO 34 (.conv (.int .i64) (.t 33)), oS 6 34])
  (.seq (.region false [oM 36 5, oM 37 6, oO 38 (.iaddr 1 (.t 36) (.t 37)), oO 39 (.load none (.t 38)), oO 40 (.bslice true 1 [(.c (.str [97]))]), oO 41 (.bslice true 1 [(.t 39), (.t 40)]), oO 42 (.call true 14 [(.t 41)]), oM 35 42, oO 43 (.extr (.t 35) 0), oO 44 (.extr (.t 35) 1), oO 45 (.extr (.t 35) 2), oS 7 43, oS 8 44, oS 9 45])
  (.seq (.region false [oO 46 (.bslice true 1 [(.c (.str [110, 97, 109, 101])), (.c (.str [106, 105, 100])), (.c (.str [103, 114, 111, 117, 112, 115]))]), oO 47 (.bslice true 1 [(.t 46)]), oS 10 47])
  (.seq (.seq (.region false [oO 11 (.set (oI 0))])
  (.block 0 (.loop f3l0)))
  (.seq (.region false [oO 57 (.bslice true 1 [(.c (.str [110])), (.c (.str []))]), oO 58 (.bslice true 1 [(.c (.str [110])), (.c (.str [64])), (.c (.str []))]), oO 59 (.bslice true 1 [(.c (.str [110])), (.c (.str [])), (.c (.str [92]))]), oO 60 (.bslice true 1 [(.c (.str [])), (.c (.str [])), (.c (.str []))]), oO 61 (.bslice true 1 [(.c (.str [110])), (.c (.str [])), (.c (.str [])), (.c (.str []))]), oO 62 (.bslice true 1 [(.c (.str [110])), (.c (.str [97, 64, 98, 47, 99])), (.c (.str [92]))]), oO 63 (.bslice true 1 [(.t 57), (.t 58), (.t 59), (.t 60), (.t 61), (.t 62)]), oS 12 63])
  (.seq (.region false [oO 64 (.bslice true 1 [(oI 12), (oI 14), (oI 18), (oI 12), (oI 12), (oI 14)]), oS 13 64])
  (.seq (.region false [oM 66 10, oM 67 12, oM 68 6, oO 69 (.iaddr 1 (.t 67) (.t 68)), oO 70 (.load none (.t 69)), oO 71 (.bslice true 1 [(.t 70)]), oO 72 (.appendf 1 24 (.t 66) (.t 71)), oO 73 (.call true 14 [(.t 72)]), oM 65 73, oO 74 (.extr (.t 65) 0), oO 75 (.extr (.t 65) 1), oO 76 (.extr (.t 65) 2), oS 14 74, oS 15 75, oS 16 76])
  (.seq (.region false [oM 78 10, oO 79 (.call true 14 [(.t 78)]), oM 77 79, oO 80 (.extr (.t 77) 0), oO 81 (.extr (.t 77) 1), oO 82 (.extr (.t 77) 2), oS 17 80, oS 18 81, oS 19 82])
  (.seq (.region false [oO 83 (.call true 15 []), oM 84 83, oG 85 84 (.mov (.t 9)), oG 86 84 (.bin .eql .prim (.t 85) (oI 21)), oO 87 (.pick (.t 84) (.t 86) (.c (.bool false))), oM 88 87, oG 89 88 (.mov (.t 8)), oG 90 88 (.bin .eql .prim (.t 89) (oI 0)), oO 91 (.pick (.t 88) (.t 90) (.c (.bool false))), oM 92 91, oG 93 92 (.mov (.t 16)), oG 94 92 (.mov (.t 13)), oG 95 92 (.mov (.t 6)), oG 96 92 (.iaddr 1 (.t 94) (.t 95)), oG 97 92 (.load none (.t 96)), oG 98 92 (.bin .eql .prim (.t 93) (.t 97)), oO 99 (.pick (.t 92) (.t 98) (.c (.bool false))), oM 100 99, oG 101 100 (.mov (.t 15)), oG 102 100 (.mov (.t 1)), oG 103 100 (.bin .add .prim (.t 102) (oI 1)), oG 104 100 (.bin .eql .prim (.t 101) (.t 103)), oO 105 (.pick (.t 100) (.t 104) (.c (.bool false))), oM 106 105, oG 107 106 (.mov (.t 14)), oG 108 106 (.len false (.t 107)), oG 109 106 (.bin .eql .prim (.t 108) (oI 0)), oO 110 (.pick (.t 106) (.t 109) (.c (.bool false))), oM 111 110, oG 112 111 (.mov (.t 19)), oG 113 111 (.bin .eql .prim (.t 112) (oI 0)), oO 114 (.pick (.t 111) (.t 113) (.c (.bool false))), oM 115 114, oG 116 115 (.mov (.t 17)), oG 117 115 (.len false (.t 116)), oG 118 115 (.mov (.t 1)), oG 119 115 (.bin .eql .prim (.t 117) (.t 118)), oO 120 (.pick (.t 115) (.t 119) (.c (.bool false))), oS 4 120])
  .ret))))))))))))⟩
theorem c3 : cfun Tryz.prog 3 = some f3 := by kernel_rfl
def f4l0 : ACode := (.seq (.seq (.region false [oM 27 6, oM 28 0, oO 29 (.len false (.t 28)), oO 30 (.bin .lss .prim (.t 27) (.t 29))])
  (.cond (.t 30) .skip
  (.exit 0)))
  (.seq (.block 1 (.region false [oM 33 5, oO 34 (.bin .add .prim (.t 33) (oI 5)), oM 35 0, oM 36 6, oO 37 (.iaddr 1 (.t 35) (.t 36)), oO 38 (.load none (.t 37)), oO 39 (.call true 16 [(.t 38)]), oO 40 (.bin .add .prim (.t 34) (.t 39)), oS 5 40]))
  (.region false [oM 31 6, oO 32 (.bin .add .prim (.t 31) (oI 1)), oS 6 32])))
def f4l1 : ACode := (.seq (.seq (.region false [oM 41 7, oM 42 1, oO 43 (.len false (.t 42)), oO 44 (.bin .lss .prim (.t 41) (.t 43))])
  (.cond (.t 44) .skip
  (.exit 2)))
  (.seq (.block 3 (.seq (.region false [oM 47 1, oM 48 7, oO 49 (.iaddr 11 (.t 47) (.t 48)), oO 50 (.load (some 11) (.t 49)), oO 51 (.call true 17 [(.t 50)]), oO 52 (.un .not (.t 51))])
  (.cond (.t 52) (.seq (.region false [oO 53 (.call true 15 []), oS 4 53])
  .ret)
  .skip)))
  (.region false [oM 45 7, oO 46 (.bin .add .prim (.t 45) (oI 1)), oS 7 46])))
def f4 : AFun := ⟨2, 105, [.t 4], (.seq (.region false [oO 4 (.set (.c (.bool false)))])
  (.seq (.seq (.region false [oM 18 0, oO 19 (.len false (.t 18)), oO 20 (.bin .gtr .prim (.t 19) (oI 80)), oM 21 20, ⟨(some 22), .mov (.t 1), some (21, false)⟩, ⟨(some 23), .len false (.t 22), some (21, false)⟩, ⟨(some 24), .bin .gtr .prim (.t 23) (oI 70), some (21, false)⟩, oO 25 (.pick (.t 21) (.c (.bool true)) (.t 24))])
  (.cond (.t 25) (.seq (.region false [oO 26 (.call true 15 []), oS 4 26])
  .ret)
  .skip))
  (.seq (.region false [oO 5 (.set (oI 0))])
  (.seq (.seq (.region false [oO 6 (.set (oI 0))])
  (.block 0 (.loop f4l0)))
  (.seq (.seq (.region false [oO 7 (.set (oI 0))])
  (.block 2 (.loop f4l1)))
  (.seq (.seq (.region false [oM 54 5, oO 55 (.bin .gtr .prim (.t 54) (oI 6000))])
  (.cond (.t 55) (.seq (.region false [oO 56 (.call true 15 []), oS 4 56])
  .ret)
  .skip))
  (.seq (.region false [oM 58 0, oO 59 (.call true 14 [(.t 58)]), oM 57 59, oO 60 (.extr (.t 57) 0), oO 61 (.extr (.t 57) 1), oO 62 (.extr (.t 57) 2), oS 8 60, oS 9 61, oS 10 62])
  (.seq (.region false [oM 64 0, oO 65 (.call true 18 [(.t 64)]), oM 63 65, oO 66 (.extr (.t 63) 0), oO 67 (.extr (.t 63) 1), oO 68 (.extr (.t 63) 2), oS 11 66, oS 12 67, oS 13 68])
  (.seq (.region false [oM 70 1, oO 71 (.call true 19 [(.t 70)]), oM 69 71, oO 72 (.extr (.t 69) 0), oO 73 (.extr (.t 69) 1), oS 14 72, oS 15 73])
  (.seq (.region false [oM 75 1, oO 76 (.call true 20 [(.t 75)]), oM 74 76, oO 77 (.extr (.t 74) 0), oO 78 (.extr (.t 74) 1), oS 16 77, oS 17 78])
  (.seq (.region false [oO 79 (.call true 15 []), oM 80 79, oG 81 80 (.mov (.t 8)), oG 82 80 (.mov (.t 11)), oG 83 80 (.call true 21 [(.t 81), (.t 82), (.c (.fn 22 []))]), oO 84 (.pick (.t 80) (.t 83) (.c (.bool false))), oM 85 84, oG 86 85 (.mov (.t 9)), oG 87 85 (.mov (.t 12)), oG 88 85 (.bin .eql .prim (.t 86) (.t 87)), oO 89 (.pick (.t 85) (.t 88) (.c (.bool false))), oM 90 89, oG 91 90 (.mov (.t 10)), oG 92 90 (.mov (.t 13)), oG 93 90 (.bin .eql .prim (.t 91) (.t 92)), oO 94 (.pick (.t 90) (.t 93) (.c (.bool false))), oM 95 94, oG 96 95 (.mov (.t 14)), oG 97 95 (.mov (.t 16)), oG 98 95 (.call true 23 [(.t 96), (.t 97)]), oO 99 (.pick (.t 95) (.t 98) (.c (.bool false))), oM 100 99, oG 101 100 (.mov (.t 15)), oG 102 100 (.mov (.t 17)), oG 103 100 (.bin .eql .prim (.t 101) (.t 102)), oO 104 (.pick (.t 100) (.t 103) (.c (.bool false))), oS 4 104])
  .ret)))))))))))⟩
theorem c4 : cfun Tryz.prog 4 = some f4 := by kernel_rfl
def f5l0 : ACode := (.seq (.seq (.region false [oM 10 4, oM 11 0, oO 12 (.len false (.t 11)), oO 13 (.bin .lss .prim (.t 10) (.t 12)), oM 14 13, oG 15 14 (.mov (.t 4)), oG 16 14 (.bin .lss .prim (.t 15) (oI 20)), oO 17 (.pick (.t 14) (.t 16) (.c (.bool false)))])
  (.cond (.t 17) .skip
  (.exit 0)))
  (.seq (.block 1 (.seq (.seq (.region false [oM 20 0, oM 21 4, oO 22 (.iaddr 11 (.t 20) (.t 21)), oO 23 (.load (some 11) (.t 22)), oO 24 (.call true 17 [(.t 23)]), oO 25 (.un .not (.t 24))])
  (.cond (.t 25) (.seq (.region false [oO 26 (.call true 15 []), oS 2 26])
  .ret)
  .skip))
  (.region false [oM 27 3, oM 28 0, oM 29 4, oO 30 (.iaddr 11 (.t 28) (.t 29)), oO 31 (.load (some 11) (.t 30)), oO 32 (.call true 24 [(.t 31)]), oO 33 (.bslice true 11 [(.t 32)]), oO 34 (.append 11 192 (.t 27) (.t 33)), oS 3 34])))
  (.region false [oM 18 4, oO 19 (.bin .add .prim (.t 18) (oI 1)), oS 4 19])))
def f5 : AFun := ⟨1, 72, [.t 2], (.seq (.region false [oO 2 (.set (.c (.bool false)))])
  (.seq (.region false [oO 3 (.newnil 11)])
  (.seq (.seq (.region false [oO 4 (.set (oI 0))])
  (.block 0 (.loop f5l0)))
  (.seq (.region false [oM 36 3, oO 37 (.call true 19 [(.t 36)]), oM 35 37, oO 38 (.extr (.t 35) 0), oO 39 (.extr (.t 35) 1), oS 5 38, oS 6 39])
  (.seq (.region false [oM 41 5, oO 42 (.call true 14 [(.t 41)]), oM 40 42, oO 43 (.extr (.t 40) 0), oO 44 (.extr (.t 40) 1), oO 45 (.extr (.t 40) 2), oS 7 43, oS 8 44, oS 9 45])
  (.seq (.region false [oO 46 (.call true 15 []), oM 47 46, oG 48 47 (.mov (.t 6)), oG 49 47 (.bin .eql .prim (.t 48) (oI 0)), oO 50 (.pick (.t 47) (.t 49) (.c (.bool false))), oM 51 50, oG 52 51 (.mov (.t 5)), oG 53 51 (.len false (.t 52)), oG 54 51 (.mov (.t 3)), oG 55 51 (.len false (.t 54)), oG 56 51 (.bin .add .prim (.t 55) (oI 1)), oG 57 51 (.bin .eql .prim (.t 53) (.t 56)), oO 58 (.pick (.t 51) (.t 57) (.c (.bool false))), oM 59 58, oG 60 59 (.mov (.t 9)), oG 61 59 (.bin .eql .prim (.t 60) (oI 0)), oO 62 (.pick (.t 59) (.t 61) (.c (.bool false))), oM 63 62, oG 64 63 (.mov (.t 8)), oG 65 63 (.bin .eql .prim (.t 64) (oI 0)), oO 66 (.pick (.t 63) (.t 65) (.c (.bool false))), oM 67 66, oG 68 67 (.mov (.t 7)), oG 69 67 (.mov (.t 3)), oG 70 67 (.call true 21 [(.t 68), (.t 69), (.c (.fn 22 []))]), oO 71 (.pick (.t 67) (.t 70) (.c (.bool false))), oS 2 71])
  .ret))))))⟩
theorem c5 : cfun Tryz.prog 5 = some f5 := by kernel_rfl
def f7l0 : ACode := (.seq (.seq (.region false [oM 25 5, oM 26 0, oO 27 (.bin .lss .prim (.t 25) (.t 26))])
  (.cond (.t 27) .skip
  (.exit 0)))
  (.seq (.block 1 (.region false [oM 30 3, oO 31 (.bslice true 1 [(.c (.str [110]))]), oO 32 (.bslice true 1 [(.t 31)]), oO 33 (.append 1 24 (.t 30) (.t 32)), oM 34 4, oO 35 (.build [(.str []), (.str []), (.str []), (.str []), (.str []), (.str []), (.str []), (.str []), (.str []), (.nils 1), (.nils 4)] [(0, 1, (.c (.str [110])))]), oO 36 (.bslice true 11 [(.t 35)]), oO 37 (.append 11 192 (.t 34) (.t 36)), oS 3 33, oS 4 37]))
  (.region false [oM 28 5, oO 29 (.bin .add .prim (.t 28) (oI 1)), oS 5 29])))
def f7 : AFun := ⟨1, 115, [.t 2], (.seq (.region false [oO 2 (.set (.c (.bool false)))])
  (.seq (.region false [oM 18 0, oO 19 (.conv (.int .u64) (.t 18)), oO 20 (.bin .rem .prim (.t 19) (.c (.int .u64 5))), oO 21 (.conv (.int .i64) (.t 20)), oO 22 (.bin .add .prim (oI 58) (.t 21)), oS 0 22])
  (.seq (.region false [oO 23 (.bslice true 1 [(.c (.str [78, 65, 77, 69]))]), oO 24 (.bslice true 1 [(.t 23)]), oS 3 24])
  (.seq (.region false [oO 4 (.newnil 11)])
  (.seq (.seq (.region false [oO 5 (.set (oI 0))])
  (.block 0 (.loop f7l0)))
  (.seq (.region false [oM 39 3, oO 40 (.call true 14 [(.t 39)]), oM 38 40, oO 41 (.extr (.t 38) 0), oO 42 (.extr (.t 38) 1), oO 43 (.extr (.t 38) 2), oS 6 41, oS 7 42, oS 8 43])
  (.seq (.region false [oM 45 4, oO 46 (.call true 19 [(.t 45)]), oM 44 46, oO 47 (.extr (.t 44) 0), oO 48 (.extr (.t 44) 1), oS 9 47, oS 10 48])
  (.seq (.region false [oM 50 3, oO 51 (.slice (some 1) (.t 50) none (some (oI 1))), oO 52 (.call true 14 [(.t 51)]), oM 49 52, oO 53 (.extr (.t 49) 0), oO 54 (.extr (.t 49) 1), oO 55 (.extr (.t 49) 2), oS 11 53, oS 12 54, oS 13 55])
  (.seq (.region false [oO 57 (.call true 14 [(.c (.nils 1))]), oM 56 57, oO 58 (.extr (.t 56) 0), oO 59 (.extr (.t 56) 1), oO 60 (.extr (.t 56) 2), oS 14 58, oS 15 59, oS 16 60])
  (.seq (.region false [oM 61 0, oO 62 (.bin .leq .prim (.t 61) (oI 60)), oS 17 62])
  (.seq (.region false [oO 63 (.call true 15 []), oM 64 63, oG 65 64 (.mov (.t 17)), oG 66 64 (.mov (.t 65)), oG 67 66 (.mov (.t 8)), oG 68 66 (.bin .eql .prim (.t 67) (oI 0)), oG 69 64 (.pick (.t 66) (.t 68) (.c (.bool false))), oG 70 64 (.mov (.t 69)), oG 71 70 (.mov (.t 6)), oG 72 70 (.len false (.t 71)), oG 73 70 (.mov (.t 0)), oG 74 70 (.bin .eql .prim (.t 72) (.t 73)), oG 75 64 (.pick (.t 70) (.t 74) (.c (.bool false))), oG 76 64 (.mov (.t 75)), oG 77 76 (.mov (.t 10)), oG 78 76 (.bin .eql .prim (.t 77) (oI 0)), oG 79 64 (.pick (.t 76) (.t 78) (.c (.bool false))), oG 80 64 (.mov (.t 79)), ⟨(some 81), .mov (.t 17), some (80, false)⟩, ⟨(some 82), .un .not (.t 81), some (80, false)⟩, ⟨(some 83), .mov (.t 82), some (80, false)⟩, oG 84 83 (.mov (.t 8)), oG 85 83 (.bin .eql .prim (.t 84) (oI 4)), ⟨(some 86), .pick (.t 83) (.t 85) (.c (.bool false)), some (80, false)⟩, ⟨(some 87), .mov (.t 86), some (80, false)⟩, oG 88 87 (.mov (.t 7)), oG 89 87 (.bin .eql .prim (.t 88) (oI 0)), ⟨(some 90), .pick (.t 87) (.t 89) (.c (.bool false)), some (80, false)⟩, ⟨(some 91), .mov (.t 90), some (80, false)⟩, oG 92 91 (.mov (.t 10)), oG 93 91 (.bin .eql .prim (.t 92) (oI 12)), ⟨(some 94), .pick (.t 91) (.t 93) (.c (.bool false)), some (80, false)⟩, oG 95 64 (.pick (.t 80) (.c (.bool true)) (.t 94)), oO 96 (.pick (.t 64) (.t 95) (.c (.bool false))), oM 97 96, oG 98 97 (.mov (.t 13)), oG 99 97 (.bin .eql .prim (.t 98) (oI 0)), oO 100 (.pick (.t 97) (.t 99) (.c (.bool false))), oM 101 100, oG 102 101 (.mov (.t 11)), oG 103 101 (.len false (.t 102)), oG 104 101 (.bin .eql .prim (.t 103) (oI 0)), oO 105 (.pick (.t 101) (.t 104) (.c (.bool false))), oM 106 105, oG 107 106 (.mov (.t 16)), oG 108 106 (.bin .eql .prim (.t 107) (oI 0)), oO 109 (.pick (.t 106) (.t 108) (.c (.bool false))), oM 110 109, oG 111 110 (.mov (.t 14)), oG 112 110 (.len false (.t 111)), oG 113 110 (.bin .eql .prim (.t 112) (oI 0)), oO 114 (.pick (.t 110) (.t 113) (.c (.bool false))), oS 2 114])
  .ret)))))))))))⟩
theorem c7 : cfun Tryz.prog 7 = some f7 := by kernel_rfl
def f14l0 : ACode := (.seq (.region false [oO 34 (.bin .lss .prim (.t 33) (.t 32))])
  (.seq (.cond (.t 34) .skip
  (.exit 1))
  (.seq (.block 2 (.seq (.region false [oM 35 33, oO 36 (.iaddr 1 (.t 31) (.t 33)), oO 37 (.load none (.t 36)), oS 8 35, oS 9 37])
  (.seq (.region false [oM 39 5, oM 40 9, oO 41 (.call true 42 [(.t 39), (.t 40)]), oM 38 41, oO 42 (.extr (.t 38) 0), oO 43 (.extr (.t 38) 1), oO 10 (.alloc [(.str []), (.str []), (.str []), (.str []), (.str []), (.str []), (.str []), (.str []), (.str []), (.nils 1), (.nils 4)]), ⟨none, .store true 11 (.t 10) (.t 42), none⟩, oS 11 43])
  (.seq (.seq (.region false [oM 44 11, oO 45 (.bin .neq .prim (.t 44) (oI 0))])
  (.cond (.t 45) (.seq (.region false [oM 46 8, oO 47 (.bin .add .prim (.t 46) (oI 1)), oM 48 11, oO 2 (.newnil 11), oS 3 47, oS 4 48])
  .ret)
  .skip))
  (.region false [oM 49 7, oO 50 (.load (some 11) (.t 10)), oO 51 (.bslice true 11 [(.t 50)]), oO 52 (.append 11 192 (.t 49) (.t 51)), oS 7 52])))))
  (.region false [oO 53 (.bin .add .prim (.t 33) (oI 1)), oM 33 53]))))
def f14 : AFun := ⟨1, 55, [.t 2, .t 3, .t 4], (.seq (.region false [oO 2 (.newnil 11), oO 3 (.set (oI 0)), oO 4 (.set (oI 0))])
  (.seq (.seq (.region false [oM 12 0, oO 13 (.len false (.t 12)), oO 14 (.bin .eql .prim (.t 13) (oI 0))])
  (.cond (.t 14) (.seq (.region false [oO 2 (.newnil 11), oO 3 (.set (oI 0)), oO 4 (.set (oI 0))])
  .ret)
  .skip))
  (.seq (.region false [oM 16 0, oO 17 (.iaddr 1 (.t 16) (oI 0)), oO 18 (.load none (.t 17)), oO 19 (.call true 41 [(.t 18)]), oM 15 19, oO 20 (.extr (.t 15) 0), oO 21 (.extr (.t 15) 1), oS 5 20, oS 6 21])
  (.seq (.block 0 (.seq (.region false [oM 23 6, oO 24 (.un .not (.t 23)), oS 22 24])
  (.cond (.t 22) (.seq (.region false [oO 2 (.newnil 11), oO 3 (.set (oI 0)), oO 4 (.set (oI 21))])
  .ret)
  (.seq (.region false [oM 26 0, oO 27 (.len false (.t 26)), oO 28 (.bin .sub .prim (.t 27) (oI 1)), oO 29 (.bin .gtr .prim (.t 28) (oI 60)), oS 25 29])
  (.cond (.t 25) (.seq (.region false [oO 2 (.newnil 11), oO 3 (.set (oI 0)), oO 4 (.set (oI 4))])
  .ret)
  .skip)))))
  (.seq (.region false [oO 7 (.newnil 11)])
  (.seq (.seq (.region false [oM 30 0, oO 31 (.slice (some 1) (.t 30) (some (oI 1)) none), oO 32 (.len false (.t 31)), oO 33 (.mov (oI 0))])
  (.block 1 (.loop f14l0)))
  (.seq (.region false [oM 54 7, oS 2 54, oO 3 (.set (oI 0)), oO 4 (.set (oI 0))])
  .ret)))))))⟩
theorem c14 : cfun Tryz.prog 14 = some f14 := by kernel_rfl
def f15 : AFun := ⟨0, 37, [.t 0], (.seq (.region false [oO 0 (.set (.c (.bool false)))])
  (.seq (.region false [oO 5 (.bslice true 1 [(.c (.str [74, 73, 68])), (.c (.str [78, 97, 109, 101]))]), oO 6 (.bslice true 1 [(.c (.str [65, 64, 104])), (.c (.str [110]))]), oO 7 (.bslice true 1 [(.t 5), (.t 6)]), oO 8 (.call true 14 [(.t 7)]), oM 4 8, oO 9 (.extr (.t 4) 0), oO 10 (.extr (.t 4) 1), oO 11 (.extr (.t 4) 2), oS 1 9, oS 2 10, oS 3 11])
  (.seq (.region false [oM 12 3, oO 13 (.bin .eql .prim (.t 12) (oI 0)), oM 14 13, oG 15 14 (.mov (.t 2)), oG 16 14 (.bin .eql .prim (.t 15) (oI 0)), oO 17 (.pick (.t 14) (.t 16) (.c (.bool false))), oM 18 17, oG 19 18 (.mov (.t 1)), oG 20 18 (.len false (.t 19)), oG 21 18 (.bin .eql .prim (.t 20) (oI 1)), oO 22 (.pick (.t 18) (.t 21) (.c (.bool false))), oM 23 22, oG 24 23 (.mov (.t 1)), oG 25 23 (.iaddr 11 (.t 24) (oI 0)), oG 26 23 (.faddr 4 (.t 25)), oG 27 23 (.load none (.t 26)), oG 28 23 (.bin .eql .prim (.t 27) (.c (.str [97, 64, 104]))), oO 29 (.pick (.t 23) (.t 28) (.c (.bool false))), oM 30 29, oG 31 30 (.mov (.t 1)), oG 32 30 (.iaddr 11 (.t 31) (oI 0)), oG 33 30 (.faddr 0 (.t 32)), oG 34 30 (.load none (.t 33)), oG 35 30 (.bin .eql .prim (.t 34) (.c (.str [110]))), oO 36 (.pick (.t 30) (.t 35) (.c (.bool false))), oS 0 36])
  .ret)))⟩
theorem c15 : cfun Tryz.prog 15 = some f15 := by kernel_rfl
def f19l0 : ACode := (.seq (.region false [oO 22 (.bin .lss .prim (.t 21) (.t 20))])
  (.seq (.cond (.t 22) .skip
  (.exit 0))
  (.seq (.block 1 (.seq (.region false [oO 23 (.iaddr 11 (.t 19) (.t 21)), oO 24 (.load (some 11) (.t 23)), oO 7 (.alloc [(.str []), (.str []), (.str []), (.str []), (.str []), (.str []), (.str []), (.str []), (.str []), (.nils 1), (.nils 4)]), ⟨none, .store true 11 (.t 7) (.t 24), none⟩])
  (.region false [oM 25 5, oO 26 (.call true 48 []), oO 27 (.mkfn 50 [(.t 7)]), oO 28 (.call true 47 [(.t 26), (.t 27)]), oO 29 (.bslice true 1 [(.t 28)]), oO 30 (.append 1 24 (.t 25) (.t 29)), oS 5 30])))
  (.region false [oO 31 (.bin .add .prim (.t 21) (oI 1)), oM 21 31]))))
def f19 : AFun := ⟨1, 33, [.t 2, .t 3], (.seq (.region false [oO 2 (.newnil 1), oO 3 (.set (oI 0))])
  (.seq (.region false [oO 4 (.set (.c (.fn 45 [])))])
  (.seq (.seq (.region false [oM 8 0, oO 9 (.len false (.t 8)), oO 10 (.bin .gtr .prim (.t 9) (oI 60)), oM 11 10, ⟨(some 12), .mov (.t 0), some (11, false)⟩, ⟨(some 13), .mov (.t 4), some (11, false)⟩, ⟨(some 14), .call true 46 [(.t 12), (.t 13)], some (11, false)⟩, oO 15 (.pick (.t 11) (.c (.bool true)) (.t 14))])
  (.cond (.t 15) (.seq (.region false [oO 2 (.newnil 1), oO 3 (.set (oI 12))])
  .ret)
  .skip))
  (.seq (.region false [oO 16 (.call true 48 []), oO 17 (.call true 47 [(.t 16), (.c (.fn 49 []))]), oO 18 (.bslice true 1 [(.t 17)]), oS 5 18])
  (.seq (.seq (.region false [oM 19 0, oO 20 (.len false (.t 19)), oO 21 (.mov (oI 0))])
  (.block 0 (.loop f19l0)))
  (.seq (.region false [oM 32 5, oS 2 32, oO 3 (.set (oI 0))])
  .ret))))))⟩
theorem c19 : cfun Tryz.prog 19 = some f19 := by kernel_rfl
end Go.Proofs.Ut
