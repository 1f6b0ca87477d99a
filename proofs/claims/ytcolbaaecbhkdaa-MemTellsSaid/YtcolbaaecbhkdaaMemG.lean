/- The seat's functions as the interpreter's code: printed by a program of this claim (irgen.py) out of Lean's print of the loaded program; that they fit is checked in Lean. No condition. -/
import Derived.Test.YtcolbaaecbhkdaaAb12
namespace Go.Proofs.Ytcolbaaecbhkdaa.Ab

def g3l0 : ACode :=
 .ghost (.renum [1, 3, 9, 10, 59, 60, 61] []) (.seq (.ops none [⟨some 62, none, .bin .lss (.t 61) (.t 60)⟩])
 (.seq (.cond (.t 62) (.skip) (.exit 0))
 (.seq (.block 1 (.seq (.ops none [⟨some 63, none, .ixf 4 (.t 59) (.t 61)⟩, ⟨some 64, none, .ldf (.t 63) true 4⟩, ⟨some 14, none, .new 25 [.int .i64 0, .int .i64 0, .int .i64 0, .int .i64 0]⟩, ⟨none, none, .st (.t 14) (.t 64) 4⟩])
 (.seq (.ops none [⟨some 66, none, .mov (.t 10)⟩, ⟨some 67, none, .ldv (.t 14) true 4⟩, ⟨some 68, none, .calp 13 [.t 66, .t 67]⟩, ⟨some 65, none, .mov (.t 68)⟩, ⟨some 69, none, .ext (.t 65) 0⟩, ⟨some 70, none, .ext (.t 65) 1⟩, ⟨some 71, none, .ext (.t 65) 2⟩, ⟨some 16, none, .new 30 [.int .i64 0, .bool false]⟩, ⟨some 15, none, .mov (.t 69)⟩, ⟨none, none, .st (.t 16) (.t 70) 2⟩, ⟨some 17, none, .mov (.t 71)⟩])
 (.seq (.ops none [⟨some 73, none, .mov (.t 10)⟩, ⟨some 74, none, .ldv (.t 14) true 4⟩, ⟨some 75, none, .calp 14 [.t 73, .t 74]⟩, ⟨some 72, none, .mov (.t 75)⟩, ⟨some 76, none, .ext (.t 72) 0⟩, ⟨some 77, none, .ext (.t 72) 1⟩, ⟨some 78, none, .ext (.t 72) 2⟩, ⟨some 19, none, .new 30 [.int .i64 0, .bool false]⟩, ⟨some 18, none, .mov (.t 76)⟩, ⟨none, none, .st (.t 19) (.t 77) 2⟩, ⟨some 20, none, .mov (.t 78)⟩])
 (.seq (.ops none [⟨some 79, none, .mov (.t 15)⟩, ⟨some 80, none, .mov (.t 18)⟩, ⟨some 81, none, .calp 15 [.t 79, .t 80]⟩, ⟨some 82, none, .notb (.t 81)⟩, ⟨some 83, none, .mov (.t 82)⟩, ⟨some 84, some (83, false), .ldv (.t 16) true 2⟩, ⟨some 85, some (83, false), .ldv (.t 19) true 2⟩, ⟨some 86, some (83, false), .eqs true [false, true] (.t 84) (.t 85)⟩, ⟨some 87, none, .pick (.t 83) (.c (.bool true)) (.t 86)⟩, ⟨some 88, none, .mov (.t 87)⟩, ⟨some 89, some (88, false), .mov (.t 17)⟩, ⟨some 90, some (88, false), .mov (.t 20)⟩, ⟨some 91, some (88, false), .bin .neq (.t 89) (.t 90)⟩, ⟨some 92, none, .pick (.t 88) (.c (.bool true)) (.t 91)⟩])
 (.cond (.t 92) (.seq (.ops none [⟨some 8, none, .mov (.c (.bool false))⟩])
 (.ret)) (.skip)))))))
 (.ops none [⟨some 93, none, .bin .add (.t 61) (.c (.int .i64 (1)))⟩, ⟨some 61, none, .mov (.t 93)⟩]))))
def g3l1 : ACode :=
 .ghost (.renum [9, 10, 104, 105, 106] []) (.seq (.ops none [⟨some 107, none, .bin .lss (.t 106) (.t 105)⟩])
 (.seq (.cond (.t 107) (.skip) (.exit 2))
 (.seq (.block 3 (.seq (.ops none [⟨some 108, none, .ixf 1 (.t 104) (.t 106)⟩, ⟨some 109, none, .ldf (.t 108) false 1⟩, ⟨some 22, none, .mov (.t 109)⟩])
 (.seq (.ops none [⟨some 111, none, .mov (.t 10)⟩, ⟨some 112, none, .mov (.t 22)⟩, ⟨some 113, none, .calp 17 [.t 111, .t 112]⟩, ⟨some 110, none, .mov (.t 113)⟩, ⟨some 114, none, .ext (.t 110) 0⟩, ⟨some 115, none, .ext (.t 110) 1⟩, ⟨some 116, none, .ext (.t 110) 2⟩, ⟨some 23, none, .mov (.t 114)⟩, ⟨some 24, none, .mov (.t 115)⟩, ⟨some 25, none, .mov (.t 116)⟩])
 (.seq (.ops none [⟨some 118, none, .mov (.t 10)⟩, ⟨some 119, none, .mov (.t 22)⟩, ⟨some 120, none, .calp 18 [.t 118, .t 119]⟩, ⟨some 117, none, .mov (.t 120)⟩, ⟨some 121, none, .ext (.t 117) 0⟩, ⟨some 122, none, .ext (.t 117) 1⟩, ⟨some 123, none, .ext (.t 117) 2⟩, ⟨some 26, none, .mov (.t 121)⟩, ⟨some 27, none, .mov (.t 122)⟩, ⟨some 28, none, .mov (.t 123)⟩])
 (.seq (.ops none [⟨some 124, none, .mov (.t 23)⟩, ⟨some 125, none, .mov (.t 26)⟩, ⟨some 126, none, .calp 15 [.t 124, .t 125]⟩, ⟨some 127, none, .notb (.t 126)⟩, ⟨some 128, none, .mov (.t 127)⟩, ⟨some 129, some (128, false), .mov (.t 24)⟩, ⟨some 130, some (128, false), .mov (.t 27)⟩, ⟨some 131, some (128, false), .calp 19 [.t 129, .t 130]⟩, ⟨some 132, some (128, false), .notb (.t 131)⟩, ⟨some 133, none, .pick (.t 128) (.c (.bool true)) (.t 132)⟩, ⟨some 134, none, .mov (.t 133)⟩, ⟨some 135, some (134, false), .mov (.t 25)⟩, ⟨some 136, some (134, false), .mov (.t 28)⟩, ⟨some 137, some (134, false), .bin .neq (.t 135) (.t 136)⟩, ⟨some 138, none, .pick (.t 134) (.c (.bool true)) (.t 137)⟩])
 (.cond (.t 138) (.seq (.ops none [⟨some 8, none, .mov (.c (.bool false))⟩])
 (.ret)) (.skip)))))))
 (.ops none [⟨some 139, none, .bin .add (.t 106) (.c (.int .i64 (1)))⟩, ⟨some 106, none, .mov (.t 139)⟩]))))
def g3b : ACode :=
.seq (.ops none [⟨some 6, none, .boxf 4 (.t 2)⟩, ⟨some 8, none, .mov (.c (.bool false))⟩])
 (.seq (.ops none [⟨some 29, none, .calp 11 []⟩, ⟨some 9, none, .mov (.t 29)⟩])
 (.seq (.ops none [⟨some 30, none, .mov (.t 0)⟩, ⟨some 10, none, .mov (.t 30)⟩])
 (.seq (.seq (.ops none [⟨some 31, none, .mov (.t 10)⟩, ⟨some 32, none, .len (.t 31)⟩, ⟨some 33, none, .bin .gtr (.t 32) (.c (.int .i64 (50)))⟩])
 (.cond (.t 33) (.ops none [⟨some 34, none, .mov (.t 10)⟩, ⟨some 35, none, .slf 1 (.t 34) none (some (.c (.int .i64 (50))))⟩, ⟨some 10, none, .mov (.t 35)⟩]) (.skip)))
 (.seq (.ops none [⟨some 36, none, .ldf (.t 6) true 4⟩, ⟨some 11, none, .new 25 [.int .i64 0, .int .i64 0, .int .i64 0, .int .i64 0]⟩, ⟨none, none, .st (.t 11) (.t 36) 4⟩])
 (.seq (.ops none [⟨some 37, none, .fad (.t 6) 1⟩, ⟨some 38, none, .ldf (.t 37) false 1⟩, ⟨some 39, none, .mov (.t 10)⟩, ⟨some 40, none, .len (.t 39)⟩, ⟨some 41, none, .bin .add (.t 40) (.c (.int .i64 (1)))⟩, ⟨some 42, none, .calp 12 [.t 38, .t 41]⟩, ⟨some 43, none, .fad (.t 11) 1⟩, ⟨none, none, .st (.t 43) (.t 42) 1⟩])
 (.seq (.ops none [⟨some 44, none, .ldv (.t 11) true 4⟩, ⟨some 12, none, .new 25 [.int .i64 0, .int .i64 0, .int .i64 0, .int .i64 0]⟩, ⟨none, none, .st (.t 12) (.t 44) 4⟩])
 (.seq (.seq (.ops none [⟨some 45, none, .fad (.t 11) 1⟩, ⟨some 46, none, .ldv (.t 45) false 1⟩, ⟨some 47, none, .mov (.t 10)⟩, ⟨some 48, none, .len (.t 47)⟩, ⟨some 49, none, .bin .lss (.t 46) (.t 48)⟩])
 (.cond (.t 49) (.ops none [⟨some 50, none, .mov (.t 10)⟩, ⟨some 51, none, .fad (.t 11) 1⟩, ⟨some 52, none, .ldv (.t 51) false 1⟩, ⟨some 53, none, .ixf 1 (.t 50) (.t 52)⟩, ⟨some 54, none, .ldf (.t 53) false 1⟩, ⟨some 55, none, .fad (.t 12) 2⟩, ⟨none, none, .st (.t 55) (.t 54) 1⟩]) (.skip)))
 (.seq (.seq (.ops none [⟨some 56, none, .ldf (.t 6) true 4⟩, ⟨some 57, none, .ldv (.t 11) true 4⟩, ⟨some 58, none, .ldv (.t 12) true 4⟩, ⟨some 59, none, .bsl 4 [.int .i64 0, .int .i64 0, .int .i64 0, .int .i64 0] 3 [(0, .t 56), (1, .t 57), (2, .t 58)]⟩, ⟨some 60, none, .len (.t 59)⟩, ⟨some 61, none, .mov (.c (.int .i64 (0)))⟩])
 (.block 0 (.loop g3l0)))
 (.seq (.seq (.ops (some [[], [], [1], [1, 2], [0, 1, 2, 3], [], [], [6], [6, 7], [5, 6, 7, 8], [0, 1, 2, 3, 4, 5, 6, 7, 8, 9], [0, 1, 2, 3, 4, 5, 6, 7, 8, 9, 10], []]) [⟨some 94, none, .mov (.t 3)⟩, ⟨some 95, none, .mov (.t 3)⟩, ⟨some 96, none, .len (.t 95)⟩, ⟨some 97, none, .min2 (.t 96) (.c (.int .i64 (20)))⟩, ⟨some 98, none, .slf 4 (.t 94) none (some (.t 97))⟩, ⟨some 99, none, .mov (.t 1)⟩, ⟨some 100, none, .mov (.t 10)⟩, ⟨some 101, none, .len (.t 100)⟩, ⟨some 102, none, .max2 (.t 101) (.c (.int .i64 (1)))⟩, ⟨some 103, none, .calp 16 [.t 99, .t 102]⟩, ⟨some 104, none, .bsl 1 [.list 4 []] 2 [(0, .t 98), (1, .t 103)]⟩, ⟨some 105, none, .len (.t 104)⟩, ⟨some 106, none, .mov (.c (.int .i64 (0)))⟩])
 (.block 2 (.loop g3l1)))
 (.seq (.ops none [⟨some 140, none, .mov (.t 9)⟩, ⟨some 8, none, .mov (.t 140)⟩])
 (.ret)))))))))))
/-- bellwether/bellwetherlaw02.MemTells -/
def g3 : AFn := { np := 4, nt := 141, res := [.t 8], body := g3b }

def g4l0 : ACode :=
 .ghost (.renum [3, 4, 5, 6, 8, 9] [8]) (.seq (.seq (.ops none [⟨some 31, none, .mov (.t 9)⟩, ⟨some 32, none, .mov (.t 4)⟩, ⟨some 33, none, .len (.t 32)⟩, ⟨some 34, none, .bin .lss (.t 31) (.t 33)⟩])
 (.cond (.t 34) (.skip) (.exit 0)))
 (.seq (.block 1 (.seq (.ops none [⟨some 37, none, .mov (.t 4)⟩, ⟨some 38, none, .mov (.t 9)⟩, ⟨some 39, none, .ixf 4 (.t 37) (.t 38)⟩, ⟨some 40, none, .ldf (.t 39) true 4⟩, ⟨some 10, none, .new 25 [.int .i64 0, .int .i64 0, .int .i64 0, .int .i64 0]⟩, ⟨none, none, .st (.t 10) (.t 40) 4⟩])
 (.seq (.seq (.ops (some [[], [], [0, 1], [0, 1, 2], [0, 1, 2, 3], [], [], [6], [5, 6, 7], [5, 6, 7, 8], [0, 1, 2, 3, 4, 5, 6, 7, 8, 9], [0, 1, 2, 3, 4, 5, 6, 7, 8, 9, 10], [0, 1, 2, 3, 4, 5, 6, 7, 8, 9, 10, 11], [0, 1, 2, 3, 4, 5, 6, 7, 8, 9, 10, 11], [0, 1, 2, 3, 4, 5, 6, 7, 8, 9, 10, 11, 12, 13], [0, 1, 2, 3, 4, 5, 6, 7, 8, 9, 10, 11, 12, 13, 14], [0, 1, 2, 3, 4, 5, 6, 7, 8, 9, 10, 11, 12, 13, 14, 15], [0, 1, 2, 3, 4, 5, 6, 7, 8, 9, 10, 11], [0, 1, 2, 3, 4, 5, 6, 7, 8, 9, 10, 11, 17], [0, 1, 2, 3, 4, 5, 6, 7, 8, 9, 10, 11, 17, 18], [0, 1, 2, 3, 4, 5, 6, 7, 8, 9, 10, 11, 17, 18, 19], [0, 1, 2, 3, 4, 5, 6, 7, 8, 9, 10, 11, 17, 18, 19, 20], [0, 1, 2, 3, 4, 5, 6, 7, 8, 9, 10, 11, 17, 18, 19, 20], [0, 1, 2, 3, 4, 5, 6, 7, 8, 9, 10, 11, 17, 18, 19, 20, 22], [0, 1, 2, 3, 4, 5, 6, 7, 8, 9, 10, 11, 17, 18, 19, 20, 21, 22, 23], [0, 1, 2, 3, 4, 5, 6, 7, 8, 9, 10, 11, 17, 18, 19, 20, 21, 22, 23, 24], [0, 1, 2, 3, 4, 5, 6, 7, 8, 9, 10, 11, 17, 18, 19, 20], [0, 1, 2, 3, 4, 5, 6, 7, 8, 9, 10, 11, 17, 18, 19, 20, 26], [0, 1, 2, 3, 4, 5, 6, 7, 8, 9, 10, 11, 17, 18, 19, 20, 21, 22, 23, 24, 25, 26, 27], [0, 1, 2, 3, 4, 5, 6, 7, 8, 9, 10, 11, 17, 18, 19, 20, 21, 22, 23, 24, 25, 26, 27, 28], [0, 1, 2, 3, 4, 5, 6, 7, 8, 9, 10, 11, 12, 13, 14, 15, 16, 17, 18, 19, 20, 21, 22, 23, 24, 25, 26, 27, 28, 29], [0, 1, 2, 3, 4, 5, 6, 7, 8, 9, 10, 11, 12, 13, 14, 15, 16, 17, 18, 19, 20, 21, 22, 23, 24, 25, 26, 27, 28, 29, 30]]) [⟨some 41, none, .mov (.t 6)⟩, ⟨some 42, none, .mov (.t 9)⟩, ⟨some 43, none, .ixf 2 (.t 41) (.t 42)⟩, ⟨some 44, none, .fad (.t 43) 0⟩, ⟨some 45, none, .ldf (.t 44) false 1⟩, ⟨some 46, none, .mov (.t 8)⟩, ⟨some 47, none, .fad (.t 10) 1⟩, ⟨some 48, none, .ldv (.t 47) false 1⟩, ⟨some 49, none, .ixv 1 (.t 46) (.t 48)⟩, ⟨some 50, none, .ldv (.t 49) false 1⟩, ⟨some 51, none, .bin .neq (.t 45) (.t 50)⟩, ⟨some 52, none, .mov (.t 51)⟩, ⟨some 53, some (52, false), .mov (.t 6)⟩, ⟨some 54, some (52, false), .mov (.t 9)⟩, ⟨some 55, some (52, false), .ixf 2 (.t 53) (.t 54)⟩, ⟨some 56, some (52, false), .fad (.t 55) 1⟩, ⟨some 57, some (52, false), .ldf (.t 56) false 1⟩, ⟨some 58, some (52, false), .fad (.t 10) 0⟩, ⟨some 59, some (52, false), .ldv (.t 58) false 1⟩, ⟨some 60, some (52, false), .bin .neq (.t 59) (.c (.int .i64 (3)))⟩, ⟨some 61, some (52, false), .mov (.t 60)⟩, ⟨some 62, some (61, false), .mov (.t 8)⟩, ⟨some 63, some (61, false), .fad (.t 10) 1⟩, ⟨some 64, some (61, false), .ldv (.t 63) false 1⟩, ⟨some 65, some (61, false), .ixv 1 (.t 62) (.t 64)⟩, ⟨some 66, some (61, false), .ldv (.t 65) false 1⟩, ⟨some 67, some (61, false), .fad (.t 10) 2⟩, ⟨some 68, some (61, false), .ldv (.t 67) false 1⟩, ⟨some 69, some (61, false), .bin .eql (.t 66) (.t 68)⟩, ⟨some 70, some (52, false), .pick (.t 61) (.c (.bool true)) (.t 69)⟩, ⟨some 71, some (52, false), .eqb true (.t 57) (.t 70)⟩, ⟨some 72, none, .pick (.t 52) (.c (.bool true)) (.t 71)⟩])
 (.cond (.t 72) (.seq (.ops none [⟨some 2, none, .mov (.c (.bool false))⟩])
 (.ret)) (.skip)))
 (.block 2 (.seq (.ops none [⟨some 74, none, .fad (.t 10) 0⟩, ⟨some 75, none, .ldv (.t 74) false 1⟩, ⟨some 76, none, .bin .eql (.t 75) (.c (.int .i64 (4)))⟩, ⟨some 73, none, .mov (.t 76)⟩])
 (.cond (.t 73) (.ops (some [[], [], [1], [], [], [4], [3, 4, 5], [3, 4, 5, 6], [], [8], [3, 4, 5, 6, 7, 8, 9], [0, 1, 2, 3, 4, 5, 6, 7, 8, 9, 10], [0, 1, 2, 3, 4, 5, 6, 7, 8, 9, 10, 11]]) [⟨some 77, none, .mov (.t 8)⟩, ⟨some 78, none, .fad (.t 10) 1⟩, ⟨some 79, none, .ldv (.t 78) false 1⟩, ⟨some 80, none, .mov (.t 8)⟩, ⟨some 81, none, .fad (.t 10) 1⟩, ⟨some 82, none, .ldv (.t 81) false 1⟩, ⟨some 83, none, .ixv 1 (.t 80) (.t 82)⟩, ⟨some 84, none, .ldv (.t 83) false 1⟩, ⟨some 85, none, .fad (.t 10) 3⟩, ⟨some 86, none, .ldv (.t 85) false 1⟩, ⟨some 87, none, .bin .add (.t 84) (.t 86)⟩, ⟨some 88, none, .ixv 1 (.t 77) (.t 79)⟩, ⟨none, none, .st (.t 88) (.t 87) 1⟩]) (.seq (.ops none [⟨some 90, none, .fad (.t 10) 0⟩, ⟨some 91, none, .ldv (.t 90) false 1⟩, ⟨some 92, none, .bin .neq (.t 91) (.c (.int .i64 (1)))⟩, ⟨some 93, none, .mov (.t 92)⟩, ⟨some 94, some (93, true), .mov (.t 6)⟩, ⟨some 95, some (93, true), .mov (.t 9)⟩, ⟨some 96, some (93, true), .ixf 2 (.t 94) (.t 95)⟩, ⟨some 97, some (93, true), .fad (.t 96) 1⟩, ⟨some 98, some (93, true), .ldf (.t 97) false 1⟩, ⟨some 99, none, .pick (.t 93) (.t 98) (.c (.bool false))⟩, ⟨some 89, none, .mov (.t 99)⟩])
 (.cond (.t 89) (.ops none [⟨some 100, none, .mov (.t 8)⟩, ⟨some 101, none, .fad (.t 10) 1⟩, ⟨some 102, none, .ldv (.t 101) false 1⟩, ⟨some 103, none, .fad (.t 10) 3⟩, ⟨some 104, none, .ldv (.t 103) false 1⟩, ⟨some 105, none, .ixv 1 (.t 100) (.t 102)⟩, ⟨none, none, .st (.t 105) (.t 104) 1⟩]) (.skip)))))))))
 (.ops none [⟨some 35, none, .mov (.t 9)⟩, ⟨some 36, none, .bin .add (.t 35) (.c (.int .i64 (1)))⟩, ⟨some 9, none, .mov (.t 36)⟩])))
def g4b : ACode :=
.seq (.ops none [⟨some 2, none, .mov (.c (.bool false))⟩])
 (.seq (.ops none [⟨some 11, none, .calp 11 []⟩, ⟨some 3, none, .mov (.t 11)⟩])
 (.seq (.ops none [⟨some 12, none, .mov (.t 0)⟩, ⟨some 13, none, .calp 16 [.t 12, .c (.int .i64 (5))]⟩, ⟨some 4, none, .mov (.t 13)⟩])
 (.seq (.ops none [⟨some 15, none, .mkl 8 [.int .i64 0] (.c (.int .i64 (5)))⟩, ⟨some 16, none, .mov (.t 4)⟩, ⟨some 17, none, .calp 17 [.t 15, .t 16]⟩, ⟨some 14, none, .mov (.t 17)⟩, ⟨some 18, none, .ext (.t 14) 0⟩, ⟨some 19, none, .ext (.t 14) 1⟩, ⟨some 20, none, .ext (.t 14) 2⟩, ⟨some 5, none, .mov (.t 18)⟩, ⟨some 6, none, .mov (.t 19)⟩, ⟨some 7, none, .mov (.t 20)⟩])
 (.seq (.seq (.ops none [⟨some 21, none, .mov (.t 7)⟩, ⟨some 22, none, .bin .neq (.t 21) (.c (.int .i64 (0)))⟩, ⟨some 23, none, .mov (.t 22)⟩, ⟨some 24, some (23, false), .mov (.t 6)⟩, ⟨some 25, some (23, false), .len (.t 24)⟩, ⟨some 26, some (23, false), .mov (.t 4)⟩, ⟨some 27, some (23, false), .len (.t 26)⟩, ⟨some 28, some (23, false), .bin .neq (.t 25) (.t 27)⟩, ⟨some 29, none, .pick (.t 23) (.c (.bool true)) (.t 28)⟩])
 (.cond (.t 29) (.seq (.ops none [⟨some 2, none, .mov (.c (.bool false))⟩])
 (.ret)) (.skip)))
 (.seq (.ops none [⟨some 30, none, .mkv 3 8 [.int .i64 0] (.c (.int .i64 (5)))⟩, ⟨some 8, none, .mov (.t 30)⟩])
 (.seq (.seq (.ops none [⟨some 9, none, .mov (.c (.int .i64 (0)))⟩])
 (.block 0 (.loop g4l0)))
 (.seq (.ghost (.frz 8) (.ops none [⟨some 106, none, .mov (.t 3)⟩, ⟨some 107, none, .mov (.t 106)⟩, ⟨some 108, some (107, true), .mov (.t 5)⟩, ⟨some 109, some (107, true), .mov (.t 8)⟩, ⟨some 110, some (107, true), .calp 15 [.t 108, .t 109]⟩, ⟨some 111, none, .pick (.t 107) (.t 110) (.c (.bool false))⟩, ⟨some 2, none, .mov (.t 111)⟩]))
 (.ret))))))))
/-- bellwether/bellwetherlaw02.MemLast -/
def g4 : AFn := { np := 1, nt := 112, res := [.t 2], body := g4b }

def g5l0 : ACode :=
 .ghost (.renum [1, 5, 6, 7, 8] [7]) (.seq (.seq (.ops none [⟨some 16, none, .mov (.t 8)⟩, ⟨some 17, none, .mov (.t 1)⟩, ⟨some 18, none, .len (.t 17)⟩, ⟨some 19, none, .bin .lss (.t 16) (.t 18)⟩, ⟨some 20, none, .mov (.t 19)⟩, ⟨some 21, some (20, true), .mov (.t 8)⟩, ⟨some 22, some (20, true), .bin .lss (.t 21) (.c (.int .i64 (20)))⟩, ⟨some 23, none, .pick (.t 20) (.t 22) (.c (.bool false))⟩])
 (.cond (.t 23) (.skip) (.exit 0)))
 (.seq (.block 1 (.ops none [⟨some 26, none, .mov (.t 7)⟩, ⟨some 27, none, .mov (.t 6)⟩, ⟨some 28, none, .mov (.t 6)⟩, ⟨some 29, none, .bin .add (.t 28) (.c (.int .i64 (1)))⟩, ⟨some 30, none, .mov (.t 1)⟩, ⟨some 31, none, .mov (.t 8)⟩, ⟨some 32, none, .ixf 1 (.t 30) (.t 31)⟩, ⟨some 33, none, .ldf (.t 32) false 1⟩, ⟨some 34, none, .calp 12 [.t 33, .c (.int .i64 (50))]⟩, ⟨some 35, none, .bin .add (.t 29) (.t 34)⟩, ⟨some 36, none, .build [.int .i64 0, .int .i64 0, .int .i64 0, .int .i64 0] [(0, 1, .c (.int .i64 (3))), (1, 1, .c (.int .i64 (1))), (2, 1, .t 27), (3, 1, .t 35)]⟩, ⟨some 37, none, .bsl 4 [.int .i64 0, .int .i64 0, .int .i64 0, .int .i64 0] 1 [(0, .t 36)]⟩, ⟨some 38, none, .app 25 4 32 [.int .i64 0, .int .i64 0, .int .i64 0, .int .i64 0] (.t 26) (.t 37)⟩, ⟨some 7, none, .mov (.t 38)⟩]))
 (.ops none [⟨some 24, none, .mov (.t 8)⟩, ⟨some 25, none, .bin .add (.t 24) (.c (.int .i64 (1)))⟩, ⟨some 8, none, .mov (.t 25)⟩])))
def g5l1 : ACode :=
 .ghost (.renum [5, 6, 7, 9, 10, 12] []) (.seq (.seq (.ops none [⟨some 73, none, .mov (.t 12)⟩, ⟨some 74, none, .mov (.t 10)⟩, ⟨some 75, none, .len (.t 74)⟩, ⟨some 76, none, .bin .lss (.t 73) (.t 75)⟩])
 (.cond (.t 76) (.skip) (.exit 2)))
 (.seq (.block 3 (.seq (.ops none [⟨some 79, none, .mov (.t 10)⟩, ⟨some 80, none, .mov (.t 12)⟩, ⟨some 81, none, .ixf 2 (.t 79) (.t 80)⟩, ⟨some 82, none, .fad (.t 81) 1⟩, ⟨some 83, none, .ldf (.t 82) false 1⟩, ⟨some 84, none, .mov (.t 12)⟩, ⟨some 85, none, .bin .eql (.t 84) (.c (.int .i64 (0)))⟩, ⟨some 86, none, .eqb true (.t 83) (.t 85)⟩])
 (.cond (.t 86) (.seq (.ops none [⟨some 4, none, .mov (.c (.bool false))⟩])
 (.ret)) (.skip))))
 (.ops none [⟨some 77, none, .mov (.t 12)⟩, ⟨some 78, none, .bin .add (.t 77) (.c (.int .i64 (1)))⟩, ⟨some 12, none, .mov (.t 78)⟩])))
def g5b : ACode :=
.seq (.ops none [⟨some 4, none, .mov (.c (.bool false))⟩])
 (.seq (.ops none [⟨some 13, none, .calp 11 []⟩, ⟨some 5, none, .mov (.t 13)⟩])
 (.seq (.ops none [⟨some 14, none, .mov (.t 0)⟩, ⟨some 15, none, .calp 12 [.t 14, .c (.int .i64 (1000))]⟩, ⟨some 6, none, .mov (.t 15)⟩])
 (.seq (.ops none [⟨some 7, none, .nv 25 4⟩])
 (.seq (.seq (.ops none [⟨some 8, none, .mov (.c (.int .i64 (0)))⟩])
 (.block 0 (.loop g5l0)))
 (.seq (.ghost (.frz 7) (.ops none [⟨some 40, none, .mov (.t 6)⟩, ⟨some 41, none, .bsl 1 [.int .i64 0] 3 [(0, .c (.int .i64 (3))), (1, .t 40), (2, .c (.int .i64 (4)))]⟩, ⟨some 42, none, .mov (.t 7)⟩, ⟨some 43, none, .calp 17 [.t 41, .t 42]⟩, ⟨some 39, none, .mov (.t 43)⟩, ⟨some 44, none, .ext (.t 39) 0⟩, ⟨some 45, none, .ext (.t 39) 1⟩, ⟨some 46, none, .ext (.t 39) 2⟩, ⟨some 9, none, .mov (.t 44)⟩, ⟨some 10, none, .mov (.t 45)⟩, ⟨some 11, none, .mov (.t 46)⟩]))
 (.seq (.seq (.ops none [⟨some 47, none, .mov (.t 11)⟩, ⟨some 48, none, .bin .neq (.t 47) (.c (.int .i64 (0)))⟩, ⟨some 49, none, .mov (.t 48)⟩, ⟨some 50, some (49, false), .mov (.t 10)⟩, ⟨some 51, some (49, false), .len (.t 50)⟩, ⟨some 52, some (49, false), .mov (.t 7)⟩, ⟨some 53, some (49, false), .len (.t 52)⟩, ⟨some 54, some (49, false), .bin .neq (.t 51) (.t 53)⟩, ⟨some 55, none, .pick (.t 49) (.c (.bool true)) (.t 54)⟩, ⟨some 56, none, .mov (.t 55)⟩, ⟨some 57, some (56, false), .mov (.t 9)⟩, ⟨some 58, some (56, false), .len (.t 57)⟩, ⟨some 59, some (56, false), .bin .neq (.t 58) (.c (.int .i64 (3)))⟩, ⟨some 60, none, .pick (.t 56) (.c (.bool true)) (.t 59)⟩, ⟨some 61, none, .mov (.t 60)⟩, ⟨some 62, some (61, false), .mov (.t 9)⟩, ⟨some 63, some (61, false), .ixf 1 (.t 62) (.c (.int .i64 (0)))⟩, ⟨some 64, some (61, false), .ldf (.t 63) false 1⟩, ⟨some 65, some (61, false), .bin .neq (.t 64) (.c (.int .i64 (3)))⟩, ⟨some 66, none, .pick (.t 61) (.c (.bool true)) (.t 65)⟩, ⟨some 67, none, .mov (.t 66)⟩, ⟨some 68, some (67, false), .mov (.t 9)⟩, ⟨some 69, some (67, false), .ixf 1 (.t 68) (.c (.int .i64 (2)))⟩, ⟨some 70, some (67, false), .ldf (.t 69) false 1⟩, ⟨some 71, some (67, false), .bin .neq (.t 70) (.c (.int .i64 (4)))⟩, ⟨some 72, none, .pick (.t 67) (.c (.bool true)) (.t 71)⟩])
 (.cond (.t 72) (.seq (.ops none [⟨some 4, none, .mov (.c (.bool false))⟩])
 (.ret)) (.skip)))
 (.seq (.seq (.ops none [⟨some 12, none, .mov (.c (.int .i64 (0)))⟩])
 (.block 2 (.loop g5l1)))
 (.seq (.ops (some [[], [0], [0, 1], [0, 1, 2], [0, 1, 2, 3], [0, 1, 2, 3, 4], [0, 1, 2, 3, 4, 5], [0, 1, 2, 3, 4, 5, 6], [0, 1, 2, 3, 4, 5, 6, 7], [0, 1, 2, 3, 4, 5], [0, 1, 2, 3, 4, 5, 6, 7, 8, 9], [0, 1, 2, 3, 4, 5, 6, 7, 8, 9, 10], [0, 1, 2, 3, 4, 5, 6, 7, 8, 9, 10, 11], [0, 1, 2, 3, 4, 5, 6, 7, 8, 9, 10, 11, 12], [0, 1, 2, 3, 4, 5, 6, 7, 8, 9, 10, 11, 12, 13], [0, 1, 2, 3, 4, 5, 6, 7, 8, 9, 10, 11, 12, 13, 14], [0, 1, 2, 3, 4, 5, 6, 7, 8, 9, 10, 11, 12, 13, 14, 15], [0, 1, 2, 3, 4, 5, 6, 7, 8, 9, 10, 11, 12, 13, 14, 15, 16], [0, 1, 2, 3, 4, 5, 6, 7, 8, 9, 10, 11, 12, 13, 14, 15, 16, 17], [0, 1, 2, 3, 4, 5, 6, 7, 8, 9, 10, 11, 12, 13, 14, 15, 16, 17, 18], [0, 1, 2, 3, 4, 5, 6, 7, 8, 9, 10, 11, 12, 13, 14, 15, 16], [0, 1, 2, 3, 4, 5, 6, 7, 8, 9, 10, 11, 12, 13, 14, 15, 16, 20], [0, 1, 2, 3, 4, 5, 6, 7, 8, 9, 10, 11, 12, 13, 14, 15, 16, 20, 21], [0, 1, 2, 3, 4, 5, 6, 7, 8, 9, 10, 11, 12, 13, 14, 15, 16, 20, 21, 22], [0, 1, 2, 3, 4, 5, 6, 7, 8, 9, 10, 11, 12, 13, 14, 15, 16, 17, 18, 19, 20, 21, 22, 23], [0, 1, 2, 3, 4, 5, 6, 7, 8, 9, 10, 11, 12, 13, 14, 15, 16, 17, 18, 19, 20, 21, 22, 23, 24], [0, 1, 2, 3, 4, 5, 6, 7, 8, 9, 10, 11, 12, 13, 14, 15, 16, 17, 18, 19, 20, 21, 22, 23, 24, 25], [0, 1, 2, 3, 4, 5, 6, 7, 8, 9, 10, 11, 12, 13, 14, 15, 16, 17, 18, 19, 20, 21, 22, 23, 24, 25, 26], [0, 1, 2, 3, 4, 5, 6, 7, 8, 9, 10, 11, 12, 13, 14, 15, 16, 17, 18, 19, 20, 21, 22, 23, 24, 25, 26, 27]]) [⟨some 87, none, .mov (.t 5)⟩, ⟨some 88, none, .mov (.t 87)⟩, ⟨some 89, some (88, true), .mov (.t 7)⟩, ⟨some 90, some (88, true), .len (.t 89)⟩, ⟨some 91, some (88, true), .bin .eql (.t 90) (.c (.int .i64 (0)))⟩, ⟨some 92, some (88, true), .mov (.t 91)⟩, ⟨some 93, some (92, true), .mov (.t 9)⟩, ⟨some 94, some (92, true), .ixf 1 (.t 93) (.c (.int .i64 (1)))⟩, ⟨some 95, some (92, true), .ldf (.t 94) false 1⟩, ⟨some 96, some (92, true), .mov (.t 6)⟩, ⟨some 97, some (92, true), .bin .eql (.t 95) (.t 96)⟩, ⟨some 98, some (88, true), .pick (.t 92) (.t 97) (.c (.bool false))⟩, ⟨some 99, some (88, true), .mov (.t 98)⟩, ⟨some 100, some (99, false), .mov (.t 7)⟩, ⟨some 101, some (99, false), .len (.t 100)⟩, ⟨some 102, some (99, false), .bin .gtr (.t 101) (.c (.int .i64 (0)))⟩, ⟨some 103, some (99, false), .mov (.t 102)⟩, ⟨some 104, some (103, true), .mov (.t 9)⟩, ⟨some 105, some (103, true), .ixf 1 (.t 104) (.c (.int .i64 (1)))⟩, ⟨some 106, some (103, true), .ldf (.t 105) false 1⟩, ⟨some 107, some (103, true), .mov (.t 7)⟩, ⟨some 108, some (103, true), .ixf 4 (.t 107) (.c (.int .i64 (0)))⟩, ⟨some 109, some (103, true), .fad (.t 108) 3⟩, ⟨some 110, some (103, true), .ldf (.t 109) false 1⟩, ⟨some 111, some (103, true), .bin .eql (.t 106) (.t 110)⟩, ⟨some 112, some (99, false), .pick (.t 103) (.t 111) (.c (.bool false))⟩, ⟨some 113, some (88, true), .pick (.t 99) (.c (.bool true)) (.t 112)⟩, ⟨some 114, none, .pick (.t 88) (.t 113) (.c (.bool false))⟩, ⟨some 4, none, .mov (.t 114)⟩])
 (.ret)))))))))
/-- bellwether/bellwetherlaw02.MemWins -/
def g5 : AFn := { np := 2, nt := 115, res := [.t 4], body := g5b }

def g6b : ACode :=
.seq (.ops none [⟨some 6, none, .boxf 4 (.t 2)⟩, ⟨some 7, none, .boxf 4 (.t 3)⟩, ⟨some 8, none, .mov (.c (.bool false))⟩])
 (.seq (.ops none [⟨some 29, none, .calp 11 []⟩, ⟨some 9, none, .mov (.t 29)⟩])
 (.seq (.ops none [⟨some 30, none, .bsl 1 [.int .i64 0] 5 [(0, .c (.int .i64 (0))), (1, .c (.int .i64 (1))), (2, .c (.int .i64 (2))), (3, .c (.int .i64 (3))), (4, .c (.int .i64 (0)))]⟩, ⟨some 10, none, .mov (.t 30)⟩])
 (.seq (.ops none [⟨some 31, none, .mov (.t 0)⟩, ⟨some 32, none, .calp 16 [.t 31, .c (.int .i64 (5))]⟩, ⟨some 11, none, .mov (.t 32)⟩])
 (.seq (.ops none [⟨some 33, none, .mov (.t 1)⟩, ⟨some 34, none, .mov (.t 11)⟩, ⟨some 35, none, .len (.t 34)⟩, ⟨some 36, none, .bin .add (.t 35) (.c (.int .i64 (1)))⟩, ⟨some 37, none, .calp 12 [.t 33, .t 36]⟩, ⟨some 12, none, .mov (.t 37)⟩])
 (.seq (.ops none [⟨some 39, none, .mov (.t 10)⟩, ⟨some 40, none, .mov (.t 11)⟩, ⟨some 41, none, .calp 17 [.t 39, .t 40]⟩, ⟨some 38, none, .mov (.t 41)⟩, ⟨some 42, none, .ext (.t 38) 0⟩, ⟨some 43, none, .ext (.t 38) 1⟩, ⟨some 44, none, .ext (.t 38) 2⟩, ⟨some 13, none, .mov (.t 42)⟩, ⟨some 14, none, .mov (.t 43)⟩, ⟨some 15, none, .mov (.t 44)⟩])
 (.seq (.ops none [⟨some 46, none, .mov (.t 10)⟩, ⟨some 47, none, .mov (.t 11)⟩, ⟨some 48, none, .mov (.t 12)⟩, ⟨some 49, none, .slf 4 (.t 47) none (some (.t 48))⟩, ⟨some 50, none, .calp 17 [.t 46, .t 49]⟩, ⟨some 45, none, .mov (.t 50)⟩, ⟨some 51, none, .ext (.t 45) 0⟩, ⟨some 52, none, .ext (.t 45) 1⟩, ⟨some 53, none, .ext (.t 45) 2⟩, ⟨some 16, none, .mov (.t 51)⟩, ⟨some 17, none, .mov (.t 52)⟩, ⟨some 18, none, .mov (.t 53)⟩])
 (.seq (.ops none [⟨some 55, none, .mov (.t 16)⟩, ⟨some 56, none, .mov (.t 11)⟩, ⟨some 57, none, .mov (.t 12)⟩, ⟨some 58, none, .slf 4 (.t 56) (some (.t 57)) none⟩, ⟨some 59, none, .calp 17 [.t 55, .t 58]⟩, ⟨some 54, none, .mov (.t 59)⟩, ⟨some 60, none, .ext (.t 54) 0⟩, ⟨some 61, none, .ext (.t 54) 1⟩, ⟨some 62, none, .ext (.t 54) 2⟩, ⟨some 19, none, .mov (.t 60)⟩, ⟨some 20, none, .mov (.t 61)⟩, ⟨some 21, none, .mov (.t 62)⟩])
 (.seq (.seq (.ops none [⟨some 63, none, .mov (.t 15)⟩, ⟨some 64, none, .bin .neq (.t 63) (.c (.int .i64 (0)))⟩, ⟨some 65, none, .mov (.t 64)⟩, ⟨some 66, some (65, false), .mov (.t 18)⟩, ⟨some 67, some (65, false), .bin .neq (.t 66) (.c (.int .i64 (0)))⟩, ⟨some 68, none, .pick (.t 65) (.c (.bool true)) (.t 67)⟩, ⟨some 69, none, .mov (.t 68)⟩, ⟨some 70, some (69, false), .mov (.t 21)⟩, ⟨some 71, some (69, false), .bin .neq (.t 70) (.c (.int .i64 (0)))⟩, ⟨some 72, none, .pick (.t 69) (.c (.bool true)) (.t 71)⟩, ⟨some 73, none, .mov (.t 72)⟩, ⟨some 74, some (73, false), .mov (.t 13)⟩, ⟨some 75, some (73, false), .mov (.t 19)⟩, ⟨some 76, some (73, false), .calp 15 [.t 74, .t 75]⟩, ⟨some 77, some (73, false), .notb (.t 76)⟩, ⟨some 78, none, .pick (.t 73) (.c (.bool true)) (.t 77)⟩, ⟨some 79, none, .mov (.t 78)⟩, ⟨some 80, some (79, false), .mov (.t 14)⟩, ⟨some 81, some (79, false), .len (.t 80)⟩, ⟨some 82, some (79, false), .mov (.t 11)⟩, ⟨some 83, some (79, false), .len (.t 82)⟩, ⟨some 84, some (79, false), .bin .neq (.t 81) (.t 83)⟩, ⟨some 85, none, .pick (.t 79) (.c (.bool true)) (.t 84)⟩, ⟨some 86, none, .mov (.t 85)⟩, ⟨some 87, some (86, false), .mov (.t 14)⟩, ⟨some 88, some (86, false), .mov (.t 12)⟩, ⟨some 89, some (86, false), .slf 2 (.t 87) (some (.t 88)) none⟩, ⟨some 90, some (86, false), .mov (.t 20)⟩, ⟨some 91, some (86, false), .calp 19 [.t 89, .t 90]⟩, ⟨some 92, some (86, false), .notb (.t 91)⟩, ⟨some 93, none, .pick (.t 86) (.c (.bool true)) (.t 92)⟩])
 (.cond (.t 93) (.seq (.ops none [⟨some 8, none, .mov (.c (.bool false))⟩])
 (.ret)) (.skip)))
 (.seq (.ops none [⟨some 94, none, .ldf (.t 6) true 4⟩, ⟨some 95, none, .ldf (.t 7) true 4⟩, ⟨some 96, none, .bsl 4 [.int .i64 0, .int .i64 0, .int .i64 0, .int .i64 0] 2 [(0, .t 94), (1, .t 95)]⟩, ⟨some 97, none, .calf 16 [.t 96, .c (.int .i64 (2))]⟩, ⟨some 22, none, .mov (.t 97)⟩])
 (.seq (.ops none [⟨some 98, none, .mov (.t 22)⟩, ⟨some 99, none, .mov (.t 22)⟩, ⟨some 100, none, .ixv 4 (.t 99) (.c (.int .i64 (1)))⟩, ⟨some 101, none, .fad (.t 100) 1⟩, ⟨some 102, none, .ldv (.t 101) false 1⟩, ⟨some 103, none, .bin .add (.t 102) (.c (.int .i64 (2)))⟩, ⟨some 104, none, .ixv 4 (.t 98) (.c (.int .i64 (1)))⟩, ⟨some 105, none, .fad (.t 104) 1⟩, ⟨none, none, .st (.t 105) (.t 103) 1⟩])
 (.seq (.ops (some [[], [], [1], [1, 2], [], [4], [4, 5], [1, 2, 3, 4, 5, 6], [0, 1, 2, 3, 4, 5, 6, 7], [0, 1, 2, 3, 4, 5, 6, 7, 8], [0, 1, 2, 3, 4, 5, 6, 7, 8, 9], [0, 1, 2, 3, 4, 5, 6, 7, 8, 9], [0, 1, 2, 3, 4, 5, 6, 7, 8, 9], [0, 1, 2, 3, 4, 5, 6, 7, 8, 9, 10], [0, 1, 2, 3, 4, 5, 6, 7, 8, 9, 10, 11, 13], [0, 1, 2, 3, 4, 5, 6, 7, 8, 9, 10, 11, 12, 13, 14]]) [⟨some 107, none, .mov (.t 10)⟩, ⟨some 108, none, .mov (.t 22)⟩, ⟨some 109, none, .ixv 4 (.t 108) (.c (.int .i64 (0)))⟩, ⟨some 110, none, .ldv (.t 109) true 4⟩, ⟨some 111, none, .mov (.t 22)⟩, ⟨some 112, none, .ixv 4 (.t 111) (.c (.int .i64 (1)))⟩, ⟨some 113, none, .ldv (.t 112) true 4⟩, ⟨some 114, none, .bsl 4 [.int .i64 0, .int .i64 0, .int .i64 0, .int .i64 0] 2 [(0, .t 110), (1, .t 113)]⟩, ⟨some 115, none, .calp 17 [.t 107, .t 114]⟩, ⟨some 106, none, .mov (.t 115)⟩, ⟨some 116, none, .ext (.t 106) 0⟩, ⟨some 117, none, .ext (.t 106) 1⟩, ⟨some 118, none, .ext (.t 106) 2⟩, ⟨some 23, none, .mov (.t 116)⟩, ⟨some 24, none, .mov (.t 117)⟩, ⟨some 25, none, .mov (.t 118)⟩])
 (.seq (.ops (some [[], [], [1], [1, 2], [], [4], [4, 5], [1, 2, 3, 4, 5, 6], [0, 1, 2, 3, 4, 5, 6, 7], [0, 1, 2, 3, 4, 5, 6, 7, 8], [0, 1, 2, 3, 4, 5, 6, 7, 8, 9], [0, 1, 2, 3, 4, 5, 6, 7, 8, 9], [0, 1, 2, 3, 4, 5, 6, 7, 8, 9], [0, 1, 2, 3, 4, 5, 6, 7, 8, 9, 10], [0, 1, 2, 3, 4, 5, 6, 7, 8, 9, 10, 11, 13], [0, 1, 2, 3, 4, 5, 6, 7, 8, 9, 10, 11, 12, 13, 14]]) [⟨some 120, none, .mov (.t 10)⟩, ⟨some 121, none, .mov (.t 22)⟩, ⟨some 122, none, .ixv 4 (.t 121) (.c (.int .i64 (1)))⟩, ⟨some 123, none, .ldv (.t 122) true 4⟩, ⟨some 124, none, .mov (.t 22)⟩, ⟨some 125, none, .ixv 4 (.t 124) (.c (.int .i64 (0)))⟩, ⟨some 126, none, .ldv (.t 125) true 4⟩, ⟨some 127, none, .bsl 4 [.int .i64 0, .int .i64 0, .int .i64 0, .int .i64 0] 2 [(0, .t 123), (1, .t 126)]⟩, ⟨some 128, none, .calp 17 [.t 120, .t 127]⟩, ⟨some 119, none, .mov (.t 128)⟩, ⟨some 129, none, .ext (.t 119) 0⟩, ⟨some 130, none, .ext (.t 119) 1⟩, ⟨some 131, none, .ext (.t 119) 2⟩, ⟨some 26, none, .mov (.t 129)⟩, ⟨some 27, none, .mov (.t 130)⟩, ⟨some 28, none, .mov (.t 131)⟩])
 (.seq (.ops (some [[], [0], [0, 1], [0, 1, 2], [0, 1, 2, 3], [0, 1, 2, 3, 4], [0, 1, 2, 3, 4, 5], [0, 1, 2, 3, 4, 5, 6], [0, 1, 2, 3, 4, 5, 6, 7], [0, 1, 2, 3, 4, 5, 6, 7, 8], [0, 1, 2, 3, 4, 5, 6, 7, 8, 9], [0, 1, 2, 3, 4, 5, 6, 7, 8, 9], [0, 1, 2, 3, 4, 5, 6, 7, 8, 9, 10, 11], [0, 1, 2, 3, 4, 5, 6, 7, 8, 9, 10, 11, 12], [0, 1, 2, 3, 4, 5, 6, 7, 8, 9, 10, 11, 12, 13], [0, 1, 2, 3, 4, 5, 6, 7, 8, 9, 10, 11, 12, 13, 14], [0, 1, 2, 3, 4, 5, 6, 7, 8, 9, 10, 11, 12, 13, 14, 15], [0, 1, 2, 3, 4, 5, 6, 7, 8, 9, 10, 11, 12, 13, 14, 15, 16], [0, 1, 2, 3, 4, 5, 6, 7, 8, 9, 10, 11, 12, 13, 14, 15, 16, 17], [0, 1, 2, 3, 4, 5, 6, 7, 8, 9, 10, 11, 12, 13, 14, 15, 16, 17, 18], [0, 1, 2, 3, 4, 5, 6, 7, 8, 9, 10, 11, 12, 13, 14, 15, 16, 17, 18, 19], [0, 1, 2, 3, 4, 5, 6, 7, 8, 9, 10, 11, 12, 13, 14, 15, 16, 17, 18, 19, 20], [0, 1, 2, 3, 4, 5, 6, 7, 8, 9, 10, 11, 12, 13, 14, 15, 16, 17, 18, 19, 20, 21], [0, 1, 2, 3, 4, 5, 6, 7, 8, 9, 10, 11, 12, 13, 14, 15, 16, 17, 18, 19, 20, 21, 22], [0, 1, 2, 3, 4, 5, 6, 7, 8, 9, 10, 11, 12, 13, 14, 15, 16, 17, 18, 19, 20, 21, 22, 23], [0, 1, 2, 3, 4, 5, 6, 7, 8, 9, 10, 11, 12, 13, 14, 15, 16, 17, 18, 19, 20, 21, 22, 23, 24], [0, 1, 2, 3, 4, 5, 6, 7, 8, 9, 10, 11, 12, 13, 14, 15, 16, 17, 18, 19, 20, 21, 22, 23, 24, 25], [0, 1, 2, 3, 4, 5, 6, 7, 8, 9, 10, 11, 12, 13, 14, 15, 16, 17, 18, 19, 20, 21, 22, 23, 24, 25, 26], [0, 1, 2, 3, 4, 5, 6, 7, 8, 9, 10, 11, 12, 13, 14, 15, 16, 17, 18, 19, 20, 21, 22, 23, 24], [0, 1, 2, 3, 4, 5, 6, 7, 8, 9, 10, 11, 12, 13, 14, 15, 16, 17, 18, 19, 20, 21, 22, 23, 24, 28], [0, 1, 2, 3, 4, 5, 6, 7, 8, 9, 10, 11, 12, 13, 14, 15, 16, 17, 18, 19, 20, 21, 22, 23, 24, 28, 29], [0, 1, 2, 3, 4, 5, 6, 7, 8, 9, 10, 11, 12, 13, 14, 15, 16, 17, 18, 19, 20, 21, 22, 23, 24, 25, 26, 27, 28, 29, 30], [0, 1, 2, 3, 4, 5, 6, 7, 8, 9, 10, 11, 12, 13, 14, 15, 16, 17, 18, 19, 20, 21, 22, 23, 24, 25, 26, 27, 28, 29, 30, 31], [0, 1, 2, 3, 4, 5, 6, 7, 8, 9, 10, 11, 12, 13, 14, 15, 16, 17, 18, 19, 20, 21, 22, 23, 24, 25, 26, 27, 28, 29, 30, 31, 32], [0, 1, 2, 3, 4, 5, 6, 7, 8, 9, 10, 11, 12, 13, 14, 15, 16, 17, 18, 19, 20, 21, 22, 23, 24, 25, 26, 27, 28, 29, 30, 31, 32, 33], [0, 1, 2, 3, 4, 5, 6, 7, 8, 9, 10, 11, 12, 13, 14, 15, 16, 17, 18, 19, 20, 21, 22, 23, 24, 25, 26, 27, 28, 29, 30, 31, 32, 33, 34], [0, 1, 2, 3, 4, 5, 6, 7, 8, 9, 10, 11, 12, 13, 14, 15, 16, 17, 18, 19, 20, 21, 22, 23, 24, 25, 26, 27, 28, 29, 30, 31, 32, 33, 34, 35], [0, 1, 2, 3, 4, 5, 6, 7, 8, 9, 10, 11, 12, 13, 14, 15, 16, 17, 18, 19, 20, 21, 22, 23, 24, 25, 26, 27, 28, 29, 30, 31, 32, 33], [0, 1, 2, 3, 4, 5, 6, 7, 8, 9, 10, 11, 12, 13, 14, 15, 16, 17, 18, 19, 20, 21, 22, 23, 24, 25, 26, 27, 28, 29, 30, 31, 32, 33, 37], [0, 1, 2, 3, 4, 5, 6, 7, 8, 9, 10, 11, 12, 13, 14, 15, 16, 17, 18, 19, 20, 21, 22, 23, 24, 25, 26, 27, 28, 29, 30, 31, 32, 33, 37, 38], [0, 1, 2, 3, 4, 5, 6, 7, 8, 9, 10, 11, 12, 13, 14, 15, 16, 17, 18, 19, 20, 21, 22, 23, 24, 25, 26, 27, 28, 29, 30, 31, 32, 33, 34, 35, 36, 37, 38, 39], [0, 1, 2, 3, 4, 5, 6, 7, 8, 9, 10, 11, 12, 13, 14, 15, 16, 17, 18, 19, 20, 21, 22, 23, 24, 25, 26, 27, 28, 29, 30, 31, 32, 33, 34, 35, 36, 37, 38, 39, 40], [0, 1, 2, 3, 4, 5, 6, 7, 8, 9, 10, 11, 12, 13, 14, 15, 16, 17, 18, 19, 20, 21, 22, 23, 24, 25, 26, 27, 28, 29, 30, 31, 32, 33, 34, 35, 36, 37, 38, 39, 40, 41]]) [⟨some 132, none, .mov (.t 9)⟩, ⟨some 133, none, .mov (.t 132)⟩, ⟨some 134, some (133, true), .mov (.t 25)⟩, ⟨some 135, some (133, true), .bin .eql (.t 134) (.c (.int .i64 (0)))⟩, ⟨some 136, none, .pick (.t 133) (.t 135) (.c (.bool false))⟩, ⟨some 137, none, .mov (.t 136)⟩, ⟨some 138, some (137, true), .mov (.t 28)⟩, ⟨some 139, some (137, true), .bin .eql (.t 138) (.c (.int .i64 (0)))⟩, ⟨some 140, none, .pick (.t 137) (.t 139) (.c (.bool false))⟩, ⟨some 141, none, .mov (.t 140)⟩, ⟨some 142, some (141, true), .mov (.t 23)⟩, ⟨some 143, some (141, true), .mov (.t 26)⟩, ⟨some 144, some (141, true), .calp 15 [.t 142, .t 143]⟩, ⟨some 145, none, .pick (.t 141) (.t 144) (.c (.bool false))⟩, ⟨some 146, none, .mov (.t 145)⟩, ⟨some 147, some (146, true), .mov (.t 24)⟩, ⟨some 148, some (146, true), .len (.t 147)⟩, ⟨some 149, some (146, true), .bin .eql (.t 148) (.c (.int .i64 (2)))⟩, ⟨some 150, none, .pick (.t 146) (.t 149) (.c (.bool false))⟩, ⟨some 151, none, .mov (.t 150)⟩, ⟨some 152, some (151, true), .mov (.t 27)⟩, ⟨some 153, some (151, true), .len (.t 152)⟩, ⟨some 154, some (151, true), .bin .eql (.t 153) (.c (.int .i64 (2)))⟩, ⟨some 155, none, .pick (.t 151) (.t 154) (.c (.bool false))⟩, ⟨some 156, none, .mov (.t 155)⟩, ⟨some 157, some (156, true), .mov (.t 24)⟩, ⟨some 158, some (156, true), .ixf 2 (.t 157) (.c (.int .i64 (0)))⟩, ⟨some 159, some (156, true), .ldf (.t 158) true 2⟩, ⟨some 160, some (156, true), .mov (.t 27)⟩, ⟨some 161, some (156, true), .ixf 2 (.t 160) (.c (.int .i64 (1)))⟩, ⟨some 162, some (156, true), .ldf (.t 161) true 2⟩, ⟨some 163, some (156, true), .eqs false [false, true] (.t 159) (.t 162)⟩, ⟨some 164, none, .pick (.t 156) (.t 163) (.c (.bool false))⟩, ⟨some 165, none, .mov (.t 164)⟩, ⟨some 166, some (165, true), .mov (.t 24)⟩, ⟨some 167, some (165, true), .ixf 2 (.t 166) (.c (.int .i64 (1)))⟩, ⟨some 168, some (165, true), .ldf (.t 167) true 2⟩, ⟨some 169, some (165, true), .mov (.t 27)⟩, ⟨some 170, some (165, true), .ixf 2 (.t 169) (.c (.int .i64 (0)))⟩, ⟨some 171, some (165, true), .ldf (.t 170) true 2⟩, ⟨some 172, some (165, true), .eqs false [false, true] (.t 168) (.t 171)⟩, ⟨some 173, none, .pick (.t 165) (.t 172) (.c (.bool false))⟩, ⟨some 8, none, .mov (.t 173)⟩])
 (.ret))))))))))))))
/-- bellwether/bellwetherlaw02.MemParts -/
def g6 : AFn := { np := 4, nt := 174, res := [.t 8], body := g6b }

def g7l0 : ACode :=
 .ghost (.renum [0, 1, 5, 6, 7, 8] [6]) (.seq (.seq (.ops none [⟨some 20, none, .mov (.t 8)⟩, ⟨some 21, none, .mov (.t 0)⟩, ⟨some 22, none, .len (.t 21)⟩, ⟨some 23, none, .bin .lss (.t 20) (.t 22)⟩, ⟨some 24, none, .mov (.t 23)⟩, ⟨some 25, some (24, true), .mov (.t 8)⟩, ⟨some 26, some (24, true), .bin .lss (.t 25) (.c (.int .i64 (30)))⟩, ⟨some 27, none, .pick (.t 24) (.t 26) (.c (.bool false))⟩])
 (.cond (.t 27) (.skip) (.exit 0)))
 (.seq (.block 1 (.seq (.ops none [⟨some 30, none, .mov (.t 0)⟩, ⟨some 31, none, .mov (.t 8)⟩, ⟨some 32, none, .ixf 1 (.t 30) (.t 31)⟩, ⟨some 33, none, .ldf (.t 32) false 1⟩, ⟨some 34, none, .calp 12 [.t 33, .c (.int .i64 (1000))]⟩, ⟨some 35, none, .bin .sub (.t 34) (.c (.int .i64 (500)))⟩, ⟨some 9, none, .mov (.t 35)⟩])
 (.seq (.ops none [⟨some 36, none, .mov (.t 6)⟩, ⟨some 37, none, .mov (.t 9)⟩, ⟨some 38, none, .build [.int .i64 0, .int .i64 0, .int .i64 0, .int .i64 0] [(0, 1, .c (.int .i64 (4))), (1, 1, .c (.int .i64 (1))), (3, 1, .t 37)]⟩, ⟨some 39, none, .bsl 4 [.int .i64 0, .int .i64 0, .int .i64 0, .int .i64 0] 1 [(0, .t 38)]⟩, ⟨some 40, none, .app 25 4 32 [.int .i64 0, .int .i64 0, .int .i64 0, .int .i64 0] (.t 36) (.t 39)⟩, ⟨some 6, none, .mov (.t 40)⟩])
 (.ops none [⟨some 41, none, .mov (.t 7)⟩, ⟨some 42, none, .mov (.t 9)⟩, ⟨some 43, none, .bin .add (.t 41) (.t 42)⟩, ⟨some 7, none, .mov (.t 43)⟩]))))
 (.ops none [⟨some 28, none, .mov (.t 8)⟩, ⟨some 29, none, .bin .add (.t 28) (.c (.int .i64 (1)))⟩, ⟨some 8, none, .mov (.t 29)⟩])))
def g7l1 : ACode :=
 .ghost (.renum [5, 6, 7, 11, 12, 14, 17, 18] []) (.seq (.seq (.ops none [⟨some 83, none, .mov (.t 18)⟩, ⟨some 84, none, .mov (.t 6)⟩, ⟨some 85, none, .len (.t 84)⟩, ⟨some 86, none, .bin .lss (.t 83) (.t 85)⟩])
 (.cond (.t 86) (.skip) (.exit 2)))
 (.seq (.block 3 (.seq (.seq (.ops none [⟨some 89, none, .mov (.t 12)⟩, ⟨some 90, none, .mov (.t 18)⟩, ⟨some 91, none, .ixf 2 (.t 89) (.t 90)⟩, ⟨some 92, none, .fad (.t 91) 0⟩, ⟨some 93, none, .ldf (.t 92) false 1⟩, ⟨some 94, none, .mov (.t 17)⟩, ⟨some 95, none, .bin .neq (.t 93) (.t 94)⟩, ⟨some 96, none, .mov (.t 95)⟩, ⟨some 97, some (96, false), .mov (.t 12)⟩, ⟨some 98, some (96, false), .mov (.t 18)⟩, ⟨some 99, some (96, false), .ixf 2 (.t 97) (.t 98)⟩, ⟨some 100, some (96, false), .fad (.t 99) 1⟩, ⟨some 101, some (96, false), .ldf (.t 100) false 1⟩, ⟨some 102, some (96, false), .notb (.t 101)⟩, ⟨some 103, none, .pick (.t 96) (.c (.bool true)) (.t 102)⟩])
 (.cond (.t 103) (.seq (.ops none [⟨some 4, none, .mov (.c (.bool false))⟩])
 (.ret)) (.skip)))
 (.ops none [⟨some 104, none, .mov (.t 17)⟩, ⟨some 105, none, .mov (.t 6)⟩, ⟨some 106, none, .mov (.t 18)⟩, ⟨some 107, none, .ixf 4 (.t 105) (.t 106)⟩, ⟨some 108, none, .fad (.t 107) 3⟩, ⟨some 109, none, .ldf (.t 108) false 1⟩, ⟨some 110, none, .bin .add (.t 104) (.t 109)⟩, ⟨some 17, none, .mov (.t 110)⟩])))
 (.ops none [⟨some 87, none, .mov (.t 18)⟩, ⟨some 88, none, .bin .add (.t 87) (.c (.int .i64 (1)))⟩, ⟨some 18, none, .mov (.t 88)⟩])))
def g7b : ACode :=
.seq (.ops none [⟨some 4, none, .mov (.c (.bool false))⟩])
 (.seq (.ops none [⟨some 19, none, .calp 11 []⟩, ⟨some 5, none, .mov (.t 19)⟩])
 (.seq (.ops none [⟨some 6, none, .nv 25 4⟩])
 (.seq (.ops none [⟨some 7, none, .mov (.c (.int .i64 (0)))⟩])
 (.seq (.seq (.ops none [⟨some 8, none, .mov (.c (.int .i64 (0)))⟩])
 (.block 0 (.loop g7l0)))
 (.seq (.ops none [⟨some 44, none, .mov (.t 1)⟩, ⟨some 45, none, .mov (.t 6)⟩, ⟨some 46, none, .lenv (.t 45)⟩, ⟨some 47, none, .bin .add (.t 46) (.c (.int .i64 (1)))⟩, ⟨some 48, none, .calp 12 [.t 44, .t 47]⟩, ⟨some 10, none, .mov (.t 48)⟩])
 (.seq (.ghost (.frz 6) (.ops none [⟨some 50, none, .bsl 1 [.int .i64 0] 3 [(0, .c (.int .i64 (5))), (1, .c (.int .i64 (0))), (2, .c (.int .i64 (6)))]⟩, ⟨some 51, none, .mov (.t 6)⟩, ⟨some 52, none, .calp 17 [.t 50, .t 51]⟩, ⟨some 49, none, .mov (.t 52)⟩, ⟨some 53, none, .ext (.t 49) 0⟩, ⟨some 54, none, .ext (.t 49) 1⟩, ⟨some 55, none, .ext (.t 49) 2⟩, ⟨some 11, none, .mov (.t 53)⟩, ⟨some 12, none, .mov (.t 54)⟩, ⟨some 13, none, .mov (.t 55)⟩]))
 (.seq (.ops (some [[], [], [], [1, 2], [1, 2, 3], [], [], [5, 6], [1, 2, 3, 4, 5, 6, 7], [0, 1, 2, 3, 4, 5, 6, 7, 8], [0, 1, 2, 3, 4, 5, 6, 7, 8, 9], [0, 1, 2, 3, 4, 5, 6, 7, 8, 9, 10], [0, 1, 2, 3, 4, 5, 6, 7, 8, 9, 10], [0, 1, 2, 3, 4, 5, 6, 7, 8, 9, 10], [0, 1, 2, 3, 4, 5, 6, 7, 8, 9, 10, 11], [0, 1, 2, 3, 4, 5, 6, 7, 8, 9, 10, 11, 12, 14], [0, 1, 2, 3, 4, 5, 6, 7, 8, 9, 10, 11, 12, 13, 14, 15]]) [⟨some 57, none, .bsl 1 [.int .i64 0] 3 [(0, .c (.int .i64 (5))), (1, .c (.int .i64 (0))), (2, .c (.int .i64 (6)))]⟩, ⟨some 58, none, .mov (.t 6)⟩, ⟨some 59, none, .mov (.t 10)⟩, ⟨some 60, none, .slf 4 (.t 58) (some (.t 59)) none⟩, ⟨some 61, none, .apn 25 4 32 [.int .i64 0, .int .i64 0, .int .i64 0, .int .i64 0] (.t 60)⟩, ⟨some 62, none, .mov (.t 6)⟩, ⟨some 63, none, .mov (.t 10)⟩, ⟨some 64, none, .slf 4 (.t 62) none (some (.t 63))⟩, ⟨some 65, none, .appz 25 4 32 [.int .i64 0, .int .i64 0, .int .i64 0, .int .i64 0] (.t 61) (.t 64)⟩, ⟨some 66, none, .calp 17 [.t 57, .t 65]⟩, ⟨some 56, none, .mov (.t 66)⟩, ⟨some 67, none, .ext (.t 56) 0⟩, ⟨some 68, none, .ext (.t 56) 1⟩, ⟨some 69, none, .ext (.t 56) 2⟩, ⟨some 14, none, .mov (.t 67)⟩, ⟨some 15, none, .mov (.t 68)⟩, ⟨some 16, none, .mov (.t 69)⟩])
 (.seq (.seq (.ops none [⟨some 70, none, .mov (.t 13)⟩, ⟨some 71, none, .bin .neq (.t 70) (.c (.int .i64 (0)))⟩, ⟨some 72, none, .mov (.t 71)⟩, ⟨some 73, some (72, false), .mov (.t 16)⟩, ⟨some 74, some (72, false), .bin .neq (.t 73) (.c (.int .i64 (0)))⟩, ⟨some 75, none, .pick (.t 72) (.c (.bool true)) (.t 74)⟩, ⟨some 76, none, .mov (.t 75)⟩, ⟨some 77, some (76, false), .mov (.t 12)⟩, ⟨some 78, some (76, false), .len (.t 77)⟩, ⟨some 79, some (76, false), .mov (.t 6)⟩, ⟨some 80, some (76, false), .len (.t 79)⟩, ⟨some 81, some (76, false), .bin .neq (.t 78) (.t 80)⟩, ⟨some 82, none, .pick (.t 76) (.c (.bool true)) (.t 81)⟩])
 (.cond (.t 82) (.seq (.ops none [⟨some 4, none, .mov (.c (.bool false))⟩])
 (.ret)) (.skip)))
 (.seq (.ops none [⟨some 17, none, .mov (.c (.int .i64 (0)))⟩])
 (.seq (.seq (.ops none [⟨some 18, none, .mov (.c (.int .i64 (0)))⟩])
 (.block 2 (.loop g7l1)))
 (.seq (.ops none [⟨some 111, none, .mov (.t 5)⟩, ⟨some 112, none, .mov (.t 111)⟩, ⟨some 113, some (112, true), .mov (.t 11)⟩, ⟨some 114, some (112, true), .mov (.t 7)⟩, ⟨some 115, some (112, true), .bsl 1 [.int .i64 0] 3 [(0, .c (.int .i64 (5))), (1, .t 114), (2, .c (.int .i64 (6)))]⟩, ⟨some 116, some (112, true), .calp 15 [.t 113, .t 115]⟩, ⟨some 117, none, .pick (.t 112) (.t 116) (.c (.bool false))⟩, ⟨some 118, none, .mov (.t 117)⟩, ⟨some 119, some (118, true), .mov (.t 11)⟩, ⟨some 120, some (118, true), .mov (.t 14)⟩, ⟨some 121, some (118, true), .calp 15 [.t 119, .t 120]⟩, ⟨some 122, none, .pick (.t 118) (.t 121) (.c (.bool false))⟩, ⟨some 4, none, .mov (.t 122)⟩])
 (.ret))))))))))))
/-- bellwether/bellwetherlaw02.MemAdds -/
def g7 : AFn := { np := 2, nt := 123, res := [.t 4], body := g7b }

def g8l0 : ACode :=
 .ghost (.renum [0, 3, 4, 5, 6] []) (.seq (.seq (.ops none [⟨some 16, none, .mov (.t 6)⟩, ⟨some 17, none, .mov (.t 0)⟩, ⟨some 18, none, .len (.t 17)⟩, ⟨some 19, none, .bin .lss (.t 16) (.t 18)⟩, ⟨some 20, none, .mov (.t 19)⟩, ⟨some 21, some (20, true), .mov (.t 6)⟩, ⟨some 22, some (20, true), .bin .lss (.t 21) (.c (.int .i64 (40)))⟩, ⟨some 23, none, .pick (.t 20) (.t 22) (.c (.bool false))⟩])
 (.cond (.t 23) (.skip) (.exit 0)))
 (.seq (.block 1 (.seq (.ops none [⟨some 26, none, .mov (.t 0)⟩, ⟨some 27, none, .mov (.t 6)⟩, ⟨some 28, none, .ixf 2 (.t 26) (.t 27)⟩, ⟨some 29, none, .aix (.t 28) (.c (.int .i64 (0))) 2 1⟩, ⟨some 30, none, .ldf (.t 29) false 1⟩, ⟨some 31, none, .calp 12 [.t 30, .c (.int .i64 (4))]⟩, ⟨some 7, none, .mov (.t 31)⟩])
 (.seq (.seq (.ops none [⟨some 32, none, .mov (.t 0)⟩, ⟨some 33, none, .mov (.t 6)⟩, ⟨some 34, none, .ixf 2 (.t 32) (.t 33)⟩, ⟨some 35, none, .aix (.t 34) (.c (.int .i64 (1))) 2 1⟩, ⟨some 36, none, .ldf (.t 35) false 1⟩, ⟨some 37, none, .calp 12 [.t 36, .c (.int .i64 (2))]⟩, ⟨some 38, none, .bin .eql (.t 37) (.c (.int .i64 (0)))⟩])
 (.cond (.t 38) (.seq (.ops none [⟨some 40, none, .mov (.t 4)⟩, ⟨some 41, none, .mov (.t 7)⟩, ⟨some 42, none, .bin .add (.t 41) (.c (.int .i64 (1)))⟩, ⟨some 43, none, .build [.int .i64 0, .int .i64 0, .int .i64 0, .int .i64 0] [(0, 1, .c (.int .i64 (3))), (3, 1, .t 42)]⟩, ⟨some 44, none, .calp 13 [.t 40, .t 43]⟩, ⟨some 39, none, .mov (.t 44)⟩, ⟨some 45, none, .ext (.t 39) 0⟩, ⟨some 46, none, .ext (.t 39) 1⟩, ⟨some 47, none, .ext (.t 39) 2⟩, ⟨some 9, none, .new 30 [.int .i64 0, .bool false]⟩, ⟨some 8, none, .mov (.t 45)⟩, ⟨none, none, .st (.t 9) (.t 46) 2⟩, ⟨some 10, none, .mov (.t 47)⟩])
 (.seq (.seq (.ops none [⟨some 48, none, .mov (.t 10)⟩, ⟨some 49, none, .bin .neq (.t 48) (.c (.int .i64 (0)))⟩, ⟨some 50, none, .mov (.t 49)⟩, ⟨some 51, some (50, false), .fad (.t 9) 1⟩, ⟨some 52, some (50, false), .ldv (.t 51) false 1⟩, ⟨some 53, some (50, false), .mov (.t 5)⟩, ⟨some 54, some (50, false), .bin .lss (.t 53) (.c (.int .i64 (0)))⟩, ⟨some 55, some (50, false), .eqb true (.t 52) (.t 54)⟩, ⟨some 56, none, .pick (.t 50) (.c (.bool true)) (.t 55)⟩])
 (.cond (.t 56) (.seq (.ops none [⟨some 2, none, .mov (.c (.bool false))⟩])
 (.ret)) (.skip)))
 (.seq (.seq (.ops none [⟨some 57, none, .fad (.t 9) 1⟩, ⟨some 58, none, .ldv (.t 57) false 1⟩])
 (.cond (.t 58) (.ops none [⟨some 59, none, .mov (.t 7)⟩, ⟨some 5, none, .mov (.t 59)⟩]) (.skip)))
 (.ops none [⟨some 60, none, .mov (.t 8)⟩, ⟨some 4, none, .mov (.t 60)⟩])))) (.seq (.ops none [⟨some 61, none, .mov (.t 5)⟩, ⟨some 62, none, .mov (.t 7)⟩, ⟨some 63, none, .bin .eql (.t 61) (.t 62)⟩])
 (.cond (.t 63) (.seq (.ops none [⟨some 65, none, .mov (.t 4)⟩, ⟨some 66, none, .build [.int .i64 0, .int .i64 0, .int .i64 0, .int .i64 0] [(0, 1, .c (.int .i64 (2)))]⟩, ⟨some 67, none, .calp 13 [.t 65, .t 66]⟩, ⟨some 64, none, .mov (.t 67)⟩, ⟨some 68, none, .ext (.t 64) 0⟩, ⟨some 69, none, .ext (.t 64) 1⟩, ⟨some 70, none, .ext (.t 64) 2⟩, ⟨some 12, none, .new 30 [.int .i64 0, .bool false]⟩, ⟨some 11, none, .mov (.t 68)⟩, ⟨none, none, .st (.t 12) (.t 69) 2⟩, ⟨some 13, none, .mov (.t 70)⟩])
 (.seq (.seq (.ops none [⟨some 71, none, .mov (.t 13)⟩, ⟨some 72, none, .bin .neq (.t 71) (.c (.int .i64 (0)))⟩, ⟨some 73, none, .mov (.t 72)⟩, ⟨some 74, some (73, false), .fad (.t 12) 1⟩, ⟨some 75, some (73, false), .ldv (.t 74) false 1⟩, ⟨some 76, some (73, false), .notb (.t 75)⟩, ⟨some 77, none, .pick (.t 73) (.c (.bool true)) (.t 76)⟩, ⟨some 78, none, .mov (.t 77)⟩, ⟨some 79, some (78, false), .fad (.t 12) 0⟩, ⟨some 80, some (78, false), .ldv (.t 79) false 1⟩, ⟨some 81, some (78, false), .mov (.t 7)⟩, ⟨some 82, some (78, false), .bin .add (.t 81) (.c (.int .i64 (1)))⟩, ⟨some 83, some (78, false), .bin .neq (.t 80) (.t 82)⟩, ⟨some 84, none, .pick (.t 78) (.c (.bool true)) (.t 83)⟩])
 (.cond (.t 84) (.seq (.ops none [⟨some 2, none, .mov (.c (.bool false))⟩])
 (.ret)) (.skip)))
 (.seq (.ops none [⟨some 5, none, .mov (.c (.int .i64 (-1)))⟩])
 (.ops none [⟨some 85, none, .mov (.t 11)⟩, ⟨some 4, none, .mov (.t 85)⟩])))) (.skip)))))
 (.seq (.ops none [⟨some 86, none, .mov (.t 4)⟩, ⟨some 87, none, .len (.t 86)⟩, ⟨some 88, none, .bin .neq (.t 87) (.c (.int .i64 (1)))⟩, ⟨some 89, none, .mov (.t 88)⟩, ⟨some 90, some (89, false), .mov (.t 4)⟩, ⟨some 91, some (89, false), .ixf 1 (.t 90) (.c (.int .i64 (0)))⟩, ⟨some 92, some (89, false), .ldf (.t 91) false 1⟩, ⟨some 93, some (89, false), .mov (.t 5)⟩, ⟨some 94, some (89, false), .bin .add (.t 93) (.c (.int .i64 (1)))⟩, ⟨some 95, some (89, false), .bin .neq (.t 92) (.t 94)⟩, ⟨some 96, none, .pick (.t 89) (.c (.bool true)) (.t 95)⟩])
 (.cond (.t 96) (.seq (.ops none [⟨some 2, none, .mov (.c (.bool false))⟩])
 (.ret)) (.skip))))))
 (.ops none [⟨some 24, none, .mov (.t 6)⟩, ⟨some 25, none, .bin .add (.t 24) (.c (.int .i64 (1)))⟩, ⟨some 6, none, .mov (.t 25)⟩])))
def g8b : ACode :=
.seq (.ops none [⟨some 2, none, .mov (.c (.bool false))⟩])
 (.seq (.ops none [⟨some 14, none, .calp 11 []⟩, ⟨some 3, none, .mov (.t 14)⟩])
 (.seq (.ops none [⟨some 15, none, .bsl 1 [.int .i64 0] 1 [(0, .c (.int .i64 (0)))]⟩, ⟨some 4, none, .mov (.t 15)⟩])
 (.seq (.ops none [⟨some 5, none, .mov (.c (.int .i64 (-1)))⟩])
 (.seq (.seq (.ops none [⟨some 6, none, .mov (.c (.int .i64 (0)))⟩])
 (.block 0 (.loop g8l0)))
 (.seq (.ops none [⟨some 97, none, .mov (.t 3)⟩, ⟨some 2, none, .mov (.t 97)⟩])
 (.ret))))))
/-- bellwether/bellwetherlaw02.MemLocks -/
def g8 : AFn := { np := 1, nt := 98, res := [.t 2], body := g8b }

def g10l0 : ACode :=
 .ghost (.renum [3, 4, 5, 6, 7, 8] [7]) (.seq (.seq (.ops none [⟨some 20, none, .mov (.t 8)⟩, ⟨some 21, none, .mov (.t 4)⟩, ⟨some 22, none, .len (.t 21)⟩, ⟨some 23, none, .bin .lss (.t 20) (.t 22)⟩])
 (.cond (.t 23) (.skip) (.exit 0)))
 (.seq (.block 1 (.seq (.ops none [⟨some 27, none, .mov (.t 6)⟩, ⟨some 28, none, .mov (.t 4)⟩, ⟨some 29, none, .mov (.t 8)⟩, ⟨some 30, none, .ixf 4 (.t 28) (.t 29)⟩, ⟨some 31, none, .ldf (.t 30) true 4⟩, ⟨some 32, none, .calp 13 [.t 27, .t 31]⟩, ⟨some 26, none, .mov (.t 32)⟩, ⟨some 33, none, .ext (.t 26) 0⟩, ⟨some 34, none, .ext (.t 26) 1⟩, ⟨some 35, none, .ext (.t 26) 2⟩, ⟨some 10, none, .new 30 [.int .i64 0, .bool false]⟩, ⟨some 9, none, .mov (.t 33)⟩, ⟨none, none, .st (.t 10) (.t 34) 2⟩, ⟨some 11, none, .mov (.t 35)⟩])
 (.seq (.seq (.ops none [⟨some 36, none, .mov (.t 11)⟩, ⟨some 37, none, .bin .neq (.t 36) (.c (.int .i64 (0)))⟩, ⟨some 38, none, .mov (.t 37)⟩, ⟨some 39, some (38, false), .mov (.t 9)⟩, ⟨some 40, some (38, false), .len (.t 39)⟩, ⟨some 41, some (38, false), .bin .neq (.t 40) (.c (.int .i64 (4)))⟩, ⟨some 42, none, .pick (.t 38) (.c (.bool true)) (.t 41)⟩])
 (.cond (.t 42) (.seq (.ops none [⟨some 2, none, .mov (.c (.bool false))⟩])
 (.ret)) (.skip)))
 (.seq (.seq (.ops none [⟨some 43, none, .mov (.t 9)⟩, ⟨some 44, none, .mov (.t 6)⟩, ⟨some 45, none, .calp 15 [.t 43, .t 44]⟩, ⟨some 46, none, .notb (.t 45)⟩])
 (.cond (.t 46) (.ops none [⟨some 47, none, .mov (.t 7)⟩, ⟨some 48, none, .mov (.t 4)⟩, ⟨some 49, none, .mov (.t 8)⟩, ⟨some 50, none, .ixf 4 (.t 48) (.t 49)⟩, ⟨some 51, none, .ldf (.t 50) true 4⟩, ⟨some 52, none, .bsl 4 [.int .i64 0, .int .i64 0, .int .i64 0, .int .i64 0] 1 [(0, .t 51)]⟩, ⟨some 53, none, .app 25 4 32 [.int .i64 0, .int .i64 0, .int .i64 0, .int .i64 0] (.t 47) (.t 52)⟩, ⟨some 7, none, .mov (.t 53)⟩]) (.skip)))
 (.seq (.seq (.ops none [⟨some 54, none, .fad (.t 10) 1⟩, ⟨some 55, none, .ldv (.t 54) false 1⟩, ⟨some 56, none, .notb (.t 55)⟩, ⟨some 57, none, .mov (.t 56)⟩, ⟨some 58, some (57, true), .mov (.t 9)⟩, ⟨some 59, some (57, true), .mov (.t 6)⟩, ⟨some 60, some (57, true), .calp 15 [.t 58, .t 59]⟩, ⟨some 61, some (57, true), .notb (.t 60)⟩, ⟨some 62, none, .pick (.t 57) (.t 61) (.c (.bool false))⟩])
 (.cond (.t 62) (.seq (.ops none [⟨some 2, none, .mov (.c (.bool false))⟩])
 (.ret)) (.skip)))
 (.ops none [⟨some 63, none, .mov (.t 9)⟩, ⟨some 6, none, .mov (.t 63)⟩]))))))
 (.ops none [⟨some 24, none, .mov (.t 8)⟩, ⟨some 25, none, .bin .add (.t 24) (.c (.int .i64 (1)))⟩, ⟨some 8, none, .mov (.t 25)⟩])))
def g10b : ACode :=
.seq (.ops none [⟨some 2, none, .mov (.c (.bool false))⟩])
 (.seq (.ops none [⟨some 15, none, .calp 11 []⟩, ⟨some 3, none, .mov (.t 15)⟩])
 (.seq (.ops none [⟨some 16, none, .mov (.t 0)⟩, ⟨some 17, none, .calp 16 [.t 16, .c (.int .i64 (4))]⟩, ⟨some 4, none, .mov (.t 17)⟩])
 (.seq (.ops none [⟨some 18, none, .bsl 1 [.int .i64 0] 4 [(0, .c (.int .i64 (0))), (1, .c (.int .i64 (1))), (2, .c (.int .i64 (2))), (3, .c (.int .i64 (3)))]⟩, ⟨some 5, none, .mov (.t 18)⟩])
 (.seq (.ops none [⟨some 19, none, .mov (.t 5)⟩, ⟨some 6, none, .mov (.t 19)⟩])
 (.seq (.ops none [⟨some 7, none, .nv 25 4⟩])
 (.seq (.seq (.ops none [⟨some 8, none, .mov (.c (.int .i64 (0)))⟩])
 (.block 0 (.loop g10l0)))
 (.seq (.ghost (.frz 7) (.ops none [⟨some 65, none, .mov (.t 5)⟩, ⟨some 66, none, .mov (.t 7)⟩, ⟨some 67, none, .calp 17 [.t 65, .t 66]⟩, ⟨some 64, none, .mov (.t 67)⟩, ⟨some 68, none, .ext (.t 64) 0⟩, ⟨some 69, none, .ext (.t 64) 1⟩, ⟨some 70, none, .ext (.t 64) 2⟩, ⟨some 12, none, .mov (.t 68)⟩, ⟨some 13, none, .mov (.t 69)⟩, ⟨some 14, none, .mov (.t 70)⟩]))
 (.seq (.ops none [⟨some 71, none, .mov (.t 3)⟩, ⟨some 72, none, .mov (.t 71)⟩, ⟨some 73, some (72, true), .mov (.t 14)⟩, ⟨some 74, some (72, true), .bin .eql (.t 73) (.c (.int .i64 (0)))⟩, ⟨some 75, none, .pick (.t 72) (.t 74) (.c (.bool false))⟩, ⟨some 76, none, .mov (.t 75)⟩, ⟨some 77, some (76, true), .mov (.t 12)⟩, ⟨some 78, some (76, true), .mov (.t 6)⟩, ⟨some 79, some (76, true), .calp 15 [.t 77, .t 78]⟩, ⟨some 80, none, .pick (.t 76) (.t 79) (.c (.bool false))⟩, ⟨some 2, none, .mov (.t 80)⟩])
 (.ret)))))))))
/-- bellwether/bellwetherlaw02.MemNoughts -/
def g10 : AFn := { np := 1, nt := 81, res := [.t 2], body := g10b }

def g11b : ACode :=
.seq (.ops none [⟨some 0, none, .mov (.c (.bool false))⟩])
 (.seq (.ops none [⟨some 17, none, .bsl 1 [.int .i64 0] 1 [(0, .c (.int .i64 (0)))]⟩, ⟨some 18, none, .build [.int .i64 0, .int .i64 0, .int .i64 0, .int .i64 0] [(0, 1, .c (.int .i64 (3))), (3, 1, .c (.int .i64 (5)))]⟩, ⟨some 19, none, .build [.int .i64 0, .int .i64 0, .int .i64 0, .int .i64 0] [(0, 1, .c (.int .i64 (3))), (3, 1, .c (.int .i64 (7)))]⟩, ⟨some 20, none, .bsl 4 [.int .i64 0, .int .i64 0, .int .i64 0, .int .i64 0] 2 [(0, .t 18), (1, .t 19)]⟩, ⟨some 21, none, .calp 17 [.t 17, .t 20]⟩, ⟨some 16, none, .mov (.t 21)⟩, ⟨some 22, none, .ext (.t 16) 0⟩, ⟨some 23, none, .ext (.t 16) 1⟩, ⟨some 24, none, .ext (.t 16) 2⟩, ⟨some 1, none, .mov (.t 22)⟩, ⟨some 2, none, .mov (.t 23)⟩, ⟨some 3, none, .mov (.t 24)⟩])
 (.seq (.ops none [⟨some 26, none, .bsl 1 [.int .i64 0] 2 [(0, .c (.int .i64 (4))), (1, .c (.int .i64 (9)))]⟩, ⟨some 27, none, .build [.int .i64 0, .int .i64 0, .int .i64 0, .int .i64 0] [(0, 1, .c (.int .i64 (4))), (1, 1, .c (.int .i64 (1))), (3, 1, .c (.int .i64 (-2)))]⟩, ⟨some 28, none, .calp 13 [.t 26, .t 27]⟩, ⟨some 25, none, .mov (.t 28)⟩, ⟨some 29, none, .ext (.t 25) 0⟩, ⟨some 30, none, .ext (.t 25) 1⟩, ⟨some 31, none, .ext (.t 25) 2⟩, ⟨some 5, none, .new 30 [.int .i64 0, .bool false]⟩, ⟨some 4, none, .mov (.t 29)⟩, ⟨none, none, .st (.t 5) (.t 30) 2⟩, ⟨some 6, none, .mov (.t 31)⟩])
 (.seq (.ops none [⟨some 33, none, .build [.int .i64 0, .int .i64 0, .int .i64 0, .int .i64 0] [(0, 1, .c (.int .i64 (1)))]⟩, ⟨some 34, none, .calp 13 [.c (.list 1 []), .t 33]⟩, ⟨some 32, none, .mov (.t 34)⟩, ⟨some 35, none, .ext (.t 32) 0⟩, ⟨some 36, none, .ext (.t 32) 1⟩, ⟨some 37, none, .ext (.t 32) 2⟩, ⟨some 8, none, .new 30 [.int .i64 0, .bool false]⟩, ⟨some 7, none, .mov (.t 35)⟩, ⟨none, none, .st (.t 8) (.t 36) 2⟩, ⟨some 9, none, .mov (.t 37)⟩])
 (.seq (.ops none [⟨some 39, none, .bsl 1 [.int .i64 0] 1 [(0, .c (.int .i64 (4)))]⟩, ⟨some 40, none, .build [.int .i64 0, .int .i64 0, .int .i64 0, .int .i64 0] [(0, 1, .c (.int .i64 (5)))]⟩, ⟨some 41, none, .calp 13 [.t 39, .t 40]⟩, ⟨some 38, none, .mov (.t 41)⟩, ⟨some 42, none, .ext (.t 38) 0⟩, ⟨some 43, none, .ext (.t 38) 1⟩, ⟨some 44, none, .ext (.t 38) 2⟩, ⟨some 11, none, .new 30 [.int .i64 0, .bool false]⟩, ⟨some 10, none, .mov (.t 42)⟩, ⟨none, none, .st (.t 11) (.t 43) 2⟩, ⟨some 12, none, .mov (.t 44)⟩])
 (.seq (.ops none [⟨some 46, none, .bsl 1 [.int .i64 0] 1 [(0, .c (.int .i64 (4)))]⟩, ⟨some 47, none, .build [.int .i64 0, .int .i64 0, .int .i64 0, .int .i64 0] [(0, 1, .c (.int .i64 (2))), (3, 1, .c (.int .i64 (1152921504606846976)))]⟩, ⟨some 48, none, .calp 13 [.t 46, .t 47]⟩, ⟨some 45, none, .mov (.t 48)⟩, ⟨some 49, none, .ext (.t 45) 0⟩, ⟨some 50, none, .ext (.t 45) 1⟩, ⟨some 51, none, .ext (.t 45) 2⟩, ⟨some 14, none, .new 30 [.int .i64 0, .bool false]⟩, ⟨some 13, none, .mov (.t 49)⟩, ⟨none, none, .st (.t 14) (.t 50) 2⟩, ⟨some 15, none, .mov (.t 51)⟩])
 (.seq (.ops none [⟨some 52, none, .mov (.t 3)⟩, ⟨some 53, none, .bin .eql (.t 52) (.c (.int .i64 (0)))⟩, ⟨some 54, none, .mov (.t 53)⟩, ⟨some 55, some (54, true), .mov (.t 1)⟩, ⟨some 56, some (54, true), .bsl 1 [.int .i64 0] 1 [(0, .c (.int .i64 (5)))]⟩, ⟨some 57, some (54, true), .calp 15 [.t 55, .t 56]⟩, ⟨some 58, none, .pick (.t 54) (.t 57) (.c (.bool false))⟩, ⟨some 59, none, .mov (.t 58)⟩, ⟨some 60, some (59, true), .mov (.t 2)⟩, ⟨some 61, some (59, true), .build [.int .i64 0, .bool false] [(1, 1, .c (.bool true))]⟩, ⟨some 62, some (59, true), .build [.int .i64 0, .bool false] [(0, 1, .c (.int .i64 (5)))]⟩, ⟨some 63, some (59, true), .bsl 2 [.int .i64 0, .bool false] 2 [(0, .t 61), (1, .t 62)]⟩, ⟨some 64, some (59, true), .calp 19 [.t 60, .t 63]⟩, ⟨some 65, none, .pick (.t 59) (.t 64) (.c (.bool false))⟩, ⟨some 66, none, .mov (.t 65)⟩, ⟨some 67, some (66, true), .mov (.t 6)⟩, ⟨some 68, some (66, true), .bin .eql (.t 67) (.c (.int .i64 (0)))⟩, ⟨some 69, none, .pick (.t 66) (.t 68) (.c (.bool false))⟩, ⟨some 70, none, .mov (.t 69)⟩, ⟨some 71, some (70, true), .mov (.t 4)⟩, ⟨some 72, some (70, true), .bsl 1 [.int .i64 0] 2 [(0, .c (.int .i64 (4))), (1, .c (.int .i64 (7)))]⟩, ⟨some 73, some (70, true), .calp 15 [.t 71, .t 72]⟩, ⟨some 74, none, .pick (.t 70) (.t 73) (.c (.bool false))⟩, ⟨some 75, none, .mov (.t 74)⟩, ⟨some 76, some (75, true), .ldv (.t 5) true 2⟩, ⟨some 77, some (75, true), .build [.int .i64 0, .bool false] [(0, 1, .c (.int .i64 (9))), (1, 1, .c (.bool true))]⟩, ⟨some 78, some (75, true), .eqs false [false, true] (.t 76) (.t 77)⟩, ⟨some 79, none, .pick (.t 75) (.t 78) (.c (.bool false))⟩, ⟨some 80, none, .mov (.t 79)⟩, ⟨some 81, some (80, true), .mov (.t 9)⟩, ⟨some 82, some (80, true), .bin .eql (.t 81) (.c (.int .i64 (20)))⟩, ⟨some 83, none, .pick (.t 80) (.t 82) (.c (.bool false))⟩, ⟨some 84, none, .mov (.t 83)⟩, ⟨some 85, some (84, true), .mov (.t 12)⟩, ⟨some 86, some (84, true), .bin .eql (.t 85) (.c (.int .i64 (1)))⟩, ⟨some 87, none, .pick (.t 84) (.t 86) (.c (.bool false))⟩, ⟨some 88, none, .mov (.t 87)⟩, ⟨some 89, some (88, true), .mov (.t 15)⟩, ⟨some 90, some (88, true), .bin .eql (.t 89) (.c (.int .i64 (20)))⟩, ⟨some 91, none, .pick (.t 88) (.t 90) (.c (.bool false))⟩, ⟨some 0, none, .mov (.t 91)⟩])
 (.ret)))))))
/-- bellwether/bellwetherlaw02.awake -/
def g11 : AFn := { np := 0, nt := 92, res := [.t 0], body := g11b }

def g12b : ACode :=
.seq (.ops none [⟨some 4, none, .mov (.c (.int .i64 (0)))⟩])
 (.seq (.seq (.ops none [⟨some 5, none, .mov (.t 0)⟩, ⟨some 6, none, .bin .lss (.t 5) (.c (.int .i64 (0)))⟩])
 (.cond (.t 6) (.ops none [⟨some 7, none, .mov (.t 0)⟩, ⟨some 8, none, .bin .add (.t 7) (.c (.int .i64 (1)))⟩, ⟨some 9, none, .neg (.t 8)⟩, ⟨some 0, none, .mov (.t 9)⟩]) (.skip)))
 (.seq (.ops none [⟨some 10, none, .mov (.t 0)⟩, ⟨some 11, none, .mov (.t 1)⟩, ⟨some 12, none, .bin .rem (.t 10) (.t 11)⟩, ⟨some 4, none, .mov (.t 12)⟩])
 (.ret)))
/-- bellwether/bellwetherlaw02.pick -/
def g12 : AFn := { np := 2, nt := 13, res := [.t 4], body := g12b }

def g13b : ACode :=
.seq (.ops none [⟨some 3, none, .boxf 4 (.t 1)⟩, ⟨some 4, none, .mov (.c (.list 1 []))⟩, ⟨some 5, none, .new 30 [.int .i64 0, .bool false]⟩, ⟨some 6, none, .mov (.c (.int .i64 (0)))⟩])
 (.seq (.ops none [⟨some 11, none, .mov (.t 0)⟩, ⟨some 12, none, .calf 20 [.t 11]⟩, ⟨some 7, none, .mov (.t 12)⟩])
 (.seq (.block 0 (.seq (.ops none [⟨some 14, none, .mov (.t 0)⟩, ⟨some 15, none, .len (.t 14)⟩, ⟨some 16, none, .bin .gtr (.t 15) (.c (.int .i64 (50000)))⟩, ⟨some 13, none, .mov (.t 16)⟩])
 (.cond (.t 13) (.seq (.ops none [⟨some 17, none, .mov (.t 7)⟩, ⟨some 18, none, .build [.int .i64 0, .bool false] []⟩, ⟨some 4, none, .mov (.t 17)⟩, ⟨none, none, .st (.t 5) (.t 18) 2⟩, ⟨some 6, none, .mov (.c (.int .i64 (2)))⟩])
 (.ret)) (.seq (.seq (.ops none [⟨some 20, none, .fad (.t 3) 0⟩, ⟨some 21, none, .ldf (.t 20) false 1⟩, ⟨some 22, none, .bin .lss (.t 21) (.c (.int .i64 (1)))⟩, ⟨some 19, none, .mov (.t 22)⟩])
 (.cond (.t 19) (.skip) (.ops none [⟨some 23, none, .fad (.t 3) 0⟩, ⟨some 24, none, .ldf (.t 23) false 1⟩, ⟨some 25, none, .bin .gtr (.t 24) (.c (.int .i64 (4)))⟩, ⟨some 19, none, .mov (.t 25)⟩])))
 (.cond (.t 19) (.seq (.ops none [⟨some 26, none, .mov (.t 7)⟩, ⟨some 27, none, .build [.int .i64 0, .bool false] []⟩, ⟨some 4, none, .mov (.t 26)⟩, ⟨none, none, .st (.t 5) (.t 27) 2⟩, ⟨some 6, none, .mov (.c (.int .i64 (1)))⟩])
 (.ret)) (.seq (.seq (.ops none [⟨some 29, none, .fad (.t 3) 1⟩, ⟨some 30, none, .ldf (.t 29) false 1⟩, ⟨some 31, none, .bin .lss (.t 30) (.c (.int .i64 (0)))⟩, ⟨some 28, none, .mov (.t 31)⟩])
 (.cond (.t 28) (.skip) (.ops none [⟨some 32, none, .fad (.t 3) 1⟩, ⟨some 33, none, .ldf (.t 32) false 1⟩, ⟨some 34, none, .mov (.t 0)⟩, ⟨some 35, none, .len (.t 34)⟩, ⟨some 36, none, .bin .geq (.t 33) (.t 35)⟩, ⟨some 28, none, .mov (.t 36)⟩])))
 (.cond (.t 28) (.seq (.ops none [⟨some 37, none, .mov (.t 7)⟩, ⟨some 38, none, .build [.int .i64 0, .bool false] []⟩, ⟨some 4, none, .mov (.t 37)⟩, ⟨none, none, .st (.t 5) (.t 38) 2⟩, ⟨some 6, none, .mov (.c (.int .i64 (20)))⟩])
 (.ret)) (.skip))))))))
 (.seq (.ops none [⟨some 39, none, .mov (.t 7)⟩, ⟨some 40, none, .fad (.t 3) 1⟩, ⟨some 41, none, .ldf (.t 40) false 1⟩, ⟨some 42, none, .ixv 1 (.t 39) (.t 41)⟩, ⟨some 43, none, .ldv (.t 42) false 1⟩, ⟨some 8, none, .mov (.t 43)⟩])
 (.seq (.ops none [⟨some 9, none, .mov (.c (.bool true))⟩])
 (.seq (.seq (.ops none [⟨some 44, none, .fad (.t 3) 3⟩, ⟨some 45, none, .ldf (.t 44) false 1⟩, ⟨some 10, none, .mov (.t 45)⟩])
 (.seq (.ops none [⟨some 46, none, .fad (.t 3) 0⟩, ⟨some 47, none, .ldf (.t 46) false 1⟩])
 (.block 1 (.seq (.block 4 (.seq (.block 3 (.seq (.block 2 (.seq (.seq (.seq (.ops none [⟨some 49, none, .bin .eql (.t 47) (.c (.int .i64 (4)))⟩, ⟨some 48, none, .mov (.t 49)⟩])
 (.cond (.t 48) (.exit 2) (.skip)))
 (.seq (.seq (.ops none [⟨some 51, none, .bin .eql (.t 47) (.c (.int .i64 (3)))⟩, ⟨some 50, none, .mov (.t 51)⟩])
 (.cond (.t 50) (.exit 3) (.skip)))
 (.seq (.ops none [⟨some 53, none, .bin .eql (.t 47) (.c (.int .i64 (2)))⟩, ⟨some 52, none, .mov (.t 53)⟩])
 (.cond (.t 52) (.exit 4) (.skip)))))
 (.exit 1)))
 (.seq (.seq (.ops none [⟨some 55, none, .mov (.t 8)⟩, ⟨some 56, none, .mov (.t 10)⟩, ⟨some 57, none, .calp 21 [.t 55, .t 56]⟩, ⟨some 54, none, .mov (.t 57)⟩, ⟨some 58, none, .ext (.t 54) 0⟩, ⟨some 59, none, .ext (.t 54) 1⟩, ⟨some 10, none, .mov (.t 58)⟩, ⟨some 9, none, .mov (.t 59)⟩])
 (.seq (.ops none [⟨some 60, none, .mov (.t 9)⟩])
 (.cond (.t 60) (.ops none [⟨some 61, none, .mov (.t 7)⟩, ⟨some 62, none, .fad (.t 3) 1⟩, ⟨some 63, none, .ldf (.t 62) false 1⟩, ⟨some 64, none, .mov (.t 10)⟩, ⟨some 65, none, .ixv 1 (.t 61) (.t 63)⟩, ⟨none, none, .st (.t 65) (.t 64) 1⟩]) (.skip))))
 (.exit 1))))
 (.seq (.ops none [⟨some 66, none, .mov (.t 8)⟩, ⟨some 67, none, .fad (.t 3) 2⟩, ⟨some 68, none, .ldf (.t 67) false 1⟩, ⟨some 69, none, .bin .neq (.t 66) (.t 68)⟩])
 (.cond (.t 69) (.seq (.ops none [⟨some 70, none, .mov (.t 7)⟩, ⟨some 71, none, .mov (.t 8)⟩, ⟨some 72, none, .build [.int .i64 0, .bool false] [(0, 1, .t 71)]⟩, ⟨some 4, none, .mov (.t 70)⟩, ⟨none, none, .st (.t 5) (.t 72) 2⟩, ⟨some 6, none, .mov (.c (.int .i64 (0)))⟩])
 (.ret)) (.skip)))))
 (.seq (.seq (.ops none [⟨some 73, none, .mov (.t 10)⟩, ⟨some 74, none, .calp 22 [.t 73]⟩, ⟨some 9, none, .mov (.t 74)⟩])
 (.seq (.ops none [⟨some 75, none, .mov (.t 9)⟩])
 (.cond (.t 75) (.ops none [⟨some 76, none, .mov (.t 7)⟩, ⟨some 77, none, .fad (.t 3) 1⟩, ⟨some 78, none, .ldf (.t 77) false 1⟩, ⟨some 79, none, .mov (.t 10)⟩, ⟨some 80, none, .ixv 1 (.t 76) (.t 78)⟩, ⟨none, none, .st (.t 80) (.t 79) 1⟩]) (.skip))))
 (.exit 1))))))
 (.seq (.seq (.ops none [⟨some 81, none, .mov (.t 9)⟩, ⟨some 82, none, .notb (.t 81)⟩])
 (.cond (.t 82) (.seq (.ops none [⟨some 83, none, .mov (.t 7)⟩, ⟨some 84, none, .build [.int .i64 0, .bool false] []⟩, ⟨some 4, none, .mov (.t 83)⟩, ⟨none, none, .st (.t 5) (.t 84) 2⟩, ⟨some 6, none, .mov (.c (.int .i64 (20)))⟩])
 (.ret)) (.skip)))
 (.seq (.ops none [⟨some 85, none, .mov (.t 7)⟩, ⟨some 86, none, .mov (.t 8)⟩, ⟨some 87, none, .build [.int .i64 0, .bool false] [(0, 1, .t 86), (1, 1, .c (.bool true))]⟩, ⟨some 4, none, .mov (.t 85)⟩, ⟨none, none, .st (.t 5) (.t 87) 2⟩, ⟨some 6, none, .mov (.c (.int .i64 (0)))⟩])
 (.ret))))))))
/-- bellwether/mem.Do -/
def g13 : AFn := { np := 2, nt := 88, res := [.t 4, .cell 5 true 2, .t 6], body := g13b }

def g14b : ACode :=
.seq (.ops none [⟨some 3, none, .boxf 4 (.t 1)⟩, ⟨some 4, none, .mov (.c (.list 1 []))⟩, ⟨some 5, none, .new 30 [.int .i64 0, .bool false]⟩, ⟨some 6, none, .mov (.c (.int .i64 (0)))⟩])
 (.seq (.ops none [⟨some 10, none, .mov (.t 0)⟩, ⟨some 11, none, .apn 3 1 8 [.int .i64 0] (.t 10)⟩, ⟨some 7, none, .mov (.t 11)⟩])
 (.seq (.seq (.ops none [⟨some 12, none, .mov (.t 0)⟩, ⟨some 13, none, .len (.t 12)⟩, ⟨some 14, none, .bin .gtr (.t 13) (.c (.int .i64 (50000)))⟩])
 (.cond (.t 14) (.seq (.ops none [⟨some 15, none, .mov (.t 7)⟩, ⟨some 16, none, .build [.int .i64 0, .bool false] []⟩, ⟨some 4, none, .mov (.t 15)⟩, ⟨none, none, .st (.t 5) (.t 16) 2⟩, ⟨some 6, none, .mov (.c (.int .i64 (2)))⟩])
 (.ret)) (.skip)))
 (.seq (.seq (.ops none [⟨some 17, none, .fad (.t 3) 0⟩, ⟨some 18, none, .ldf (.t 17) false 1⟩, ⟨some 19, none, .bin .lss (.t 18) (.c (.int .i64 (1)))⟩, ⟨some 20, none, .mov (.t 19)⟩, ⟨some 21, some (20, false), .fad (.t 3) 0⟩, ⟨some 22, some (20, false), .ldf (.t 21) false 1⟩, ⟨some 23, some (20, false), .bin .gtr (.t 22) (.c (.int .i64 (4)))⟩, ⟨some 24, none, .pick (.t 20) (.c (.bool true)) (.t 23)⟩])
 (.cond (.t 24) (.seq (.ops none [⟨some 25, none, .mov (.t 7)⟩, ⟨some 26, none, .build [.int .i64 0, .bool false] []⟩, ⟨some 4, none, .mov (.t 25)⟩, ⟨none, none, .st (.t 5) (.t 26) 2⟩, ⟨some 6, none, .mov (.c (.int .i64 (1)))⟩])
 (.ret)) (.skip)))
 (.seq (.seq (.ops none [⟨some 27, none, .fad (.t 3) 1⟩, ⟨some 28, none, .ldf (.t 27) false 1⟩, ⟨some 29, none, .bin .lss (.t 28) (.c (.int .i64 (0)))⟩, ⟨some 30, none, .mov (.t 29)⟩, ⟨some 31, some (30, false), .fad (.t 3) 1⟩, ⟨some 32, some (30, false), .ldf (.t 31) false 1⟩, ⟨some 33, some (30, false), .mov (.t 0)⟩, ⟨some 34, some (30, false), .len (.t 33)⟩, ⟨some 35, some (30, false), .bin .geq (.t 32) (.t 34)⟩, ⟨some 36, none, .pick (.t 30) (.c (.bool true)) (.t 35)⟩])
 (.cond (.t 36) (.seq (.ops none [⟨some 37, none, .mov (.t 7)⟩, ⟨some 38, none, .build [.int .i64 0, .bool false] []⟩, ⟨some 4, none, .mov (.t 37)⟩, ⟨none, none, .st (.t 5) (.t 38) 2⟩, ⟨some 6, none, .mov (.c (.int .i64 (20)))⟩])
 (.ret)) (.skip)))
 (.seq (.ops none [⟨some 39, none, .mov (.t 0)⟩, ⟨some 40, none, .fad (.t 3) 1⟩, ⟨some 41, none, .ldf (.t 40) false 1⟩, ⟨some 42, none, .ixf 1 (.t 39) (.t 41)⟩, ⟨some 43, none, .ldf (.t 42) false 1⟩, ⟨some 8, none, .mov (.t 43)⟩])
 (.seq (.seq (.ops none [⟨some 44, none, .fad (.t 3) 0⟩, ⟨some 45, none, .ldf (.t 44) false 1⟩, ⟨some 46, none, .bin .eql (.t 45) (.c (.int .i64 (1)))⟩])
 (.cond (.t 46) (.seq (.ops none [⟨some 47, none, .mov (.t 7)⟩, ⟨some 48, none, .mov (.t 8)⟩, ⟨some 49, none, .build [.int .i64 0, .bool false] [(0, 1, .t 48), (1, 1, .c (.bool true))]⟩, ⟨some 4, none, .mov (.t 47)⟩, ⟨none, none, .st (.t 5) (.t 49) 2⟩, ⟨some 6, none, .mov (.c (.int .i64 (0)))⟩])
 (.ret)) (.skip)))
 (.seq (.seq (.ops none [⟨some 50, none, .fad (.t 3) 0⟩, ⟨some 51, none, .ldf (.t 50) false 1⟩, ⟨some 52, none, .bin .eql (.t 51) (.c (.int .i64 (3)))⟩, ⟨some 53, none, .mov (.t 52)⟩, ⟨some 54, some (53, true), .mov (.t 8)⟩, ⟨some 55, some (53, true), .fad (.t 3) 2⟩, ⟨some 56, some (53, true), .ldf (.t 55) false 1⟩, ⟨some 57, some (53, true), .bin .neq (.t 54) (.t 56)⟩, ⟨some 58, none, .pick (.t 53) (.t 57) (.c (.bool false))⟩])
 (.cond (.t 58) (.seq (.ops none [⟨some 59, none, .mov (.t 7)⟩, ⟨some 60, none, .mov (.t 8)⟩, ⟨some 61, none, .build [.int .i64 0, .bool false] [(0, 1, .t 60)]⟩, ⟨some 4, none, .mov (.t 59)⟩, ⟨none, none, .st (.t 5) (.t 61) 2⟩, ⟨some 6, none, .mov (.c (.int .i64 (0)))⟩])
 (.ret)) (.skip)))
 (.seq (.ops none [⟨some 62, none, .fad (.t 3) 3⟩, ⟨some 63, none, .ldf (.t 62) false 1⟩, ⟨some 9, none, .mov (.t 63)⟩])
 (.seq (.seq (.ops none [⟨some 64, none, .fad (.t 3) 0⟩, ⟨some 65, none, .ldf (.t 64) false 1⟩, ⟨some 66, none, .bin .eql (.t 65) (.c (.int .i64 (4)))⟩])
 (.cond (.t 66) (.seq (.seq (.ops none [⟨some 67, none, .fad (.t 3) 3⟩, ⟨some 68, none, .ldf (.t 67) false 1⟩, ⟨some 69, none, .bin .gtr (.t 68) (.c (.int .i64 (0)))⟩, ⟨some 70, none, .mov (.t 69)⟩, ⟨some 71, some (70, true), .mov (.t 8)⟩, ⟨some 72, some (70, true), .fad (.t 3) 3⟩, ⟨some 73, some (70, true), .ldf (.t 72) false 1⟩, ⟨some 74, some (70, true), .bin .sub (.c (.int .i64 (1152921504606846975))) (.t 73)⟩, ⟨some 75, some (70, true), .bin .gtr (.t 71) (.t 74)⟩, ⟨some 76, none, .pick (.t 70) (.t 75) (.c (.bool false))⟩, ⟨some 77, none, .mov (.t 76)⟩, ⟨some 78, some (77, false), .fad (.t 3) 3⟩, ⟨some 79, some (77, false), .ldf (.t 78) false 1⟩, ⟨some 80, some (77, false), .bin .lss (.t 79) (.c (.int .i64 (0)))⟩, ⟨some 81, some (77, false), .mov (.t 80)⟩, ⟨some 82, some (81, true), .mov (.t 8)⟩, ⟨some 83, some (81, true), .fad (.t 3) 3⟩, ⟨some 84, some (81, true), .ldf (.t 83) false 1⟩, ⟨some 85, some (81, true), .bin .sub (.c (.int .i64 (-1152921504606846975))) (.t 84)⟩, ⟨some 86, some (81, true), .bin .lss (.t 82) (.t 85)⟩, ⟨some 87, some (77, false), .pick (.t 81) (.t 86) (.c (.bool false))⟩, ⟨some 88, none, .pick (.t 77) (.c (.bool true)) (.t 87)⟩])
 (.cond (.t 88) (.seq (.ops none [⟨some 89, none, .mov (.t 7)⟩, ⟨some 90, none, .build [.int .i64 0, .bool false] []⟩, ⟨some 4, none, .mov (.t 89)⟩, ⟨none, none, .st (.t 5) (.t 90) 2⟩, ⟨some 6, none, .mov (.c (.int .i64 (20)))⟩])
 (.ret)) (.skip)))
 (.ops none [⟨some 91, none, .mov (.t 8)⟩, ⟨some 92, none, .fad (.t 3) 3⟩, ⟨some 93, none, .ldf (.t 92) false 1⟩, ⟨some 94, none, .bin .add (.t 91) (.t 93)⟩, ⟨some 9, none, .mov (.t 94)⟩])) (.skip)))
 (.seq (.seq (.ops none [⟨some 95, none, .mov (.t 9)⟩, ⟨some 96, none, .calp 23 [.t 95]⟩, ⟨some 97, none, .notb (.t 96)⟩])
 (.cond (.t 97) (.seq (.ops none [⟨some 98, none, .mov (.t 7)⟩, ⟨some 99, none, .build [.int .i64 0, .bool false] []⟩, ⟨some 4, none, .mov (.t 98)⟩, ⟨none, none, .st (.t 5) (.t 99) 2⟩, ⟨some 6, none, .mov (.c (.int .i64 (20)))⟩])
 (.ret)) (.skip)))
 (.seq (.ops none [⟨some 100, none, .mov (.t 7)⟩, ⟨some 101, none, .fad (.t 3) 1⟩, ⟨some 102, none, .ldf (.t 101) false 1⟩, ⟨some 103, none, .mov (.t 9)⟩, ⟨some 104, none, .ixv 1 (.t 100) (.t 102)⟩, ⟨none, none, .st (.t 104) (.t 103) 1⟩])
 (.seq (.ops none [⟨some 105, none, .mov (.t 7)⟩, ⟨some 106, none, .mov (.t 8)⟩, ⟨some 107, none, .build [.int .i64 0, .bool false] [(0, 1, .t 106), (1, 1, .c (.bool true))]⟩, ⟨some 4, none, .mov (.t 105)⟩, ⟨none, none, .st (.t 5) (.t 107) 2⟩, ⟨some 6, none, .mov (.c (.int .i64 (0)))⟩])
 (.ret)))))))))))))
/-- bellwether/bellwetherref02.Do -/
def g14 : AFn := { np := 2, nt := 108, res := [.t 4, .cell 5 true 2, .t 6], body := g14b }

def g15l0 : ACode :=
 .ghost (.renum [0, 1, 5] []) (.seq (.seq (.ops none [⟨some 11, none, .mov (.t 5)⟩, ⟨some 12, none, .mov (.t 0)⟩, ⟨some 13, none, .len (.t 12)⟩, ⟨some 14, none, .bin .lss (.t 11) (.t 13)⟩])
 (.cond (.t 14) (.skip) (.exit 0)))
 (.seq (.block 1 (.seq (.ops (some [[], [], [0, 1], [0, 1, 2], [], [], [4, 5], [4, 5, 6], [0, 1, 2, 3, 4, 5, 6, 7]]) [⟨some 17, none, .mov (.t 0)⟩, ⟨some 18, none, .mov (.t 5)⟩, ⟨some 19, none, .ixf 1 (.t 17) (.t 18)⟩, ⟨some 20, none, .ldf (.t 19) false 1⟩, ⟨some 21, none, .mov (.t 1)⟩, ⟨some 22, none, .mov (.t 5)⟩, ⟨some 23, none, .ixf 1 (.t 21) (.t 22)⟩, ⟨some 24, none, .ldf (.t 23) false 1⟩, ⟨some 25, none, .bin .neq (.t 20) (.t 24)⟩])
 (.cond (.t 25) (.seq (.ops none [⟨some 4, none, .mov (.c (.bool false))⟩])
 (.ret)) (.skip))))
 (.ops none [⟨some 15, none, .mov (.t 5)⟩, ⟨some 16, none, .bin .add (.t 15) (.c (.int .i64 (1)))⟩, ⟨some 5, none, .mov (.t 16)⟩])))
def g15b : ACode :=
.seq (.ops none [⟨some 4, none, .mov (.c (.bool false))⟩])
 (.seq (.seq (.ops none [⟨some 6, none, .mov (.t 0)⟩, ⟨some 7, none, .len (.t 6)⟩, ⟨some 8, none, .mov (.t 1)⟩, ⟨some 9, none, .len (.t 8)⟩, ⟨some 10, none, .bin .neq (.t 7) (.t 9)⟩])
 (.cond (.t 10) (.seq (.ops none [⟨some 4, none, .mov (.c (.bool false))⟩])
 (.ret)) (.skip)))
 (.seq (.seq (.ops none [⟨some 5, none, .mov (.c (.int .i64 (0)))⟩])
 (.block 0 (.loop g15l0)))
 (.seq (.ops none [⟨some 4, none, .mov (.c (.bool true))⟩])
 (.ret))))
/-- bellwether/bellwetherref02.Ints -/
def g15 : AFn := { np := 2, nt := 26, res := [.t 4], body := g15b }

def g16l0 : ACode :=
 .ghost (.renum [0, 1, 5, 6] [5]) (.seq (.seq (.ops none [⟨some 7, none, .mov (.t 6)⟩, ⟨some 8, none, .mov (.t 0)⟩, ⟨some 9, none, .len (.t 8)⟩, ⟨some 10, none, .bin .lss (.t 7) (.t 9)⟩, ⟨some 11, none, .mov (.t 10)⟩, ⟨some 12, some (11, true), .mov (.t 6)⟩, ⟨some 13, some (11, true), .bin .lss (.t 12) (.c (.int .i64 (40)))⟩, ⟨some 14, none, .pick (.t 11) (.t 13) (.c (.bool false))⟩])
 (.cond (.t 14) (.skip) (.exit 0)))
 (.seq (.block 1 (.ops (some [[], [], [], [1, 2], [1, 2, 3], [1, 2, 3, 4], [1, 2, 3, 4, 5], [1, 2, 3, 4, 5, 6], [], [], [8, 9], [8, 9, 10], [8, 9, 10, 11], [], [1, 2, 3, 4, 5, 6, 8, 9, 10, 11, 12, 13], [], [], [15, 16], [15, 16, 17], [15, 16, 17, 18], [1, 2, 3, 4, 5, 6, 8, 9, 10, 11, 12, 13, 14, 15, 16, 17, 18, 19], [], [], [21, 22], [21, 22, 23], [21, 22, 23, 24], [1, 2, 3, 4, 5, 6, 8, 9, 10, 11, 12, 13, 14, 15, 16, 17, 18, 19, 20, 21, 22, 23, 24, 25], [1, 2, 3, 4, 5, 6, 7, 8, 9, 10, 11, 12, 13, 14, 15, 16, 17, 18, 19, 20, 21, 22, 23, 24, 25, 26], [1, 2, 3, 4, 5, 6, 7, 8, 9, 10, 11, 12, 13, 14, 15, 16, 17, 18, 19, 20, 21, 22, 23, 24, 25, 26, 27], [0, 1, 2, 3, 4, 5, 6, 7, 8, 9, 10, 11, 12, 13, 14, 15, 16, 17, 18, 19, 20, 21, 22, 23, 24, 25, 26, 27, 28], [0, 1, 2, 3, 4, 5, 6, 7, 8, 9, 10, 11, 12, 13, 14, 15, 16, 17, 18, 19, 20, 21, 22, 23, 24, 25, 26, 27, 28, 29]]) [⟨some 17, none, .mov (.t 5)⟩, ⟨some 18, none, .mov (.t 0)⟩, ⟨some 19, none, .mov (.t 6)⟩, ⟨some 20, none, .ixf 4 (.t 18) (.t 19)⟩, ⟨some 21, none, .aix (.t 20) (.c (.int .i64 (0))) 4 1⟩, ⟨some 22, none, .ldf (.t 21) false 1⟩, ⟨some 23, none, .calp 12 [.t 22, .c (.int .i64 (4))]⟩, ⟨some 24, none, .bin .add (.c (.int .i64 (1))) (.t 23)⟩, ⟨some 25, none, .mov (.t 0)⟩, ⟨some 26, none, .mov (.t 6)⟩, ⟨some 27, none, .ixf 4 (.t 25) (.t 26)⟩, ⟨some 28, none, .aix (.t 27) (.c (.int .i64 (1))) 4 1⟩, ⟨some 29, none, .ldf (.t 28) false 1⟩, ⟨some 30, none, .mov (.t 1)⟩, ⟨some 31, none, .calp 12 [.t 29, .t 30]⟩, ⟨some 32, none, .mov (.t 0)⟩, ⟨some 33, none, .mov (.t 6)⟩, ⟨some 34, none, .ixf 4 (.t 32) (.t 33)⟩, ⟨some 35, none, .aix (.t 34) (.c (.int .i64 (2))) 4 1⟩, ⟨some 36, none, .ldf (.t 35) false 1⟩, ⟨some 37, none, .calp 12 [.t 36, .c (.int .i64 (4))]⟩, ⟨some 38, none, .mov (.t 0)⟩, ⟨some 39, none, .mov (.t 6)⟩, ⟨some 40, none, .ixf 4 (.t 38) (.t 39)⟩, ⟨some 41, none, .aix (.t 40) (.c (.int .i64 (3))) 4 1⟩, ⟨some 42, none, .ldf (.t 41) false 1⟩, ⟨some 43, none, .calp 12 [.t 42, .c (.int .i64 (4))]⟩, ⟨some 44, none, .build [.int .i64 0, .int .i64 0, .int .i64 0, .int .i64 0] [(0, 1, .t 24), (1, 1, .t 31), (2, 1, .t 37), (3, 1, .t 43)]⟩, ⟨some 45, none, .bsl 4 [.int .i64 0, .int .i64 0, .int .i64 0, .int .i64 0] 1 [(0, .t 44)]⟩, ⟨some 46, none, .app 25 4 32 [.int .i64 0, .int .i64 0, .int .i64 0, .int .i64 0] (.t 17) (.t 45)⟩, ⟨some 5, none, .mov (.t 46)⟩]))
 (.ops none [⟨some 15, none, .mov (.t 6)⟩, ⟨some 16, none, .bin .add (.t 15) (.c (.int .i64 (1)))⟩, ⟨some 6, none, .mov (.t 16)⟩])))
def g16b : ACode :=
.seq (.ops none [⟨some 4, none, .mov (.c (.list 4 []))⟩])
 (.seq (.ops none [⟨some 5, none, .nv 25 4⟩])
 (.seq (.seq (.ops none [⟨some 6, none, .mov (.c (.int .i64 (0)))⟩])
 (.block 0 (.loop g16l0)))
 (.seq (.ops none [⟨some 47, none, .mov (.t 5)⟩, ⟨some 4, none, .mov (.t 47)⟩])
 (.ret))))
/-- bellwether/bellwetherlaw02.Accesses -/
def g16 : AFn := { np := 2, nt := 48, res := [.t 4], body := g16b }

def g17l0 : ACode :=
 .ghost (.renum [0, 7, 8, 16, 17, 18] [8]) (.seq (.ops none [⟨some 19, none, .bin .lss (.t 18) (.t 17)⟩])
 (.seq (.cond (.t 19) (.skip) (.exit 0))
 (.seq (.block 1 (.seq (.ops none [⟨some 20, none, .ixf 4 (.t 16) (.t 18)⟩, ⟨some 21, none, .ldf (.t 20) true 4⟩, ⟨some 10, none, .new 25 [.int .i64 0, .int .i64 0, .int .i64 0, .int .i64 0]⟩, ⟨none, none, .st (.t 10) (.t 21) 4⟩])
 (.seq (.ops none [⟨some 23, none, .mov (.t 7)⟩, ⟨some 24, none, .ldv (.t 10) true 4⟩, ⟨some 25, none, .calp 13 [.t 23, .t 24]⟩, ⟨some 22, none, .mov (.t 25)⟩, ⟨some 26, none, .ext (.t 22) 0⟩, ⟨some 27, none, .ext (.t 22) 1⟩, ⟨some 28, none, .ext (.t 22) 2⟩, ⟨some 12, none, .new 30 [.int .i64 0, .bool false]⟩, ⟨some 11, none, .mov (.t 26)⟩, ⟨none, none, .st (.t 12) (.t 27) 2⟩, ⟨some 13, none, .mov (.t 28)⟩])
 (.seq (.seq (.ops none [⟨some 29, none, .mov (.t 13)⟩, ⟨some 30, none, .bin .neq (.t 29) (.c (.int .i64 (0)))⟩])
 (.cond (.t 30) (.seq (.ops none [⟨some 31, none, .mov (.t 0)⟩, ⟨some 32, none, .calp 20 [.t 31]⟩, ⟨some 33, none, .mov (.t 13)⟩, ⟨some 4, none, .mov (.t 32)⟩, ⟨some 5, none, .mov (.c (.list 2 []))⟩, ⟨some 6, none, .mov (.t 33)⟩])
 (.ret)) (.skip)))
 (.ops none [⟨some 34, none, .mov (.t 11)⟩, ⟨some 35, none, .mov (.t 8)⟩, ⟨some 36, none, .ldv (.t 12) true 2⟩, ⟨some 37, none, .bsl 2 [.int .i64 0, .bool false] 1 [(0, .t 36)]⟩, ⟨some 38, none, .app 30 2 16 [.int .i64 0, .bool false] (.t 35) (.t 37)⟩, ⟨some 7, none, .mov (.t 34)⟩, ⟨some 8, none, .mov (.t 38)⟩])))))
 (.ops none [⟨some 39, none, .bin .add (.t 18) (.c (.int .i64 (1)))⟩, ⟨some 18, none, .mov (.t 39)⟩]))))
def g17b : ACode :=
.seq (.ops none [⟨some 4, none, .mov (.c (.list 1 []))⟩, ⟨some 5, none, .mov (.c (.list 2 []))⟩, ⟨some 6, none, .mov (.c (.int .i64 (0)))⟩])
 (.seq (.ops none [⟨some 14, none, .mov (.t 0)⟩, ⟨some 15, none, .calp 20 [.t 14]⟩, ⟨some 7, none, .mov (.t 15)⟩])
 (.seq (.ops none [⟨some 8, none, .nv 30 2⟩])
 (.seq (.seq (.ops none [⟨some 16, none, .mov (.t 1)⟩, ⟨some 17, none, .len (.t 16)⟩, ⟨some 18, none, .mov (.c (.int .i64 (0)))⟩])
 (.block 0 (.loop g17l0)))
 (.seq (.ops none [⟨some 40, none, .mov (.t 7)⟩, ⟨some 41, none, .mov (.t 8)⟩, ⟨some 4, none, .mov (.t 40)⟩, ⟨some 5, none, .mov (.t 41)⟩, ⟨some 6, none, .mov (.c (.int .i64 (0)))⟩])
 (.ret)))))
/-- bellwether/mem.Play -/
def g17 : AFn := { np := 2, nt := 42, res := [.t 4, .t 5, .t 6], body := g17b }

def g18l0 : ACode :=
 .ghost (.renum [0, 1, 7, 8, 9] [8]) (.seq (.seq (.ops none [⟨some 15, none, .mov (.t 9)⟩, ⟨some 16, none, .mov (.t 1)⟩, ⟨some 17, none, .len (.t 16)⟩, ⟨some 18, none, .bin .lss (.t 15) (.t 17)⟩])
 (.cond (.t 18) (.skip) (.exit 0)))
 (.seq (.block 1 (.seq (.ops none [⟨some 22, none, .mov (.t 7)⟩, ⟨some 23, none, .mov (.t 1)⟩, ⟨some 24, none, .mov (.t 9)⟩, ⟨some 25, none, .ixf 4 (.t 23) (.t 24)⟩, ⟨some 26, none, .ldf (.t 25) true 4⟩, ⟨some 27, none, .calp 14 [.t 22, .t 26]⟩, ⟨some 21, none, .mov (.t 27)⟩, ⟨some 28, none, .ext (.t 21) 0⟩, ⟨some 29, none, .ext (.t 21) 1⟩, ⟨some 30, none, .ext (.t 21) 2⟩, ⟨some 11, none, .new 30 [.int .i64 0, .bool false]⟩, ⟨some 10, none, .mov (.t 28)⟩, ⟨none, none, .st (.t 11) (.t 29) 2⟩, ⟨some 12, none, .mov (.t 30)⟩])
 (.seq (.seq (.ops none [⟨some 31, none, .mov (.t 12)⟩, ⟨some 32, none, .bin .neq (.t 31) (.c (.int .i64 (0)))⟩])
 (.cond (.t 32) (.seq (.ops none [⟨some 33, none, .mov (.t 0)⟩, ⟨some 34, none, .apf 1 8 [.int .i64 0] (.t 33)⟩, ⟨some 35, none, .mov (.t 12)⟩, ⟨some 4, none, .mov (.t 34)⟩, ⟨some 5, none, .mov (.c (.list 2 []))⟩, ⟨some 6, none, .mov (.t 35)⟩])
 (.ret)) (.skip)))
 (.seq (.ops none [⟨some 36, none, .mov (.t 10)⟩, ⟨some 7, none, .mov (.t 36)⟩])
 (.ops none [⟨some 37, none, .mov (.t 8)⟩, ⟨some 38, none, .ldv (.t 11) true 2⟩, ⟨some 39, none, .bsl 2 [.int .i64 0, .bool false] 1 [(0, .t 38)]⟩, ⟨some 40, none, .app 30 2 16 [.int .i64 0, .bool false] (.t 37) (.t 39)⟩, ⟨some 8, none, .mov (.t 40)⟩])))))
 (.ops none [⟨some 19, none, .mov (.t 9)⟩, ⟨some 20, none, .bin .add (.t 19) (.c (.int .i64 (1)))⟩, ⟨some 9, none, .mov (.t 20)⟩])))
def g18b : ACode :=
.seq (.ops none [⟨some 4, none, .mov (.c (.list 1 []))⟩, ⟨some 5, none, .mov (.c (.list 2 []))⟩, ⟨some 6, none, .mov (.c (.int .i64 (0)))⟩])
 (.seq (.ops none [⟨some 13, none, .mov (.t 0)⟩, ⟨some 14, none, .apf 1 8 [.int .i64 0] (.t 13)⟩, ⟨some 7, none, .mov (.t 14)⟩])
 (.seq (.ops none [⟨some 8, none, .nv 30 2⟩])
 (.seq (.seq (.ops none [⟨some 9, none, .mov (.c (.int .i64 (0)))⟩])
 (.block 0 (.loop g18l0)))
 (.seq (.ops none [⟨some 41, none, .mov (.t 7)⟩, ⟨some 42, none, .mov (.t 8)⟩, ⟨some 4, none, .mov (.t 41)⟩, ⟨some 5, none, .mov (.t 42)⟩, ⟨some 6, none, .mov (.c (.int .i64 (0)))⟩])
 (.ret)))))
/-- bellwether/bellwetherref02.Play -/
def g18 : AFn := { np := 2, nt := 43, res := [.t 4, .t 5, .t 6], body := g18b }

def g19l0 : ACode :=
 .ghost (.renum [0, 1, 5] []) (.seq (.seq (.ops none [⟨some 11, none, .mov (.t 5)⟩, ⟨some 12, none, .mov (.t 0)⟩, ⟨some 13, none, .len (.t 12)⟩, ⟨some 14, none, .bin .lss (.t 11) (.t 13)⟩])
 (.cond (.t 14) (.skip) (.exit 0)))
 (.seq (.block 1 (.seq (.ops (some [[], [], [0, 1], [0, 1, 2], [], [], [4, 5], [4, 5, 6], [0, 1, 2, 3, 4, 5, 6, 7]]) [⟨some 17, none, .mov (.t 0)⟩, ⟨some 18, none, .mov (.t 5)⟩, ⟨some 19, none, .ixf 2 (.t 17) (.t 18)⟩, ⟨some 20, none, .ldf (.t 19) true 2⟩, ⟨some 21, none, .mov (.t 1)⟩, ⟨some 22, none, .mov (.t 5)⟩, ⟨some 23, none, .ixf 2 (.t 21) (.t 22)⟩, ⟨some 24, none, .ldf (.t 23) true 2⟩, ⟨some 25, none, .eqs true [false, true] (.t 20) (.t 24)⟩])
 (.cond (.t 25) (.seq (.ops none [⟨some 4, none, .mov (.c (.bool false))⟩])
 (.ret)) (.skip))))
 (.ops none [⟨some 15, none, .mov (.t 5)⟩, ⟨some 16, none, .bin .add (.t 15) (.c (.int .i64 (1)))⟩, ⟨some 5, none, .mov (.t 16)⟩])))
def g19b : ACode :=
.seq (.ops none [⟨some 4, none, .mov (.c (.bool false))⟩])
 (.seq (.seq (.ops none [⟨some 6, none, .mov (.t 0)⟩, ⟨some 7, none, .len (.t 6)⟩, ⟨some 8, none, .mov (.t 1)⟩, ⟨some 9, none, .len (.t 8)⟩, ⟨some 10, none, .bin .neq (.t 7) (.t 9)⟩])
 (.cond (.t 10) (.seq (.ops none [⟨some 4, none, .mov (.c (.bool false))⟩])
 (.ret)) (.skip)))
 (.seq (.seq (.ops none [⟨some 5, none, .mov (.c (.int .i64 (0)))⟩])
 (.block 0 (.loop g19l0)))
 (.seq (.ops none [⟨some 4, none, .mov (.c (.bool true))⟩])
 (.ret))))
/-- bellwether/bellwetherref02.SameFound -/
def g19 : AFn := { np := 2, nt := 26, res := [.t 4], body := g19b }

def g21b : ACode :=
.seq (.ops none [⟨some 4, none, .mov (.c (.int .i64 (0)))⟩, ⟨some 5, none, .mov (.c (.bool false))⟩])
 (.seq (.ops none [⟨some 7, none, .mov (.t 0)⟩, ⟨some 8, none, .mov (.t 1)⟩, ⟨some 9, none, .bin .add (.t 7) (.t 8)⟩, ⟨some 6, none, .mov (.t 9)⟩])
 (.seq (.seq (.ops none [⟨some 10, none, .mov (.t 6)⟩, ⟨some 11, none, .mov (.t 0)⟩, ⟨some 12, none, .bin .gtr (.t 10) (.t 11)⟩, ⟨some 13, none, .mov (.t 1)⟩, ⟨some 14, none, .bin .gtr (.t 13) (.c (.int .i64 (0)))⟩, ⟨some 15, none, .eqb true (.t 12) (.t 14)⟩, ⟨some 16, none, .mov (.t 15)⟩, ⟨some 17, some (16, false), .mov (.t 6)⟩, ⟨some 18, some (16, false), .calp 22 [.t 17]⟩, ⟨some 19, some (16, false), .notb (.t 18)⟩, ⟨some 20, none, .pick (.t 16) (.c (.bool true)) (.t 19)⟩])
 (.cond (.t 20) (.seq (.ops none [⟨some 4, none, .mov (.c (.int .i64 (0)))⟩, ⟨some 5, none, .mov (.c (.bool false))⟩])
 (.ret)) (.skip)))
 (.seq (.ops none [⟨some 21, none, .mov (.t 6)⟩, ⟨some 4, none, .mov (.t 21)⟩, ⟨some 5, none, .mov (.c (.bool true))⟩])
 (.ret))))
/-- bellwether/mem.sum -/
def g21 : AFn := { np := 2, nt := 22, res := [.t 4, .t 5], body := g21b }

def g22b : ACode :=
.seq (.ops none [⟨some 2, none, .mov (.c (.bool false))⟩])
 (.seq (.ops none [⟨some 3, none, .mov (.t 0)⟩, ⟨some 4, none, .bin .geq (.t 3) (.c (.int .i64 (-1152921504606846975)))⟩, ⟨some 5, none, .mov (.t 4)⟩, ⟨some 6, some (5, true), .mov (.t 0)⟩, ⟨some 7, some (5, true), .bin .leq (.t 6) (.c (.int .i64 (1152921504606846975)))⟩, ⟨some 8, none, .pick (.t 5) (.t 7) (.c (.bool false))⟩, ⟨some 2, none, .mov (.t 8)⟩])
 (.ret))
/-- bellwether/mem.within -/
def g22 : AFn := { np := 1, nt := 9, res := [.t 2], body := g22b }

def g23b : ACode :=
.seq (.ops none [⟨some 2, none, .mov (.c (.bool false))⟩])
 (.seq (.ops none [⟨some 3, none, .mov (.t 0)⟩, ⟨some 4, none, .bin .geq (.t 3) (.c (.int .i64 (-1152921504606846975)))⟩, ⟨some 5, none, .mov (.t 4)⟩, ⟨some 6, some (5, true), .mov (.t 0)⟩, ⟨some 7, some (5, true), .bin .leq (.t 6) (.c (.int .i64 (1152921504606846975)))⟩, ⟨some 8, none, .pick (.t 5) (.t 7) (.c (.bool false))⟩, ⟨some 2, none, .mov (.t 8)⟩])
 (.ret))
/-- bellwether/bellwetherref02.within -/
def g23 : AFn := { np := 1, nt := 9, res := [.t 2], body := g23b }

def memFn : Nat → Option AFn
  | 3 => some g3
  | 4 => some g4
  | 5 => some g5
  | 6 => some g6
  | 7 => some g7
  | 8 => some g8
  | 10 => some g10
  | 11 => some g11
  | 12 => some g12
  | 13 => some g13
  | 14 => some g14
  | 15 => some g15
  | 16 => some g16
  | 17 => some g17
  | 18 => some g18
  | 19 => some g19
  | 21 => some g21
  | 22 => some g22
  | 23 => some g23
  | _ => none

end Go.Proofs.Ytcolbaaecbhkdaa.Ab
