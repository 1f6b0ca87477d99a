/- The seat's functions as the interpreter's code: printed by a program of this claim (irgen.py) out of Lean's print of the loaded program; that they fit is checked in Lean. No condition. -/
import Derived.Test.YtnomicnfgdjdeaaAb12
namespace Go.Proofs.Ytnomicnfgdjdeaa.Ab

def g3l0 : ACode :=
 .ghost (.renum [9, 13, 17, 22, 23, 24, 25] [24]) (.seq (.seq (.ops none [⟨some 88, none, .mov (.t 25)⟩, ⟨some 89, none, .bin .lss (.t 88) (.c (.int .i64 (10)))⟩])
 (.cond (.t 89) (.skip) (.exit 0)))
 (.seq (.block 1 (.ops none [⟨some 92, none, .mov (.t 25)⟩, ⟨some 93, none, .mov (.t 25)⟩, ⟨some 94, none, .aix (.t 13) (.t 93) 10 1⟩, ⟨some 95, none, .ldf (.t 94) false 1⟩, ⟨some 96, none, .calp 17 [.t 95, .c (.int .i64 (9))]⟩, ⟨some 97, none, .bin .sub (.t 96) (.c (.int .i64 (1)))⟩, ⟨some 98, none, .fad (.t 24) 2⟩, ⟨some 99, none, .aix (.t 98) (.t 92) 10 1⟩, ⟨none, none, .st (.t 99) (.t 97) 1⟩]))
 (.ops none [⟨some 90, none, .mov (.t 25)⟩, ⟨some 91, none, .bin .add (.t 90) (.c (.int .i64 (1)))⟩, ⟨some 25, none, .mov (.t 91)⟩])))
def g3l1 : ACode :=
 .ghost (.renum [9, 17, 24, 26, 28, 118, 119, 120, 127, 128, 129] [24, 26]) (.seq (.ops none [⟨some 130, none, .bin .lss (.t 129) (.t 128)⟩])
 (.seq (.cond (.t 130) (.skip) (.exit 4))
 (.seq (.block 5 (.seq (.ops none [⟨some 131, none, .ixf 14 (.t 127) (.t 129)⟩, ⟨some 132, none, .ldf (.t 131) true 14⟩, ⟨some 30, none, .new 25 [.int .i64 0, .int .i64 0, .int .i64 0, .int .i64 0, .int .i64 0, .int .i64 0, .int .i64 0, .int .i64 0, .int .i64 0, .int .i64 0, .int .i64 0, .int .i64 0, .bool false, .int .i64 0]⟩, ⟨none, none, .st (.t 30) (.t 132) 14⟩])
 (.seq (.ops none [⟨some 134, none, .mov (.t 28)⟩, ⟨some 135, none, .ldv (.t 30) true 14⟩, ⟨some 136, none, .calp 19 [.t 134, .t 135]⟩, ⟨some 133, none, .mov (.t 136)⟩, ⟨some 137, none, .ext (.t 133) 0⟩, ⟨some 138, none, .ext (.t 133) 1⟩, ⟨some 139, none, .ext (.t 133) 2⟩, ⟨some 32, none, .new 25 [.int .i64 0, .int .i64 0, .int .i64 0, .int .i64 0, .int .i64 0, .int .i64 0, .int .i64 0, .int .i64 0, .int .i64 0, .int .i64 0, .int .i64 0, .int .i64 0, .bool false, .int .i64 0]⟩, ⟨some 31, none, .mov (.t 137)⟩, ⟨none, none, .st (.t 32) (.t 138) 14⟩, ⟨some 33, none, .mov (.t 139)⟩])
 (.seq (.ops none [⟨some 141, none, .mov (.t 28)⟩, ⟨some 142, none, .ldv (.t 30) true 14⟩, ⟨some 143, none, .calp 20 [.t 141, .t 142]⟩, ⟨some 140, none, .mov (.t 143)⟩, ⟨some 144, none, .ext (.t 140) 0⟩, ⟨some 145, none, .ext (.t 140) 1⟩, ⟨some 146, none, .ext (.t 140) 2⟩, ⟨some 35, none, .new 25 [.int .i64 0, .int .i64 0, .int .i64 0, .int .i64 0, .int .i64 0, .int .i64 0, .int .i64 0, .int .i64 0, .int .i64 0, .int .i64 0, .int .i64 0, .int .i64 0, .bool false, .int .i64 0]⟩, ⟨some 34, none, .mov (.t 144)⟩, ⟨none, none, .st (.t 35) (.t 145) 14⟩, ⟨some 36, none, .mov (.t 146)⟩])
 (.seq (.ops none [⟨some 147, none, .mov (.t 31)⟩, ⟨some 148, none, .mov (.t 34)⟩, ⟨some 149, none, .calp 21 [.t 147, .t 148]⟩, ⟨some 150, none, .notb (.t 149)⟩, ⟨some 151, none, .mov (.t 150)⟩, ⟨some 152, some (151, false), .ldv (.t 32) true 14⟩, ⟨some 153, some (151, false), .ldv (.t 35) true 14⟩, ⟨some 154, some (151, false), .eqs true [false, false, false, false, false, false, false, false, false, false, false, false, true, false] (.t 152) (.t 153)⟩, ⟨some 155, none, .pick (.t 151) (.c (.bool true)) (.t 154)⟩, ⟨some 156, none, .mov (.t 155)⟩, ⟨some 157, some (156, false), .mov (.t 33)⟩, ⟨some 158, some (156, false), .mov (.t 36)⟩, ⟨some 159, some (156, false), .bin .neq (.t 157) (.t 158)⟩, ⟨some 160, none, .pick (.t 156) (.c (.bool true)) (.t 159)⟩])
 (.cond (.t 160) (.seq (.ops none [⟨some 16, none, .mov (.c (.bool false))⟩])
 (.ret)) (.skip)))))))
 (.ops none [⟨some 161, none, .bin .add (.t 129) (.c (.int .i64 (1)))⟩, ⟨some 129, none, .mov (.t 161)⟩]))))
def g3l2 : ACode :=
 .ghost (.renum [9, 17, 24, 26, 118, 119, 120] [24, 26]) (.seq (.ops none [⟨some 121, none, .bin .lss (.t 120) (.t 119)⟩])
 (.seq (.cond (.t 121) (.skip) (.exit 2))
 (.seq (.block 3 (.seq (.ops none [⟨some 122, none, .ixf 1 (.t 118) (.t 120)⟩, ⟨some 123, none, .ldf (.t 122) false 1⟩, ⟨some 28, none, .mov (.t 123)⟩])
 (.seq (.ops none [⟨some 124, none, .ldf (.t 9) true 14⟩, ⟨some 125, none, .ldv (.t 24) true 14⟩, ⟨some 126, none, .ldv (.t 26) true 14⟩, ⟨some 127, none, .bsl 14 [.int .i64 0, .int .i64 0, .int .i64 0, .int .i64 0, .int .i64 0, .int .i64 0, .int .i64 0, .int .i64 0, .int .i64 0, .int .i64 0, .int .i64 0, .int .i64 0, .bool false, .int .i64 0] 3 [(0, .t 124), (1, .t 125), (2, .t 126)]⟩, ⟨some 128, none, .len (.t 127)⟩, ⟨some 129, none, .mov (.c (.int .i64 (0)))⟩])
 (.block 4 (.loop g3l1)))))
 (.ops none [⟨some 162, none, .bin .add (.t 120) (.c (.int .i64 (1)))⟩, ⟨some 120, none, .mov (.t 162)⟩]))))
def g3b : ACode :=
.seq (.ops none [⟨some 9, none, .boxf 14 (.t 1)⟩, ⟨some 12, none, .boxf 4 (.t 4)⟩, ⟨some 13, none, .boxf 10 (.t 5)⟩, ⟨some 16, none, .mov (.c (.bool false))⟩])
 (.seq (.ops none [⟨some 37, none, .calp 13 []⟩, ⟨some 17, none, .mov (.t 37)⟩])
 (.seq (.ops none [⟨some 39, none, .aix (.t 12) (.c (.int .i64 (0))) 4 1⟩, ⟨some 40, none, .ldf (.t 39) false 1⟩, ⟨some 41, none, .aix (.t 12) (.c (.int .i64 (1))) 4 1⟩, ⟨some 42, none, .ldf (.t 41) false 1⟩, ⟨some 43, none, .aix (.t 12) (.c (.int .i64 (2))) 4 1⟩, ⟨some 44, none, .ldf (.t 43) false 1⟩, ⟨some 45, none, .aix (.t 12) (.c (.int .i64 (3))) 4 1⟩, ⟨some 46, none, .ldf (.t 45) false 1⟩, ⟨some 47, none, .calp 14 [.t 40, .t 42, .t 44, .t 46]⟩, ⟨some 38, none, .mov (.t 47)⟩, ⟨some 48, none, .ext (.t 38) 0⟩, ⟨some 49, none, .ext (.t 38) 1⟩, ⟨some 18, none, .new 25 [.int .i64 0, .int .i64 0, .int .i64 0, .int .i64 0, .int .i64 0, .int .i64 0, .int .i64 0, .int .i64 0, .int .i64 0, .int .i64 0, .int .i64 0, .int .i64 0, .bool false, .int .i64 0]⟩, ⟨none, none, .st (.t 18) (.t 48) 14⟩, ⟨some 19, none, .mov (.t 49)⟩])
 (.seq (.ops none [⟨some 51, none, .aix (.t 12) (.c (.int .i64 (0))) 4 1⟩, ⟨some 52, none, .ldf (.t 51) false 1⟩, ⟨some 53, none, .aix (.t 12) (.c (.int .i64 (1))) 4 1⟩, ⟨some 54, none, .ldf (.t 53) false 1⟩, ⟨some 55, none, .aix (.t 12) (.c (.int .i64 (2))) 4 1⟩, ⟨some 56, none, .ldf (.t 55) false 1⟩, ⟨some 57, none, .aix (.t 12) (.c (.int .i64 (3))) 4 1⟩, ⟨some 58, none, .ldf (.t 57) false 1⟩, ⟨some 59, none, .calp 15 [.t 52, .t 54, .t 56, .t 58]⟩, ⟨some 50, none, .mov (.t 59)⟩, ⟨some 60, none, .ext (.t 50) 0⟩, ⟨some 61, none, .ext (.t 50) 1⟩, ⟨some 20, none, .new 25 [.int .i64 0, .int .i64 0, .int .i64 0, .int .i64 0, .int .i64 0, .int .i64 0, .int .i64 0, .int .i64 0, .int .i64 0, .int .i64 0, .int .i64 0, .int .i64 0, .bool false, .int .i64 0]⟩, ⟨none, none, .st (.t 20) (.t 60) 14⟩, ⟨some 21, none, .mov (.t 61)⟩])
 (.seq (.seq (.ops none [⟨some 62, none, .ldv (.t 18) true 14⟩, ⟨some 63, none, .ldv (.t 20) true 14⟩, ⟨some 64, none, .eqs true [false, false, false, false, false, false, false, false, false, false, false, false, true, false] (.t 62) (.t 63)⟩, ⟨some 65, none, .mov (.t 64)⟩, ⟨some 66, some (65, false), .mov (.t 19)⟩, ⟨some 67, some (65, false), .mov (.t 21)⟩, ⟨some 68, some (65, false), .bin .neq (.t 66) (.t 67)⟩, ⟨some 69, none, .pick (.t 65) (.c (.bool true)) (.t 68)⟩])
 (.cond (.t 69) (.seq (.ops none [⟨some 16, none, .mov (.c (.bool false))⟩])
 (.ret)) (.skip)))
 (.seq (.ops none [⟨some 70, none, .mov (.t 0)⟩, ⟨some 22, none, .mov (.t 70)⟩])
 (.seq (.seq (.ops none [⟨some 71, none, .mov (.t 22)⟩, ⟨some 72, none, .len (.t 71)⟩, ⟨some 73, none, .bin .gtr (.t 72) (.c (.int .i64 (60)))⟩])
 (.cond (.t 73) (.ops none [⟨some 74, none, .mov (.t 22)⟩, ⟨some 75, none, .slf 1 (.t 74) none (some (.c (.int .i64 (60))))⟩, ⟨some 22, none, .mov (.t 75)⟩]) (.skip)))
 (.seq (.ops none [⟨some 76, none, .mov (.t 2)⟩, ⟨some 77, none, .mov (.t 3)⟩, ⟨some 78, none, .calp 16 [.t 76, .c (.int .i64 (2)), .t 77]⟩, ⟨some 23, none, .mov (.t 78)⟩])
 (.seq (.ops none [⟨some 79, none, .mov (.t 7)⟩, ⟨some 80, none, .calp 17 [.t 79, .c (.int .i64 (3))]⟩, ⟨some 81, none, .bin .add (.c (.int .i64 (1))) (.t 80)⟩, ⟨some 82, none, .bsl 1 [.int .i64 0] 17 [(0, .c (.int .i64 (0))), (1, .c (.int .i64 (1))), (2, .c (.int .i64 (2))), (3, .c (.int .i64 (3))), (4, .c (.int .i64 (10))), (5, .c (.int .i64 (11))), (6, .c (.int .i64 (12))), (7, .c (.int .i64 (13))), (8, .c (.int .i64 (14))), (9, .c (.int .i64 (15))), (10, .c (.int .i64 (16))), (11, .c (.int .i64 (17))), (12, .c (.int .i64 (18))), (13, .c (.int .i64 (19))), (14, .c (.int .i64 (20))), (15, .c (.int .i64 (21))), (16, .c (.int .i64 (22)))]⟩, ⟨some 83, none, .mov (.t 6)⟩, ⟨some 84, none, .calp 17 [.t 83, .c (.int .i64 (17))]⟩, ⟨some 85, none, .ixf 1 (.t 82) (.t 84)⟩, ⟨some 86, none, .ldf (.t 85) false 1⟩, ⟨some 87, none, .build [.int .i64 0, .int .i64 0, .int .i64 0, .int .i64 0, .int .i64 0, .int .i64 0, .int .i64 0, .int .i64 0, .int .i64 0, .int .i64 0, .int .i64 0, .int .i64 0, .bool false, .int .i64 0] [(0, 1, .t 81), (1, 1, .t 86)]⟩, ⟨some 24, none, .new 25 [.int .i64 0, .int .i64 0, .int .i64 0, .int .i64 0, .int .i64 0, .int .i64 0, .int .i64 0, .int .i64 0, .int .i64 0, .int .i64 0, .int .i64 0, .int .i64 0, .bool false, .int .i64 0]⟩, ⟨none, none, .st (.t 24) (.t 87) 14⟩])
 (.seq (.seq (.ops none [⟨some 25, none, .mov (.c (.int .i64 (0)))⟩])
 (.block 0 (.loop g3l0)))
 (.seq (.ops none [⟨some 100, none, .ldv (.t 24) true 14⟩, ⟨some 26, none, .new 25 [.int .i64 0, .int .i64 0, .int .i64 0, .int .i64 0, .int .i64 0, .int .i64 0, .int .i64 0, .int .i64 0, .int .i64 0, .int .i64 0, .int .i64 0, .int .i64 0, .bool false, .int .i64 0]⟩, ⟨none, none, .st (.t 26) (.t 100) 14⟩])
 (.seq (.seq (.ops none [⟨some 101, none, .aix (.t 13) (.c (.int .i64 (0))) 10 1⟩, ⟨some 102, none, .ldf (.t 101) false 1⟩, ⟨some 103, none, .calp 17 [.t 102, .c (.int .i64 (2))]⟩, ⟨some 104, none, .bin .eql (.t 103) (.c (.int .i64 (0)))⟩])
 (.cond (.t 104) (.seq (.ops none [⟨some 105, none, .fad (.t 26) 2⟩, ⟨some 106, none, .aix (.t 105) (.c (.int .i64 (1))) 10 1⟩, ⟨none, none, .st (.t 106) (.c (.int .i64 (0))) 1⟩])
 (.seq (.ops none [⟨some 107, none, .mov (.t 23)⟩, ⟨some 108, none, .calp 18 [.t 107, .c (.int .i64 (0)), .c (.int .i64 (1))]⟩, ⟨some 109, none, .fad (.t 26) 2⟩, ⟨some 110, none, .aix (.t 109) (.c (.int .i64 (2))) 10 1⟩, ⟨none, none, .st (.t 110) (.t 108) 1⟩])
 (.ops none [⟨some 111, none, .fad (.t 26) 2⟩, ⟨some 112, none, .aix (.t 111) (.c (.int .i64 (0))) 10 1⟩, ⟨some 113, none, .ldv (.t 112) false 1⟩, ⟨some 114, none, .fad (.t 26) 2⟩, ⟨some 115, none, .aix (.t 114) (.c (.int .i64 (5))) 10 1⟩, ⟨none, none, .st (.t 115) (.t 113) 1⟩]))) (.skip)))
 (.seq (.seq (.ops none [⟨some 116, none, .mov (.t 22)⟩, ⟨some 117, none, .mov (.t 23)⟩, ⟨some 118, none, .bsl 1 [.list 1 []] 2 [(0, .t 116), (1, .t 117)]⟩, ⟨some 119, none, .len (.t 118)⟩, ⟨some 120, none, .mov (.c (.int .i64 (0)))⟩])
 (.block 2 (.loop g3l2)))
 (.seq (.ops none [⟨some 163, none, .mov (.t 17)⟩, ⟨some 16, none, .mov (.t 163)⟩])
 (.ret))))))))))))))
/-- bellwether/bellwetherlaw12.LazyTells -/
def g3 : AFn := { np := 8, nt := 164, res := [.t 16], body := g3b }

def g4l0 : ACode :=
 .ghost (.renum [2, 3, 11, 12, 15, 17, 18, 19, 44, 45, 46] [15, 18]) (.seq (.seq (.ops none [⟨some 62, none, .mov (.t 19)⟩, ⟨some 63, none, .bin .lss (.t 62) (.c (.int .i64 (40)))⟩, ⟨some 64, none, .mov (.t 63)⟩, ⟨some 65, some (64, true), .fad (.t 18) 12⟩, ⟨some 66, some (64, true), .ldv (.t 65) false 1⟩, ⟨some 67, some (64, true), .notb (.t 66)⟩, ⟨some 68, none, .pick (.t 64) (.t 67) (.c (.bool false))⟩])
 (.cond (.t 68) (.skip) (.exit 2)))
 (.seq (.block 3 (.seq (.ops none [⟨some 72, none, .mov (.t 17)⟩, ⟨some 73, none, .ldv (.t 18) true 14⟩, ⟨some 74, none, .calp 19 [.t 72, .t 73]⟩, ⟨some 71, none, .mov (.t 74)⟩, ⟨some 75, none, .ext (.t 71) 0⟩, ⟨some 76, none, .ext (.t 71) 1⟩, ⟨some 77, none, .ext (.t 71) 2⟩, ⟨some 21, none, .new 25 [.int .i64 0, .int .i64 0, .int .i64 0, .int .i64 0, .int .i64 0, .int .i64 0, .int .i64 0, .int .i64 0, .int .i64 0, .int .i64 0, .int .i64 0, .int .i64 0, .bool false, .int .i64 0]⟩, ⟨some 20, none, .mov (.t 75)⟩, ⟨none, none, .st (.t 21) (.t 76) 14⟩, ⟨some 22, none, .mov (.t 77)⟩])
 (.seq (.ops none [⟨some 79, none, .mov (.t 17)⟩, ⟨some 80, none, .ldv (.t 18) true 14⟩, ⟨some 81, none, .calp 20 [.t 79, .t 80]⟩, ⟨some 78, none, .mov (.t 81)⟩, ⟨some 82, none, .ext (.t 78) 0⟩, ⟨some 83, none, .ext (.t 78) 1⟩, ⟨some 84, none, .ext (.t 78) 2⟩, ⟨some 24, none, .new 25 [.int .i64 0, .int .i64 0, .int .i64 0, .int .i64 0, .int .i64 0, .int .i64 0, .int .i64 0, .int .i64 0, .int .i64 0, .int .i64 0, .int .i64 0, .int .i64 0, .bool false, .int .i64 0]⟩, ⟨some 23, none, .mov (.t 82)⟩, ⟨none, none, .st (.t 24) (.t 83) 14⟩, ⟨some 25, none, .mov (.t 84)⟩])
 (.seq (.seq (.ops none [⟨some 85, none, .mov (.t 20)⟩, ⟨some 86, none, .mov (.t 23)⟩, ⟨some 87, none, .calp 21 [.t 85, .t 86]⟩, ⟨some 88, none, .notb (.t 87)⟩, ⟨some 89, none, .mov (.t 88)⟩, ⟨some 90, some (89, false), .ldv (.t 21) true 14⟩, ⟨some 91, some (89, false), .ldv (.t 24) true 14⟩, ⟨some 92, some (89, false), .eqs true [false, false, false, false, false, false, false, false, false, false, false, false, true, false] (.t 90) (.t 91)⟩, ⟨some 93, none, .pick (.t 89) (.c (.bool true)) (.t 92)⟩, ⟨some 94, none, .mov (.t 93)⟩, ⟨some 95, some (94, false), .mov (.t 22)⟩, ⟨some 96, some (94, false), .mov (.t 25)⟩, ⟨some 97, some (94, false), .bin .neq (.t 95) (.t 96)⟩, ⟨some 98, none, .pick (.t 94) (.c (.bool true)) (.t 97)⟩])
 (.cond (.t 98) (.seq (.ops none [⟨some 10, none, .mov (.c (.bool false))⟩])
 (.ret)) (.skip)))
 (.seq (.seq (.ops none [⟨some 99, none, .mov (.t 25)⟩, ⟨some 100, none, .bin .neq (.t 99) (.c (.int .i64 (0)))⟩])
 (.cond (.t 100) (.exit 2) (.skip)))
 (.seq (.ops none [⟨some 101, none, .mov (.t 23)⟩, ⟨some 17, none, .mov (.t 101)⟩])
 (.ops none [⟨some 102, none, .ldv (.t 24) true 14⟩, ⟨none, none, .st (.t 18) (.t 102) 14⟩])))))))
 (.ops none [⟨some 69, none, .mov (.t 19)⟩, ⟨some 70, none, .bin .add (.t 69) (.c (.int .i64 (1)))⟩, ⟨some 19, none, .mov (.t 70)⟩])))
def g4l1 : ACode :=
 .ghost (.renum [2, 3, 11, 12, 44, 45, 46] []) (.seq (.ops none [⟨some 47, none, .bin .lss (.t 46) (.t 45)⟩])
 (.seq (.cond (.t 47) (.skip) (.exit 0))
 (.seq (.block 1 (.seq (.ops none [⟨some 48, none, .ixf 1 (.t 44) (.t 46)⟩, ⟨some 49, none, .ldf (.t 48) false 1⟩, ⟨some 14, none, .mov (.t 49)⟩])
 (.seq (.ops none [⟨some 51, none, .mov (.t 2)⟩, ⟨some 52, none, .calp 17 [.t 51, .c (.int .i64 (3))]⟩, ⟨some 53, none, .bin .add (.c (.int .i64 (1))) (.t 52)⟩, ⟨some 54, none, .mov (.t 3)⟩, ⟨some 55, none, .calp 17 [.t 54, .c (.int .i64 (21))]⟩, ⟨some 56, none, .mov (.t 14)⟩, ⟨some 57, none, .calp 15 [.t 53, .t 55, .c (.int .i64 (4)), .t 56]⟩, ⟨some 50, none, .mov (.t 57)⟩, ⟨some 58, none, .ext (.t 50) 0⟩, ⟨some 59, none, .ext (.t 50) 1⟩, ⟨some 15, none, .new 25 [.int .i64 0, .int .i64 0, .int .i64 0, .int .i64 0, .int .i64 0, .int .i64 0, .int .i64 0, .int .i64 0, .int .i64 0, .int .i64 0, .int .i64 0, .int .i64 0, .bool false, .int .i64 0]⟩, ⟨none, none, .st (.t 15) (.t 58) 14⟩, ⟨some 16, none, .mov (.t 59)⟩])
 (.seq (.opsx [[], [], [], [0, 2], [0, 1, 2, 3]] [(15, 18)] [⟨some 60, none, .mov (.t 12)⟩, ⟨some 61, none, .ldv (.t 15) true 14⟩, ⟨some 18, none, .new 25 [.int .i64 0, .int .i64 0, .int .i64 0, .int .i64 0, .int .i64 0, .int .i64 0, .int .i64 0, .int .i64 0, .int .i64 0, .int .i64 0, .int .i64 0, .int .i64 0, .bool false, .int .i64 0]⟩, ⟨some 17, none, .mov (.t 60)⟩, ⟨none, none, .st (.t 18) (.t 61) 14⟩])
 (.seq (.seq (.ops none [⟨some 19, none, .mov (.c (.int .i64 (0)))⟩])
 (.block 2 (.loop g4l0)))
 (.seq (.seq (.ops none [⟨some 103, none, .fad (.t 18) 12⟩, ⟨some 104, none, .ldv (.t 103) false 1⟩, ⟨some 105, none, .notb (.t 104)⟩])
 (.cond (.t 105) (.exit 1) (.skip)))
 (.seq (.ops none [⟨some 107, none, .mov (.t 12)⟩, ⟨some 108, none, .ldv (.t 15) true 14⟩, ⟨some 109, none, .calp 22 [.t 107, .t 108]⟩, ⟨some 106, none, .mov (.t 109)⟩, ⟨some 110, none, .ext (.t 106) 0⟩, ⟨some 111, none, .ext (.t 106) 1⟩, ⟨some 112, none, .ext (.t 106) 2⟩, ⟨some 113, none, .ext (.t 106) 3⟩, ⟨some 27, none, .new 25 [.int .i64 0, .int .i64 0, .int .i64 0, .int .i64 0, .int .i64 0, .int .i64 0, .int .i64 0, .int .i64 0, .int .i64 0, .int .i64 0, .int .i64 0, .int .i64 0, .bool false, .int .i64 0]⟩, ⟨some 26, none, .mov (.t 110)⟩, ⟨none, none, .st (.t 27) (.t 111) 14⟩, ⟨some 28, none, .mov (.t 112)⟩, ⟨some 29, none, .mov (.t 113)⟩])
 (.seq (.ops none [⟨some 115, none, .mov (.t 12)⟩, ⟨some 116, none, .ldv (.t 15) true 14⟩, ⟨some 117, none, .calp 23 [.t 115, .t 116]⟩, ⟨some 114, none, .mov (.t 117)⟩, ⟨some 118, none, .ext (.t 114) 0⟩, ⟨some 119, none, .ext (.t 114) 1⟩, ⟨some 120, none, .ext (.t 114) 2⟩, ⟨some 121, none, .ext (.t 114) 3⟩, ⟨some 31, none, .new 25 [.int .i64 0, .int .i64 0, .int .i64 0, .int .i64 0, .int .i64 0, .int .i64 0, .int .i64 0, .int .i64 0, .int .i64 0, .int .i64 0, .int .i64 0, .int .i64 0, .bool false, .int .i64 0]⟩, ⟨some 30, none, .mov (.t 118)⟩, ⟨none, none, .st (.t 31) (.t 119) 14⟩, ⟨some 32, none, .mov (.t 120)⟩, ⟨some 33, none, .mov (.t 121)⟩])
 (.seq (.ops none [⟨some 122, none, .mov (.t 26)⟩, ⟨some 123, none, .mov (.t 30)⟩, ⟨some 124, none, .calp 21 [.t 122, .t 123]⟩, ⟨some 125, none, .notb (.t 124)⟩, ⟨some 126, none, .mov (.t 125)⟩, ⟨some 127, some (126, false), .ldv (.t 27) true 14⟩, ⟨some 128, some (126, false), .ldv (.t 31) true 14⟩, ⟨some 129, some (126, false), .eqs true [false, false, false, false, false, false, false, false, false, false, false, false, true, false] (.t 127) (.t 128)⟩, ⟨some 130, none, .pick (.t 126) (.c (.bool true)) (.t 129)⟩, ⟨some 131, none, .mov (.t 130)⟩, ⟨some 132, some (131, false), .mov (.t 28)⟩, ⟨some 133, some (131, false), .mov (.t 32)⟩, ⟨some 134, some (131, false), .bin .neq (.t 132) (.t 133)⟩, ⟨some 135, none, .pick (.t 131) (.c (.bool true)) (.t 134)⟩, ⟨some 136, none, .mov (.t 135)⟩, ⟨some 137, some (136, false), .mov (.t 29)⟩, ⟨some 138, some (136, false), .mov (.t 33)⟩, ⟨some 139, some (136, false), .bin .neq (.t 137) (.t 138)⟩, ⟨some 140, none, .pick (.t 136) (.c (.bool true)) (.t 139)⟩])
 (.cond (.t 140) (.seq (.ops none [⟨some 10, none, .mov (.c (.bool false))⟩])
 (.ret)) (.skip)))))))))))
 (.ops none [⟨some 141, none, .bin .add (.t 46) (.c (.int .i64 (1)))⟩, ⟨some 46, none, .mov (.t 141)⟩]))))
def g4b : ACode :=
.seq (.ops none [⟨some 10, none, .mov (.c (.bool false))⟩])
 (.seq (.ops none [⟨some 34, none, .calp 13 []⟩, ⟨some 11, none, .mov (.t 34)⟩])
 (.seq (.ops none [⟨some 35, none, .mov (.t 0)⟩, ⟨some 36, none, .mov (.t 1)⟩, ⟨some 37, none, .calp 16 [.t 35, .c (.int .i64 (2)), .t 36]⟩, ⟨some 12, none, .mov (.t 37)⟩])
 (.seq (.seq (.ops none [⟨some 38, none, .mov (.t 12)⟩, ⟨some 39, none, .len (.t 38)⟩, ⟨some 40, none, .bin .quo (.t 39) (.c (.int .i64 (4)))⟩, ⟨some 41, none, .bin .sub (.t 40) (.c (.int .i64 (1)))⟩, ⟨some 42, none, .mov (.t 4)⟩, ⟨some 43, none, .calp 17 [.t 42, .c (.int .i64 (12))]⟩, ⟨some 44, none, .bsl 1 [.int .i64 0] 2 [(0, .t 41), (1, .t 43)]⟩, ⟨some 45, none, .len (.t 44)⟩, ⟨some 46, none, .mov (.c (.int .i64 (0)))⟩])
 (.block 0 (.loop g4l1)))
 (.seq (.ops none [⟨some 142, none, .mov (.t 11)⟩, ⟨some 10, none, .mov (.t 142)⟩])
 (.ret)))))
/-- bellwether/bellwetherlaw12.LazyRuns -/
def g4 : AFn := { np := 5, nt := 143, res := [.t 10], body := g4b }

def g5l0 : ACode :=
 .ghost (.renum [1, 5, 6, 9, 11, 13, 14, 15, 16, 17, 18, 19, 21, 22, 23, 24] [15]) (.seq (.seq (.ops none [⟨some 92, none, .mov (.t 24)⟩, ⟨some 93, none, .mov (.t 6)⟩, ⟨some 94, none, .len (.t 93)⟩, ⟨some 95, none, .bin .lss (.t 92) (.t 94)⟩])
 (.cond (.t 95) (.skip) (.exit 2)))
 (.seq (.block 3 (.seq (.ops none [⟨some 98, none, .mov (.t 6)⟩, ⟨some 99, none, .mov (.t 24)⟩, ⟨some 100, none, .ixf 1 (.t 98) (.t 99)⟩, ⟨some 101, none, .ldf (.t 100) false 1⟩, ⟨some 102, none, .mov (.t 11)⟩, ⟨some 103, none, .bin .lss (.t 101) (.t 102)⟩])
 (.cond (.t 103) (.ops none [⟨some 104, none, .mov (.t 23)⟩, ⟨some 105, none, .bin .add (.t 104) (.c (.int .i64 (1)))⟩, ⟨some 23, none, .mov (.t 105)⟩]) (.skip))))
 (.ops none [⟨some 96, none, .mov (.t 24)⟩, ⟨some 97, none, .bin .add (.t 96) (.c (.int .i64 (1)))⟩, ⟨some 24, none, .mov (.t 97)⟩])))
def g5l1 : ACode :=
 .ghost (.renum [1, 5, 6, 7, 9] []) (.seq (.seq (.ops none [⟨some 35, none, .mov (.t 9)⟩, ⟨some 36, none, .mov (.t 1)⟩, ⟨some 37, none, .len (.t 36)⟩, ⟨some 38, none, .bin .lss (.t 35) (.t 37)⟩, ⟨some 39, none, .mov (.t 38)⟩, ⟨some 40, some (39, true), .mov (.t 9)⟩, ⟨some 41, some (39, true), .bin .lss (.t 40) (.c (.int .i64 (12)))⟩, ⟨some 42, none, .pick (.t 39) (.t 41) (.c (.bool false))⟩])
 (.cond (.t 42) (.skip) (.exit 0)))
 (.seq (.block 1 (.seq (.ops none [⟨some 45, none, .mov (.t 1)⟩, ⟨some 46, none, .mov (.t 9)⟩, ⟨some 47, none, .ixf 2 (.t 45) (.t 46)⟩, ⟨some 48, none, .aix (.t 47) (.c (.int .i64 (0))) 2 1⟩, ⟨some 49, none, .ldf (.t 48) false 1⟩, ⟨some 50, none, .calp 17 [.t 49, .c (.int .i64 (3))]⟩, ⟨some 51, none, .bin .add (.c (.int .i64 (1))) (.t 50)⟩, ⟨some 10, none, .mov (.t 51)⟩])
 (.seq (.ops none [⟨some 52, none, .mov (.t 1)⟩, ⟨some 53, none, .mov (.t 9)⟩, ⟨some 54, none, .ixf 2 (.t 52) (.t 53)⟩, ⟨some 55, none, .aix (.t 54) (.c (.int .i64 (1))) 2 1⟩, ⟨some 56, none, .ldf (.t 55) false 1⟩, ⟨some 57, none, .calp 17 [.t 56, .c (.int .i64 (21))]⟩, ⟨some 11, none, .mov (.t 57)⟩])
 (.seq (.ops none [⟨some 59, none, .mov (.t 10)⟩, ⟨some 60, none, .mov (.t 11)⟩, ⟨some 61, none, .mov (.t 9)⟩, ⟨some 62, none, .mov (.t 7)⟩, ⟨some 63, none, .len (.t 62)⟩, ⟨some 64, none, .bin .quo (.t 63) (.c (.int .i64 (4)))⟩, ⟨some 65, none, .bin .sub (.t 64) (.c (.int .i64 (1)))⟩, ⟨some 66, none, .mov (.t 9)⟩, ⟨some 67, none, .bin .sub (.t 65) (.t 66)⟩, ⟨some 68, none, .calp 14 [.t 59, .t 60, .t 61, .t 67]⟩, ⟨some 58, none, .mov (.t 68)⟩, ⟨some 69, none, .ext (.t 58) 0⟩, ⟨some 70, none, .ext (.t 58) 1⟩, ⟨some 12, none, .new 25 [.int .i64 0, .int .i64 0, .int .i64 0, .int .i64 0, .int .i64 0, .int .i64 0, .int .i64 0, .int .i64 0, .int .i64 0, .int .i64 0, .int .i64 0, .int .i64 0, .bool false, .int .i64 0]⟩, ⟨none, none, .st (.t 12) (.t 69) 14⟩, ⟨some 13, none, .mov (.t 70)⟩])
 (.seq (.ops none [⟨some 72, none, .mov (.t 7)⟩, ⟨some 73, none, .ldv (.t 12) true 14⟩, ⟨some 74, none, .calp 22 [.t 72, .t 73]⟩, ⟨some 71, none, .mov (.t 74)⟩, ⟨some 75, none, .ext (.t 71) 0⟩, ⟨some 76, none, .ext (.t 71) 1⟩, ⟨some 77, none, .ext (.t 71) 2⟩, ⟨some 78, none, .ext (.t 71) 3⟩, ⟨some 15, none, .new 25 [.int .i64 0, .int .i64 0, .int .i64 0, .int .i64 0, .int .i64 0, .int .i64 0, .int .i64 0, .int .i64 0, .int .i64 0, .int .i64 0, .int .i64 0, .int .i64 0, .bool false, .int .i64 0]⟩, ⟨some 14, none, .mov (.t 75)⟩, ⟨none, none, .st (.t 15) (.t 76) 14⟩, ⟨some 16, none, .mov (.t 77)⟩, ⟨some 17, none, .mov (.t 78)⟩])
 (.seq (.ops none [⟨some 80, none, .mov (.t 6)⟩, ⟨some 81, none, .mov (.t 10)⟩, ⟨some 82, none, .mov (.t 11)⟩, ⟨some 83, none, .calp 26 [.t 80, .t 81, .t 82]⟩, ⟨some 79, none, .mov (.t 83)⟩, ⟨some 84, none, .ext (.t 79) 0⟩, ⟨some 85, none, .ext (.t 79) 1⟩, ⟨some 86, none, .ext (.t 79) 2⟩, ⟨some 18, none, .mov (.t 84)⟩, ⟨some 19, none, .mov (.t 85)⟩, ⟨some 20, none, .mov (.t 86)⟩])
 (.seq (.ops none [⟨some 88, none, .mov (.t 14)⟩, ⟨some 89, none, .calp 27 [.t 88]⟩, ⟨some 87, none, .mov (.t 89)⟩, ⟨some 90, none, .ext (.t 87) 0⟩, ⟨some 91, none, .ext (.t 87) 1⟩, ⟨some 21, none, .mov (.t 90)⟩, ⟨some 22, none, .mov (.t 91)⟩])
 (.seq (.ops none [⟨some 23, none, .mov (.c (.int .i64 (0)))⟩])
 (.seq (.seq (.ops none [⟨some 24, none, .mov (.c (.int .i64 (0)))⟩])
 (.block 2 (.loop g5l0)))
 (.seq (.seq (.ops none [⟨some 106, none, .mov (.t 13)⟩, ⟨some 107, none, .bin .neq (.t 106) (.c (.int .i64 (0)))⟩, ⟨some 108, none, .mov (.t 107)⟩, ⟨some 109, some (108, false), .mov (.t 17)⟩, ⟨some 110, some (108, false), .bin .neq (.t 109) (.c (.int .i64 (0)))⟩, ⟨some 111, none, .pick (.t 108) (.c (.bool true)) (.t 110)⟩, ⟨some 112, none, .mov (.t 111)⟩, ⟨some 113, some (112, false), .mov (.t 22)⟩, ⟨some 114, some (112, false), .bin .neq (.t 113) (.c (.int .i64 (0)))⟩, ⟨some 115, none, .pick (.t 112) (.c (.bool true)) (.t 114)⟩, ⟨some 116, none, .mov (.t 115)⟩, ⟨some 117, some (116, false), .fad (.t 15) 12⟩, ⟨some 118, some (116, false), .ldv (.t 117) false 1⟩, ⟨some 119, some (116, false), .notb (.t 118)⟩, ⟨some 120, none, .pick (.t 116) (.c (.bool true)) (.t 119)⟩, ⟨some 121, none, .mov (.t 120)⟩, ⟨some 122, some (121, false), .fad (.t 15) 13⟩, ⟨some 123, some (121, false), .ldv (.t 122) false 1⟩, ⟨some 124, some (121, false), .mov (.t 19)⟩, ⟨some 125, some (121, false), .bin .neq (.t 123) (.t 124)⟩, ⟨some 126, none, .pick (.t 121) (.c (.bool true)) (.t 125)⟩, ⟨some 127, none, .mov (.t 126)⟩, ⟨some 128, some (127, false), .mov (.t 21)⟩, ⟨some 129, some (127, false), .mov (.t 18)⟩, ⟨some 130, some (127, false), .calp 21 [.t 128, .t 129]⟩, ⟨some 131, some (127, false), .notb (.t 130)⟩, ⟨some 132, none, .pick (.t 127) (.c (.bool true)) (.t 131)⟩, ⟨some 133, none, .mov (.t 132)⟩, ⟨some 134, some (133, false), .mov (.t 14)⟩, ⟨some 135, some (133, false), .calp 28 [.t 134]⟩, ⟨some 136, some (133, false), .notb (.t 135)⟩, ⟨some 137, none, .pick (.t 133) (.c (.bool true)) (.t 136)⟩, ⟨some 138, none, .mov (.t 137)⟩, ⟨some 139, some (138, false), .mov (.t 16)⟩, ⟨some 140, some (138, false), .mov (.t 23)⟩, ⟨some 141, some (138, false), .bin .mul (.c (.int .i64 (2))) (.t 140)⟩, ⟨some 142, some (138, false), .bin .add (.t 141) (.c (.int .i64 (16)))⟩, ⟨some 143, some (138, false), .bin .gtr (.t 139) (.t 142)⟩, ⟨some 144, none, .pick (.t 138) (.c (.bool true)) (.t 143)⟩])
 (.cond (.t 144) (.seq (.ops none [⟨some 4, none, .mov (.c (.bool false))⟩])
 (.ret)) (.skip)))
 (.seq (.ops none [⟨some 145, none, .mov (.t 18)⟩, ⟨some 6, none, .mov (.t 145)⟩])
 (.ops none [⟨some 146, none, .mov (.t 14)⟩, ⟨some 7, none, .mov (.t 146)⟩]))))))))))))
 (.ops none [⟨some 43, none, .mov (.t 9)⟩, ⟨some 44, none, .bin .add (.t 43) (.c (.int .i64 (1)))⟩, ⟨some 9, none, .mov (.t 44)⟩])))
def g5b : ACode :=
.seq (.ops none [⟨some 4, none, .mov (.c (.bool false))⟩])
 (.seq (.ops none [⟨some 25, none, .calp 13 []⟩, ⟨some 5, none, .mov (.t 25)⟩])
 (.seq (.ops none [⟨some 26, none, .mov (.t 0)⟩, ⟨some 27, none, .calp 24 [.t 26]⟩, ⟨some 6, none, .mov (.t 27)⟩])
 (.seq (.ops none [⟨some 29, none, .mov (.t 6)⟩, ⟨some 30, none, .calp 25 [.t 29, .c (.int .i64 (12))]⟩, ⟨some 28, none, .mov (.t 30)⟩, ⟨some 31, none, .ext (.t 28) 0⟩, ⟨some 32, none, .ext (.t 28) 1⟩, ⟨some 7, none, .mov (.t 31)⟩, ⟨some 8, none, .mov (.t 32)⟩])
 (.seq (.seq (.ops none [⟨some 33, none, .mov (.t 8)⟩, ⟨some 34, none, .bin .neq (.t 33) (.c (.int .i64 (0)))⟩])
 (.cond (.t 34) (.seq (.ops none [⟨some 4, none, .mov (.c (.bool false))⟩])
 (.ret)) (.skip)))
 (.seq (.seq (.ops none [⟨some 9, none, .mov (.c (.int .i64 (0)))⟩])
 (.block 0 (.loop g5l1)))
 (.seq (.ops none [⟨some 147, none, .mov (.t 5)⟩, ⟨some 4, none, .mov (.t 147)⟩])
 (.ret)))))))
/-- bellwether/bellwetherlaw12.LazyAlone -/
def g5 : AFn := { np := 2, nt := 148, res := [.t 4], body := g5b }

def g6l0 : ACode :=
 .ghost (.renum [3, 9, 10, 11, 17, 19, 20, 24, 26, 27, 28, 83, 84, 85] [17, 20, 27]) (.seq (.seq (.ops none [⟨some 98, none, .mov (.t 28)⟩, ⟨some 99, none, .mov (.t 3)⟩, ⟨some 100, none, .calp 17 [.t 99, .c (.int .i64 (200))]⟩, ⟨some 101, none, .bin .lss (.t 98) (.t 100)⟩])
 (.cond (.t 101) (.skip) (.exit 2)))
 (.seq (.block 3 (.seq (.ops none [⟨some 105, none, .mov (.t 26)⟩, ⟨some 106, none, .ldv (.t 27) true 14⟩, ⟨some 107, none, .calp 19 [.t 105, .t 106]⟩, ⟨some 104, none, .mov (.t 107)⟩, ⟨some 108, none, .ext (.t 104) 0⟩, ⟨some 109, none, .ext (.t 104) 1⟩, ⟨some 110, none, .ext (.t 104) 2⟩, ⟨some 30, none, .new 25 [.int .i64 0, .int .i64 0, .int .i64 0, .int .i64 0, .int .i64 0, .int .i64 0, .int .i64 0, .int .i64 0, .int .i64 0, .int .i64 0, .int .i64 0, .int .i64 0, .bool false, .int .i64 0]⟩, ⟨some 29, none, .mov (.t 108)⟩, ⟨none, none, .st (.t 30) (.t 109) 14⟩, ⟨some 31, none, .mov (.t 110)⟩])
 (.seq (.seq (.ops none [⟨some 111, none, .mov (.t 31)⟩, ⟨some 112, none, .bin .neq (.t 111) (.c (.int .i64 (0)))⟩, ⟨some 113, none, .mov (.t 112)⟩, ⟨some 114, some (113, false), .fad (.t 30) 12⟩, ⟨some 115, some (113, false), .ldv (.t 114) false 1⟩, ⟨some 116, none, .pick (.t 113) (.c (.bool true)) (.t 115)⟩])
 (.cond (.t 116) (.seq (.ops none [⟨some 8, none, .mov (.c (.bool false))⟩])
 (.ret)) (.skip)))
 (.seq (.ops none [⟨some 117, none, .mov (.t 29)⟩, ⟨some 26, none, .mov (.t 117)⟩])
 (.ops none [⟨some 118, none, .ldv (.t 30) true 14⟩, ⟨none, none, .st (.t 27) (.t 118) 14⟩])))))
 (.ops none [⟨some 102, none, .mov (.t 28)⟩, ⟨some 103, none, .bin .add (.t 102) (.c (.int .i64 (1)))⟩, ⟨some 28, none, .mov (.t 103)⟩])))
def g6l1 : ACode :=
 .ghost (.renum [3, 9, 10, 11, 17, 19, 20, 83, 84, 85] [17, 20]) (.seq (.ops none [⟨some 86, none, .bin .lss (.t 85) (.t 84)⟩])
 (.seq (.cond (.t 86) (.skip) (.exit 0))
 (.seq (.block 1 (.seq (.ops none [⟨some 87, none, .ixf 1 (.t 83) (.t 85)⟩, ⟨some 88, none, .ldf (.t 87) false 1⟩, ⟨some 24, none, .mov (.t 88)⟩])
 (.seq (.ops none [⟨some 89, none, .mov (.t 11)⟩, ⟨some 90, none, .apn 3 1 8 [.int .i64 0] (.t 89)⟩, ⟨some 25, none, .mov (.t 90)⟩])
 (.seq (.ops none [⟨some 91, none, .mov (.t 25)⟩, ⟨some 92, none, .mov (.t 24)⟩, ⟨some 93, none, .bin .mul (.c (.int .i64 (4))) (.t 92)⟩, ⟨some 94, none, .bin .add (.t 93) (.c (.int .i64 (2)))⟩, ⟨some 95, none, .ixv 1 (.t 91) (.t 94)⟩, ⟨none, none, .st (.t 95) (.c (.int .i64 (33))) 1⟩])
 (.seq (.ops none [⟨some 96, none, .mov (.t 25)⟩, ⟨some 26, none, .mov (.t 96)⟩])
 (.seq (.ops none [⟨some 97, none, .ldv (.t 17) true 14⟩, ⟨some 27, none, .new 25 [.int .i64 0, .int .i64 0, .int .i64 0, .int .i64 0, .int .i64 0, .int .i64 0, .int .i64 0, .int .i64 0, .int .i64 0, .int .i64 0, .int .i64 0, .int .i64 0, .bool false, .int .i64 0]⟩, ⟨none, none, .st (.t 27) (.t 97) 14⟩])
 (.seq (.seq (.ops none [⟨some 28, none, .mov (.c (.int .i64 (0)))⟩])
 (.block 2 (.ghost (.frz 26) (.loop g6l0))))
 (.seq (.ops none [⟨some 120, none, .mov (.t 26)⟩, ⟨some 121, none, .calp 27 [.t 120]⟩, ⟨some 119, none, .mov (.t 121)⟩, ⟨some 122, none, .ext (.t 119) 0⟩, ⟨some 123, none, .ext (.t 119) 1⟩, ⟨some 32, none, .mov (.t 122)⟩, ⟨some 33, none, .mov (.t 123)⟩])
 (.seq (.seq (.ops none [⟨some 124, none, .mov (.t 33)⟩, ⟨some 125, none, .bin .neq (.t 124) (.c (.int .i64 (0)))⟩, ⟨some 126, none, .mov (.t 125)⟩, ⟨some 127, some (126, false), .mov (.t 32)⟩, ⟨some 128, some (126, false), .mov (.t 10)⟩, ⟨some 129, some (126, false), .calp 21 [.t 127, .t 128]⟩, ⟨some 130, some (126, false), .notb (.t 129)⟩, ⟨some 131, none, .pick (.t 126) (.c (.bool true)) (.t 130)⟩, ⟨some 132, none, .mov (.t 131)⟩, ⟨some 133, some (132, false), .mov (.t 26)⟩, ⟨some 134, some (132, false), .mov (.t 24)⟩, ⟨some 135, some (132, false), .bin .mul (.c (.int .i64 (4))) (.t 134)⟩, ⟨some 136, some (132, false), .bin .add (.t 135) (.c (.int .i64 (2)))⟩, ⟨some 137, some (132, false), .ixf 1 (.t 133) (.t 136)⟩, ⟨some 138, some (132, false), .ldf (.t 137) false 1⟩, ⟨some 139, some (132, false), .bin .neq (.t 138) (.c (.int .i64 (33)))⟩, ⟨some 140, none, .pick (.t 132) (.c (.bool true)) (.t 139)⟩])
 (.cond (.t 140) (.seq (.ops none [⟨some 8, none, .mov (.c (.bool false))⟩])
 (.ret)) (.skip)))
 (.seq (.ops none [⟨some 141, none, .mov (.t 26)⟩, ⟨some 142, none, .apn 3 1 8 [.int .i64 0] (.t 141)⟩, ⟨some 26, none, .mov (.t 142)⟩])
 (.seq (.ops none [⟨some 143, none, .mov (.t 26)⟩, ⟨some 144, none, .mov (.t 24)⟩, ⟨some 145, none, .bin .mul (.c (.int .i64 (4))) (.t 144)⟩, ⟨some 146, none, .bin .add (.t 145) (.c (.int .i64 (2)))⟩, ⟨some 147, none, .ixv 1 (.t 143) (.t 146)⟩, ⟨none, none, .st (.t 147) (.c (.int .i64 (0))) 1⟩])
 (.seq (.ghost (.frz 26) (.ops none [⟨some 149, none, .mov (.t 26)⟩, ⟨some 150, none, .ldv (.t 27) true 14⟩, ⟨some 151, none, .calp 22 [.t 149, .t 150]⟩, ⟨some 148, none, .mov (.t 151)⟩, ⟨some 152, none, .ext (.t 148) 0⟩, ⟨some 153, none, .ext (.t 148) 1⟩, ⟨some 154, none, .ext (.t 148) 2⟩, ⟨some 155, none, .ext (.t 148) 3⟩, ⟨some 35, none, .new 25 [.int .i64 0, .int .i64 0, .int .i64 0, .int .i64 0, .int .i64 0, .int .i64 0, .int .i64 0, .int .i64 0, .int .i64 0, .int .i64 0, .int .i64 0, .int .i64 0, .bool false, .int .i64 0]⟩, ⟨some 34, none, .mov (.t 152)⟩, ⟨none, none, .st (.t 35) (.t 153) 14⟩, ⟨some 36, none, .mov (.t 154)⟩, ⟨some 37, none, .mov (.t 155)⟩]))
 (.seq (.ops none [⟨some 156, none, .mov (.t 37)⟩, ⟨some 157, none, .bin .neq (.t 156) (.c (.int .i64 (0)))⟩, ⟨some 158, none, .mov (.t 157)⟩, ⟨some 159, some (158, false), .fad (.t 35) 13⟩, ⟨some 160, some (158, false), .ldv (.t 159) false 1⟩, ⟨some 161, some (158, false), .fad (.t 20) 13⟩, ⟨some 162, some (158, false), .ldv (.t 161) false 1⟩, ⟨some 163, some (158, false), .bin .neq (.t 160) (.t 162)⟩, ⟨some 164, none, .pick (.t 158) (.c (.bool true)) (.t 163)⟩, ⟨some 165, none, .mov (.t 164)⟩, ⟨some 166, some (165, false), .mov (.t 34)⟩, ⟨some 167, some (165, false), .mov (.t 19)⟩, ⟨some 168, some (165, false), .calp 21 [.t 166, .t 167]⟩, ⟨some 169, some (165, false), .notb (.t 168)⟩, ⟨some 170, none, .pick (.t 165) (.c (.bool true)) (.t 169)⟩])
 (.cond (.t 170) (.seq (.ops none [⟨some 8, none, .mov (.c (.bool false))⟩])
 (.ret)) (.skip)))))))))))))))
 (.ops none [⟨some 171, none, .bin .add (.t 85) (.c (.int .i64 (1)))⟩, ⟨some 85, none, .mov (.t 171)⟩]))))
def g6b : ACode :=
.seq (.ops none [⟨some 8, none, .mov (.c (.bool false))⟩])
 (.seq (.ops none [⟨some 38, none, .calp 13 []⟩, ⟨some 9, none, .mov (.t 38)⟩])
 (.seq (.ops none [⟨some 39, none, .mov (.t 0)⟩, ⟨some 40, none, .calp 24 [.t 39]⟩, ⟨some 10, none, .mov (.t 40)⟩])
 (.seq (.ops none [⟨some 42, none, .mov (.t 10)⟩, ⟨some 43, none, .calp 25 [.t 42, .c (.int .i64 (1))]⟩, ⟨some 41, none, .mov (.t 43)⟩, ⟨some 44, none, .ext (.t 41) 0⟩, ⟨some 45, none, .ext (.t 41) 1⟩, ⟨some 11, none, .mov (.t 44)⟩, ⟨some 12, none, .mov (.t 45)⟩])
 (.seq (.ops none [⟨some 46, none, .mov (.t 2)⟩, ⟨some 47, none, .calp 17 [.t 46, .c (.int .i64 (21))]⟩, ⟨some 13, none, .mov (.t 47)⟩])
 (.seq (.ops none [⟨some 49, none, .mov (.t 11)⟩, ⟨some 50, none, .mov (.t 13)⟩, ⟨some 51, none, .calp 29 [.t 49, .t 50]⟩, ⟨some 48, none, .mov (.t 51)⟩, ⟨some 52, none, .ext (.t 48) 0⟩, ⟨some 53, none, .ext (.t 48) 1⟩, ⟨some 54, none, .ext (.t 48) 2⟩, ⟨some 14, none, .mov (.t 52)⟩, ⟨some 15, none, .mov (.t 53)⟩, ⟨some 16, none, .mov (.t 54)⟩])
 (.seq (.ops none [⟨some 56, none, .mov (.t 1)⟩, ⟨some 57, none, .calp 17 [.t 56, .c (.int .i64 (2))]⟩, ⟨some 58, none, .bin .add (.c (.int .i64 (1))) (.t 57)⟩, ⟨some 59, none, .mov (.t 13)⟩, ⟨some 60, none, .mov (.t 11)⟩, ⟨some 61, none, .len (.t 60)⟩, ⟨some 62, none, .bin .quo (.t 61) (.c (.int .i64 (4)))⟩, ⟨some 63, none, .bin .sub (.t 62) (.c (.int .i64 (1)))⟩, ⟨some 64, none, .calp 14 [.t 58, .t 59, .c (.int .i64 (7)), .t 63]⟩, ⟨some 55, none, .mov (.t 64)⟩, ⟨some 65, none, .ext (.t 55) 0⟩, ⟨some 66, none, .ext (.t 55) 1⟩, ⟨some 17, none, .new 25 [.int .i64 0, .int .i64 0, .int .i64 0, .int .i64 0, .int .i64 0, .int .i64 0, .int .i64 0, .int .i64 0, .int .i64 0, .int .i64 0, .int .i64 0, .int .i64 0, .bool false, .int .i64 0]⟩, ⟨none, none, .st (.t 17) (.t 65) 14⟩, ⟨some 18, none, .mov (.t 66)⟩])
 (.seq (.ops none [⟨some 68, none, .mov (.t 11)⟩, ⟨some 69, none, .ldv (.t 17) true 14⟩, ⟨some 70, none, .calp 22 [.t 68, .t 69]⟩, ⟨some 67, none, .mov (.t 70)⟩, ⟨some 71, none, .ext (.t 67) 0⟩, ⟨some 72, none, .ext (.t 67) 1⟩, ⟨some 73, none, .ext (.t 67) 2⟩, ⟨some 74, none, .ext (.t 67) 3⟩, ⟨some 20, none, .new 25 [.int .i64 0, .int .i64 0, .int .i64 0, .int .i64 0, .int .i64 0, .int .i64 0, .int .i64 0, .int .i64 0, .int .i64 0, .int .i64 0, .int .i64 0, .int .i64 0, .bool false, .int .i64 0]⟩, ⟨some 19, none, .mov (.t 71)⟩, ⟨none, none, .st (.t 20) (.t 72) 14⟩, ⟨some 21, none, .mov (.t 73)⟩, ⟨some 22, none, .mov (.t 74)⟩])
 (.seq (.seq (.ops none [⟨some 75, none, .mov (.t 18)⟩, ⟨some 76, none, .bin .neq (.t 75) (.c (.int .i64 (0)))⟩, ⟨some 77, none, .mov (.t 76)⟩, ⟨some 78, some (77, false), .mov (.t 22)⟩, ⟨some 79, some (77, false), .bin .neq (.t 78) (.c (.int .i64 (0)))⟩, ⟨some 80, none, .pick (.t 77) (.c (.bool true)) (.t 79)⟩])
 (.cond (.t 80) (.seq (.ops none [⟨some 8, none, .mov (.c (.bool false))⟩])
 (.ret)) (.skip)))
 (.seq (.seq (.ops none [⟨some 81, none, .mov (.t 14)⟩, ⟨some 82, none, .mov (.t 15)⟩, ⟨some 83, none, .bsl 1 [.int .i64 0] 2 [(0, .t 81), (1, .t 82)]⟩, ⟨some 84, none, .len (.t 83)⟩, ⟨some 85, none, .mov (.c (.int .i64 (0)))⟩])
 (.block 0 (.loop g6l1)))
 (.seq (.ops none [⟨some 172, none, .mov (.t 9)⟩, ⟨some 8, none, .mov (.t 172)⟩])
 (.ret)))))))))))
/-- bellwether/bellwetherlaw12.LazyLocked -/
def g6 : AFn := { np := 4, nt := 173, res := [.t 8], body := g6b }

def g7l0 : ACode :=
 .ghost (.renum [7, 9, 11, 12, 13, 14, 15, 17, 18, 19] [11, 15]) (.seq (.seq (.ops none [⟨some 67, none, .mov (.t 19)⟩, ⟨some 68, none, .mov (.t 14)⟩, ⟨some 69, none, .len (.t 68)⟩, ⟨some 70, none, .bin .quo (.t 69) (.c (.int .i64 (4)))⟩, ⟨some 71, none, .bin .lss (.t 67) (.t 70)⟩])
 (.cond (.t 71) (.skip) (.exit 2)))
 (.seq (.block 3 (.seq (.seq (.ops none [⟨some 74, none, .mov (.t 14)⟩, ⟨some 75, none, .mov (.t 19)⟩, ⟨some 76, none, .bin .mul (.c (.int .i64 (4))) (.t 75)⟩, ⟨some 77, none, .bin .add (.t 76) (.c (.int .i64 (2)))⟩, ⟨some 78, none, .ixf 1 (.t 74) (.t 77)⟩, ⟨some 79, none, .ldf (.t 78) false 1⟩, ⟨some 80, none, .bin .neq (.t 79) (.c (.int .i64 (0)))⟩])
 (.cond (.t 80) (.ops none [⟨some 81, none, .mov (.t 17)⟩, ⟨some 82, none, .bin .add (.t 81) (.c (.int .i64 (1)))⟩, ⟨some 17, none, .mov (.t 82)⟩]) (.skip)))
 (.seq (.ops none [⟨some 83, none, .mov (.t 14)⟩, ⟨some 84, none, .mov (.t 19)⟩, ⟨some 85, none, .bin .mul (.c (.int .i64 (4))) (.t 84)⟩, ⟨some 86, none, .bin .add (.t 85) (.c (.int .i64 (2)))⟩, ⟨some 87, none, .ixf 1 (.t 83) (.t 86)⟩, ⟨some 88, none, .ldf (.t 87) false 1⟩, ⟨some 89, none, .bin .neq (.t 88) (.c (.int .i64 (0)))⟩, ⟨some 90, none, .mov (.t 89)⟩, ⟨some 91, some (90, true), .mov (.t 14)⟩, ⟨some 92, some (90, true), .mov (.t 19)⟩, ⟨some 93, some (90, true), .bin .mul (.c (.int .i64 (4))) (.t 92)⟩, ⟨some 94, some (90, true), .bin .add (.t 93) (.c (.int .i64 (2)))⟩, ⟨some 95, some (90, true), .ixf 1 (.t 91) (.t 94)⟩, ⟨some 96, some (90, true), .ldf (.t 95) false 1⟩, ⟨some 97, some (90, true), .bin .neq (.t 96) (.c (.int .i64 (9)))⟩, ⟨some 98, none, .pick (.t 90) (.t 97) (.c (.bool false))⟩])
 (.cond (.t 98) (.seq (.ops none [⟨some 6, none, .mov (.c (.bool false))⟩])
 (.ret)) (.skip)))))
 (.ops none [⟨some 72, none, .mov (.t 19)⟩, ⟨some 73, none, .bin .add (.t 72) (.c (.int .i64 (1)))⟩, ⟨some 19, none, .mov (.t 73)⟩])))
def g7l1 : ACode :=
 .ghost (.renum [7, 9, 11, 12, 13, 14, 15, 17, 18, 20] [11, 15]) (.seq (.seq (.ops none [⟨some 99, none, .mov (.t 20)⟩, ⟨some 100, none, .mov (.t 14)⟩, ⟨some 101, none, .len (.t 100)⟩, ⟨some 102, none, .bin .lss (.t 99) (.t 101)⟩])
 (.cond (.t 102) (.skip) (.exit 4)))
 (.seq (.block 5 (.seq (.ops (some [[], [], [0, 1], [0, 1, 2], [], [], [4, 5], [4, 5, 6], [0, 1, 2, 3, 4, 5, 6, 7]]) [⟨some 105, none, .mov (.t 14)⟩, ⟨some 106, none, .mov (.t 20)⟩, ⟨some 107, none, .ixf 1 (.t 105) (.t 106)⟩, ⟨some 108, none, .ldf (.t 107) false 1⟩, ⟨some 109, none, .mov (.t 9)⟩, ⟨some 110, none, .mov (.t 20)⟩, ⟨some 111, none, .ixf 1 (.t 109) (.t 110)⟩, ⟨some 112, none, .ldf (.t 111) false 1⟩, ⟨some 113, none, .bin .neq (.t 108) (.t 112)⟩])
 (.cond (.t 113) (.ops none [⟨some 114, none, .mov (.t 18)⟩, ⟨some 115, none, .bin .add (.t 114) (.c (.int .i64 (1)))⟩, ⟨some 18, none, .mov (.t 115)⟩]) (.skip))))
 (.ops none [⟨some 103, none, .mov (.t 20)⟩, ⟨some 104, none, .bin .add (.t 103) (.c (.int .i64 (1)))⟩, ⟨some 20, none, .mov (.t 104)⟩])))
def g7l2 : ACode :=
 .ghost (.renum [7, 9, 11, 12, 13] [11]) (.seq (.seq (.ops none [⟨some 42, none, .mov (.t 13)⟩, ⟨some 43, none, .bin .lss (.t 42) (.c (.int .i64 (200)))⟩, ⟨some 44, none, .mov (.t 43)⟩, ⟨some 45, some (44, true), .fad (.t 11) 12⟩, ⟨some 46, some (44, true), .ldv (.t 45) false 1⟩, ⟨some 47, some (44, true), .notb (.t 46)⟩, ⟨some 48, none, .pick (.t 44) (.t 47) (.c (.bool false))⟩])
 (.cond (.t 48) (.skip) (.exit 0)))
 (.seq (.block 1 (.seq (.ops none [⟨some 52, none, .mov (.t 9)⟩, ⟨some 53, none, .ldv (.t 11) true 14⟩, ⟨some 54, none, .calp 19 [.t 52, .t 53]⟩, ⟨some 51, none, .mov (.t 54)⟩, ⟨some 55, none, .ext (.t 51) 0⟩, ⟨some 56, none, .ext (.t 51) 1⟩, ⟨some 57, none, .ext (.t 51) 2⟩, ⟨some 15, none, .new 25 [.int .i64 0, .int .i64 0, .int .i64 0, .int .i64 0, .int .i64 0, .int .i64 0, .int .i64 0, .int .i64 0, .int .i64 0, .int .i64 0, .int .i64 0, .int .i64 0, .bool false, .int .i64 0]⟩, ⟨some 14, none, .mov (.t 55)⟩, ⟨none, none, .st (.t 15) (.t 56) 14⟩, ⟨some 16, none, .mov (.t 57)⟩])
 (.seq (.seq (.ops none [⟨some 58, none, .mov (.t 16)⟩, ⟨some 59, none, .bin .neq (.t 58) (.c (.int .i64 (0)))⟩, ⟨some 60, none, .mov (.t 59)⟩, ⟨some 61, some (60, false), .mov (.t 14)⟩, ⟨some 62, some (60, false), .len (.t 61)⟩, ⟨some 63, some (60, false), .mov (.t 9)⟩, ⟨some 64, some (60, false), .len (.t 63)⟩, ⟨some 65, some (60, false), .bin .neq (.t 62) (.t 64)⟩, ⟨some 66, none, .pick (.t 60) (.c (.bool true)) (.t 65)⟩])
 (.cond (.t 66) (.seq (.ops none [⟨some 6, none, .mov (.c (.bool false))⟩])
 (.ret)) (.skip)))
 (.seq (.ops none [⟨some 17, none, .mov (.c (.int .i64 (0)))⟩])
 (.seq (.ops none [⟨some 18, none, .mov (.c (.int .i64 (0)))⟩])
 (.seq (.seq (.ops none [⟨some 19, none, .mov (.c (.int .i64 (0)))⟩])
 (.block 2 (.loop g7l0)))
 (.seq (.seq (.ops none [⟨some 20, none, .mov (.c (.int .i64 (0)))⟩])
 (.block 4 (.loop g7l1)))
 (.seq (.seq (.ops none [⟨some 116, none, .mov (.t 17)⟩, ⟨some 117, none, .bin .gtr (.t 116) (.c (.int .i64 (2)))⟩, ⟨some 118, none, .mov (.t 117)⟩, ⟨some 119, some (118, false), .mov (.t 18)⟩, ⟨some 120, some (118, false), .bin .gtr (.t 119) (.c (.int .i64 (1)))⟩, ⟨some 121, none, .pick (.t 118) (.c (.bool true)) (.t 120)⟩, ⟨some 122, none, .mov (.t 121)⟩, ⟨some 123, some (122, false), .fad (.t 11) 0⟩, ⟨some 124, some (122, false), .ldv (.t 123) false 1⟩, ⟨some 125, some (122, false), .bin .eql (.t 124) (.c (.int .i64 (3)))⟩, ⟨some 126, some (122, false), .mov (.t 125)⟩, ⟨some 127, some (126, true), .mov (.t 18)⟩, ⟨some 128, some (126, true), .mov (.t 17)⟩, ⟨some 129, some (126, true), .bin .add (.t 127) (.t 128)⟩, ⟨some 130, some (126, true), .bin .gtr (.t 129) (.c (.int .i64 (0)))⟩, ⟨some 131, some (122, false), .pick (.t 126) (.t 130) (.c (.bool false))⟩, ⟨some 132, none, .pick (.t 122) (.c (.bool true)) (.t 131)⟩, ⟨some 133, none, .mov (.t 132)⟩, ⟨some 134, some (133, false), .fad (.t 15) 12⟩, ⟨some 135, some (133, false), .ldv (.t 134) false 1⟩, ⟨some 136, some (133, false), .mov (.t 135)⟩, ⟨some 137, some (136, true), .mov (.t 17)⟩, ⟨some 138, some (136, true), .bin .gtr (.t 137) (.c (.int .i64 (0)))⟩, ⟨some 139, some (133, false), .pick (.t 136) (.t 138) (.c (.bool false))⟩, ⟨some 140, none, .pick (.t 133) (.c (.bool true)) (.t 139)⟩])
 (.cond (.t 140) (.seq (.ops none [⟨some 6, none, .mov (.c (.bool false))⟩])
 (.ret)) (.skip)))
 (.seq (.ops none [⟨some 141, none, .mov (.t 14)⟩, ⟨some 9, none, .mov (.t 141)⟩])
 (.ops none [⟨some 142, none, .ldv (.t 15) true 14⟩, ⟨none, none, .st (.t 11) (.t 142) 14⟩]))))))))))
 (.ops none [⟨some 49, none, .mov (.t 13)⟩, ⟨some 50, none, .bin .add (.t 49) (.c (.int .i64 (1)))⟩, ⟨some 13, none, .mov (.t 50)⟩])))
def g7b : ACode :=
.seq (.ops none [⟨some 6, none, .mov (.c (.bool false))⟩])
 (.seq (.ops none [⟨some 21, none, .calp 13 []⟩, ⟨some 7, none, .mov (.t 21)⟩])
 (.seq (.ops none [⟨some 22, none, .mov (.t 0)⟩, ⟨some 23, none, .calp 24 [.t 22]⟩, ⟨some 8, none, .mov (.t 23)⟩])
 (.seq (.ops none [⟨some 25, none, .mov (.t 8)⟩, ⟨some 26, none, .calp 25 [.t 25, .c (.int .i64 (1))]⟩, ⟨some 24, none, .mov (.t 26)⟩, ⟨some 27, none, .ext (.t 24) 0⟩, ⟨some 28, none, .ext (.t 24) 1⟩, ⟨some 9, none, .mov (.t 27)⟩, ⟨some 10, none, .mov (.t 28)⟩])
 (.seq (.ops none [⟨some 30, none, .mov (.t 1)⟩, ⟨some 31, none, .calp 17 [.t 30, .c (.int .i64 (3))]⟩, ⟨some 32, none, .bin .add (.c (.int .i64 (1))) (.t 31)⟩, ⟨some 33, none, .mov (.t 2)⟩, ⟨some 34, none, .calp 17 [.t 33, .c (.int .i64 (21))]⟩, ⟨some 35, none, .mov (.t 9)⟩, ⟨some 36, none, .len (.t 35)⟩, ⟨some 37, none, .bin .quo (.t 36) (.c (.int .i64 (4)))⟩, ⟨some 38, none, .bin .sub (.t 37) (.c (.int .i64 (1)))⟩, ⟨some 39, none, .calp 14 [.t 32, .t 34, .c (.int .i64 (8)), .t 38]⟩, ⟨some 29, none, .mov (.t 39)⟩, ⟨some 40, none, .ext (.t 29) 0⟩, ⟨some 41, none, .ext (.t 29) 1⟩, ⟨some 11, none, .new 25 [.int .i64 0, .int .i64 0, .int .i64 0, .int .i64 0, .int .i64 0, .int .i64 0, .int .i64 0, .int .i64 0, .int .i64 0, .int .i64 0, .int .i64 0, .int .i64 0, .bool false, .int .i64 0]⟩, ⟨none, none, .st (.t 11) (.t 40) 14⟩, ⟨some 12, none, .mov (.t 41)⟩])
 (.seq (.seq (.ops none [⟨some 13, none, .mov (.c (.int .i64 (0)))⟩])
 (.block 0 (.loop g7l2)))
 (.seq (.ops none [⟨some 143, none, .mov (.t 7)⟩, ⟨some 144, none, .mov (.t 143)⟩, ⟨some 145, some (144, true), .mov (.t 12)⟩, ⟨some 146, some (144, true), .bin .eql (.t 145) (.c (.int .i64 (0)))⟩, ⟨some 147, none, .pick (.t 144) (.t 146) (.c (.bool false))⟩, ⟨some 148, none, .mov (.t 147)⟩, ⟨some 149, some (148, true), .fad (.t 11) 12⟩, ⟨some 150, some (148, true), .ldv (.t 149) false 1⟩, ⟨some 151, none, .pick (.t 148) (.t 150) (.c (.bool false))⟩, ⟨some 6, none, .mov (.t 151)⟩])
 (.ret)))))))
/-- bellwether/bellwetherlaw12.LazyLocks -/
def g7 : AFn := { np := 3, nt := 152, res := [.t 6], body := g7b }

def g8b : ACode :=
.seq (.ops none [⟨some 8, none, .boxf 2 (.t 3)⟩, ⟨some 9, none, .boxf 2 (.t 4)⟩, ⟨some 10, none, .mov (.c (.bool false))⟩])
 (.seq (.ops none [⟨some 32, none, .calp 13 []⟩, ⟨some 11, none, .mov (.t 32)⟩])
 (.seq (.ops none [⟨some 33, none, .mov (.t 0)⟩, ⟨some 34, none, .calp 24 [.t 33]⟩, ⟨some 12, none, .mov (.t 34)⟩])
 (.seq (.ops none [⟨some 36, none, .mov (.t 12)⟩, ⟨some 37, none, .calp 25 [.t 36, .c (.int .i64 (5))]⟩, ⟨some 35, none, .mov (.t 37)⟩, ⟨some 38, none, .ext (.t 35) 0⟩, ⟨some 39, none, .ext (.t 35) 1⟩, ⟨some 13, none, .mov (.t 38)⟩, ⟨some 14, none, .mov (.t 39)⟩])
 (.seq (.ops none [⟨some 40, none, .mov (.t 13)⟩, ⟨some 41, none, .len (.t 40)⟩, ⟨some 42, none, .bin .quo (.t 41) (.c (.int .i64 (4)))⟩, ⟨some 43, none, .bin .sub (.t 42) (.c (.int .i64 (5)))⟩, ⟨some 15, none, .mov (.t 43)⟩])
 (.seq (.ops (some [[], [0], [0, 1], [], [0, 1, 3], [], [5], [0, 1, 3, 4, 5, 6], [], [], [9], [0, 1, 3, 4, 5, 6, 7, 9, 10], [0, 1, 3, 4, 5, 6, 7, 8, 9, 10, 11], [0, 1, 2, 3, 4, 5, 6, 7, 8, 9, 10, 11, 12], [0, 1, 2, 3, 4, 5, 6, 7, 8, 9, 10, 11, 12, 13], [0, 1, 2, 3, 4, 5, 6, 7, 8, 9, 10, 11, 12, 13, 14], [0, 1, 2, 3, 4, 5, 6, 7, 8, 9, 10, 11, 12, 13, 14], [], [0, 1, 2, 3, 4, 5, 6, 7, 8, 9, 10, 11, 12, 13, 14, 15, 17], [0, 1, 2, 3, 4, 5, 6, 7, 8, 9, 10, 11, 12, 13, 14, 15, 16, 17, 18]]) [⟨some 45, none, .mov (.t 1)⟩, ⟨some 46, none, .calp 17 [.t 45, .c (.int .i64 (3))]⟩, ⟨some 47, none, .bin .add (.c (.int .i64 (1))) (.t 46)⟩, ⟨some 48, none, .mov (.t 2)⟩, ⟨some 49, none, .calp 17 [.t 48, .c (.int .i64 (21))]⟩, ⟨some 50, none, .aix (.t 8) (.c (.int .i64 (0))) 2 1⟩, ⟨some 51, none, .ldf (.t 50) false 1⟩, ⟨some 52, none, .calp 17 [.t 51, .c (.int .i64 (64))]⟩, ⟨some 53, none, .mov (.t 15)⟩, ⟨some 54, none, .aix (.t 9) (.c (.int .i64 (0))) 2 1⟩, ⟨some 55, none, .ldf (.t 54) false 1⟩, ⟨some 56, none, .calp 17 [.t 55, .c (.int .i64 (5))]⟩, ⟨some 57, none, .bin .add (.t 53) (.t 56)⟩, ⟨some 58, none, .calp 14 [.t 47, .t 49, .t 52, .t 57]⟩, ⟨some 44, none, .mov (.t 58)⟩, ⟨some 59, none, .ext (.t 44) 0⟩, ⟨some 60, none, .ext (.t 44) 1⟩, ⟨some 16, none, .new 25 [.int .i64 0, .int .i64 0, .int .i64 0, .int .i64 0, .int .i64 0, .int .i64 0, .int .i64 0, .int .i64 0, .int .i64 0, .int .i64 0, .int .i64 0, .int .i64 0, .bool false, .int .i64 0]⟩, ⟨none, none, .st (.t 16) (.t 59) 14⟩, ⟨some 17, none, .mov (.t 60)⟩])
 (.seq (.ops (some [[], [0], [0, 1], [], [0, 1, 3], [], [5], [0, 1, 3, 4, 5, 6], [], [], [9], [0, 1, 3, 4, 5, 6, 7, 9, 10], [0, 1, 3, 4, 5, 6, 7, 8, 9, 10, 11], [0, 1, 2, 3, 4, 5, 6, 7, 8, 9, 10, 11, 12], [0, 1, 2, 3, 4, 5, 6, 7, 8, 9, 10, 11, 12, 13], [0, 1, 2, 3, 4, 5, 6, 7, 8, 9, 10, 11, 12, 13, 14], [0, 1, 2, 3, 4, 5, 6, 7, 8, 9, 10, 11, 12, 13, 14], [], [0, 1, 2, 3, 4, 5, 6, 7, 8, 9, 10, 11, 12, 13, 14, 15, 17], [0, 1, 2, 3, 4, 5, 6, 7, 8, 9, 10, 11, 12, 13, 14, 15, 16, 17, 18]]) [⟨some 62, none, .mov (.t 1)⟩, ⟨some 63, none, .calp 17 [.t 62, .c (.int .i64 (3))]⟩, ⟨some 64, none, .bin .add (.c (.int .i64 (1))) (.t 63)⟩, ⟨some 65, none, .mov (.t 2)⟩, ⟨some 66, none, .calp 17 [.t 65, .c (.int .i64 (21))]⟩, ⟨some 67, none, .aix (.t 8) (.c (.int .i64 (1))) 2 1⟩, ⟨some 68, none, .ldf (.t 67) false 1⟩, ⟨some 69, none, .calp 17 [.t 68, .c (.int .i64 (64))]⟩, ⟨some 70, none, .mov (.t 15)⟩, ⟨some 71, none, .aix (.t 9) (.c (.int .i64 (1))) 2 1⟩, ⟨some 72, none, .ldf (.t 71) false 1⟩, ⟨some 73, none, .calp 17 [.t 72, .c (.int .i64 (5))]⟩, ⟨some 74, none, .bin .add (.t 70) (.t 73)⟩, ⟨some 75, none, .calp 14 [.t 64, .t 66, .t 69, .t 74]⟩, ⟨some 61, none, .mov (.t 75)⟩, ⟨some 76, none, .ext (.t 61) 0⟩, ⟨some 77, none, .ext (.t 61) 1⟩, ⟨some 18, none, .new 25 [.int .i64 0, .int .i64 0, .int .i64 0, .int .i64 0, .int .i64 0, .int .i64 0, .int .i64 0, .int .i64 0, .int .i64 0, .int .i64 0, .int .i64 0, .int .i64 0, .bool false, .int .i64 0]⟩, ⟨none, none, .st (.t 18) (.t 76) 14⟩, ⟨some 19, none, .mov (.t 77)⟩])
 (.seq (.ops none [⟨some 79, none, .mov (.t 13)⟩, ⟨some 80, none, .ldv (.t 16) true 14⟩, ⟨some 81, none, .calp 22 [.t 79, .t 80]⟩, ⟨some 78, none, .mov (.t 81)⟩, ⟨some 82, none, .ext (.t 78) 0⟩, ⟨some 83, none, .ext (.t 78) 1⟩, ⟨some 84, none, .ext (.t 78) 2⟩, ⟨some 85, none, .ext (.t 78) 3⟩, ⟨some 21, none, .new 25 [.int .i64 0, .int .i64 0, .int .i64 0, .int .i64 0, .int .i64 0, .int .i64 0, .int .i64 0, .int .i64 0, .int .i64 0, .int .i64 0, .int .i64 0, .int .i64 0, .bool false, .int .i64 0]⟩, ⟨some 20, none, .mov (.t 82)⟩, ⟨none, none, .st (.t 21) (.t 83) 14⟩, ⟨some 22, none, .mov (.t 84)⟩, ⟨some 23, none, .mov (.t 85)⟩])
 (.seq (.ops none [⟨some 87, none, .mov (.t 13)⟩, ⟨some 88, none, .ldv (.t 18) true 14⟩, ⟨some 89, none, .calp 22 [.t 87, .t 88]⟩, ⟨some 86, none, .mov (.t 89)⟩, ⟨some 90, none, .ext (.t 86) 0⟩, ⟨some 91, none, .ext (.t 86) 1⟩, ⟨some 92, none, .ext (.t 86) 2⟩, ⟨some 93, none, .ext (.t 86) 3⟩, ⟨some 25, none, .new 25 [.int .i64 0, .int .i64 0, .int .i64 0, .int .i64 0, .int .i64 0, .int .i64 0, .int .i64 0, .int .i64 0, .int .i64 0, .int .i64 0, .int .i64 0, .int .i64 0, .bool false, .int .i64 0]⟩, ⟨some 24, none, .mov (.t 90)⟩, ⟨none, none, .st (.t 25) (.t 91) 14⟩, ⟨some 26, none, .mov (.t 92)⟩, ⟨some 27, none, .mov (.t 93)⟩])
 (.seq (.ops none [⟨some 95, none, .mov (.t 20)⟩, ⟨some 96, none, .calp 27 [.t 95]⟩, ⟨some 94, none, .mov (.t 96)⟩, ⟨some 97, none, .ext (.t 94) 0⟩, ⟨some 98, none, .ext (.t 94) 1⟩, ⟨some 28, none, .mov (.t 97)⟩, ⟨some 29, none, .mov (.t 98)⟩])
 (.seq (.ops none [⟨some 100, none, .mov (.t 24)⟩, ⟨some 101, none, .calp 27 [.t 100]⟩, ⟨some 99, none, .mov (.t 101)⟩, ⟨some 102, none, .ext (.t 99) 0⟩, ⟨some 103, none, .ext (.t 99) 1⟩, ⟨some 30, none, .mov (.t 102)⟩, ⟨some 31, none, .mov (.t 103)⟩])
 (.seq (.ops none [⟨some 104, none, .mov (.t 11)⟩, ⟨some 105, none, .mov (.t 104)⟩, ⟨some 106, some (105, true), .mov (.t 17)⟩, ⟨some 107, some (105, true), .bin .eql (.t 106) (.c (.int .i64 (0)))⟩, ⟨some 108, none, .pick (.t 105) (.t 107) (.c (.bool false))⟩, ⟨some 109, none, .mov (.t 108)⟩, ⟨some 110, some (109, true), .mov (.t 19)⟩, ⟨some 111, some (109, true), .bin .eql (.t 110) (.c (.int .i64 (0)))⟩, ⟨some 112, none, .pick (.t 109) (.t 111) (.c (.bool false))⟩, ⟨some 113, none, .mov (.t 112)⟩, ⟨some 114, some (113, true), .mov (.t 23)⟩, ⟨some 115, some (113, true), .bin .eql (.t 114) (.c (.int .i64 (0)))⟩, ⟨some 116, none, .pick (.t 113) (.t 115) (.c (.bool false))⟩, ⟨some 117, none, .mov (.t 116)⟩, ⟨some 118, some (117, true), .mov (.t 27)⟩, ⟨some 119, some (117, true), .bin .eql (.t 118) (.c (.int .i64 (0)))⟩, ⟨some 120, none, .pick (.t 117) (.t 119) (.c (.bool false))⟩, ⟨some 121, none, .mov (.t 120)⟩, ⟨some 122, some (121, true), .mov (.t 29)⟩, ⟨some 123, some (121, true), .bin .eql (.t 122) (.c (.int .i64 (0)))⟩, ⟨some 124, none, .pick (.t 121) (.t 123) (.c (.bool false))⟩, ⟨some 125, none, .mov (.t 124)⟩, ⟨some 126, some (125, true), .mov (.t 31)⟩, ⟨some 127, some (125, true), .bin .eql (.t 126) (.c (.int .i64 (0)))⟩, ⟨some 128, none, .pick (.t 125) (.t 127) (.c (.bool false))⟩, ⟨some 129, none, .mov (.t 128)⟩, ⟨some 130, some (129, true), .fad (.t 21) 13⟩, ⟨some 131, some (129, true), .ldv (.t 130) false 1⟩, ⟨some 132, some (129, true), .fad (.t 25) 13⟩, ⟨some 133, some (129, true), .ldv (.t 132) false 1⟩, ⟨some 134, some (129, true), .bin .eql (.t 131) (.t 133)⟩, ⟨some 135, none, .pick (.t 129) (.t 134) (.c (.bool false))⟩, ⟨some 136, none, .mov (.t 135)⟩, ⟨some 137, some (136, true), .mov (.t 22)⟩, ⟨some 138, some (136, true), .mov (.t 26)⟩, ⟨some 139, some (136, true), .bin .eql (.t 137) (.t 138)⟩, ⟨some 140, none, .pick (.t 136) (.t 139) (.c (.bool false))⟩, ⟨some 141, none, .mov (.t 140)⟩, ⟨some 142, some (141, true), .mov (.t 28)⟩, ⟨some 143, some (141, true), .mov (.t 30)⟩, ⟨some 144, some (141, true), .calp 21 [.t 142, .t 143]⟩, ⟨some 145, none, .pick (.t 141) (.t 144) (.c (.bool false))⟩, ⟨some 10, none, .mov (.t 145)⟩])
 (.ret))))))))))))
/-- bellwether/bellwetherlaw12.LazyThreads -/
def g8 : AFn := { np := 5, nt := 146, res := [.t 10], body := g8b }

def g9l0 : ACode :=
 .ghost (.renum [3, 6, 9, 10, 11, 13, 14, 15, 16, 17] [15]) (.seq (.seq (.ops none [⟨some 64, none, .mov (.t 17)⟩, ⟨some 65, none, .mov (.t 3)⟩, ⟨some 66, none, .calp 17 [.t 65, .c (.int .i64 (30))]⟩, ⟨some 67, none, .bin .lss (.t 64) (.t 66)⟩, ⟨some 68, none, .mov (.t 67)⟩, ⟨some 69, some (68, true), .fad (.t 15) 1⟩, ⟨some 70, some (68, true), .ldv (.t 69) false 1⟩, ⟨some 71, some (68, true), .bin .lss (.t 70) (.c (.int .i64 (10)))⟩, ⟨some 72, none, .pick (.t 68) (.t 71) (.c (.bool false))⟩])
 (.cond (.t 72) (.skip) (.exit 0)))
 (.seq (.block 1 (.seq (.ops none [⟨some 76, none, .mov (.t 11)⟩, ⟨some 77, none, .ldv (.t 15) true 14⟩, ⟨some 78, none, .calp 19 [.t 76, .t 77]⟩, ⟨some 75, none, .mov (.t 78)⟩, ⟨some 79, none, .ext (.t 75) 0⟩, ⟨some 80, none, .ext (.t 75) 1⟩, ⟨some 81, none, .ext (.t 75) 2⟩, ⟨some 19, none, .new 25 [.int .i64 0, .int .i64 0, .int .i64 0, .int .i64 0, .int .i64 0, .int .i64 0, .int .i64 0, .int .i64 0, .int .i64 0, .int .i64 0, .int .i64 0, .int .i64 0, .bool false, .int .i64 0]⟩, ⟨some 18, none, .mov (.t 79)⟩, ⟨none, none, .st (.t 19) (.t 80) 14⟩, ⟨some 20, none, .mov (.t 81)⟩])
 (.seq (.seq (.ops none [⟨some 82, none, .mov (.t 20)⟩, ⟨some 83, none, .bin .neq (.t 82) (.c (.int .i64 (0)))⟩])
 (.cond (.t 83) (.seq (.ops none [⟨some 8, none, .mov (.c (.bool false))⟩])
 (.ret)) (.skip)))
 (.seq (.ops none [⟨some 84, none, .mov (.t 18)⟩, ⟨some 11, none, .mov (.t 84)⟩])
 (.ops none [⟨some 85, none, .ldv (.t 19) true 14⟩, ⟨none, none, .st (.t 15) (.t 85) 14⟩])))))
 (.ops none [⟨some 73, none, .mov (.t 17)⟩, ⟨some 74, none, .bin .add (.t 73) (.c (.int .i64 (1)))⟩, ⟨some 17, none, .mov (.t 74)⟩])))
def g9b : ACode :=
.seq (.ops none [⟨some 5, none, .boxf 2 (.t 1)⟩, ⟨some 6, none, .boxf 2 (.t 2)⟩, ⟨some 8, none, .mov (.c (.bool false))⟩])
 (.seq (.ops none [⟨some 39, none, .calp 13 []⟩, ⟨some 9, none, .mov (.t 39)⟩])
 (.seq (.ops none [⟨some 40, none, .mov (.t 0)⟩, ⟨some 41, none, .calp 24 [.t 40]⟩, ⟨some 10, none, .mov (.t 41)⟩])
 (.seq (.ops none [⟨some 43, none, .mov (.t 10)⟩, ⟨some 44, none, .calp 25 [.t 43, .c (.int .i64 (2))]⟩, ⟨some 42, none, .mov (.t 44)⟩, ⟨some 45, none, .ext (.t 42) 0⟩, ⟨some 46, none, .ext (.t 42) 1⟩, ⟨some 11, none, .mov (.t 45)⟩, ⟨some 12, none, .mov (.t 46)⟩])
 (.seq (.ops none [⟨some 47, none, .aix (.t 5) (.c (.int .i64 (0))) 2 1⟩, ⟨some 48, none, .ldf (.t 47) false 1⟩, ⟨some 49, none, .calp 17 [.t 48, .c (.int .i64 (2))]⟩, ⟨some 50, none, .bin .add (.c (.int .i64 (1))) (.t 49)⟩, ⟨some 13, none, .mov (.t 50)⟩])
 (.seq (.ops none [⟨some 51, none, .aix (.t 5) (.c (.int .i64 (1))) 2 1⟩, ⟨some 52, none, .ldf (.t 51) false 1⟩, ⟨some 53, none, .calp 17 [.t 52, .c (.int .i64 (21))]⟩, ⟨some 14, none, .mov (.t 53)⟩])
 (.seq (.ops none [⟨some 55, none, .mov (.t 13)⟩, ⟨some 56, none, .mov (.t 14)⟩, ⟨some 57, none, .mov (.t 11)⟩, ⟨some 58, none, .len (.t 57)⟩, ⟨some 59, none, .bin .quo (.t 58) (.c (.int .i64 (4)))⟩, ⟨some 60, none, .bin .sub (.t 59) (.c (.int .i64 (1)))⟩, ⟨some 61, none, .calp 14 [.t 55, .t 56, .c (.int .i64 (1)), .t 60]⟩, ⟨some 54, none, .mov (.t 61)⟩, ⟨some 62, none, .ext (.t 54) 0⟩, ⟨some 63, none, .ext (.t 54) 1⟩, ⟨some 15, none, .new 25 [.int .i64 0, .int .i64 0, .int .i64 0, .int .i64 0, .int .i64 0, .int .i64 0, .int .i64 0, .int .i64 0, .int .i64 0, .int .i64 0, .int .i64 0, .int .i64 0, .bool false, .int .i64 0]⟩, ⟨none, none, .st (.t 15) (.t 62) 14⟩, ⟨some 16, none, .mov (.t 63)⟩])
 (.seq (.seq (.ops none [⟨some 17, none, .mov (.c (.int .i64 (0)))⟩])
 (.block 0 (.loop g9l0)))
 (.seq (.ops (some [[], [0], [0, 1], [0, 1, 2], [], [4], [0, 1, 2, 4, 5], [], [7], [7, 8], [7, 8, 9], [0, 1, 2, 3, 4, 5, 6, 7, 8, 9, 10], [0, 1, 2, 3, 4, 5, 6, 7, 8, 9, 10, 11], [0, 1, 2, 3, 4, 5, 6, 7, 8, 9, 10, 11, 12], [0, 1, 2, 3, 4, 5, 6, 7, 8, 9, 10, 11, 12], [], [0, 1, 2, 3, 4, 5, 6, 7, 8, 9, 10, 11, 12, 13, 15], [0, 1, 2, 3, 4, 5, 6, 7, 8, 9, 10, 11, 12, 13, 14, 15, 16]]) [⟨some 87, none, .aix (.t 6) (.c (.int .i64 (0))) 2 1⟩, ⟨some 88, none, .ldf (.t 87) false 1⟩, ⟨some 89, none, .calp 17 [.t 88, .c (.int .i64 (3))]⟩, ⟨some 90, none, .bin .add (.c (.int .i64 (1))) (.t 89)⟩, ⟨some 91, none, .aix (.t 6) (.c (.int .i64 (1))) 2 1⟩, ⟨some 92, none, .ldf (.t 91) false 1⟩, ⟨some 93, none, .calp 17 [.t 92, .c (.int .i64 (21))]⟩, ⟨some 94, none, .mov (.t 11)⟩, ⟨some 95, none, .len (.t 94)⟩, ⟨some 96, none, .bin .quo (.t 95) (.c (.int .i64 (4)))⟩, ⟨some 97, none, .bin .sub (.t 96) (.c (.int .i64 (2)))⟩, ⟨some 98, none, .calp 15 [.t 90, .t 93, .c (.int .i64 (2)), .t 97]⟩, ⟨some 86, none, .mov (.t 98)⟩, ⟨some 99, none, .ext (.t 86) 0⟩, ⟨some 100, none, .ext (.t 86) 1⟩, ⟨some 21, none, .new 25 [.int .i64 0, .int .i64 0, .int .i64 0, .int .i64 0, .int .i64 0, .int .i64 0, .int .i64 0, .int .i64 0, .int .i64 0, .int .i64 0, .int .i64 0, .int .i64 0, .bool false, .int .i64 0]⟩, ⟨none, none, .st (.t 21) (.t 99) 14⟩, ⟨some 22, none, .mov (.t 100)⟩])
 (.seq (.ops none [⟨some 102, none, .mov (.t 11)⟩, ⟨some 103, none, .ldv (.t 21) true 14⟩, ⟨some 104, none, .calp 23 [.t 102, .t 103]⟩, ⟨some 101, none, .mov (.t 104)⟩, ⟨some 105, none, .ext (.t 101) 0⟩, ⟨some 106, none, .ext (.t 101) 1⟩, ⟨some 107, none, .ext (.t 101) 2⟩, ⟨some 108, none, .ext (.t 101) 3⟩, ⟨some 24, none, .new 25 [.int .i64 0, .int .i64 0, .int .i64 0, .int .i64 0, .int .i64 0, .int .i64 0, .int .i64 0, .int .i64 0, .int .i64 0, .int .i64 0, .int .i64 0, .int .i64 0, .bool false, .int .i64 0]⟩, ⟨some 23, none, .mov (.t 105)⟩, ⟨none, none, .st (.t 24) (.t 106) 14⟩, ⟨some 25, none, .mov (.t 107)⟩, ⟨some 26, none, .mov (.t 108)⟩])
 (.seq (.ops (some [[], [], [1], [1, 2], [1, 2, 3], [], [5], [1, 2, 3, 5, 6], [0, 1, 2, 3, 4, 5, 6, 7], [0, 1, 2, 3, 4, 5, 6, 7, 8], [0, 1, 2, 3, 4, 5, 6, 7, 8, 9], [0, 1, 2, 3, 4, 5, 6, 7, 8, 9], [0, 1, 2, 3, 4, 5, 6, 7, 8, 9], [0, 1, 2, 3, 4, 5, 6, 7, 8, 9, 10], [0, 1, 2, 3, 4, 5, 6, 7, 8, 9, 10, 11, 13], [0, 1, 2, 3, 4, 5, 6, 7, 8, 9, 10, 11, 12, 13, 14]]) [⟨some 110, none, .mov (.t 10)⟩, ⟨some 111, none, .aix (.t 6) (.c (.int .i64 (0))) 2 1⟩, ⟨some 112, none, .ldf (.t 111) false 1⟩, ⟨some 113, none, .calp 17 [.t 112, .c (.int .i64 (3))]⟩, ⟨some 114, none, .bin .add (.c (.int .i64 (1))) (.t 113)⟩, ⟨some 115, none, .aix (.t 6) (.c (.int .i64 (1))) 2 1⟩, ⟨some 116, none, .ldf (.t 115) false 1⟩, ⟨some 117, none, .calp 17 [.t 116, .c (.int .i64 (21))]⟩, ⟨some 118, none, .calp 26 [.t 110, .t 114, .t 117]⟩, ⟨some 109, none, .mov (.t 118)⟩, ⟨some 119, none, .ext (.t 109) 0⟩, ⟨some 120, none, .ext (.t 109) 1⟩, ⟨some 121, none, .ext (.t 109) 2⟩, ⟨some 27, none, .mov (.t 119)⟩, ⟨some 28, none, .mov (.t 120)⟩, ⟨some 29, none, .mov (.t 121)⟩])
 (.seq (.ops none [⟨some 123, none, .mov (.t 23)⟩, ⟨some 124, none, .ldv (.t 15) true 14⟩, ⟨some 125, none, .calp 22 [.t 123, .t 124]⟩, ⟨some 122, none, .mov (.t 125)⟩, ⟨some 126, none, .ext (.t 122) 0⟩, ⟨some 127, none, .ext (.t 122) 1⟩, ⟨some 128, none, .ext (.t 122) 2⟩, ⟨some 129, none, .ext (.t 122) 3⟩, ⟨some 31, none, .new 25 [.int .i64 0, .int .i64 0, .int .i64 0, .int .i64 0, .int .i64 0, .int .i64 0, .int .i64 0, .int .i64 0, .int .i64 0, .int .i64 0, .int .i64 0, .int .i64 0, .bool false, .int .i64 0]⟩, ⟨some 30, none, .mov (.t 126)⟩, ⟨none, none, .st (.t 31) (.t 127) 14⟩, ⟨some 32, none, .mov (.t 128)⟩, ⟨some 33, none, .mov (.t 129)⟩])
 (.seq (.ops none [⟨some 131, none, .mov (.t 27)⟩, ⟨some 132, none, .mov (.t 13)⟩, ⟨some 133, none, .mov (.t 14)⟩, ⟨some 134, none, .calp 26 [.t 131, .t 132, .t 133]⟩, ⟨some 130, none, .mov (.t 134)⟩, ⟨some 135, none, .ext (.t 130) 0⟩, ⟨some 136, none, .ext (.t 130) 1⟩, ⟨some 137, none, .ext (.t 130) 2⟩, ⟨some 34, none, .mov (.t 135)⟩, ⟨some 35, none, .mov (.t 136)⟩, ⟨some 36, none, .mov (.t 137)⟩])
 (.seq (.ops none [⟨some 139, none, .mov (.t 30)⟩, ⟨some 140, none, .calp 27 [.t 139]⟩, ⟨some 138, none, .mov (.t 140)⟩, ⟨some 141, none, .ext (.t 138) 0⟩, ⟨some 142, none, .ext (.t 138) 1⟩, ⟨some 37, none, .mov (.t 141)⟩, ⟨some 38, none, .mov (.t 142)⟩])
 (.seq (.ops none [⟨some 143, none, .mov (.t 9)⟩, ⟨some 144, none, .mov (.t 143)⟩, ⟨some 145, some (144, true), .mov (.t 16)⟩, ⟨some 146, some (144, true), .bin .eql (.t 145) (.c (.int .i64 (0)))⟩, ⟨some 147, none, .pick (.t 144) (.t 146) (.c (.bool false))⟩, ⟨some 148, none, .mov (.t 147)⟩, ⟨some 149, some (148, true), .mov (.t 26)⟩, ⟨some 150, some (148, true), .bin .eql (.t 149) (.c (.int .i64 (0)))⟩, ⟨some 151, none, .pick (.t 148) (.t 150) (.c (.bool false))⟩, ⟨some 152, none, .mov (.t 151)⟩, ⟨some 153, some (152, true), .fad (.t 24) 13⟩, ⟨some 154, some (152, true), .ldv (.t 153) false 1⟩, ⟨some 155, some (152, true), .mov (.t 28)⟩, ⟨some 156, some (152, true), .bin .eql (.t 154) (.t 155)⟩, ⟨some 157, none, .pick (.t 152) (.t 156) (.c (.bool false))⟩, ⟨some 158, none, .mov (.t 157)⟩, ⟨some 159, some (158, true), .mov (.t 33)⟩, ⟨some 160, some (158, true), .bin .eql (.t 159) (.c (.int .i64 (0)))⟩, ⟨some 161, none, .pick (.t 158) (.t 160) (.c (.bool false))⟩, ⟨some 162, none, .mov (.t 161)⟩, ⟨some 163, some (162, true), .fad (.t 31) 13⟩, ⟨some 164, some (162, true), .ldv (.t 163) false 1⟩, ⟨some 165, some (162, true), .mov (.t 35)⟩, ⟨some 166, some (162, true), .bin .eql (.t 164) (.t 165)⟩, ⟨some 167, none, .pick (.t 162) (.t 166) (.c (.bool false))⟩, ⟨some 168, none, .mov (.t 167)⟩, ⟨some 169, some (168, true), .mov (.t 38)⟩, ⟨some 170, some (168, true), .bin .eql (.t 169) (.c (.int .i64 (0)))⟩, ⟨some 171, none, .pick (.t 168) (.t 170) (.c (.bool false))⟩, ⟨some 172, none, .mov (.t 171)⟩, ⟨some 173, some (172, true), .mov (.t 37)⟩, ⟨some 174, some (172, true), .mov (.t 34)⟩, ⟨some 175, some (172, true), .calp 21 [.t 173, .t 174]⟩, ⟨some 176, none, .pick (.t 172) (.t 175) (.c (.bool false))⟩, ⟨some 177, none, .mov (.t 176)⟩, ⟨some 178, some (177, true), .mov (.t 30)⟩, ⟨some 179, some (177, true), .calp 28 [.t 178]⟩, ⟨some 180, none, .pick (.t 177) (.t 179) (.c (.bool false))⟩, ⟨some 8, none, .mov (.t 180)⟩])
 (.ret)))))))))))))))
/-- bellwether/bellwetherlaw12.LazyAnew -/
def g9 : AFn := { np := 4, nt := 181, res := [.t 8], body := g9b }

def g13b : ACode :=
.seq (.ops none [⟨some 0, none, .mov (.c (.bool false))⟩])
 (.seq (.ops none [⟨some 26, none, .calp 25 [.c (.list 1 []), .c (.int .i64 (1))]⟩, ⟨some 25, none, .mov (.t 26)⟩, ⟨some 27, none, .ext (.t 25) 0⟩, ⟨some 28, none, .ext (.t 25) 1⟩, ⟨some 1, none, .mov (.t 27)⟩, ⟨some 2, none, .mov (.t 28)⟩])
 (.seq (.ops none [⟨some 30, none, .calp 14 [.c (.int .i64 (1)), .c (.int .i64 (5)), .c (.int .i64 (3)), .c (.int .i64 (2))]⟩, ⟨some 29, none, .mov (.t 30)⟩, ⟨some 31, none, .ext (.t 29) 0⟩, ⟨some 32, none, .ext (.t 29) 1⟩, ⟨some 3, none, .new 25 [.int .i64 0, .int .i64 0, .int .i64 0, .int .i64 0, .int .i64 0, .int .i64 0, .int .i64 0, .int .i64 0, .int .i64 0, .int .i64 0, .int .i64 0, .int .i64 0, .bool false, .int .i64 0]⟩, ⟨none, none, .st (.t 3) (.t 31) 14⟩, ⟨some 4, none, .mov (.t 32)⟩])
 (.seq (.ops none [⟨some 34, none, .mov (.t 1)⟩, ⟨some 35, none, .ldv (.t 3) true 14⟩, ⟨some 36, none, .calp 22 [.t 34, .t 35]⟩, ⟨some 33, none, .mov (.t 36)⟩, ⟨some 37, none, .ext (.t 33) 0⟩, ⟨some 38, none, .ext (.t 33) 1⟩, ⟨some 39, none, .ext (.t 33) 2⟩, ⟨some 40, none, .ext (.t 33) 3⟩, ⟨some 6, none, .new 25 [.int .i64 0, .int .i64 0, .int .i64 0, .int .i64 0, .int .i64 0, .int .i64 0, .int .i64 0, .int .i64 0, .int .i64 0, .int .i64 0, .int .i64 0, .int .i64 0, .bool false, .int .i64 0]⟩, ⟨some 5, none, .mov (.t 37)⟩, ⟨none, none, .st (.t 6) (.t 38) 14⟩, ⟨some 7, none, .mov (.t 39)⟩, ⟨some 8, none, .mov (.t 40)⟩])
 (.seq (.ops none [⟨some 42, none, .calp 14 [.c (.int .i64 (3)), .c (.int .i64 (5)), .c (.int .i64 (0)), .c (.int .i64 (0))]⟩, ⟨some 41, none, .mov (.t 42)⟩, ⟨some 43, none, .ext (.t 41) 0⟩, ⟨some 44, none, .ext (.t 41) 1⟩, ⟨some 9, none, .new 25 [.int .i64 0, .int .i64 0, .int .i64 0, .int .i64 0, .int .i64 0, .int .i64 0, .int .i64 0, .int .i64 0, .int .i64 0, .int .i64 0, .int .i64 0, .int .i64 0, .bool false, .int .i64 0]⟩, ⟨none, none, .st (.t 9) (.t 43) 14⟩, ⟨some 10, none, .mov (.t 44)⟩])
 (.seq (.ops none [⟨some 46, none, .mov (.t 5)⟩, ⟨some 47, none, .ldv (.t 9) true 14⟩, ⟨some 48, none, .calp 22 [.t 46, .t 47]⟩, ⟨some 45, none, .mov (.t 48)⟩, ⟨some 49, none, .ext (.t 45) 0⟩, ⟨some 50, none, .ext (.t 45) 1⟩, ⟨some 51, none, .ext (.t 45) 2⟩, ⟨some 52, none, .ext (.t 45) 3⟩, ⟨some 12, none, .new 25 [.int .i64 0, .int .i64 0, .int .i64 0, .int .i64 0, .int .i64 0, .int .i64 0, .int .i64 0, .int .i64 0, .int .i64 0, .int .i64 0, .int .i64 0, .int .i64 0, .bool false, .int .i64 0]⟩, ⟨some 11, none, .mov (.t 49)⟩, ⟨none, none, .st (.t 12) (.t 50) 14⟩, ⟨some 13, none, .mov (.t 51)⟩, ⟨some 14, none, .mov (.t 52)⟩])
 (.seq (.ops none [⟨some 54, none, .mov (.t 5)⟩, ⟨some 55, none, .ldv (.t 6) true 14⟩, ⟨some 56, none, .calp 19 [.t 54, .t 55]⟩, ⟨some 53, none, .mov (.t 56)⟩, ⟨some 57, none, .ext (.t 53) 0⟩, ⟨some 58, none, .ext (.t 53) 1⟩, ⟨some 59, none, .ext (.t 53) 2⟩, ⟨some 16, none, .new 25 [.int .i64 0, .int .i64 0, .int .i64 0, .int .i64 0, .int .i64 0, .int .i64 0, .int .i64 0, .int .i64 0, .int .i64 0, .int .i64 0, .int .i64 0, .int .i64 0, .bool false, .int .i64 0]⟩, ⟨some 15, none, .mov (.t 57)⟩, ⟨none, none, .st (.t 16) (.t 58) 14⟩, ⟨some 17, none, .mov (.t 59)⟩])
 (.seq (.ops none [⟨some 61, none, .calp 14 [.c (.int .i64 (4)), .c (.int .i64 (5)), .c (.int .i64 (0)), .c (.int .i64 (0))]⟩, ⟨some 60, none, .mov (.t 61)⟩, ⟨some 62, none, .ext (.t 60) 0⟩, ⟨some 63, none, .ext (.t 60) 1⟩, ⟨some 18, none, .new 25 [.int .i64 0, .int .i64 0, .int .i64 0, .int .i64 0, .int .i64 0, .int .i64 0, .int .i64 0, .int .i64 0, .int .i64 0, .int .i64 0, .int .i64 0, .int .i64 0, .bool false, .int .i64 0]⟩, ⟨none, none, .st (.t 18) (.t 62) 14⟩, ⟨some 19, none, .mov (.t 63)⟩])
 (.seq (.ops none [⟨some 65, none, .mov (.t 1)⟩, ⟨some 66, none, .ldv (.t 3) true 14⟩, ⟨some 67, none, .calp 19 [.t 65, .t 66]⟩, ⟨some 64, none, .mov (.t 67)⟩, ⟨some 68, none, .ext (.t 64) 0⟩, ⟨some 69, none, .ext (.t 64) 1⟩, ⟨some 70, none, .ext (.t 64) 2⟩, ⟨some 21, none, .new 25 [.int .i64 0, .int .i64 0, .int .i64 0, .int .i64 0, .int .i64 0, .int .i64 0, .int .i64 0, .int .i64 0, .int .i64 0, .int .i64 0, .int .i64 0, .int .i64 0, .bool false, .int .i64 0]⟩, ⟨some 20, none, .mov (.t 68)⟩, ⟨none, none, .st (.t 21) (.t 69) 14⟩, ⟨some 22, none, .mov (.t 70)⟩])
 (.seq (.ops none [⟨some 72, none, .mov (.t 5)⟩, ⟨some 73, none, .calp 27 [.t 72]⟩, ⟨some 71, none, .mov (.t 73)⟩, ⟨some 74, none, .ext (.t 71) 0⟩, ⟨some 75, none, .ext (.t 71) 1⟩, ⟨some 23, none, .mov (.t 74)⟩, ⟨some 24, none, .mov (.t 75)⟩])
 (.seq (.ops none [⟨some 76, none, .mov (.t 4)⟩, ⟨some 77, none, .bin .eql (.t 76) (.c (.int .i64 (0)))⟩, ⟨some 78, none, .mov (.t 77)⟩, ⟨some 79, some (78, true), .fad (.t 6) 12⟩, ⟨some 80, some (78, true), .ldv (.t 79) false 1⟩, ⟨some 81, none, .pick (.t 78) (.t 80) (.c (.bool false))⟩, ⟨some 82, none, .mov (.t 81)⟩, ⟨some 83, some (82, true), .fad (.t 6) 13⟩, ⟨some 84, some (82, true), .ldv (.t 83) false 1⟩, ⟨some 85, some (82, true), .bin .eql (.t 84) (.c (.int .i64 (1)))⟩, ⟨some 86, none, .pick (.t 82) (.t 85) (.c (.bool false))⟩, ⟨some 87, none, .mov (.t 86)⟩, ⟨some 88, some (87, true), .mov (.t 7)⟩, ⟨some 89, some (87, true), .bin .eql (.t 88) (.c (.int .i64 (12)))⟩, ⟨some 90, none, .pick (.t 87) (.t 89) (.c (.bool false))⟩, ⟨some 91, none, .mov (.t 90)⟩, ⟨some 92, some (91, true), .mov (.t 8)⟩, ⟨some 93, some (91, true), .bin .eql (.t 92) (.c (.int .i64 (0)))⟩, ⟨some 94, none, .pick (.t 91) (.t 93) (.c (.bool false))⟩, ⟨some 95, none, .mov (.t 94)⟩, ⟨some 96, some (95, true), .fad (.t 12) 13⟩, ⟨some 97, some (95, true), .ldv (.t 96) false 1⟩, ⟨some 98, some (95, true), .bin .eql (.t 97) (.c (.int .i64 (1)))⟩, ⟨some 99, none, .pick (.t 95) (.t 98) (.c (.bool false))⟩, ⟨some 100, none, .mov (.t 99)⟩, ⟨some 101, some (100, true), .mov (.t 13)⟩, ⟨some 102, some (100, true), .bin .eql (.t 101) (.c (.int .i64 (3)))⟩, ⟨some 103, none, .pick (.t 100) (.t 102) (.c (.bool false))⟩, ⟨some 104, none, .mov (.t 103)⟩, ⟨some 105, some (104, true), .mov (.t 14)⟩, ⟨some 106, some (104, true), .bin .eql (.t 105) (.c (.int .i64 (0)))⟩, ⟨some 107, none, .pick (.t 104) (.t 106) (.c (.bool false))⟩, ⟨some 108, none, .mov (.t 107)⟩, ⟨some 109, some (108, true), .mov (.t 17)⟩, ⟨some 110, some (108, true), .bin .eql (.t 109) (.c (.int .i64 (1)))⟩, ⟨some 111, none, .pick (.t 108) (.t 110) (.c (.bool false))⟩, ⟨some 112, none, .mov (.t 111)⟩, ⟨some 113, some (112, true), .mov (.t 19)⟩, ⟨some 114, some (112, true), .bin .eql (.t 113) (.c (.int .i64 (1)))⟩, ⟨some 115, none, .pick (.t 112) (.t 114) (.c (.bool false))⟩, ⟨some 116, none, .mov (.t 115)⟩, ⟨some 117, some (116, true), .mov (.t 20)⟩, ⟨some 118, some (116, true), .mov (.t 1)⟩, ⟨some 119, some (116, true), .calp 21 [.t 117, .t 118]⟩, ⟨some 120, none, .pick (.t 116) (.t 119) (.c (.bool false))⟩, ⟨some 121, none, .mov (.t 120)⟩, ⟨some 122, some (121, true), .fad (.t 21) 1⟩, ⟨some 123, some (121, true), .ldv (.t 122) false 1⟩, ⟨some 124, some (121, true), .bin .eql (.t 123) (.c (.int .i64 (1)))⟩, ⟨some 125, none, .pick (.t 121) (.t 124) (.c (.bool false))⟩, ⟨some 126, none, .mov (.t 125)⟩, ⟨some 127, some (126, true), .fad (.t 21) 2⟩, ⟨some 128, some (126, true), .aix (.t 127) (.c (.int .i64 (2))) 10 1⟩, ⟨some 129, some (126, true), .ldv (.t 128) false 1⟩, ⟨some 130, some (126, true), .bin .eql (.t 129) (.c (.int .i64 (1)))⟩, ⟨some 131, none, .pick (.t 126) (.t 130) (.c (.bool false))⟩, ⟨some 132, none, .mov (.t 131)⟩, ⟨some 133, some (132, true), .mov (.t 22)⟩, ⟨some 134, some (132, true), .bin .eql (.t 133) (.c (.int .i64 (0)))⟩, ⟨some 135, none, .pick (.t 132) (.t 134) (.c (.bool false))⟩, ⟨some 136, none, .mov (.t 135)⟩, ⟨some 137, some (136, true), .mov (.t 23)⟩, ⟨some 138, some (136, true), .bsl 1 [.int .i64 0] 1 [(0, .c (.int .i64 (5)))]⟩, ⟨some 139, some (136, true), .calp 21 [.t 137, .t 138]⟩, ⟨some 140, none, .pick (.t 136) (.t 139) (.c (.bool false))⟩, ⟨some 141, none, .mov (.t 140)⟩, ⟨some 142, some (141, true), .mov (.t 24)⟩, ⟨some 143, some (141, true), .bin .eql (.t 142) (.c (.int .i64 (0)))⟩, ⟨some 144, none, .pick (.t 141) (.t 143) (.c (.bool false))⟩, ⟨some 0, none, .mov (.t 144)⟩])
 (.ret)))))))))))
/-- bellwether/bellwetherlaw12.awake -/
def g13 : AFn := { np := 0, nt := 145, res := [.t 0], body := g13b }

def g14b : ACode :=
.seq (.ops none [⟨some 8, none, .new 25 [.int .i64 0, .int .i64 0, .int .i64 0, .int .i64 0, .int .i64 0, .int .i64 0, .int .i64 0, .int .i64 0, .int .i64 0, .int .i64 0, .int .i64 0, .int .i64 0, .bool false, .int .i64 0]⟩, ⟨some 9, none, .mov (.c (.int .i64 (0)))⟩])
 (.seq (.seq (.ops none [⟨some 10, none, .mov (.t 0)⟩, ⟨some 11, none, .bin .lss (.t 10) (.c (.int .i64 (1)))⟩, ⟨some 12, none, .mov (.t 11)⟩, ⟨some 13, some (12, false), .mov (.t 0)⟩, ⟨some 14, some (12, false), .bin .gtr (.t 13) (.c (.int .i64 (3)))⟩, ⟨some 15, none, .pick (.t 12) (.c (.bool true)) (.t 14)⟩, ⟨some 16, none, .mov (.t 15)⟩, ⟨some 17, some (16, false), .mov (.t 1)⟩, ⟨some 18, some (16, false), .bin .lss (.t 17) (.c (.int .i64 (-1099511627776)))⟩, ⟨some 19, none, .pick (.t 16) (.c (.bool true)) (.t 18)⟩, ⟨some 20, none, .mov (.t 19)⟩, ⟨some 21, some (20, false), .mov (.t 1)⟩, ⟨some 22, some (20, false), .bin .gtr (.t 21) (.c (.int .i64 (1099511627776)))⟩, ⟨some 23, none, .pick (.t 20) (.c (.bool true)) (.t 22)⟩, ⟨some 24, none, .mov (.t 23)⟩, ⟨some 25, some (24, false), .mov (.t 2)⟩, ⟨some 26, some (24, false), .bin .lss (.t 25) (.c (.int .i64 (0)))⟩, ⟨some 27, none, .pick (.t 24) (.c (.bool true)) (.t 26)⟩, ⟨some 28, none, .mov (.t 27)⟩, ⟨some 29, some (28, false), .mov (.t 2)⟩, ⟨some 30, some (28, false), .bin .geq (.t 29) (.c (.int .i64 (64)))⟩, ⟨some 31, none, .pick (.t 28) (.c (.bool true)) (.t 30)⟩, ⟨some 32, none, .mov (.t 31)⟩, ⟨some 33, some (32, false), .mov (.t 3)⟩, ⟨some 34, some (32, false), .bin .lss (.t 33) (.c (.int .i64 (0)))⟩, ⟨some 35, none, .pick (.t 32) (.c (.bool true)) (.t 34)⟩])
 (.cond (.t 35) (.seq (.ops none [⟨some 36, none, .ldv (.t 8) true 14⟩, ⟨none, none, .st (.t 8) (.t 36) 14⟩, ⟨some 9, none, .mov (.c (.int .i64 (1)))⟩])
 (.ret)) (.skip)))
 (.seq (.ops none [⟨some 37, none, .mov (.t 0)⟩, ⟨some 38, none, .fad (.t 8) 0⟩, ⟨none, none, .st (.t 38) (.t 37) 1⟩])
 (.seq (.ops none [⟨some 39, none, .mov (.t 1)⟩, ⟨some 40, none, .mov (.t 3)⟩, ⟨some 41, none, .mov (.t 2)⟩, ⟨some 42, none, .bin .add (.t 41) (.c (.int .i64 (1)))⟩, ⟨some 43, none, .fad (.t 8) 2⟩, ⟨some 44, none, .aix (.t 43) (.c (.int .i64 (0))) 10 1⟩, ⟨none, none, .st (.t 44) (.t 39) 1⟩, ⟨some 45, none, .fad (.t 8) 2⟩, ⟨some 46, none, .aix (.t 45) (.c (.int .i64 (3))) 10 1⟩, ⟨none, none, .st (.t 46) (.t 40) 1⟩, ⟨some 47, none, .fad (.t 8) 2⟩, ⟨some 48, none, .aix (.t 47) (.c (.int .i64 (4))) 10 1⟩, ⟨none, none, .st (.t 48) (.t 42) 1⟩])
 (.seq (.ops none [⟨some 49, none, .ldv (.t 8) true 14⟩, ⟨none, none, .st (.t 8) (.t 49) 14⟩, ⟨some 9, none, .mov (.c (.int .i64 (0)))⟩])
 (.ret)))))
/-- bellwether/lazy.Begin -/
def g14 : AFn := { np := 4, nt := 50, res := [.cell 8 true 14, .t 9], body := g14b }

def g15b : ACode :=
.seq (.ops none [⟨some 8, none, .new 25 [.int .i64 0, .int .i64 0, .int .i64 0, .int .i64 0, .int .i64 0, .int .i64 0, .int .i64 0, .int .i64 0, .int .i64 0, .int .i64 0, .int .i64 0, .int .i64 0, .bool false, .int .i64 0]⟩, ⟨some 9, none, .mov (.c (.int .i64 (0)))⟩])
 (.seq (.seq (.ops none [⟨some 10, none, .mov (.t 0)⟩, ⟨some 11, none, .bin .lss (.t 10) (.c (.int .i64 (1)))⟩, ⟨some 12, none, .mov (.t 11)⟩, ⟨some 13, some (12, false), .mov (.t 0)⟩, ⟨some 14, some (12, false), .bin .gtr (.t 13) (.c (.int .i64 (3)))⟩, ⟨some 15, none, .pick (.t 12) (.c (.bool true)) (.t 14)⟩, ⟨some 16, none, .mov (.t 15)⟩, ⟨some 17, some (16, false), .mov (.t 1)⟩, ⟨some 18, some (16, false), .bin .lss (.t 17) (.c (.int .i64 (-1099511627776)))⟩, ⟨some 19, none, .pick (.t 16) (.c (.bool true)) (.t 18)⟩, ⟨some 20, none, .mov (.t 19)⟩, ⟨some 21, some (20, false), .mov (.t 1)⟩, ⟨some 22, some (20, false), .bin .gtr (.t 21) (.c (.int .i64 (1099511627776)))⟩, ⟨some 23, none, .pick (.t 20) (.c (.bool true)) (.t 22)⟩, ⟨some 24, none, .mov (.t 23)⟩, ⟨some 25, some (24, false), .mov (.t 2)⟩, ⟨some 26, some (24, false), .bin .lss (.t 25) (.c (.int .i64 (0)))⟩, ⟨some 27, none, .pick (.t 24) (.c (.bool true)) (.t 26)⟩, ⟨some 28, none, .mov (.t 27)⟩, ⟨some 29, some (28, false), .mov (.t 2)⟩, ⟨some 30, some (28, false), .bin .geq (.t 29) (.c (.int .i64 (64)))⟩, ⟨some 31, none, .pick (.t 28) (.c (.bool true)) (.t 30)⟩, ⟨some 32, none, .mov (.t 31)⟩, ⟨some 33, some (32, false), .mov (.t 3)⟩, ⟨some 34, some (32, false), .bin .lss (.t 33) (.c (.int .i64 (0)))⟩, ⟨some 35, none, .pick (.t 32) (.c (.bool true)) (.t 34)⟩])
 (.cond (.t 35) (.seq (.ops none [⟨some 36, none, .build [.int .i64 0, .int .i64 0, .int .i64 0, .int .i64 0, .int .i64 0, .int .i64 0, .int .i64 0, .int .i64 0, .int .i64 0, .int .i64 0, .int .i64 0, .int .i64 0, .bool false, .int .i64 0] []⟩, ⟨none, none, .st (.t 8) (.t 36) 14⟩, ⟨some 9, none, .mov (.c (.int .i64 (1)))⟩])
 (.ret)) (.skip)))
 (.seq (.ops none [⟨some 37, none, .mov (.t 0)⟩, ⟨some 38, none, .mov (.t 1)⟩, ⟨some 39, none, .mov (.t 3)⟩, ⟨some 40, none, .mov (.t 2)⟩, ⟨some 41, none, .bin .add (.t 40) (.c (.int .i64 (1)))⟩, ⟨some 42, none, .build [.int .i64 0, .int .i64 0, .int .i64 0, .int .i64 0, .int .i64 0, .int .i64 0, .int .i64 0, .int .i64 0, .int .i64 0, .int .i64 0] [(0, 1, .t 38), (3, 1, .t 39), (4, 1, .t 41)]⟩, ⟨some 43, none, .build [.int .i64 0, .int .i64 0, .int .i64 0, .int .i64 0, .int .i64 0, .int .i64 0, .int .i64 0, .int .i64 0, .int .i64 0, .int .i64 0, .int .i64 0, .int .i64 0, .bool false, .int .i64 0] [(0, 1, .t 37), (2, 10, .t 42)]⟩, ⟨none, none, .st (.t 8) (.t 43) 14⟩, ⟨some 9, none, .mov (.c (.int .i64 (0)))⟩])
 (.ret)))
/-- bellwether/bellwetherref12.Begin -/
def g15 : AFn := { np := 4, nt := 44, res := [.cell 8 true 14, .t 9], body := g15b }

def g16l0 : ACode :=
 .ghost (.renum [2, 7, 9] [7]) (.seq (.seq (.ops none [⟨some 18, none, .mov (.t 9)⟩, ⟨some 19, none, .mov (.t 2)⟩, ⟨some 20, none, .len (.t 19)⟩, ⟨some 21, none, .bin .lss (.t 18) (.t 20)⟩, ⟨some 22, none, .mov (.t 21)⟩, ⟨some 23, some (22, true), .mov (.t 9)⟩, ⟨some 24, some (22, true), .bin .lss (.t 23) (.c (.int .i64 (5)))⟩, ⟨some 25, none, .pick (.t 22) (.t 24) (.c (.bool false))⟩])
 (.cond (.t 25) (.skip) (.exit 0)))
 (.seq (.block 1 (.ops (some [[], [], [], [1, 2], [1, 2, 3], [1, 2, 3, 4], [], [6], [1, 2, 3, 4, 5, 6, 7], [], [], [9, 10], [9, 10, 11], [9, 10, 11, 12], [1, 2, 3, 4, 5, 6, 7, 8, 9, 10, 11, 12, 13], [1, 2, 3, 4, 5, 6, 7, 8, 9, 10, 11, 12, 13, 14], [0, 1, 2, 3, 4, 5, 6, 7, 8, 9, 10, 11, 12, 13, 14, 15], [0, 1, 2, 3, 4, 5, 6, 7, 8, 9, 10, 11, 12, 13, 14, 15, 16]]) [⟨some 28, none, .mov (.t 7)⟩, ⟨some 29, none, .mov (.t 2)⟩, ⟨some 30, none, .mov (.t 9)⟩, ⟨some 31, none, .ixf 2 (.t 29) (.t 30)⟩, ⟨some 32, none, .aix (.t 31) (.c (.int .i64 (0))) 2 1⟩, ⟨some 33, none, .ldf (.t 32) false 1⟩, ⟨some 34, none, .mov (.t 7)⟩, ⟨some 35, none, .lenv (.t 34)⟩, ⟨some 36, none, .calp 39 [.t 33, .t 35]⟩, ⟨some 37, none, .mov (.t 2)⟩, ⟨some 38, none, .mov (.t 9)⟩, ⟨some 39, none, .ixf 2 (.t 37) (.t 38)⟩, ⟨some 40, none, .aix (.t 39) (.c (.int .i64 (1))) 2 1⟩, ⟨some 41, none, .ldf (.t 40) false 1⟩, ⟨some 42, none, .calp 39 [.t 41, .c (.int .i64 (12))]⟩, ⟨some 43, none, .bin .sub (.t 42) (.c (.int .i64 (2)))⟩, ⟨some 44, none, .ixv 1 (.t 28) (.t 36)⟩, ⟨none, none, .st (.t 44) (.t 43) 1⟩]))
 (.ops none [⟨some 26, none, .mov (.t 9)⟩, ⟨some 27, none, .bin .add (.t 26) (.c (.int .i64 (1)))⟩, ⟨some 9, none, .mov (.t 27)⟩])))
def g16b : ACode :=
.seq (.ops none [⟨some 6, none, .mov (.c (.list 1 []))⟩])
 (.seq (.ops none [⟨some 11, none, .mov (.t 0)⟩, ⟨some 12, none, .calp 24 [.t 11]⟩, ⟨some 13, none, .mov (.t 1)⟩, ⟨some 14, none, .calp 39 [.t 13, .c (.int .i64 (4))]⟩, ⟨some 15, none, .calf 25 [.t 12, .t 14]⟩, ⟨some 10, none, .mov (.t 15)⟩, ⟨some 16, none, .ext (.t 10) 0⟩, ⟨some 17, none, .ext (.t 10) 1⟩, ⟨some 7, none, .mov (.t 16)⟩, ⟨some 8, none, .mov (.t 17)⟩])
 (.seq (.seq (.ops none [⟨some 9, none, .mov (.c (.int .i64 (0)))⟩])
 (.block 0 (.loop g16l0)))
 (.seq (.ops none [⟨some 45, none, .mov (.t 7)⟩, ⟨some 6, none, .mov (.t 45)⟩])
 (.ret))))
/-- bellwether/bellwetherlaw11.Words -/
def g16 : AFn := { np := 3, nt := 46, res := [.t 6], body := g16b }

def g17b : ACode :=
.seq (.ops none [⟨some 4, none, .mov (.c (.int .i64 (0)))⟩])
 (.seq (.seq (.ops none [⟨some 5, none, .mov (.t 0)⟩, ⟨some 6, none, .bin .lss (.t 5) (.c (.int .i64 (0)))⟩])
 (.cond (.t 6) (.ops none [⟨some 7, none, .mov (.t 0)⟩, ⟨some 8, none, .bin .add (.t 7) (.c (.int .i64 (1)))⟩, ⟨some 9, none, .neg (.t 8)⟩, ⟨some 0, none, .mov (.t 9)⟩]) (.skip)))
 (.seq (.ops none [⟨some 10, none, .mov (.t 0)⟩, ⟨some 11, none, .mov (.t 1)⟩, ⟨some 12, none, .bin .rem (.t 10) (.t 11)⟩, ⟨some 4, none, .mov (.t 12)⟩])
 (.ret)))
/-- bellwether/bellwetherlaw12.pick -/
def g17 : AFn := { np := 2, nt := 13, res := [.t 4], body := g17b }

def g18b : ACode :=
.seq (.ops none [⟨some 6, none, .mov (.c (.int .i64 (0)))⟩])
 (.seq (.ops none [⟨some 7, none, .mov (.t 0)⟩, ⟨some 8, none, .mov (.t 1)⟩, ⟨some 9, none, .bin .mul (.c (.int .i64 (4))) (.t 8)⟩, ⟨some 10, none, .mov (.t 2)⟩, ⟨some 11, none, .bin .add (.t 9) (.t 10)⟩, ⟨some 12, none, .ixf 1 (.t 7) (.t 11)⟩, ⟨some 13, none, .ldf (.t 12) false 1⟩, ⟨some 6, none, .mov (.t 13)⟩])
 (.ret))
/-- bellwether/bellwetherref11.Word -/
def g18 : AFn := { np := 3, nt := 14, res := [.t 6], body := g18b }

def g19b : ACode :=
.seq (.ops none [⟨some 3, none, .boxf 14 (.t 1)⟩, ⟨some 4, none, .mov (.c (.list 1 []))⟩, ⟨some 5, none, .new 25 [.int .i64 0, .int .i64 0, .int .i64 0, .int .i64 0, .int .i64 0, .int .i64 0, .int .i64 0, .int .i64 0, .int .i64 0, .int .i64 0, .int .i64 0, .int .i64 0, .bool false, .int .i64 0]⟩, ⟨some 6, none, .mov (.c (.int .i64 (0)))⟩])
 (.seq (.ops none [⟨some 8, none, .ldf (.t 3) true 14⟩, ⟨some 9, none, .mov (.t 0)⟩, ⟨some 10, none, .build [.int .i64 0, .int .i64 0, .int .i64 0, .int .i64 0, .int .i64 0, .int .i64 0, .int .i64 0, .int .i64 0, .int .i64 0, .int .i64 0, .int .i64 0, .int .i64 0, .bool false, .int .i64 0, .list 1 [], .int .i64 0] [(0, 14, .t 8), (14, 1, .t 9)]⟩, ⟨some 11, none, .box 75 16 (.t 10)⟩, ⟨some 7, none, .mov (.t 11)⟩])
 (.seq (.block 0 (.seq (.seq (.ops none [⟨some 13, none, .fad (.t 3) 12⟩, ⟨some 14, none, .ldf (.t 13) false 1⟩, ⟨some 12, none, .mov (.t 14)⟩])
 (.cond (.t 12) (.skip) (.seq (.ops none [⟨some 15, none, .fad (.t 3) 0⟩, ⟨some 16, none, .ldf (.t 15) false 1⟩, ⟨some 17, none, .bin .lss (.t 16) (.c (.int .i64 (1)))⟩, ⟨some 12, none, .mov (.t 17)⟩])
 (.cond (.t 12) (.skip) (.seq (.ops none [⟨some 18, none, .fad (.t 3) 0⟩, ⟨some 19, none, .ldf (.t 18) false 1⟩, ⟨some 20, none, .bin .gtr (.t 19) (.c (.int .i64 (3)))⟩, ⟨some 12, none, .mov (.t 20)⟩])
 (.cond (.t 12) (.skip) (.ops none [⟨some 21, none, .mov (.t 7)⟩, ⟨some 22, none, .calr 40 [.t 21]⟩, ⟨some 23, none, .notb (.t 22)⟩, ⟨some 12, none, .mov (.t 23)⟩])))))))
 (.cond (.t 12) (.seq (.ops (some [[], [0], [], [0, 1], [0, 1, 2, 3], [0, 1, 2, 3, 4]]) [⟨some 24, none, .mov (.t 0)⟩, ⟨some 25, none, .calp 41 [.t 24]⟩, ⟨some 26, none, .ldf (.t 3) true 14⟩, ⟨some 4, none, .mov (.t 25)⟩, ⟨none, none, .st (.t 5) (.t 26) 14⟩, ⟨some 6, none, .mov (.c (.int .i64 (1)))⟩])
 (.ret)) (.seq (.ops none [⟨some 28, none, .mov (.t 7)⟩, ⟨some 29, none, .nilc (.t 28)⟩, ⟨some 30, none, .fad (.t 29) 15⟩, ⟨some 31, none, .ldv (.t 30) false 1⟩, ⟨some 32, none, .bin .neq (.t 31) (.c (.int .i64 (0)))⟩, ⟨some 27, none, .mov (.t 32)⟩])
 (.cond (.t 27) (.seq (.opsx [[], [0], [], [], [3], [3, 4], [3, 4, 5], [0, 1], [0, 1, 2, 7], [0, 1, 2, 3, 4, 5, 6, 7, 8]] [(38, 5)] [⟨some 33, none, .mov (.t 0)⟩, ⟨some 34, none, .calp 41 [.t 33]⟩, ⟨some 35, none, .ldf (.t 3) true 14⟩, ⟨some 36, none, .mov (.t 7)⟩, ⟨some 37, none, .nilc (.t 36)⟩, ⟨some 38, none, .fad (.t 37) 15⟩, ⟨some 39, none, .ldv (.t 38) false 1⟩, ⟨some 4, none, .mov (.t 34)⟩, ⟨none, none, .st (.t 5) (.t 35) 14⟩, ⟨some 6, none, .mov (.t 39)⟩])
 (.ret)) (.skip))))))
 (.seq (.ops (some [[], [0], [0, 1], [0, 1, 2], [], [4], [4, 5], [4, 5, 6], [0, 1, 2, 3], [0, 1, 2, 3, 4, 5, 6, 7, 8], [0, 1, 2, 3, 4, 5, 6, 7, 8, 9]]) [⟨some 40, none, .mov (.t 7)⟩, ⟨some 41, none, .nilc (.t 40)⟩, ⟨some 42, none, .fad (.t 41) 14⟩, ⟨some 43, none, .ldv (.t 42) false 1⟩, ⟨some 44, none, .mov (.t 7)⟩, ⟨some 45, none, .nilc (.t 44)⟩, ⟨some 46, none, .fad (.t 45) 0⟩, ⟨some 47, none, .ldv (.t 46) true 14⟩, ⟨some 4, none, .mov (.t 43)⟩, ⟨none, none, .st (.t 5) (.t 47) 14⟩, ⟨some 6, none, .mov (.c (.int .i64 (0)))⟩])
 (.ret))))
/-- bellwether/lazy.Step -/
def g19 : AFn := { np := 2, nt := 48, res := [.t 4, .cell 5 true 14, .t 6], body := g19b }

def g20b : ACode :=
.seq (.ops none [⟨some 3, none, .boxf 14 (.t 1)⟩, ⟨some 4, none, .mov (.c (.list 1 []))⟩, ⟨some 5, none, .new 25 [.int .i64 0, .int .i64 0, .int .i64 0, .int .i64 0, .int .i64 0, .int .i64 0, .int .i64 0, .int .i64 0, .int .i64 0, .int .i64 0, .int .i64 0, .int .i64 0, .bool false, .int .i64 0]⟩, ⟨some 6, none, .mov (.c (.int .i64 (0)))⟩])
 (.seq (.seq (.ops none [⟨some 12, none, .fad (.t 3) 12⟩, ⟨some 13, none, .ldf (.t 12) false 1⟩, ⟨some 14, none, .mov (.t 13)⟩, ⟨some 15, some (14, false), .fad (.t 3) 0⟩, ⟨some 16, some (14, false), .ldf (.t 15) false 1⟩, ⟨some 17, some (14, false), .bin .lss (.t 16) (.c (.int .i64 (1)))⟩, ⟨some 18, none, .pick (.t 14) (.c (.bool true)) (.t 17)⟩, ⟨some 19, none, .mov (.t 18)⟩, ⟨some 20, some (19, false), .fad (.t 3) 0⟩, ⟨some 21, some (19, false), .ldf (.t 20) false 1⟩, ⟨some 22, some (19, false), .bin .gtr (.t 21) (.c (.int .i64 (3)))⟩, ⟨some 23, none, .pick (.t 19) (.c (.bool true)) (.t 22)⟩])
 (.cond (.t 23) (.seq (.ops (some [[], [], [0], [0, 1, 2], [0, 1, 2, 3]]) [⟨some 24, none, .mov (.t 0)⟩, ⟨some 25, none, .ldf (.t 3) true 14⟩, ⟨some 4, none, .mov (.t 24)⟩, ⟨none, none, .st (.t 5) (.t 25) 14⟩, ⟨some 6, none, .mov (.c (.int .i64 (1)))⟩])
 (.ret)) (.skip)))
 (.seq (.ops none [⟨some 27, none, .mov (.t 0)⟩, ⟨some 28, none, .ldf (.t 3) true 14⟩, ⟨some 29, none, .calp 42 [.t 27, .t 28]⟩, ⟨some 26, none, .mov (.t 29)⟩, ⟨some 30, none, .ext (.t 26) 0⟩, ⟨some 31, none, .ext (.t 26) 1⟩, ⟨some 7, none, .new 77 [.int .i64 0, .int .i64 0, .int .i64 0, .int .i64 0]⟩, ⟨none, none, .st (.t 7) (.t 30) 4⟩, ⟨some 8, none, .mov (.t 31)⟩])
 (.seq (.seq (.ops none [⟨some 32, none, .mov (.t 8)⟩, ⟨some 33, none, .notb (.t 32)⟩])
 (.cond (.t 33) (.seq (.ops (some [[], [], [0], [0, 1, 2], [0, 1, 2, 3]]) [⟨some 34, none, .mov (.t 0)⟩, ⟨some 35, none, .ldf (.t 3) true 14⟩, ⟨some 4, none, .mov (.t 34)⟩, ⟨none, none, .st (.t 5) (.t 35) 14⟩, ⟨some 6, none, .mov (.c (.int .i64 (1)))⟩])
 (.ret)) (.skip)))
 (.seq (.ops none [⟨some 37, none, .mov (.t 0)⟩, ⟨some 38, none, .ldv (.t 7) true 4⟩, ⟨some 39, none, .calp 43 [.t 37, .t 38]⟩, ⟨some 36, none, .mov (.t 39)⟩, ⟨some 40, none, .ext (.t 36) 0⟩, ⟨some 41, none, .ext (.t 36) 1⟩, ⟨some 42, none, .ext (.t 36) 2⟩, ⟨some 10, none, .new 81 [.int .i64 0, .bool false]⟩, ⟨some 9, none, .mov (.t 40)⟩, ⟨none, none, .st (.t 10) (.t 41) 2⟩, ⟨some 11, none, .mov (.t 42)⟩])
 (.seq (.seq (.ops none [⟨some 43, none, .mov (.t 11)⟩, ⟨some 44, none, .bin .neq (.t 43) (.c (.int .i64 (0)))⟩])
 (.cond (.t 44) (.seq (.ops (some [[], [], [], [0], [0, 1, 3], [0, 1, 2, 3, 4]]) [⟨some 45, none, .mov (.t 0)⟩, ⟨some 46, none, .ldf (.t 3) true 14⟩, ⟨some 47, none, .mov (.t 11)⟩, ⟨some 4, none, .mov (.t 45)⟩, ⟨none, none, .st (.t 5) (.t 46) 14⟩, ⟨some 6, none, .mov (.t 47)⟩])
 (.ret)) (.skip)))
 (.seq (.block 0 (.seq (.ops none [⟨some 49, none, .fad (.t 3) 1⟩, ⟨some 50, none, .ldf (.t 49) false 1⟩, ⟨some 51, none, .bin .leq (.t 50) (.c (.int .i64 (3)))⟩, ⟨some 48, none, .mov (.t 51)⟩])
 (.cond (.t 48) (.seq (.ops none [⟨some 52, none, .mov (.t 9)⟩, ⟨some 53, none, .ldf (.t 3) true 14⟩, ⟨some 54, none, .fad (.t 10) 0⟩, ⟨some 55, none, .ldv (.t 54) false 1⟩, ⟨some 56, none, .calp 44 [.t 53, .t 55]⟩, ⟨some 4, none, .mov (.t 52)⟩, ⟨none, none, .st (.t 5) (.t 56) 14⟩, ⟨some 6, none, .mov (.c (.int .i64 (0)))⟩])
 (.ret)) (.seq (.ops none [⟨some 58, none, .fad (.t 3) 1⟩, ⟨some 59, none, .ldf (.t 58) false 1⟩, ⟨some 60, none, .bin .leq (.t 59) (.c (.int .i64 (14)))⟩, ⟨some 57, none, .mov (.t 60)⟩])
 (.cond (.t 57) (.seq (.ops none [⟨some 61, none, .mov (.t 9)⟩, ⟨some 62, none, .ldf (.t 3) true 14⟩, ⟨some 63, none, .ldv (.t 10) true 2⟩, ⟨some 64, none, .calp 45 [.t 62, .t 63]⟩, ⟨some 4, none, .mov (.t 61)⟩, ⟨none, none, .st (.t 5) (.t 64) 14⟩, ⟨some 6, none, .mov (.c (.int .i64 (0)))⟩])
 (.ret)) (.skip))))))
 (.seq (.ops none [⟨some 65, none, .mov (.t 9)⟩, ⟨some 66, none, .ldf (.t 3) true 14⟩, ⟨some 67, none, .fad (.t 10) 0⟩, ⟨some 68, none, .ldv (.t 67) false 1⟩, ⟨some 69, none, .calp 46 [.t 66, .t 68]⟩, ⟨some 4, none, .mov (.t 65)⟩, ⟨none, none, .st (.t 5) (.t 69) 14⟩, ⟨some 6, none, .mov (.c (.int .i64 (0)))⟩])
 (.ret))))))))
/-- bellwether/bellwetherref12.Step -/
def g20 : AFn := { np := 2, nt := 70, res := [.t 4, .cell 5 true 14, .t 6], body := g20b }

def g21l0 : ACode :=
 .ghost (.renum [0, 1, 5] []) (.seq (.seq (.ops none [⟨some 11, none, .mov (.t 5)⟩, ⟨some 12, none, .mov (.t 0)⟩, ⟨some 13, none, .len (.t 12)⟩, ⟨some 14, none, .bin .lss (.t 11) (.t 13)⟩])
 (.cond (.t 14) (.skip) (.exit 0)))
 (.seq (.block 1 (.seq (.ops (some [[], [], [0, 1], [0, 1, 2], [], [], [4, 5], [4, 5, 6], [0, 1, 2, 3, 4, 5, 6, 7]]) [⟨some 17, none, .mov (.t 0)⟩, ⟨some 18, none, .mov (.t 5)⟩, ⟨some 19, none, .ixf 1 (.t 17) (.t 18)⟩, ⟨some 20, none, .ldf (.t 19) false 1⟩, ⟨some 21, none, .mov (.t 1)⟩, ⟨some 22, none, .mov (.t 5)⟩, ⟨some 23, none, .ixf 1 (.t 21) (.t 22)⟩, ⟨some 24, none, .ldf (.t 23) false 1⟩, ⟨some 25, none, .bin .neq (.t 20) (.t 24)⟩])
 (.cond (.t 25) (.seq (.ops none [⟨some 4, none, .mov (.c (.bool false))⟩])
 (.ret)) (.skip))))
 (.ops none [⟨some 15, none, .mov (.t 5)⟩, ⟨some 16, none, .bin .add (.t 15) (.c (.int .i64 (1)))⟩, ⟨some 5, none, .mov (.t 16)⟩])))
def g21b : ACode :=
.seq (.ops none [⟨some 4, none, .mov (.c (.bool false))⟩])
 (.seq (.seq (.ops none [⟨some 6, none, .mov (.t 0)⟩, ⟨some 7, none, .len (.t 6)⟩, ⟨some 8, none, .mov (.t 1)⟩, ⟨some 9, none, .len (.t 8)⟩, ⟨some 10, none, .bin .neq (.t 7) (.t 9)⟩])
 (.cond (.t 10) (.seq (.ops none [⟨some 4, none, .mov (.c (.bool false))⟩])
 (.ret)) (.skip)))
 (.seq (.seq (.ops none [⟨some 5, none, .mov (.c (.int .i64 (0)))⟩])
 (.block 0 (.loop g21l0)))
 (.seq (.ops none [⟨some 4, none, .mov (.c (.bool true))⟩])
 (.ret))))
/-- bellwether/bellwetherref02.Ints -/
def g21 : AFn := { np := 2, nt := 26, res := [.t 4], body := g21b }

def g22l0 : ACode :=
 .ghost (.renum [0, 3, 5, 8, 9, 10] [5, 9]) (.seq (.block 1 (.seq (.ops none [⟨some 11, none, .mov (.c (.int .i64 (0)))⟩])
 (.seq (.block 2 (.seq (.ops none [⟨some 18, none, .fad (.t 9) 12⟩, ⟨some 19, none, .ldv (.t 18) false 1⟩, ⟨some 17, none, .mov (.t 19)⟩])
 (.cond (.t 17) (.seq (.ops (some [[], [], [], [0], [0, 1, 3], [0, 1, 2, 3, 4], [0, 1, 2, 3, 4, 5]]) [⟨some 20, none, .mov (.t 8)⟩, ⟨some 21, none, .ldv (.t 9) true 14⟩, ⟨some 22, none, .mov (.t 10)⟩, ⟨some 4, none, .mov (.t 20)⟩, ⟨none, none, .st (.t 5) (.t 21) 14⟩, ⟨some 6, none, .mov (.t 22)⟩, ⟨some 7, none, .mov (.c (.int .i64 (0)))⟩])
 (.ret)) (.seq (.ops none [⟨some 24, none, .mov (.t 10)⟩, ⟨some 25, none, .bin .eql (.t 24) (.c (.int .i64 (50000)))⟩, ⟨some 23, none, .mov (.t 25)⟩])
 (.cond (.t 23) (.seq (.ops (some [[], [0], [], [0, 1], [0, 1, 2, 3], [0, 1, 2, 3, 4], [0, 1, 2, 3, 4, 5]]) [⟨some 26, none, .mov (.t 0)⟩, ⟨some 27, none, .calp 41 [.t 26]⟩, ⟨some 28, none, .ldf (.t 3) true 14⟩, ⟨some 4, none, .mov (.t 27)⟩, ⟨none, none, .st (.t 5) (.t 28) 14⟩, ⟨some 6, none, .mov (.c (.int .i64 (0)))⟩, ⟨some 7, none, .mov (.c (.int .i64 (2)))⟩])
 (.ret)) (.skip))))))
 (.seq (.ops none [⟨some 30, none, .mov (.t 8)⟩, ⟨some 31, none, .ldv (.t 9) true 14⟩, ⟨some 32, none, .calp 19 [.t 30, .t 31]⟩, ⟨some 29, none, .mov (.t 32)⟩, ⟨some 33, none, .ext (.t 29) 0⟩, ⟨some 34, none, .ext (.t 29) 1⟩, ⟨some 35, none, .ext (.t 29) 2⟩, ⟨some 8, none, .mov (.t 33)⟩, ⟨none, none, .st (.t 9) (.t 34) 14⟩, ⟨some 11, none, .mov (.t 35)⟩])
 (.seq (.ops none [⟨some 36, none, .mov (.t 11)⟩, ⟨some 37, none, .bin .neq (.t 36) (.c (.int .i64 (0)))⟩])
 (.cond (.t 37) (.seq (.ops (some [[], [0], [], [], [0, 1], [0, 1, 2, 4], [0, 1, 2, 4, 5], [0, 1, 2, 3, 4, 5, 6]]) [⟨some 38, none, .mov (.t 0)⟩, ⟨some 39, none, .calp 41 [.t 38]⟩, ⟨some 40, none, .ldf (.t 3) true 14⟩, ⟨some 41, none, .mov (.t 11)⟩, ⟨some 4, none, .mov (.t 39)⟩, ⟨none, none, .st (.t 5) (.t 40) 14⟩, ⟨some 6, none, .mov (.c (.int .i64 (0)))⟩, ⟨some 7, none, .mov (.t 41)⟩])
 (.ret)) (.skip)))))))
 (.ops none [⟨some 15, none, .mov (.t 10)⟩, ⟨some 16, none, .bin .add (.t 15) (.c (.int .i64 (1)))⟩, ⟨some 10, none, .mov (.t 16)⟩]))
def g22b : ACode :=
.seq (.ops none [⟨some 3, none, .boxf 14 (.t 1)⟩, ⟨some 4, none, .mov (.c (.list 1 []))⟩, ⟨some 5, none, .new 25 [.int .i64 0, .int .i64 0, .int .i64 0, .int .i64 0, .int .i64 0, .int .i64 0, .int .i64 0, .int .i64 0, .int .i64 0, .int .i64 0, .int .i64 0, .int .i64 0, .bool false, .int .i64 0]⟩, ⟨some 6, none, .mov (.c (.int .i64 (0)))⟩, ⟨some 7, none, .mov (.c (.int .i64 (0)))⟩])
 (.seq (.ops (some [[], [0], [], [], [0, 1, 3], [0, 1, 2, 3, 4]]) [⟨some 12, none, .mov (.t 0)⟩, ⟨some 13, none, .calp 41 [.t 12]⟩, ⟨some 14, none, .ldf (.t 3) true 14⟩, ⟨some 9, none, .new 25 [.int .i64 0, .int .i64 0, .int .i64 0, .int .i64 0, .int .i64 0, .int .i64 0, .int .i64 0, .int .i64 0, .int .i64 0, .int .i64 0, .int .i64 0, .int .i64 0, .bool false, .int .i64 0]⟩, ⟨some 8, none, .mov (.t 13)⟩, ⟨none, none, .st (.t 9) (.t 14) 14⟩])
 (.seq (.ops none [⟨some 10, none, .mov (.c (.int .i64 (0)))⟩])
 (.block 0 (.loop g22l0))))
/-- bellwether/lazy.Alone -/
def g22 : AFn := { np := 2, nt := 42, res := [.t 4, .cell 5 true 14, .t 6, .t 7], body := g22b }

def g23l0 : ACode :=
 .ghost (.renum [0, 3, 5, 8, 9, 10] [5, 9]) (.seq (.seq (.ops none [⟨some 16, none, .mov (.t 10)⟩, ⟨some 17, none, .bin .leq (.t 16) (.c (.int .i64 (50000)))⟩])
 (.cond (.t 17) (.skip) (.exit 0)))
 (.seq (.block 1 (.seq (.seq (.ops none [⟨some 20, none, .fad (.t 9) 12⟩, ⟨some 21, none, .ldv (.t 20) false 1⟩])
 (.cond (.t 21) (.seq (.ops (some [[], [], [], [0], [0, 1, 3], [0, 1, 2, 3, 4], [0, 1, 2, 3, 4, 5]]) [⟨some 22, none, .mov (.t 8)⟩, ⟨some 23, none, .ldv (.t 9) true 14⟩, ⟨some 24, none, .mov (.t 10)⟩, ⟨some 4, none, .mov (.t 22)⟩, ⟨none, none, .st (.t 5) (.t 23) 14⟩, ⟨some 6, none, .mov (.t 24)⟩, ⟨some 7, none, .mov (.c (.int .i64 (0)))⟩])
 (.ret)) (.skip)))
 (.seq (.seq (.ops none [⟨some 25, none, .mov (.t 10)⟩, ⟨some 26, none, .bin .eql (.t 25) (.c (.int .i64 (50000)))⟩])
 (.cond (.t 26) (.exit 0) (.skip)))
 (.seq (.ops none [⟨some 28, none, .mov (.t 8)⟩, ⟨some 29, none, .ldv (.t 9) true 14⟩, ⟨some 30, none, .calp 20 [.t 28, .t 29]⟩, ⟨some 27, none, .mov (.t 30)⟩, ⟨some 31, none, .ext (.t 27) 0⟩, ⟨some 32, none, .ext (.t 27) 1⟩, ⟨some 33, none, .ext (.t 27) 2⟩, ⟨some 12, none, .new 25 [.int .i64 0, .int .i64 0, .int .i64 0, .int .i64 0, .int .i64 0, .int .i64 0, .int .i64 0, .int .i64 0, .int .i64 0, .int .i64 0, .int .i64 0, .int .i64 0, .bool false, .int .i64 0]⟩, ⟨some 11, none, .mov (.t 31)⟩, ⟨none, none, .st (.t 12) (.t 32) 14⟩, ⟨some 13, none, .mov (.t 33)⟩])
 (.seq (.seq (.ops none [⟨some 34, none, .mov (.t 13)⟩, ⟨some 35, none, .bin .neq (.t 34) (.c (.int .i64 (0)))⟩])
 (.cond (.t 35) (.seq (.ops (some [[], [], [], [0], [0, 1, 3], [0, 1, 3, 4], [0, 1, 2, 3, 4, 5]]) [⟨some 36, none, .mov (.t 0)⟩, ⟨some 37, none, .ldf (.t 3) true 14⟩, ⟨some 38, none, .mov (.t 13)⟩, ⟨some 4, none, .mov (.t 36)⟩, ⟨none, none, .st (.t 5) (.t 37) 14⟩, ⟨some 6, none, .mov (.c (.int .i64 (0)))⟩, ⟨some 7, none, .mov (.t 38)⟩])
 (.ret)) (.skip)))
 (.seq (.ops none [⟨some 39, none, .mov (.t 11)⟩, ⟨some 8, none, .mov (.t 39)⟩])
 (.ops none [⟨some 40, none, .ldv (.t 12) true 14⟩, ⟨none, none, .st (.t 9) (.t 40) 14⟩])))))))
 (.ops none [⟨some 18, none, .mov (.t 10)⟩, ⟨some 19, none, .bin .add (.t 18) (.c (.int .i64 (1)))⟩, ⟨some 10, none, .mov (.t 19)⟩])))
def g23b : ACode :=
.seq (.ops none [⟨some 3, none, .boxf 14 (.t 1)⟩, ⟨some 4, none, .mov (.c (.list 1 []))⟩, ⟨some 5, none, .new 25 [.int .i64 0, .int .i64 0, .int .i64 0, .int .i64 0, .int .i64 0, .int .i64 0, .int .i64 0, .int .i64 0, .int .i64 0, .int .i64 0, .int .i64 0, .int .i64 0, .bool false, .int .i64 0]⟩, ⟨some 6, none, .mov (.c (.int .i64 (0)))⟩, ⟨some 7, none, .mov (.c (.int .i64 (0)))⟩])
 (.seq (.ops none [⟨some 14, none, .mov (.t 0)⟩, ⟨some 8, none, .mov (.t 14)⟩])
 (.seq (.ops none [⟨some 15, none, .ldf (.t 3) true 14⟩, ⟨some 9, none, .new 25 [.int .i64 0, .int .i64 0, .int .i64 0, .int .i64 0, .int .i64 0, .int .i64 0, .int .i64 0, .int .i64 0, .int .i64 0, .int .i64 0, .int .i64 0, .int .i64 0, .bool false, .int .i64 0]⟩, ⟨none, none, .st (.t 9) (.t 15) 14⟩])
 (.seq (.seq (.ops none [⟨some 10, none, .mov (.c (.int .i64 (0)))⟩])
 (.block 0 (.loop g23l0)))
 (.seq (.ops (some [[], [], [0], [0, 1, 2], [0, 1, 2, 3], [0, 1, 2, 3, 4]]) [⟨some 41, none, .mov (.t 0)⟩, ⟨some 42, none, .ldf (.t 3) true 14⟩, ⟨some 4, none, .mov (.t 41)⟩, ⟨none, none, .st (.t 5) (.t 42) 14⟩, ⟨some 6, none, .mov (.c (.int .i64 (0)))⟩, ⟨some 7, none, .mov (.c (.int .i64 (2)))⟩])
 (.ret)))))
/-- bellwether/bellwetherref12.Alone -/
def g23 : AFn := { np := 2, nt := 43, res := [.t 4, .cell 5 true 14, .t 6, .t 7], body := g23b }

def g24l0 : ACode :=
 .ghost (.renum [0, 3, 4] []) (.seq (.seq (.ops none [⟨some 5, none, .mov (.t 4)⟩, ⟨some 6, none, .mov (.t 0)⟩, ⟨some 7, none, .len (.t 6)⟩, ⟨some 8, none, .bin .lss (.t 5) (.t 7)⟩, ⟨some 9, none, .mov (.t 8)⟩, ⟨some 10, some (9, true), .mov (.t 4)⟩, ⟨some 11, some (9, true), .bin .lss (.t 10) (.c (.int .i64 (40)))⟩, ⟨some 12, none, .pick (.t 9) (.t 11) (.c (.bool false))⟩])
 (.cond (.t 12) (.skip) (.exit 0)))
 (.seq (.block 1 (.ops none [⟨some 16, none, .mov (.t 3)⟩, ⟨some 17, none, .mov (.t 0)⟩, ⟨some 18, none, .mov (.t 4)⟩, ⟨some 19, none, .ixf 1 (.t 17) (.t 18)⟩, ⟨some 20, none, .ldf (.t 19) false 1⟩, ⟨some 21, none, .calp 47 [.t 20, .c (.int .i64 (20))]⟩, ⟨some 22, none, .calp 26 [.t 16, .c (.int .i64 (1)), .t 21]⟩, ⟨some 15, none, .mov (.t 22)⟩, ⟨some 23, none, .ext (.t 15) 0⟩, ⟨some 24, none, .ext (.t 15) 1⟩, ⟨some 25, none, .ext (.t 15) 2⟩, ⟨some 3, none, .mov (.t 23)⟩]))
 (.ops none [⟨some 13, none, .mov (.t 4)⟩, ⟨some 14, none, .bin .add (.t 13) (.c (.int .i64 (1)))⟩, ⟨some 4, none, .mov (.t 14)⟩])))
def g24b : ACode :=
.seq (.ops none [⟨some 2, none, .mov (.c (.list 1 []))⟩])
 (.seq (.ops none [⟨some 3, none, .mov (.c (.list 1 []))⟩])
 (.seq (.seq (.ops none [⟨some 4, none, .mov (.c (.int .i64 (0)))⟩])
 (.block 0 (.loop g24l0)))
 (.seq (.ops none [⟨some 26, none, .mov (.t 3)⟩, ⟨some 2, none, .mov (.t 26)⟩])
 (.ret))))
/-- bellwether/bellwetherlaw04.Keys -/
def g24 : AFn := { np := 1, nt := 27, res := [.t 2], body := g24b }

def g25l0 : ACode :=
 .ghost (.renum [0, 1, 7, 8] [7]) (.seq (.seq (.ops none [⟨some 32, none, .mov (.t 8)⟩, ⟨some 33, none, .mov (.t 0)⟩, ⟨some 34, none, .len (.t 33)⟩, ⟨some 35, none, .bin .lss (.t 32) (.t 34)⟩])
 (.cond (.t 35) (.skip) (.exit 0)))
 (.seq (.block 1 (.seq (.ops none [⟨some 38, none, .mov (.t 8)⟩, ⟨some 39, none, .bin .add (.c (.int .i64 (3))) (.t 38)⟩, ⟨some 9, none, .mov (.t 39)⟩])
 (.seq (.seq (.ops none [⟨some 40, none, .mov (.t 8)⟩, ⟨some 41, none, .mov (.t 0)⟩, ⟨some 42, none, .len (.t 41)⟩, ⟨some 43, none, .bin .sub (.t 42) (.c (.int .i64 (1)))⟩, ⟨some 44, none, .bin .eql (.t 40) (.t 43)⟩])
 (.cond (.t 44) (.ops none [⟨some 9, none, .mov (.c (.int .i64 (1)))⟩]) (.skip)))
 (.ops none [⟨some 45, none, .mov (.t 7)⟩, ⟨some 46, none, .mov (.t 0)⟩, ⟨some 47, none, .mov (.t 8)⟩, ⟨some 48, none, .ixf 1 (.t 46) (.t 47)⟩, ⟨some 49, none, .ldf (.t 48) false 1⟩, ⟨some 50, none, .mov (.t 9)⟩, ⟨some 51, none, .bsl 1 [.int .i64 0] 4 [(0, .t 49), (1, .t 50), (2, .c (.int .i64 (0))), (3, .c (.int .i64 (0)))]⟩, ⟨some 52, none, .app 3 1 8 [.int .i64 0] (.t 45) (.t 51)⟩, ⟨some 7, none, .mov (.t 52)⟩]))))
 (.ops none [⟨some 36, none, .mov (.t 8)⟩, ⟨some 37, none, .bin .add (.t 36) (.c (.int .i64 (1)))⟩, ⟨some 8, none, .mov (.t 37)⟩])))
def g25b : ACode :=
.seq (.ops none [⟨some 4, none, .mov (.c (.list 1 []))⟩, ⟨some 5, none, .mov (.c (.int .i64 (0)))⟩])
 (.seq (.seq (.ops none [⟨some 10, none, .mov (.t 0)⟩, ⟨some 11, none, .calp 48 [.t 10]⟩, ⟨some 12, none, .notb (.t 11)⟩, ⟨some 13, none, .mov (.t 12)⟩, ⟨some 14, some (13, false), .mov (.t 1)⟩, ⟨some 15, some (13, false), .bin .lss (.t 14) (.c (.int .i64 (0)))⟩, ⟨some 16, none, .pick (.t 13) (.c (.bool true)) (.t 15)⟩])
 (.cond (.t 16) (.seq (.ops none [⟨some 4, none, .mov (.c (.list 1 []))⟩, ⟨some 5, none, .mov (.c (.int .i64 (1)))⟩])
 (.ret)) (.skip)))
 (.seq (.seq (.ops none [⟨some 17, none, .mov (.t 1)⟩, ⟨some 18, none, .bin .gtr (.t 17) (.c (.int .i64 (500)))⟩, ⟨some 19, none, .mov (.t 18)⟩, ⟨some 20, some (19, false), .mov (.t 0)⟩, ⟨some 21, some (19, false), .len (.t 20)⟩, ⟨some 22, some (19, false), .bin .add (.c (.int .i64 (2))) (.t 21)⟩, ⟨some 23, some (19, false), .mov (.t 1)⟩, ⟨some 24, some (19, false), .bin .add (.t 22) (.t 23)⟩, ⟨some 25, some (19, false), .bin .gtr (.t 24) (.c (.int .i64 (500)))⟩, ⟨some 26, none, .pick (.t 19) (.c (.bool true)) (.t 25)⟩])
 (.cond (.t 26) (.seq (.ops none [⟨some 4, none, .mov (.c (.list 1 []))⟩, ⟨some 5, none, .mov (.c (.int .i64 (2)))⟩])
 (.ret)) (.skip)))
 (.seq (.ops none [⟨some 6, none, .mov (.c (.int .i64 (1)))⟩])
 (.seq (.seq (.ops none [⟨some 27, none, .mov (.t 0)⟩, ⟨some 28, none, .len (.t 27)⟩, ⟨some 29, none, .bin .gtr (.t 28) (.c (.int .i64 (0)))⟩])
 (.cond (.t 29) (.ops none [⟨some 6, none, .mov (.c (.int .i64 (2)))⟩]) (.skip)))
 (.seq (.ops none [⟨some 30, none, .mov (.t 6)⟩, ⟨some 31, none, .bsv 3 1 [.int .i64 0] 8 [(0, .c (.int .i64 (-1099511627777))), (1, .t 30), (2, .c (.int .i64 (0))), (3, .c (.int .i64 (0))), (4, .c (.int .i64 (1099511627777))), (5, .c (.int .i64 (0))), (6, .c (.int .i64 (0))), (7, .c (.int .i64 (0)))]⟩, ⟨some 7, none, .mov (.t 31)⟩])
 (.seq (.seq (.ops none [⟨some 8, none, .mov (.c (.int .i64 (0)))⟩])
 (.block 0 (.loop g25l0)))
 (.seq (.ops none [⟨some 53, none, .mov (.t 7)⟩, ⟨some 54, none, .mov (.t 1)⟩, ⟨some 55, none, .bin .mul (.c (.int .i64 (4))) (.t 54)⟩, ⟨some 56, none, .apz 3 1 8 [.int .i64 0] (.t 53) (.t 55)⟩, ⟨some 4, none, .mov (.t 56)⟩, ⟨some 5, none, .mov (.c (.int .i64 (0)))⟩])
 (.ret))))))))
/-- bellwether/bellwetherref11.Make -/
def g25 : AFn := { np := 2, nt := 57, res := [.t 4, .t 5], body := g25b }

def g26b : ACode :=
.seq (.ops none [⟨some 6, none, .mov (.c (.list 1 []))⟩, ⟨some 7, none, .mov (.c (.int .i64 (0)))⟩, ⟨some 8, none, .mov (.c (.int .i64 (0)))⟩])
 (.seq (.ops none [⟨some 11, none, .mov (.t 0)⟩, ⟨some 12, none, .apf 1 8 [.int .i64 0] (.t 11)⟩, ⟨some 9, none, .mov (.t 12)⟩])
 (.seq (.seq (.ops none [⟨some 13, none, .mov (.t 0)⟩, ⟨some 14, none, .calp 48 [.t 13]⟩, ⟨some 15, none, .notb (.t 14)⟩, ⟨some 16, none, .mov (.t 15)⟩, ⟨some 17, some (16, false), .mov (.t 1)⟩, ⟨some 18, some (16, false), .bin .lss (.t 17) (.c (.int .i64 (1)))⟩, ⟨some 19, none, .pick (.t 16) (.c (.bool true)) (.t 18)⟩, ⟨some 20, none, .mov (.t 19)⟩, ⟨some 21, some (20, false), .mov (.t 1)⟩, ⟨some 22, some (20, false), .bin .gtr (.t 21) (.c (.int .i64 (3)))⟩, ⟨some 23, none, .pick (.t 20) (.c (.bool true)) (.t 22)⟩, ⟨some 24, none, .mov (.t 23)⟩, ⟨some 25, some (24, false), .mov (.t 2)⟩, ⟨some 26, some (24, false), .calp 49 [.t 25]⟩, ⟨some 27, some (24, false), .notb (.t 26)⟩, ⟨some 28, none, .pick (.t 24) (.c (.bool true)) (.t 27)⟩])
 (.cond (.t 28) (.seq (.ops none [⟨some 29, none, .mov (.t 9)⟩, ⟨some 6, none, .mov (.t 29)⟩, ⟨some 7, none, .mov (.c (.int .i64 (0)))⟩, ⟨some 8, none, .mov (.c (.int .i64 (1)))⟩])
 (.ret)) (.skip)))
 (.seq (.ops none [⟨some 30, none, .mov (.t 0)⟩, ⟨some 31, none, .mov (.t 2)⟩, ⟨some 32, none, .calp 50 [.t 30, .t 31]⟩, ⟨some 10, none, .mov (.t 32)⟩])
 (.seq (.block 0 (.seq (.ops none [⟨some 34, none, .mov (.t 1)⟩, ⟨some 35, none, .bin .eql (.t 34) (.c (.int .i64 (1)))⟩, ⟨some 36, none, .mov (.t 35)⟩, ⟨some 37, some (36, true), .mov (.t 10)⟩, ⟨some 38, none, .pick (.t 36) (.t 37) (.c (.bool false))⟩, ⟨some 33, none, .mov (.t 38)⟩])
 (.cond (.t 33) (.seq (.ops none [⟨some 39, none, .mov (.t 9)⟩, ⟨some 6, none, .mov (.t 39)⟩, ⟨some 7, none, .mov (.c (.int .i64 (0)))⟩, ⟨some 8, none, .mov (.c (.int .i64 (0)))⟩])
 (.ret)) (.seq (.ops none [⟨some 41, none, .mov (.t 1)⟩, ⟨some 42, none, .bin .eql (.t 41) (.c (.int .i64 (1)))⟩, ⟨some 40, none, .mov (.t 42)⟩])
 (.cond (.t 40) (.seq (.seq (.ops none [⟨some 43, none, .mov (.t 0)⟩, ⟨some 44, none, .len (.t 43)⟩, ⟨some 45, none, .bin .geq (.t 44) (.c (.int .i64 (1000)))⟩])
 (.cond (.t 45) (.seq (.ops none [⟨some 46, none, .mov (.t 9)⟩, ⟨some 6, none, .mov (.t 46)⟩, ⟨some 7, none, .mov (.c (.int .i64 (0)))⟩, ⟨some 8, none, .mov (.c (.int .i64 (2)))⟩])
 (.ret)) (.skip)))
 (.seq (.ops none [⟨some 47, none, .mov (.t 0)⟩, ⟨some 48, none, .mov (.t 2)⟩, ⟨some 49, none, .calp 51 [.t 47, .t 48]⟩, ⟨some 6, none, .mov (.t 49)⟩, ⟨some 7, none, .mov (.c (.int .i64 (1)))⟩, ⟨some 8, none, .mov (.c (.int .i64 (0)))⟩])
 (.ret))) (.seq (.ops none [⟨some 51, none, .mov (.t 10)⟩, ⟨some 52, none, .mov (.t 51)⟩, ⟨some 53, some (52, true), .mov (.t 1)⟩, ⟨some 54, some (52, true), .bin .eql (.t 53) (.c (.int .i64 (2)))⟩, ⟨some 55, none, .pick (.t 52) (.t 54) (.c (.bool false))⟩, ⟨some 50, none, .mov (.t 55)⟩])
 (.cond (.t 50) (.seq (.ops none [⟨some 56, none, .mov (.t 0)⟩, ⟨some 57, none, .mov (.t 2)⟩, ⟨some 58, none, .calp 52 [.t 56, .t 57]⟩, ⟨some 6, none, .mov (.t 58)⟩, ⟨some 7, none, .mov (.c (.int .i64 (1)))⟩, ⟨some 8, none, .mov (.c (.int .i64 (0)))⟩])
 (.ret)) (.seq (.ops none [⟨some 60, none, .mov (.t 10)⟩, ⟨some 59, none, .mov (.t 60)⟩])
 (.cond (.t 59) (.seq (.ops none [⟨some 61, none, .mov (.t 9)⟩, ⟨some 6, none, .mov (.t 61)⟩, ⟨some 7, none, .mov (.c (.int .i64 (1)))⟩, ⟨some 8, none, .mov (.c (.int .i64 (0)))⟩])
 (.ret)) (.skip))))))))))
 (.seq (.ops none [⟨some 62, none, .mov (.t 9)⟩, ⟨some 6, none, .mov (.t 62)⟩, ⟨some 7, none, .mov (.c (.int .i64 (0)))⟩, ⟨some 8, none, .mov (.c (.int .i64 (0)))⟩])
 (.ret))))))
/-- bellwether/bellwetherref04.Do -/
def g26 : AFn := { np := 3, nt := 63, res := [.t 6, .t 7, .t 8], body := g26b }

def g27l0 : ACode :=
 .ghost (.renum [0, 4, 6, 7] [6]) (.seq (.seq (.ops none [⟨some 16, none, .mov (.t 7)⟩, ⟨some 17, none, .mov (.t 4)⟩, ⟨some 18, none, .len (.t 17)⟩, ⟨some 19, none, .bin .sub (.t 18) (.c (.int .i64 (1)))⟩, ⟨some 20, none, .bin .lss (.t 16) (.t 19)⟩])
 (.cond (.t 20) (.skip) (.exit 0)))
 (.seq (.block 1 (.seq (.ops none [⟨some 23, none, .mov (.t 0)⟩, ⟨some 24, none, .mov (.t 4)⟩, ⟨some 25, none, .mov (.t 7)⟩, ⟨some 26, none, .ixf 1 (.t 24) (.t 25)⟩, ⟨some 27, none, .ldf (.t 26) false 1⟩, ⟨some 28, none, .calp 18 [.t 23, .t 27, .c (.int .i64 (3))]⟩, ⟨some 29, none, .bin .eql (.t 28) (.c (.int .i64 (0)))⟩])
 (.cond (.t 29) (.ops none [⟨some 30, none, .mov (.t 6)⟩, ⟨some 31, none, .mov (.t 0)⟩, ⟨some 32, none, .mov (.t 4)⟩, ⟨some 33, none, .mov (.t 7)⟩, ⟨some 34, none, .ixf 1 (.t 32) (.t 33)⟩, ⟨some 35, none, .ldf (.t 34) false 1⟩, ⟨some 36, none, .calp 18 [.t 31, .t 35, .c (.int .i64 (0))]⟩, ⟨some 37, none, .bsl 1 [.int .i64 0] 1 [(0, .t 36)]⟩, ⟨some 38, none, .app 3 1 8 [.int .i64 0] (.t 30) (.t 37)⟩, ⟨some 6, none, .mov (.t 38)⟩]) (.skip))))
 (.ops none [⟨some 21, none, .mov (.t 7)⟩, ⟨some 22, none, .bin .add (.t 21) (.c (.int .i64 (1)))⟩, ⟨some 7, none, .mov (.t 22)⟩])))
def g27b : ACode :=
.seq (.ops none [⟨some 2, none, .mov (.c (.list 1 []))⟩, ⟨some 3, none, .mov (.c (.int .i64 (0)))⟩])
 (.seq (.ops none [⟨some 9, none, .mov (.t 0)⟩, ⟨some 10, none, .calp 53 [.t 9]⟩, ⟨some 8, none, .mov (.t 10)⟩, ⟨some 11, none, .ext (.t 8) 0⟩, ⟨some 12, none, .ext (.t 8) 1⟩, ⟨some 4, none, .mov (.t 11)⟩, ⟨some 5, none, .mov (.t 12)⟩])
 (.seq (.seq (.ops none [⟨some 13, none, .mov (.t 5)⟩, ⟨some 14, none, .bin .neq (.t 13) (.c (.int .i64 (0)))⟩])
 (.cond (.t 14) (.seq (.ops none [⟨some 15, none, .mov (.t 5)⟩, ⟨some 2, none, .mov (.c (.list 1 []))⟩, ⟨some 3, none, .mov (.t 15)⟩])
 (.ret)) (.skip)))
 (.seq (.ops none [⟨some 6, none, .nv 3 1⟩])
 (.seq (.seq (.ops none [⟨some 7, none, .mov (.c (.int .i64 (1)))⟩])
 (.block 0 (.loop g27l0)))
 (.seq (.ops none [⟨some 39, none, .mov (.t 6)⟩, ⟨some 2, none, .mov (.t 39)⟩, ⟨some 3, none, .mov (.c (.int .i64 (0)))⟩])
 (.ret))))))
/-- bellwether/bellwetherref11.Keys -/
def g27 : AFn := { np := 1, nt := 40, res := [.t 2, .t 3], body := g27b }

def g28l0 : ACode :=
 .ghost (.renum [0, 3, 5] []) (.seq (.seq (.ops none [⟨some 13, none, .mov (.t 5)⟩, ⟨some 14, none, .mov (.t 3)⟩, ⟨some 15, none, .len (.t 14)⟩, ⟨some 16, none, .bin .lss (.t 13) (.t 15)⟩])
 (.cond (.t 16) (.skip) (.exit 0)))
 (.seq (.block 1 (.seq (.ops (some [[], [], [], [1, 2], [1, 2, 3], [0, 1, 2, 3, 4], [0, 1, 2, 3, 4, 5], [0, 1, 2, 3, 4, 5, 6], [0, 1, 2, 3, 4, 5, 6, 7], [0, 1, 2, 3, 4, 5, 6, 7], [0, 1, 2, 3, 4, 5, 6, 7], [0, 1, 2, 3, 4, 5, 6, 7, 9, 10], [0, 1, 2, 3, 4, 5, 6, 7, 9, 10, 11], [0, 1, 2, 3, 4, 5, 6, 7, 8, 9, 10, 11, 12], [0, 1, 2, 3, 4, 5, 6, 7, 8, 9, 10, 11, 12, 13], [0, 1, 2, 3, 4, 5, 6, 7, 8, 9, 10, 11, 12, 13, 14], [0, 1, 2, 3, 4, 5, 6, 7, 8, 9, 10, 11, 12, 13, 14, 15], [0, 1, 2, 3, 4, 5, 6, 7, 8, 9, 10, 11, 12, 13, 14, 15, 16], [0, 1, 2, 3, 4, 5, 6, 7, 8, 9, 10, 11, 12, 13, 14, 15, 16, 17], [0, 1, 2, 3, 4, 5, 6, 7, 8, 9, 10, 11, 12, 13, 14, 15, 16, 17, 18], [0, 1, 2, 3, 4, 5, 6, 7, 8, 9, 10, 11, 12, 13, 14, 15, 16, 17, 18, 19], [0, 1, 2, 3, 4, 5, 6, 7, 8, 9, 10, 11, 12, 13, 14, 15, 16, 17, 18, 19], [0, 1, 2, 3, 4, 5, 6, 7, 8, 9, 10, 11, 12, 13, 14, 15, 16, 17, 18, 19], [0, 1, 2, 3, 4, 5, 6, 7, 8, 9, 10, 11, 12, 13, 14, 15, 16, 17, 18, 19, 21, 22], [0, 1, 2, 3, 4, 5, 6, 7, 8, 9, 10, 11, 12, 13, 14, 15, 16, 17, 18, 19, 21, 22, 23], [0, 1, 2, 3, 4, 5, 6, 7, 8, 9, 10, 11, 12, 13, 14, 15, 16, 17, 18, 19, 20, 21, 22, 23, 24], [0, 1, 2, 3, 4, 5, 6, 7, 8, 9, 10, 11, 12, 13, 14, 15, 16, 17, 18, 19], [0, 1, 2, 3, 4, 5, 6, 7, 8, 9, 10, 11, 12, 13, 14, 15, 16, 17, 18, 19], [0, 1, 2, 3, 4, 5, 6, 7, 8, 9, 10, 11, 12, 13, 14, 15, 16, 17, 18, 19], [0, 1, 2, 3, 4, 5, 6, 7, 8, 9, 10, 11, 12, 13, 14, 15, 16, 17, 18, 19, 28], [0, 1, 2, 3, 4, 5, 6, 7, 8, 9, 10, 11, 12, 13, 14, 15, 16, 17, 18, 19, 27, 28, 29], [0, 1, 2, 3, 4, 5, 6, 7, 8, 9, 10, 11, 12, 13, 14, 15, 16, 17, 18, 19, 27, 28, 29, 30], [0, 1, 2, 3, 4, 5, 6, 7, 8, 9, 10, 11, 12, 13, 14, 15, 16, 17, 18, 19, 20, 21, 22, 23, 24, 25, 26, 27, 28, 29, 30, 31], [0, 1, 2, 3, 4, 5, 6, 7, 8, 9, 10, 11, 12, 13, 14, 15, 16, 17, 18, 19, 20, 21, 22, 23, 24, 25, 26, 27, 28, 29, 30, 31, 32], [0, 1, 2, 3, 4, 5, 6, 7, 8, 9, 10, 11, 12, 13, 14, 15, 16, 17, 18, 19, 20, 21, 22, 23, 24, 25, 26, 27, 28, 29, 30, 31, 32, 33], [0, 1, 2, 3, 4, 5, 6, 7, 8, 9, 10, 11, 12, 13, 14, 15, 16, 17, 18, 19, 20, 21, 22, 23, 24, 25, 26, 27, 28, 29, 30, 31, 32, 33, 34]]) [⟨some 19, none, .mov (.t 0)⟩, ⟨some 20, none, .mov (.t 3)⟩, ⟨some 21, none, .mov (.t 5)⟩, ⟨some 22, none, .ixf 1 (.t 20) (.t 21)⟩, ⟨some 23, none, .ldf (.t 22) false 1⟩, ⟨some 24, none, .calp 18 [.t 19, .t 23, .c (.int .i64 (2))]⟩, ⟨some 25, none, .bin .neq (.t 24) (.c (.int .i64 (0)))⟩, ⟨some 26, none, .mov (.t 25)⟩, ⟨some 27, some (26, false), .mov (.t 0)⟩, ⟨some 28, some (26, false), .mov (.t 3)⟩, ⟨some 29, some (26, false), .mov (.t 5)⟩, ⟨some 30, some (26, false), .ixf 1 (.t 28) (.t 29)⟩, ⟨some 31, some (26, false), .ldf (.t 30) false 1⟩, ⟨some 32, some (26, false), .calp 18 [.t 27, .t 31, .c (.int .i64 (3))]⟩, ⟨some 33, some (26, false), .bin .neq (.t 32) (.c (.int .i64 (0)))⟩, ⟨some 34, none, .pick (.t 26) (.c (.bool true)) (.t 33)⟩, ⟨some 35, none, .mov (.t 34)⟩, ⟨some 36, some (35, false), .mov (.t 5)⟩, ⟨some 37, some (35, false), .bin .gtr (.t 36) (.c (.int .i64 (0)))⟩, ⟨some 38, some (35, false), .mov (.t 37)⟩, ⟨some 39, some (38, true), .mov (.t 0)⟩, ⟨some 40, some (38, true), .mov (.t 3)⟩, ⟨some 41, some (38, true), .mov (.t 5)⟩, ⟨some 42, some (38, true), .ixf 1 (.t 40) (.t 41)⟩, ⟨some 43, some (38, true), .ldf (.t 42) false 1⟩, ⟨some 44, some (38, true), .calp 18 [.t 39, .t 43, .c (.int .i64 (0))]⟩, ⟨some 45, some (38, true), .mov (.t 0)⟩, ⟨some 46, some (38, true), .mov (.t 3)⟩, ⟨some 47, some (38, true), .mov (.t 5)⟩, ⟨some 48, some (38, true), .bin .sub (.t 47) (.c (.int .i64 (1)))⟩, ⟨some 49, some (38, true), .ixf 1 (.t 46) (.t 48)⟩, ⟨some 50, some (38, true), .ldf (.t 49) false 1⟩, ⟨some 51, some (38, true), .calp 18 [.t 45, .t 50, .c (.int .i64 (0))]⟩, ⟨some 52, some (38, true), .bin .leq (.t 44) (.t 51)⟩, ⟨some 53, some (35, false), .pick (.t 38) (.t 52) (.c (.bool false))⟩, ⟨some 54, none, .pick (.t 35) (.c (.bool true)) (.t 53)⟩])
 (.cond (.t 54) (.seq (.ops none [⟨some 2, none, .mov (.c (.bool false))⟩])
 (.ret)) (.skip))))
 (.ops none [⟨some 17, none, .mov (.t 5)⟩, ⟨some 18, none, .bin .add (.t 17) (.c (.int .i64 (1)))⟩, ⟨some 5, none, .mov (.t 18)⟩])))
def g28b : ACode :=
.seq (.ops none [⟨some 2, none, .mov (.c (.bool false))⟩])
 (.seq (.ops none [⟨some 7, none, .mov (.t 0)⟩, ⟨some 8, none, .calp 53 [.t 7]⟩, ⟨some 6, none, .mov (.t 8)⟩, ⟨some 9, none, .ext (.t 6) 0⟩, ⟨some 10, none, .ext (.t 6) 1⟩, ⟨some 3, none, .mov (.t 9)⟩, ⟨some 4, none, .mov (.t 10)⟩])
 (.seq (.seq (.ops none [⟨some 11, none, .mov (.t 4)⟩, ⟨some 12, none, .bin .neq (.t 11) (.c (.int .i64 (0)))⟩])
 (.cond (.t 12) (.seq (.ops none [⟨some 2, none, .mov (.c (.bool false))⟩])
 (.ret)) (.skip)))
 (.seq (.seq (.ops none [⟨some 5, none, .mov (.c (.int .i64 (0)))⟩])
 (.block 0 (.loop g28l0)))
 (.seq (.ops none [⟨some 2, none, .mov (.c (.bool true))⟩])
 (.ret)))))
/-- bellwether/bellwetherref11.Still -/
def g28 : AFn := { np := 1, nt := 55, res := [.t 2], body := g28b }

def g29l0 : ACode :=
 .ghost (.renum [0, 1, 7, 9] []) (.seq (.seq (.ops none [⟨some 24, none, .mov (.t 0)⟩, ⟨some 25, none, .mov (.t 7)⟩, ⟨some 26, none, .mov (.t 9)⟩, ⟨some 27, none, .ixf 1 (.t 25) (.t 26)⟩, ⟨some 28, none, .ldf (.t 27) false 1⟩, ⟨some 29, none, .calp 18 [.t 24, .t 28, .c (.int .i64 (0))]⟩, ⟨some 30, none, .mov (.t 1)⟩, ⟨some 31, none, .bin .lss (.t 29) (.t 30)⟩])
 (.cond (.t 31) (.skip) (.exit 0)))
 (.block 1 (.ops none [⟨some 32, none, .mov (.t 9)⟩, ⟨some 33, none, .bin .add (.t 32) (.c (.int .i64 (1)))⟩, ⟨some 9, none, .mov (.t 33)⟩])))
def g29b : ACode :=
.seq (.ops none [⟨some 4, none, .mov (.c (.int .i64 (0)))⟩, ⟨some 5, none, .mov (.c (.int .i64 (0)))⟩, ⟨some 6, none, .mov (.c (.int .i64 (0)))⟩])
 (.seq (.ops none [⟨some 11, none, .mov (.t 0)⟩, ⟨some 12, none, .calp 53 [.t 11]⟩, ⟨some 10, none, .mov (.t 12)⟩, ⟨some 13, none, .ext (.t 10) 0⟩, ⟨some 14, none, .ext (.t 10) 1⟩, ⟨some 7, none, .mov (.t 13)⟩, ⟨some 8, none, .mov (.t 14)⟩])
 (.seq (.seq (.ops none [⟨some 15, none, .mov (.t 8)⟩, ⟨some 16, none, .bin .neq (.t 15) (.c (.int .i64 (0)))⟩])
 (.cond (.t 16) (.seq (.ops none [⟨some 17, none, .mov (.t 8)⟩, ⟨some 4, none, .mov (.c (.int .i64 (0)))⟩, ⟨some 5, none, .mov (.c (.int .i64 (0)))⟩, ⟨some 6, none, .mov (.t 17)⟩])
 (.ret)) (.skip)))
 (.seq (.seq (.ops none [⟨some 18, none, .mov (.t 1)⟩, ⟨some 19, none, .bin .lss (.t 18) (.c (.int .i64 (-1099511627776)))⟩, ⟨some 20, none, .mov (.t 19)⟩, ⟨some 21, some (20, false), .mov (.t 1)⟩, ⟨some 22, some (20, false), .bin .gtr (.t 21) (.c (.int .i64 (1099511627776)))⟩, ⟨some 23, none, .pick (.t 20) (.c (.bool true)) (.t 22)⟩])
 (.cond (.t 23) (.seq (.ops none [⟨some 4, none, .mov (.c (.int .i64 (0)))⟩, ⟨some 5, none, .mov (.c (.int .i64 (0)))⟩, ⟨some 6, none, .mov (.c (.int .i64 (1)))⟩])
 (.ret)) (.skip)))
 (.seq (.ops none [⟨some 9, none, .mov (.c (.int .i64 (1)))⟩])
 (.seq (.block 0 (.loop g29l0))
 (.seq (.ops (some [[], [], [1], [0, 1, 2], [0, 1, 2, 3], [], [], [5, 6], [5, 6, 7], [0, 1, 2, 3, 4], [0, 1, 2, 3, 4, 5, 6, 7, 8, 9], [0, 1, 2, 3, 4, 5, 6, 7, 8, 9, 10]]) [⟨some 34, none, .mov (.t 7)⟩, ⟨some 35, none, .mov (.t 9)⟩, ⟨some 36, none, .bin .sub (.t 35) (.c (.int .i64 (1)))⟩, ⟨some 37, none, .ixf 1 (.t 34) (.t 36)⟩, ⟨some 38, none, .ldf (.t 37) false 1⟩, ⟨some 39, none, .mov (.t 7)⟩, ⟨some 40, none, .mov (.t 9)⟩, ⟨some 41, none, .ixf 1 (.t 39) (.t 40)⟩, ⟨some 42, none, .ldf (.t 41) false 1⟩, ⟨some 4, none, .mov (.t 38)⟩, ⟨some 5, none, .mov (.t 42)⟩, ⟨some 6, none, .mov (.c (.int .i64 (0)))⟩])
 (.ret)))))))
/-- bellwether/bellwetherref11.Place -/
def g29 : AFn := { np := 2, nt := 43, res := [.t 4, .t 5, .t 6], body := g29b }

def g39b : ACode :=
.seq (.ops none [⟨some 4, none, .mov (.c (.int .i64 (0)))⟩])
 (.seq (.seq (.ops none [⟨some 5, none, .mov (.t 0)⟩, ⟨some 6, none, .bin .lss (.t 5) (.c (.int .i64 (0)))⟩])
 (.cond (.t 6) (.ops none [⟨some 7, none, .mov (.t 0)⟩, ⟨some 8, none, .bin .add (.t 7) (.c (.int .i64 (1)))⟩, ⟨some 9, none, .neg (.t 8)⟩, ⟨some 0, none, .mov (.t 9)⟩]) (.skip)))
 (.seq (.ops none [⟨some 10, none, .mov (.t 0)⟩, ⟨some 11, none, .mov (.t 1)⟩, ⟨some 12, none, .bin .rem (.t 10) (.t 11)⟩, ⟨some 4, none, .mov (.t 12)⟩])
 (.ret)))
/-- bellwether/bellwetherlaw11.pick -/
def g39 : AFn := { np := 2, nt := 13, res := [.t 4], body := g39b }

def g40b : ACode :=
.seq (.ops none [⟨some 2, none, .mov (.c (.bool false))⟩])
 (.seq (.seq (.ops none [⟨some 3, none, .mov (.t 0)⟩, ⟨some 4, none, .calr 60 [.t 3]⟩])
 (.cond (.t 4) (.seq (.ops none [⟨some 2, none, .mov (.c (.bool true))⟩])
 (.ret)) (.skip)))
 (.seq (.seq (.ops none [⟨some 5, none, .mov (.t 0)⟩, ⟨some 6, none, .nilc (.t 5)⟩, ⟨some 7, none, .fad (.t 6) 0⟩, ⟨some 8, none, .fad (.t 7) 0⟩, ⟨some 9, none, .ldv (.t 8) false 1⟩])
 (.block 0 (.seq (.ops none [⟨some 11, none, .bin .eql (.t 9) (.c (.int .i64 (3)))⟩, ⟨some 10, none, .mov (.t 11)⟩])
 (.cond (.t 10) (.seq (.ops none [⟨some 12, none, .mov (.t 0)⟩, ⟨some 13, none, .calr 61 [.t 12]⟩, ⟨some 2, none, .mov (.t 13)⟩])
 (.ret)) (.seq (.ops none [⟨some 15, none, .bin .eql (.t 9) (.c (.int .i64 (1)))⟩, ⟨some 14, none, .mov (.t 15)⟩])
 (.cond (.t 14) (.seq (.ops none [⟨some 16, none, .mov (.t 0)⟩, ⟨some 17, none, .calr 62 [.t 16]⟩, ⟨some 18, none, .mov (.t 17)⟩, ⟨some 19, some (18, false), .mov (.t 0)⟩, ⟨some 20, some (18, false), .calr 63 [.t 19]⟩, ⟨some 21, none, .pick (.t 18) (.c (.bool true)) (.t 20)⟩, ⟨some 2, none, .mov (.t 21)⟩])
 (.ret)) (.seq (.ops none [⟨some 23, none, .bin .eql (.t 9) (.c (.int .i64 (2)))⟩, ⟨some 22, none, .mov (.t 23)⟩])
 (.cond (.t 22) (.seq (.ops none [⟨some 24, none, .mov (.t 0)⟩, ⟨some 25, none, .calr 62 [.t 24]⟩, ⟨some 26, none, .mov (.t 25)⟩, ⟨some 27, some (26, false), .mov (.t 0)⟩, ⟨some 28, some (26, false), .calr 64 [.t 27]⟩, ⟨some 29, none, .pick (.t 26) (.c (.bool true)) (.t 28)⟩, ⟨some 2, none, .mov (.t 29)⟩])
 (.ret)) (.skip)))))))))
 (.seq (.ops none [⟨some 2, none, .mov (.c (.bool false))⟩])
 (.ret))))
/-- (*bellwether/lazy.hand).step -/
def g40 : AFn := { np := 1, nt := 30, res := [.t 2], body := g40b }

def g42b : ACode :=
.seq (.ops none [⟨some 3, none, .boxf 14 (.t 1)⟩, ⟨some 4, none, .new 77 [.int .i64 0, .int .i64 0, .int .i64 0, .int .i64 0]⟩, ⟨some 5, none, .mov (.c (.bool false))⟩])
 (.seq (.ops none [⟨some 9, none, .fad (.t 3) 2⟩, ⟨some 10, none, .ldf (.t 9) true 10⟩, ⟨some 6, none, .new 23 [.int .i64 0, .int .i64 0, .int .i64 0, .int .i64 0, .int .i64 0, .int .i64 0, .int .i64 0, .int .i64 0, .int .i64 0, .int .i64 0]⟩, ⟨none, none, .st (.t 6) (.t 10) 10⟩])
 (.seq (.ops none [⟨some 11, none, .mov (.t 0)⟩, ⟨some 12, none, .ldf (.t 3) true 14⟩, ⟨some 13, none, .calp 65 [.t 11, .t 12]⟩, ⟨some 7, none, .new 77 [.int .i64 0, .int .i64 0, .int .i64 0, .int .i64 0]⟩, ⟨none, none, .st (.t 7) (.t 13) 4⟩])
 (.seq (.seq (.ops none [⟨some 14, none, .fad (.t 7) 0⟩, ⟨some 15, none, .ldv (.t 14) false 1⟩, ⟨some 16, none, .bin .neq (.t 15) (.c (.int .i64 (0)))⟩])
 (.cond (.t 16) (.seq (.ops none [⟨some 17, none, .ldv (.t 7) true 4⟩, ⟨none, none, .st (.t 4) (.t 17) 4⟩, ⟨some 5, none, .mov (.c (.bool true))⟩])
 (.ret)) (.skip)))
 (.seq (.seq (.ops none [⟨some 18, none, .fad (.t 3) 0⟩, ⟨some 19, none, .ldf (.t 18) false 1⟩, ⟨some 20, none, .bin .eql (.t 19) (.c (.int .i64 (3)))⟩])
 (.cond (.t 20) (.seq (.ops (some [[], [], [1], [0, 1, 2], [0, 1, 2, 3], [], [5], [5, 6], [0, 1, 2, 3, 4], [0, 1, 2, 3, 4, 5, 6, 7, 8]]) [⟨some 21, none, .mov (.t 0)⟩, ⟨some 22, none, .aix (.t 6) (.c (.int .i64 (2))) 10 1⟩, ⟨some 23, none, .ldv (.t 22) false 1⟩, ⟨some 24, none, .calp 66 [.t 21, .t 23, .c (.int .i64 (3))]⟩, ⟨some 25, none, .build [.int .i64 0, .int .i64 0, .int .i64 0, .int .i64 0] [(0, 1, .c (.int .i64 (1))), (1, 1, .t 24)]⟩, ⟨some 26, none, .fad (.t 3) 1⟩, ⟨some 27, none, .ldf (.t 26) false 1⟩, ⟨some 28, none, .bin .eql (.t 27) (.c (.int .i64 (3)))⟩, ⟨none, none, .st (.t 4) (.t 25) 4⟩, ⟨some 5, none, .mov (.t 28)⟩])
 (.ret)) (.skip)))
 (.seq (.ops none [⟨some 29, none, .fad (.t 3) 0⟩, ⟨some 30, none, .ldf (.t 29) false 1⟩, ⟨some 31, none, .bin .eql (.t 30) (.c (.int .i64 (1)))⟩, ⟨some 8, none, .mov (.t 31)⟩])
 (.seq (.seq (.ops none [⟨some 32, none, .fad (.t 3) 1⟩, ⟨some 33, none, .ldf (.t 32) false 1⟩])
 (.block 0 (.seq (.ops none [⟨some 35, none, .bin .eql (.t 33) (.c (.int .i64 (10)))⟩, ⟨some 34, none, .mov (.t 35)⟩])
 (.cond (.t 34) (.seq (.ops (some [[], [], [1], [0, 1, 2], [], [4], [0, 1, 2, 3, 4, 5], [0, 1, 2, 3, 4, 5, 6], [0, 1, 2, 3, 4, 5, 6, 7]]) [⟨some 36, none, .mov (.t 0)⟩, ⟨some 37, none, .aix (.t 6) (.c (.int .i64 (1))) 10 1⟩, ⟨some 38, none, .ldv (.t 37) false 1⟩, ⟨some 39, none, .calp 66 [.t 36, .t 38, .c (.int .i64 (2))]⟩, ⟨some 40, none, .aix (.t 6) (.c (.int .i64 (4))) 10 1⟩, ⟨some 41, none, .ldv (.t 40) false 1⟩, ⟨some 42, none, .build [.int .i64 0, .int .i64 0, .int .i64 0, .int .i64 0] [(0, 1, .c (.int .i64 (3))), (1, 1, .t 39), (3, 1, .t 41)]⟩, ⟨none, none, .st (.t 4) (.t 42) 4⟩, ⟨some 5, none, .mov (.c (.bool true))⟩])
 (.ret)) (.seq (.ops none [⟨some 44, none, .bin .eql (.t 33) (.c (.int .i64 (11)))⟩, ⟨some 43, none, .mov (.t 44)⟩])
 (.cond (.t 43) (.seq (.ops (some [[], [], [1], [0, 1, 2], [], [4], [0, 1, 2, 3, 4, 5], [0, 1, 2, 3, 4, 5, 6], [0, 1, 2, 3, 4, 5, 6, 7]]) [⟨some 45, none, .mov (.t 0)⟩, ⟨some 46, none, .aix (.t 6) (.c (.int .i64 (2))) 10 1⟩, ⟨some 47, none, .ldv (.t 46) false 1⟩, ⟨some 48, none, .calp 66 [.t 45, .t 47, .c (.int .i64 (2))]⟩, ⟨some 49, none, .aix (.t 6) (.c (.int .i64 (4))) 10 1⟩, ⟨some 50, none, .ldv (.t 49) false 1⟩, ⟨some 51, none, .build [.int .i64 0, .int .i64 0, .int .i64 0, .int .i64 0] [(0, 1, .c (.int .i64 (3))), (1, 1, .t 48), (3, 1, .t 50)]⟩, ⟨none, none, .st (.t 4) (.t 51) 4⟩, ⟨some 5, none, .mov (.c (.bool true))⟩])
 (.ret)) (.seq (.ops none [⟨some 53, none, .bin .eql (.t 33) (.c (.int .i64 (12)))⟩, ⟨some 52, none, .mov (.t 53)⟩])
 (.cond (.t 52) (.seq (.ops none [⟨some 54, none, .mov (.t 0)⟩, ⟨some 55, none, .aix (.t 6) (.c (.int .i64 (1))) 10 1⟩, ⟨some 56, none, .ldv (.t 55) false 1⟩, ⟨some 57, none, .calp 66 [.t 54, .t 56, .c (.int .i64 (3))]⟩, ⟨some 58, none, .build [.int .i64 0, .int .i64 0, .int .i64 0, .int .i64 0] [(0, 1, .c (.int .i64 (1))), (1, 1, .t 57)]⟩, ⟨none, none, .st (.t 4) (.t 58) 4⟩, ⟨some 5, none, .mov (.c (.bool true))⟩])
 (.ret)) (.seq (.ops none [⟨some 60, none, .bin .eql (.t 33) (.c (.int .i64 (13)))⟩, ⟨some 59, none, .mov (.t 60)⟩])
 (.cond (.t 59) (.seq (.ops none [⟨some 61, none, .mov (.t 0)⟩, ⟨some 62, none, .aix (.t 6) (.c (.int .i64 (2))) 10 1⟩, ⟨some 63, none, .ldv (.t 62) false 1⟩, ⟨some 64, none, .calp 66 [.t 61, .t 63, .c (.int .i64 (3))]⟩, ⟨some 65, none, .build [.int .i64 0, .int .i64 0, .int .i64 0, .int .i64 0] [(0, 1, .c (.int .i64 (1))), (1, 1, .t 64)]⟩, ⟨none, none, .st (.t 4) (.t 65) 4⟩, ⟨some 5, none, .mov (.c (.bool true))⟩])
 (.ret)) (.seq (.ops none [⟨some 67, none, .bin .eql (.t 33) (.c (.int .i64 (14)))⟩, ⟨some 66, none, .mov (.t 67)⟩])
 (.cond (.t 66) (.seq (.ops none [⟨some 68, none, .mov (.t 0)⟩, ⟨some 69, none, .aix (.t 6) (.c (.int .i64 (1))) 10 1⟩, ⟨some 70, none, .ldv (.t 69) false 1⟩, ⟨some 71, none, .calp 66 [.t 68, .t 70, .c (.int .i64 (1))]⟩, ⟨some 72, none, .build [.int .i64 0, .int .i64 0, .int .i64 0, .int .i64 0] [(0, 1, .c (.int .i64 (1))), (1, 1, .t 71)]⟩, ⟨none, none, .st (.t 4) (.t 72) 4⟩, ⟨some 5, none, .mov (.c (.bool true))⟩])
 (.ret)) (.seq (.ops none [⟨some 74, none, .bin .eql (.t 33) (.c (.int .i64 (15)))⟩, ⟨some 73, none, .mov (.t 74)⟩])
 (.cond (.t 73) (.seq (.ops (some [[], [], [1], [0, 1, 2], [], [4], [0, 1, 2, 3, 4, 5], [], [0, 1, 2, 3, 4, 5, 6], [0, 1, 2, 3, 4, 5, 6, 7, 8]]) [⟨some 75, none, .mov (.t 0)⟩, ⟨some 76, none, .aix (.t 6) (.c (.int .i64 (3))) 10 1⟩, ⟨some 77, none, .ldv (.t 76) false 1⟩, ⟨some 78, none, .calp 66 [.t 75, .t 77, .c (.int .i64 (0))]⟩, ⟨some 79, none, .aix (.t 6) (.c (.int .i64 (0))) 10 1⟩, ⟨some 80, none, .ldv (.t 79) false 1⟩, ⟨some 81, none, .build [.int .i64 0, .int .i64 0, .int .i64 0, .int .i64 0] [(0, 1, .c (.int .i64 (2))), (1, 1, .t 78), (3, 1, .t 80)]⟩, ⟨some 82, none, .mov (.t 8)⟩, ⟨none, none, .st (.t 4) (.t 81) 4⟩, ⟨some 5, none, .mov (.t 82)⟩])
 (.ret)) (.seq (.ops none [⟨some 84, none, .bin .eql (.t 33) (.c (.int .i64 (16)))⟩, ⟨some 83, none, .mov (.t 84)⟩])
 (.cond (.t 83) (.seq (.ops (some [[], [], [1], [0, 1, 2], [], [4], [0, 1, 2, 3, 4, 5], [], [0, 1, 2, 3, 4, 5, 6], [0, 1, 2, 3, 4, 5, 6, 7, 8]]) [⟨some 85, none, .mov (.t 0)⟩, ⟨some 86, none, .aix (.t 6) (.c (.int .i64 (3))) 10 1⟩, ⟨some 87, none, .ldv (.t 86) false 1⟩, ⟨some 88, none, .calp 66 [.t 85, .t 87, .c (.int .i64 (1))]⟩, ⟨some 89, none, .aix (.t 6) (.c (.int .i64 (2))) 10 1⟩, ⟨some 90, none, .ldv (.t 89) false 1⟩, ⟨some 91, none, .build [.int .i64 0, .int .i64 0, .int .i64 0, .int .i64 0] [(0, 1, .c (.int .i64 (2))), (1, 1, .t 88), (3, 1, .t 90)]⟩, ⟨some 92, none, .mov (.t 8)⟩, ⟨none, none, .st (.t 4) (.t 91) 4⟩, ⟨some 5, none, .mov (.t 92)⟩])
 (.ret)) (.seq (.ops none [⟨some 94, none, .bin .eql (.t 33) (.c (.int .i64 (17)))⟩, ⟨some 93, none, .mov (.t 94)⟩])
 (.cond (.t 93) (.seq (.ops none [⟨some 95, none, .mov (.t 0)⟩, ⟨some 96, none, .aix (.t 6) (.c (.int .i64 (2))) 10 1⟩, ⟨some 97, none, .ldv (.t 96) false 1⟩, ⟨some 98, none, .calp 66 [.t 95, .t 97, .c (.int .i64 (3))]⟩, ⟨some 99, none, .build [.int .i64 0, .int .i64 0, .int .i64 0, .int .i64 0] [(0, 1, .c (.int .i64 (2))), (1, 1, .t 98), (3, 1, .c (.int .i64 (1)))]⟩, ⟨some 100, none, .mov (.t 8)⟩, ⟨some 101, none, .notb (.t 100)⟩, ⟨none, none, .st (.t 4) (.t 99) 4⟩, ⟨some 5, none, .mov (.t 101)⟩])
 (.ret)) (.seq (.ops none [⟨some 103, none, .bin .eql (.t 33) (.c (.int .i64 (18)))⟩, ⟨some 102, none, .mov (.t 103)⟩])
 (.cond (.t 102) (.seq (.ops (some [[], [], [1], [0, 1, 2], [], [4], [0, 1, 2, 3, 4, 5], [], [0, 1, 2, 3, 4, 5, 6], [0, 1, 2, 3, 4, 5, 6, 7, 8]]) [⟨some 104, none, .mov (.t 0)⟩, ⟨some 105, none, .aix (.t 6) (.c (.int .i64 (1))) 10 1⟩, ⟨some 106, none, .ldv (.t 105) false 1⟩, ⟨some 107, none, .calp 66 [.t 104, .t 106, .c (.int .i64 (1))]⟩, ⟨some 108, none, .aix (.t 6) (.c (.int .i64 (3))) 10 1⟩, ⟨some 109, none, .ldv (.t 108) false 1⟩, ⟨some 110, none, .build [.int .i64 0, .int .i64 0, .int .i64 0, .int .i64 0] [(0, 1, .c (.int .i64 (2))), (1, 1, .t 107), (3, 1, .t 109)]⟩, ⟨some 111, none, .mov (.t 8)⟩, ⟨none, none, .st (.t 4) (.t 110) 4⟩, ⟨some 5, none, .mov (.t 111)⟩])
 (.ret)) (.seq (.ops none [⟨some 113, none, .bin .eql (.t 33) (.c (.int .i64 (19)))⟩, ⟨some 112, none, .mov (.t 113)⟩])
 (.cond (.t 112) (.seq (.ops none [⟨some 114, none, .mov (.t 0)⟩, ⟨some 115, none, .aix (.t 6) (.c (.int .i64 (2))) 10 1⟩, ⟨some 116, none, .ldv (.t 115) false 1⟩, ⟨some 117, none, .calp 66 [.t 114, .t 116, .c (.int .i64 (1))]⟩, ⟨some 118, none, .build [.int .i64 0, .int .i64 0, .int .i64 0, .int .i64 0] [(0, 1, .c (.int .i64 (1))), (1, 1, .t 117)]⟩, ⟨some 119, none, .mov (.t 8)⟩, ⟨some 120, none, .notb (.t 119)⟩, ⟨none, none, .st (.t 4) (.t 118) 4⟩, ⟨some 5, none, .mov (.t 120)⟩])
 (.ret)) (.seq (.ops none [⟨some 122, none, .bin .eql (.t 33) (.c (.int .i64 (20)))⟩, ⟨some 121, none, .mov (.t 122)⟩])
 (.cond (.t 121) (.seq (.ops none [⟨some 123, none, .mov (.t 0)⟩, ⟨some 124, none, .aix (.t 6) (.c (.int .i64 (2))) 10 1⟩, ⟨some 125, none, .ldv (.t 124) false 1⟩, ⟨some 126, none, .calp 66 [.t 123, .t 125, .c (.int .i64 (2))]⟩, ⟨some 127, none, .build [.int .i64 0, .int .i64 0, .int .i64 0, .int .i64 0] [(0, 1, .c (.int .i64 (2))), (1, 1, .t 126)]⟩, ⟨none, none, .st (.t 4) (.t 127) 4⟩, ⟨some 5, none, .mov (.c (.bool true))⟩])
 (.ret)) (.seq (.ops none [⟨some 129, none, .bin .eql (.t 33) (.c (.int .i64 (21)))⟩, ⟨some 128, none, .mov (.t 129)⟩])
 (.cond (.t 128) (.seq (.ops none [⟨some 130, none, .mov (.t 0)⟩, ⟨some 131, none, .aix (.t 6) (.c (.int .i64 (1))) 10 1⟩, ⟨some 132, none, .ldv (.t 131) false 1⟩, ⟨some 133, none, .calp 66 [.t 130, .t 132, .c (.int .i64 (2))]⟩, ⟨some 134, none, .build [.int .i64 0, .int .i64 0, .int .i64 0, .int .i64 0] [(0, 1, .c (.int .i64 (2))), (1, 1, .t 133)]⟩, ⟨none, none, .st (.t 4) (.t 134) 4⟩, ⟨some 5, none, .mov (.c (.bool true))⟩])
 (.ret)) (.seq (.ops none [⟨some 136, none, .bin .eql (.t 33) (.c (.int .i64 (22)))⟩, ⟨some 135, none, .mov (.t 136)⟩])
 (.cond (.t 135) (.seq (.ops (some [[], [], [1], [0, 1, 2], [], [4], [0, 1, 2, 3, 4, 5], [], [7], [0, 1, 2, 3, 4, 5, 6], [0, 1, 2, 3, 4, 5, 6, 7, 8, 9]]) [⟨some 137, none, .mov (.t 0)⟩, ⟨some 138, none, .aix (.t 6) (.c (.int .i64 (1))) 10 1⟩, ⟨some 139, none, .ldv (.t 138) false 1⟩, ⟨some 140, none, .calp 66 [.t 137, .t 139, .c (.int .i64 (1))]⟩, ⟨some 141, none, .aix (.t 6) (.c (.int .i64 (6))) 10 1⟩, ⟨some 142, none, .ldv (.t 141) false 1⟩, ⟨some 143, none, .build [.int .i64 0, .int .i64 0, .int .i64 0, .int .i64 0] [(0, 1, .c (.int .i64 (2))), (1, 1, .t 140), (3, 1, .t 142)]⟩, ⟨some 144, none, .mov (.t 8)⟩, ⟨some 145, none, .notb (.t 144)⟩, ⟨none, none, .st (.t 4) (.t 143) 4⟩, ⟨some 5, none, .mov (.t 145)⟩])
 (.ret)) (.skip)))))))))))))))))))))))))))))
 (.seq (.ops none [⟨some 146, none, .build [.int .i64 0, .int .i64 0, .int .i64 0, .int .i64 0] []⟩, ⟨none, none, .st (.t 4) (.t 146) 4⟩, ⟨some 5, none, .mov (.c (.bool false))⟩])
 (.ret))))))))
/-- bellwether/bellwetherref12.access -/
def g42 : AFn := { np := 2, nt := 147, res := [.cell 4 true 4, .t 5], body := g42b }

def g43b : ACode :=
.seq (.ops none [⟨some 3, none, .boxf 4 (.t 1)⟩, ⟨some 4, none, .mov (.c (.list 1 []))⟩, ⟨some 5, none, .new 81 [.int .i64 0, .bool false]⟩, ⟨some 6, none, .mov (.c (.int .i64 (0)))⟩])
 (.seq (.ops none [⟨some 10, none, .mov (.t 0)⟩, ⟨some 11, none, .apn 3 1 8 [.int .i64 0] (.t 10)⟩, ⟨some 7, none, .mov (.t 11)⟩])
 (.seq (.seq (.ops none [⟨some 12, none, .mov (.t 0)⟩, ⟨some 13, none, .len (.t 12)⟩, ⟨some 14, none, .bin .gtr (.t 13) (.c (.int .i64 (50000)))⟩])
 (.cond (.t 14) (.seq (.ops none [⟨some 15, none, .mov (.t 7)⟩, ⟨some 16, none, .build [.int .i64 0, .bool false] []⟩, ⟨some 4, none, .mov (.t 15)⟩, ⟨none, none, .st (.t 5) (.t 16) 2⟩, ⟨some 6, none, .mov (.c (.int .i64 (2)))⟩])
 (.ret)) (.skip)))
 (.seq (.seq (.ops none [⟨some 17, none, .fad (.t 3) 0⟩, ⟨some 18, none, .ldf (.t 17) false 1⟩, ⟨some 19, none, .bin .lss (.t 18) (.c (.int .i64 (1)))⟩, ⟨some 20, none, .mov (.t 19)⟩, ⟨some 21, some (20, false), .fad (.t 3) 0⟩, ⟨some 22, some (20, false), .ldf (.t 21) false 1⟩, ⟨some 23, some (20, false), .bin .gtr (.t 22) (.c (.int .i64 (4)))⟩, ⟨some 24, none, .pick (.t 20) (.c (.bool true)) (.t 23)⟩])
 (.cond (.t 24) (.seq (.ops none [⟨some 25, none, .mov (.t 7)⟩, ⟨some 26, none, .build [.int .i64 0, .bool false] []⟩, ⟨some 4, none, .mov (.t 25)⟩, ⟨none, none, .st (.t 5) (.t 26) 2⟩, ⟨some 6, none, .mov (.c (.int .i64 (1)))⟩])
 (.ret)) (.skip)))
 (.seq (.seq (.ops none [⟨some 27, none, .fad (.t 3) 1⟩, ⟨some 28, none, .ldf (.t 27) false 1⟩, ⟨some 29, none, .bin .lss (.t 28) (.c (.int .i64 (0)))⟩, ⟨some 30, none, .mov (.t 29)⟩, ⟨some 31, some (30, false), .fad (.t 3) 1⟩, ⟨some 32, some (30, false), .ldf (.t 31) false 1⟩, ⟨some 33, some (30, false), .mov (.t 0)⟩, ⟨some 34, some (30, false), .len (.t 33)⟩, ⟨some 35, some (30, false), .bin .geq (.t 32) (.t 34)⟩, ⟨some 36, none, .pick (.t 30) (.c (.bool true)) (.t 35)⟩])
 (.cond (.t 36) (.seq (.ops none [⟨some 37, none, .mov (.t 7)⟩, ⟨some 38, none, .build [.int .i64 0, .bool false] []⟩, ⟨some 4, none, .mov (.t 37)⟩, ⟨none, none, .st (.t 5) (.t 38) 2⟩, ⟨some 6, none, .mov (.c (.int .i64 (20)))⟩])
 (.ret)) (.skip)))
 (.seq (.ops none [⟨some 39, none, .mov (.t 0)⟩, ⟨some 40, none, .fad (.t 3) 1⟩, ⟨some 41, none, .ldf (.t 40) false 1⟩, ⟨some 42, none, .ixf 1 (.t 39) (.t 41)⟩, ⟨some 43, none, .ldf (.t 42) false 1⟩, ⟨some 8, none, .mov (.t 43)⟩])
 (.seq (.seq (.ops none [⟨some 44, none, .fad (.t 3) 0⟩, ⟨some 45, none, .ldf (.t 44) false 1⟩, ⟨some 46, none, .bin .eql (.t 45) (.c (.int .i64 (1)))⟩])
 (.cond (.t 46) (.seq (.ops none [⟨some 47, none, .mov (.t 7)⟩, ⟨some 48, none, .mov (.t 8)⟩, ⟨some 49, none, .build [.int .i64 0, .bool false] [(0, 1, .t 48), (1, 1, .c (.bool true))]⟩, ⟨some 4, none, .mov (.t 47)⟩, ⟨none, none, .st (.t 5) (.t 49) 2⟩, ⟨some 6, none, .mov (.c (.int .i64 (0)))⟩])
 (.ret)) (.skip)))
 (.seq (.seq (.ops none [⟨some 50, none, .fad (.t 3) 0⟩, ⟨some 51, none, .ldf (.t 50) false 1⟩, ⟨some 52, none, .bin .eql (.t 51) (.c (.int .i64 (3)))⟩, ⟨some 53, none, .mov (.t 52)⟩, ⟨some 54, some (53, true), .mov (.t 8)⟩, ⟨some 55, some (53, true), .fad (.t 3) 2⟩, ⟨some 56, some (53, true), .ldf (.t 55) false 1⟩, ⟨some 57, some (53, true), .bin .neq (.t 54) (.t 56)⟩, ⟨some 58, none, .pick (.t 53) (.t 57) (.c (.bool false))⟩])
 (.cond (.t 58) (.seq (.ops none [⟨some 59, none, .mov (.t 7)⟩, ⟨some 60, none, .mov (.t 8)⟩, ⟨some 61, none, .build [.int .i64 0, .bool false] [(0, 1, .t 60)]⟩, ⟨some 4, none, .mov (.t 59)⟩, ⟨none, none, .st (.t 5) (.t 61) 2⟩, ⟨some 6, none, .mov (.c (.int .i64 (0)))⟩])
 (.ret)) (.skip)))
 (.seq (.ops none [⟨some 62, none, .fad (.t 3) 3⟩, ⟨some 63, none, .ldf (.t 62) false 1⟩, ⟨some 9, none, .mov (.t 63)⟩])
 (.seq (.seq (.ops none [⟨some 64, none, .fad (.t 3) 0⟩, ⟨some 65, none, .ldf (.t 64) false 1⟩, ⟨some 66, none, .bin .eql (.t 65) (.c (.int .i64 (4)))⟩])
 (.cond (.t 66) (.seq (.seq (.ops none [⟨some 67, none, .fad (.t 3) 3⟩, ⟨some 68, none, .ldf (.t 67) false 1⟩, ⟨some 69, none, .bin .gtr (.t 68) (.c (.int .i64 (0)))⟩, ⟨some 70, none, .mov (.t 69)⟩, ⟨some 71, some (70, true), .mov (.t 8)⟩, ⟨some 72, some (70, true), .fad (.t 3) 3⟩, ⟨some 73, some (70, true), .ldf (.t 72) false 1⟩, ⟨some 74, some (70, true), .bin .sub (.c (.int .i64 (1152921504606846975))) (.t 73)⟩, ⟨some 75, some (70, true), .bin .gtr (.t 71) (.t 74)⟩, ⟨some 76, none, .pick (.t 70) (.t 75) (.c (.bool false))⟩, ⟨some 77, none, .mov (.t 76)⟩, ⟨some 78, some (77, false), .fad (.t 3) 3⟩, ⟨some 79, some (77, false), .ldf (.t 78) false 1⟩, ⟨some 80, some (77, false), .bin .lss (.t 79) (.c (.int .i64 (0)))⟩, ⟨some 81, some (77, false), .mov (.t 80)⟩, ⟨some 82, some (81, true), .mov (.t 8)⟩, ⟨some 83, some (81, true), .fad (.t 3) 3⟩, ⟨some 84, some (81, true), .ldf (.t 83) false 1⟩, ⟨some 85, some (81, true), .bin .sub (.c (.int .i64 (-1152921504606846975))) (.t 84)⟩, ⟨some 86, some (81, true), .bin .lss (.t 82) (.t 85)⟩, ⟨some 87, some (77, false), .pick (.t 81) (.t 86) (.c (.bool false))⟩, ⟨some 88, none, .pick (.t 77) (.c (.bool true)) (.t 87)⟩])
 (.cond (.t 88) (.seq (.ops none [⟨some 89, none, .mov (.t 7)⟩, ⟨some 90, none, .build [.int .i64 0, .bool false] []⟩, ⟨some 4, none, .mov (.t 89)⟩, ⟨none, none, .st (.t 5) (.t 90) 2⟩, ⟨some 6, none, .mov (.c (.int .i64 (20)))⟩])
 (.ret)) (.skip)))
 (.ops none [⟨some 91, none, .mov (.t 8)⟩, ⟨some 92, none, .fad (.t 3) 3⟩, ⟨some 93, none, .ldf (.t 92) false 1⟩, ⟨some 94, none, .bin .add (.t 91) (.t 93)⟩, ⟨some 9, none, .mov (.t 94)⟩])) (.skip)))
 (.seq (.seq (.ops none [⟨some 95, none, .mov (.t 9)⟩, ⟨some 96, none, .calp 67 [.t 95]⟩, ⟨some 97, none, .notb (.t 96)⟩])
 (.cond (.t 97) (.seq (.ops none [⟨some 98, none, .mov (.t 7)⟩, ⟨some 99, none, .build [.int .i64 0, .bool false] []⟩, ⟨some 4, none, .mov (.t 98)⟩, ⟨none, none, .st (.t 5) (.t 99) 2⟩, ⟨some 6, none, .mov (.c (.int .i64 (20)))⟩])
 (.ret)) (.skip)))
 (.seq (.ops none [⟨some 100, none, .mov (.t 7)⟩, ⟨some 101, none, .fad (.t 3) 1⟩, ⟨some 102, none, .ldf (.t 101) false 1⟩, ⟨some 103, none, .mov (.t 9)⟩, ⟨some 104, none, .ixv 1 (.t 100) (.t 102)⟩, ⟨none, none, .st (.t 104) (.t 103) 1⟩])
 (.seq (.ops none [⟨some 105, none, .mov (.t 7)⟩, ⟨some 106, none, .mov (.t 8)⟩, ⟨some 107, none, .build [.int .i64 0, .bool false] [(0, 1, .t 106), (1, 1, .c (.bool true))]⟩, ⟨some 4, none, .mov (.t 105)⟩, ⟨none, none, .st (.t 5) (.t 107) 2⟩, ⟨some 6, none, .mov (.c (.int .i64 (0)))⟩])
 (.ret)))))))))))))
/-- bellwether/bellwetherref02.Do -/
def g43 : AFn := { np := 2, nt := 108, res := [.t 4, .cell 5 true 2, .t 6], body := g43b }

def g44b : ACode :=
.seq (.ops none [⟨some 2, none, .box 25 14 (.t 0)⟩, ⟨some 4, none, .new 25 [.int .i64 0, .int .i64 0, .int .i64 0, .int .i64 0, .int .i64 0, .int .i64 0, .int .i64 0, .int .i64 0, .int .i64 0, .int .i64 0, .int .i64 0, .int .i64 0, .bool false, .int .i64 0]⟩])
 (.seq (.seq (.ops none [⟨some 5, none, .fad (.t 2) 1⟩, ⟨some 6, none, .ldv (.t 5) false 1⟩])
 (.block 0 (.seq (.ops none [⟨some 22, none, .bin .eql (.t 6) (.c (.int .i64 (0)))⟩, ⟨some 21, none, .mov (.t 22)⟩])
 (.cond (.t 21) (.seq (.ops none [⟨some 23, none, .fad (.t 2) 2⟩, ⟨some 24, none, .aix (.t 23) (.c (.int .i64 (1))) 10 1⟩, ⟨none, none, .st (.t 24) (.c (.int .i64 (0))) 1⟩])
 (.seq (.ops none [⟨some 25, none, .mov (.t 1)⟩, ⟨some 26, none, .fad (.t 2) 2⟩, ⟨some 27, none, .aix (.t 26) (.c (.int .i64 (2))) 10 1⟩, ⟨none, none, .st (.t 27) (.t 25) 1⟩])
 (.ops none [⟨some 28, none, .fad (.t 2) 1⟩, ⟨none, none, .st (.t 28) (.c (.int .i64 (1))) 1⟩]))) (.seq (.ops none [⟨some 30, none, .bin .eql (.t 6) (.c (.int .i64 (1)))⟩, ⟨some 29, none, .mov (.t 30)⟩])
 (.cond (.t 29) (.seq (.seq (.ops none [⟨some 31, none, .mov (.t 1)⟩, ⟨some 32, none, .fad (.t 2) 2⟩, ⟨some 33, none, .aix (.t 32) (.c (.int .i64 (0))) 10 1⟩, ⟨some 34, none, .ldv (.t 33) false 1⟩, ⟨some 35, none, .bin .lss (.t 31) (.t 34)⟩])
 (.cond (.t 35) (.seq (.ops none [⟨some 36, none, .fad (.t 2) 1⟩, ⟨none, none, .st (.t 36) (.c (.int .i64 (2))) 1⟩])
 (.seq (.ops none [⟨some 37, none, .ldv (.t 2) true 14⟩, ⟨none, none, .st (.t 4) (.t 37) 14⟩])
 (.ret))) (.skip)))
 (.seq (.ops none [⟨some 38, none, .mov (.t 1)⟩, ⟨some 39, none, .fad (.t 2) 2⟩, ⟨some 40, none, .aix (.t 39) (.c (.int .i64 (5))) 10 1⟩, ⟨none, none, .st (.t 40) (.t 38) 1⟩])
 (.seq (.ops none [⟨some 41, none, .fad (.t 2) 1⟩, ⟨none, none, .st (.t 41) (.c (.int .i64 (10))) 1⟩])
 (.seq (.ops none [⟨some 42, none, .fad (.t 2) 0⟩, ⟨some 43, none, .ldv (.t 42) false 1⟩, ⟨some 44, none, .bin .eql (.t 43) (.c (.int .i64 (3)))⟩])
 (.cond (.t 44) (.ops none [⟨some 45, none, .fad (.t 2) 1⟩, ⟨none, none, .st (.t 45) (.c (.int .i64 (3))) 1⟩]) (.skip)))))) (.seq (.ops none [⟨some 47, none, .bin .eql (.t 6) (.c (.int .i64 (2)))⟩, ⟨some 46, none, .mov (.t 47)⟩])
 (.cond (.t 46) (.seq (.ops none [⟨some 48, none, .fad (.t 2) 2⟩, ⟨some 49, none, .aix (.t 48) (.c (.int .i64 (2))) 10 1⟩, ⟨some 50, none, .ldv (.t 49) false 1⟩, ⟨some 51, none, .fad (.t 2) 2⟩, ⟨some 52, none, .aix (.t 51) (.c (.int .i64 (1))) 10 1⟩, ⟨none, none, .st (.t 52) (.t 50) 1⟩])
 (.seq (.ops none [⟨some 53, none, .mov (.t 1)⟩, ⟨some 54, none, .fad (.t 2) 2⟩, ⟨some 55, none, .aix (.t 54) (.c (.int .i64 (2))) 10 1⟩, ⟨none, none, .st (.t 55) (.t 53) 1⟩])
 (.ops none [⟨some 56, none, .fad (.t 2) 1⟩, ⟨none, none, .st (.t 56) (.c (.int .i64 (1))) 1⟩]))) (.seq (.ops none [⟨some 7, none, .fad (.t 2) 12⟩, ⟨none, none, .st (.t 7) (.c (.bool true)) 1⟩])
 (.seq (.ops none [⟨some 8, none, .fad (.t 2) 13⟩, ⟨none, none, .st (.t 8) (.c (.int .i64 (0))) 1⟩])
 (.seq (.ops none [⟨some 9, none, .fad (.t 2) 2⟩, ⟨some 10, none, .aix (.t 9) (.c (.int .i64 (5))) 10 1⟩, ⟨some 11, none, .ldv (.t 10) false 1⟩, ⟨some 12, none, .fad (.t 2) 2⟩, ⟨some 13, none, .aix (.t 12) (.c (.int .i64 (0))) 10 1⟩, ⟨some 14, none, .ldv (.t 13) false 1⟩, ⟨some 15, none, .bin .eql (.t 11) (.t 14)⟩, ⟨some 16, none, .mov (.t 15)⟩, ⟨some 17, some (16, true), .mov (.t 1)⟩, ⟨some 18, some (16, true), .bin .eql (.t 17) (.c (.int .i64 (0)))⟩, ⟨some 19, none, .pick (.t 16) (.t 18) (.c (.bool false))⟩])
 (.cond (.t 19) (.ops none [⟨some 20, none, .fad (.t 2) 13⟩, ⟨none, none, .st (.t 20) (.c (.int .i64 (1))) 1⟩]) (.skip)))))))))))))
 (.seq (.ops none [⟨some 57, none, .ldv (.t 2) true 14⟩, ⟨none, none, .st (.t 4) (.t 57) 14⟩])
 (.ret)))
/-- bellwether/bellwetherref12.goes -/
def g44 : AFn := { np := 2, nt := 58, res := [.cell 4 true 14], body := g44b }

def g45b : ACode :=
.seq (.ops none [⟨some 2, none, .boxf 14 (.t 0)⟩, ⟨some 3, none, .boxf 2 (.t 1)⟩, ⟨some 4, none, .new 25 [.int .i64 0, .int .i64 0, .int .i64 0, .int .i64 0, .int .i64 0, .int .i64 0, .int .i64 0, .int .i64 0, .int .i64 0, .int .i64 0, .int .i64 0, .int .i64 0, .bool false, .int .i64 0]⟩])
 (.seq (.ops none [⟨some 7, none, .fad (.t 2) 2⟩, ⟨some 8, none, .aix (.t 7) (.c (.int .i64 (7))) 10 1⟩, ⟨some 9, none, .ldf (.t 8) false 1⟩, ⟨some 5, none, .mov (.t 9)⟩])
 (.seq (.seq (.ops none [⟨some 10, none, .fad (.t 2) 1⟩, ⟨some 11, none, .ldf (.t 10) false 1⟩])
 (.block 0 (.seq (.ops none [⟨some 13, none, .bin .eql (.t 11) (.c (.int .i64 (10)))⟩, ⟨some 12, none, .mov (.t 13)⟩])
 (.cond (.t 12) (.seq (.seq (.ops none [⟨some 14, none, .fad (.t 3) 1⟩, ⟨some 15, none, .ldf (.t 14) false 1⟩])
 (.cond (.t 15) (.seq (.ops none [⟨some 16, none, .ldf (.t 2) true 14⟩, ⟨some 17, none, .mov (.t 5)⟩, ⟨some 18, none, .calp 68 [.t 16, .c (.int .i64 (11)), .t 17]⟩, ⟨none, none, .st (.t 4) (.t 18) 14⟩])
 (.ret)) (.skip)))
 (.seq (.ops none [⟨some 19, none, .ldf (.t 2) true 14⟩, ⟨some 20, none, .mov (.t 5)⟩, ⟨some 21, none, .calp 68 [.t 19, .c (.int .i64 (0)), .t 20]⟩, ⟨none, none, .st (.t 4) (.t 21) 14⟩])
 (.ret))) (.seq (.ops none [⟨some 23, none, .bin .eql (.t 11) (.c (.int .i64 (11)))⟩, ⟨some 22, none, .mov (.t 23)⟩])
 (.cond (.t 22) (.seq (.seq (.ops none [⟨some 24, none, .fad (.t 3) 1⟩, ⟨some 25, none, .ldf (.t 24) false 1⟩])
 (.cond (.t 25) (.seq (.ops none [⟨some 26, none, .ldf (.t 2) true 14⟩, ⟨some 27, none, .mov (.t 5)⟩, ⟨some 28, none, .calp 68 [.t 26, .c (.int .i64 (12)), .t 27]⟩, ⟨none, none, .st (.t 4) (.t 28) 14⟩])
 (.ret)) (.skip)))
 (.seq (.ops none [⟨some 29, none, .ldf (.t 2) true 14⟩, ⟨some 30, none, .calp 68 [.t 29, .c (.int .i64 (21)), .c (.int .i64 (-1))]⟩, ⟨none, none, .st (.t 4) (.t 30) 14⟩])
 (.ret))) (.seq (.seq (.ops none [⟨some 32, none, .bin .eql (.t 11) (.c (.int .i64 (12)))⟩, ⟨some 31, none, .mov (.t 32)⟩])
 (.cond (.t 31) (.skip) (.ops none [⟨some 33, none, .bin .eql (.t 11) (.c (.int .i64 (13)))⟩, ⟨some 31, none, .mov (.t 33)⟩])))
 (.cond (.t 31) (.seq (.seq (.ops none [⟨some 34, none, .fad (.t 3) 0⟩, ⟨some 35, none, .ldf (.t 34) false 1⟩, ⟨some 36, none, .bin .eql (.t 35) (.c (.int .i64 (0)))⟩])
 (.cond (.t 36) (.seq (.ops none [⟨some 37, none, .ldf (.t 2) true 14⟩, ⟨some 38, none, .fad (.t 2) 1⟩, ⟨some 39, none, .ldf (.t 38) false 1⟩, ⟨some 40, none, .bin .add (.t 39) (.c (.int .i64 (1)))⟩, ⟨some 41, none, .mov (.t 5)⟩, ⟨some 42, none, .calp 68 [.t 37, .t 40, .t 41]⟩, ⟨none, none, .st (.t 4) (.t 42) 14⟩])
 (.ret)) (.skip)))
 (.seq (.ops none [⟨some 43, none, .ldf (.t 2) true 14⟩, ⟨some 44, none, .calp 68 [.t 43, .c (.int .i64 (20)), .c (.int .i64 (-1))]⟩, ⟨none, none, .st (.t 4) (.t 44) 14⟩])
 (.ret))) (.skip)))))))))
 (.seq (.ops none [⟨some 45, none, .fad (.t 2) 2⟩, ⟨some 46, none, .aix (.t 45) (.c (.int .i64 (5))) 10 1⟩, ⟨some 47, none, .ldf (.t 46) false 1⟩, ⟨some 48, none, .fad (.t 2) 2⟩, ⟨some 49, none, .aix (.t 48) (.c (.int .i64 (0))) 10 1⟩, ⟨some 50, none, .ldf (.t 49) false 1⟩, ⟨some 51, none, .bin .eql (.t 47) (.t 50)⟩, ⟨some 6, none, .mov (.t 51)⟩])
 (.seq (.block 1 (.seq (.ops none [⟨some 53, none, .fad (.t 3) 0⟩, ⟨some 54, none, .ldf (.t 53) false 1⟩, ⟨some 55, none, .fad (.t 2) 2⟩, ⟨some 56, none, .aix (.t 55) (.c (.int .i64 (2))) 10 1⟩, ⟨some 57, none, .ldf (.t 56) false 1⟩, ⟨some 58, none, .bin .neq (.t 54) (.t 57)⟩, ⟨some 52, none, .mov (.t 58)⟩])
 (.cond (.t 52) (.seq (.ops none [⟨some 59, none, .ldf (.t 2) true 14⟩, ⟨some 60, none, .calp 68 [.t 59, .c (.int .i64 (20)), .c (.int .i64 (-1))]⟩, ⟨none, none, .st (.t 4) (.t 60) 14⟩])
 (.ret)) (.seq (.ops none [⟨some 62, none, .mov (.t 6)⟩, ⟨some 63, none, .fad (.t 2) 0⟩, ⟨some 64, none, .ldf (.t 63) false 1⟩, ⟨some 65, none, .bin .eql (.t 64) (.c (.int .i64 (1)))⟩, ⟨some 66, none, .eqb false (.t 62) (.t 65)⟩, ⟨some 61, none, .mov (.t 66)⟩])
 (.cond (.t 61) (.seq (.ops none [⟨some 67, none, .ldf (.t 2) true 14⟩, ⟨some 68, none, .calp 68 [.t 67, .c (.int .i64 (20)), .c (.int .i64 (0))]⟩, ⟨none, none, .st (.t 4) (.t 68) 14⟩])
 (.ret)) (.seq (.ops none [⟨some 70, none, .mov (.t 6)⟩, ⟨some 69, none, .mov (.t 70)⟩])
 (.cond (.t 69) (.seq (.ops none [⟨some 71, none, .ldf (.t 2) true 14⟩, ⟨some 72, none, .mov (.t 5)⟩, ⟨some 73, none, .calp 68 [.t 71, .c (.int .i64 (17)), .t 72]⟩, ⟨none, none, .st (.t 4) (.t 73) 14⟩])
 (.ret)) (.skip))))))))
 (.seq (.ops none [⟨some 74, none, .ldf (.t 2) true 14⟩, ⟨some 75, none, .mov (.t 5)⟩, ⟨some 76, none, .calp 68 [.t 74, .c (.int .i64 (15)), .t 75]⟩, ⟨none, none, .st (.t 4) (.t 76) 14⟩])
 (.ret))))))
/-- bellwether/bellwetherref12.checks -/
def g45 : AFn := { np := 2, nt := 77, res := [.cell 4 true 14], body := g45b }

def g46b : ACode :=
.seq (.ops none [⟨some 2, none, .box 25 14 (.t 0)⟩, ⟨some 4, none, .new 25 [.int .i64 0, .int .i64 0, .int .i64 0, .int .i64 0, .int .i64 0, .int .i64 0, .int .i64 0, .int .i64 0, .int .i64 0, .int .i64 0, .int .i64 0, .int .i64 0, .bool false, .int .i64 0]⟩])
 (.seq (.ops none [⟨some 6, none, .fad (.t 2) 2⟩, ⟨some 7, none, .aix (.t 6) (.c (.int .i64 (7))) 10 1⟩, ⟨some 8, none, .ldv (.t 7) false 1⟩, ⟨some 5, none, .mov (.t 8)⟩])
 (.seq (.seq (.ops none [⟨some 9, none, .fad (.t 2) 1⟩, ⟨some 10, none, .ldv (.t 9) false 1⟩])
 (.block 0 (.seq (.ops none [⟨some 12, none, .bin .eql (.t 10) (.c (.int .i64 (15)))⟩, ⟨some 11, none, .mov (.t 12)⟩])
 (.cond (.t 11) (.seq (.ops none [⟨some 13, none, .ldv (.t 2) true 14⟩, ⟨some 14, none, .mov (.t 5)⟩, ⟨some 15, none, .calp 68 [.t 13, .c (.int .i64 (16)), .t 14]⟩, ⟨none, none, .st (.t 4) (.t 15) 14⟩])
 (.ret)) (.seq (.ops none [⟨some 17, none, .bin .eql (.t 10) (.c (.int .i64 (16)))⟩, ⟨some 16, none, .mov (.t 17)⟩])
 (.cond (.t 16) (.seq (.ops none [⟨some 18, none, .ldv (.t 2) true 14⟩, ⟨some 19, none, .mov (.t 5)⟩, ⟨some 20, none, .calp 68 [.t 18, .c (.int .i64 (18)), .t 19]⟩, ⟨none, none, .st (.t 4) (.t 20) 14⟩])
 (.ret)) (.seq (.ops none [⟨some 22, none, .bin .eql (.t 10) (.c (.int .i64 (17)))⟩, ⟨some 21, none, .mov (.t 22)⟩])
 (.cond (.t 21) (.seq (.ops none [⟨some 23, none, .ldv (.t 2) true 14⟩, ⟨some 24, none, .mov (.t 5)⟩, ⟨some 25, none, .calp 68 [.t 23, .c (.int .i64 (19)), .t 24]⟩, ⟨none, none, .st (.t 4) (.t 25) 14⟩])
 (.ret)) (.seq (.seq (.ops none [⟨some 27, none, .bin .eql (.t 10) (.c (.int .i64 (18)))⟩, ⟨some 26, none, .mov (.t 27)⟩])
 (.cond (.t 26) (.skip) (.ops none [⟨some 28, none, .bin .eql (.t 10) (.c (.int .i64 (22)))⟩, ⟨some 26, none, .mov (.t 28)⟩])))
 (.cond (.t 26) (.seq (.ops none [⟨some 29, none, .ldv (.t 2) true 14⟩, ⟨some 30, none, .calp 68 [.t 29, .c (.int .i64 (20)), .c (.int .i64 (1))]⟩, ⟨none, none, .st (.t 4) (.t 30) 14⟩])
 (.ret)) (.seq (.ops none [⟨some 32, none, .bin .eql (.t 10) (.c (.int .i64 (19)))⟩, ⟨some 31, none, .mov (.t 32)⟩])
 (.cond (.t 31) (.seq (.ops none [⟨some 33, none, .mov (.t 1)⟩, ⟨some 34, none, .fad (.t 2) 2⟩, ⟨some 35, none, .aix (.t 34) (.c (.int .i64 (6))) 10 1⟩, ⟨none, none, .st (.t 35) (.t 33) 1⟩])
 (.seq (.ops none [⟨some 36, none, .ldv (.t 2) true 14⟩, ⟨some 37, none, .mov (.t 5)⟩, ⟨some 38, none, .calp 68 [.t 36, .c (.int .i64 (22)), .t 37]⟩, ⟨none, none, .st (.t 4) (.t 38) 14⟩])
 (.ret))) (.seq (.ops none [⟨some 40, none, .bin .eql (.t 10) (.c (.int .i64 (20)))⟩, ⟨some 39, none, .mov (.t 40)⟩])
 (.cond (.t 39) (.seq (.ops none [⟨some 41, none, .ldv (.t 2) true 14⟩, ⟨some 42, none, .mov (.t 5)⟩, ⟨some 43, none, .calp 68 [.t 41, .c (.int .i64 (21)), .t 42]⟩, ⟨none, none, .st (.t 4) (.t 43) 14⟩])
 (.ret)) (.skip)))))))))))))))
 (.seq (.seq (.ops none [⟨some 44, none, .mov (.t 5)⟩, ⟨some 45, none, .bin .eql (.t 44) (.c (.int .i64 (-1)))⟩])
 (.cond (.t 45) (.seq (.ops none [⟨some 46, none, .ldv (.t 2) true 14⟩, ⟨some 47, none, .mov (.t 5)⟩, ⟨some 48, none, .calp 68 [.t 46, .c (.int .i64 (0)), .t 47]⟩, ⟨none, none, .st (.t 4) (.t 48) 14⟩])
 (.ret)) (.skip)))
 (.seq (.ops none [⟨some 49, none, .fad (.t 2) 12⟩, ⟨none, none, .st (.t 49) (.c (.bool true)) 1⟩])
 (.seq (.ops none [⟨some 50, none, .mov (.t 5)⟩, ⟨some 51, none, .fad (.t 2) 13⟩, ⟨none, none, .st (.t 51) (.t 50) 1⟩])
 (.seq (.ops none [⟨some 52, none, .ldv (.t 2) true 14⟩, ⟨none, none, .st (.t 4) (.t 52) 14⟩])
 (.ret)))))))
/-- bellwether/bellwetherref12.writes -/
def g46 : AFn := { np := 2, nt := 53, res := [.cell 4 true 14], body := g46b }

def g47b : ACode :=
.seq (.ops none [⟨some 4, none, .mov (.c (.int .i64 (0)))⟩])
 (.seq (.seq (.ops none [⟨some 5, none, .mov (.t 0)⟩, ⟨some 6, none, .bin .lss (.t 5) (.c (.int .i64 (0)))⟩])
 (.cond (.t 6) (.ops none [⟨some 7, none, .mov (.t 0)⟩, ⟨some 8, none, .bin .add (.t 7) (.c (.int .i64 (1)))⟩, ⟨some 9, none, .neg (.t 8)⟩, ⟨some 0, none, .mov (.t 9)⟩]) (.skip)))
 (.seq (.ops none [⟨some 10, none, .mov (.t 0)⟩, ⟨some 11, none, .mov (.t 1)⟩, ⟨some 12, none, .bin .rem (.t 10) (.t 11)⟩, ⟨some 4, none, .mov (.t 12)⟩])
 (.ret)))
/-- bellwether/bellwetherlaw04.pick -/
def g47 : AFn := { np := 2, nt := 13, res := [.t 4], body := g47b }

def g48l0 : ACode :=
 .ghost (.renum [0, 3] []) (.seq (.seq (.ops none [⟨some 4, none, .mov (.t 3)⟩, ⟨some 5, none, .mov (.t 0)⟩, ⟨some 6, none, .len (.t 5)⟩, ⟨some 7, none, .bin .lss (.t 4) (.t 6)⟩])
 (.cond (.t 7) (.skip) (.exit 0)))
 (.seq (.block 1 (.seq (.ops (some [[], [], [0, 1], [0, 1, 2], [0, 1, 2, 3], [0, 1, 2, 3, 4], [0, 1, 2, 3, 4, 5], [0, 1, 2, 3, 4, 5, 6], [0, 1, 2, 3, 4, 5, 6, 7], [0, 1, 2, 3, 4, 5, 6, 7, 8], [0, 1, 2, 3, 4, 5, 6, 7, 8, 9], [0, 1, 2, 3, 4, 5, 6, 7, 8, 9], [0, 1, 2, 3, 4, 5, 6, 7, 8, 9, 10, 11], [0, 1, 2, 3, 4, 5, 6, 7, 8, 9, 10, 11, 12], [0, 1, 2, 3, 4, 5, 6, 7, 8, 9], [0, 1, 2, 3, 4, 5, 6, 7, 8, 9], [0, 1, 2, 3, 4, 5, 6, 7, 8, 9, 15], [0, 1, 2, 3, 4, 5, 6, 7, 8, 9, 14, 15, 16], [0, 1, 2, 3, 4, 5, 6, 7, 8, 9, 14, 15, 16, 17], [0, 1, 2, 3, 4, 5, 6, 7, 8, 9, 10, 11, 12, 13, 14, 15, 16, 17, 18], [0, 1, 2, 3, 4, 5, 6, 7, 8, 9, 10, 11, 12, 13, 14, 15, 16, 17, 18, 19], [0, 1, 2, 3, 4, 5, 6, 7, 8, 9, 10, 11, 12, 13, 14, 15, 16, 17, 18, 19, 20]]) [⟨some 10, none, .mov (.t 0)⟩, ⟨some 11, none, .mov (.t 3)⟩, ⟨some 12, none, .ixf 1 (.t 10) (.t 11)⟩, ⟨some 13, none, .ldf (.t 12) false 1⟩, ⟨some 14, none, .calp 49 [.t 13]⟩, ⟨some 15, none, .notb (.t 14)⟩, ⟨some 16, none, .mov (.t 15)⟩, ⟨some 17, some (16, false), .mov (.t 3)⟩, ⟨some 18, some (16, false), .bin .gtr (.t 17) (.c (.int .i64 (0)))⟩, ⟨some 19, some (16, false), .mov (.t 18)⟩, ⟨some 20, some (19, true), .mov (.t 0)⟩, ⟨some 21, some (19, true), .mov (.t 3)⟩, ⟨some 22, some (19, true), .ixf 1 (.t 20) (.t 21)⟩, ⟨some 23, some (19, true), .ldf (.t 22) false 1⟩, ⟨some 24, some (19, true), .mov (.t 0)⟩, ⟨some 25, some (19, true), .mov (.t 3)⟩, ⟨some 26, some (19, true), .bin .sub (.t 25) (.c (.int .i64 (1)))⟩, ⟨some 27, some (19, true), .ixf 1 (.t 24) (.t 26)⟩, ⟨some 28, some (19, true), .ldf (.t 27) false 1⟩, ⟨some 29, some (19, true), .bin .leq (.t 23) (.t 28)⟩, ⟨some 30, some (16, false), .pick (.t 19) (.t 29) (.c (.bool false))⟩, ⟨some 31, none, .pick (.t 16) (.c (.bool true)) (.t 30)⟩])
 (.cond (.t 31) (.seq (.ops none [⟨some 2, none, .mov (.c (.bool false))⟩])
 (.ret)) (.skip))))
 (.ops none [⟨some 8, none, .mov (.t 3)⟩, ⟨some 9, none, .bin .add (.t 8) (.c (.int .i64 (1)))⟩, ⟨some 3, none, .mov (.t 9)⟩])))
def g48b : ACode :=
.seq (.ops none [⟨some 2, none, .mov (.c (.bool false))⟩])
 (.seq (.seq (.ops none [⟨some 3, none, .mov (.c (.int .i64 (0)))⟩])
 (.block 0 (.loop g48l0)))
 (.seq (.ops none [⟨some 32, none, .mov (.t 0)⟩, ⟨some 33, none, .len (.t 32)⟩, ⟨some 34, none, .bin .leq (.t 33) (.c (.int .i64 (1000)))⟩, ⟨some 2, none, .mov (.t 34)⟩])
 (.ret)))
/-- bellwether/bellwetherref04.Right -/
def g48 : AFn := { np := 1, nt := 35, res := [.t 2], body := g48b }

def g49b : ACode :=
.seq (.ops none [⟨some 2, none, .mov (.c (.bool false))⟩])
 (.seq (.ops none [⟨some 3, none, .mov (.t 0)⟩, ⟨some 4, none, .bin .geq (.t 3) (.c (.int .i64 (-1099511627776)))⟩, ⟨some 5, none, .mov (.t 4)⟩, ⟨some 6, some (5, true), .mov (.t 0)⟩, ⟨some 7, some (5, true), .bin .leq (.t 6) (.c (.int .i64 (1099511627776)))⟩, ⟨some 8, none, .pick (.t 5) (.t 7) (.c (.bool false))⟩, ⟨some 2, none, .mov (.t 8)⟩])
 (.ret))
/-- bellwether/bellwetherref04.key -/
def g49 : AFn := { np := 1, nt := 9, res := [.t 2], body := g49b }

def g50l0 : ACode :=
 .ghost (.renum [0, 1, 5] []) (.seq (.seq (.ops none [⟨some 6, none, .mov (.t 5)⟩, ⟨some 7, none, .mov (.t 0)⟩, ⟨some 8, none, .len (.t 7)⟩, ⟨some 9, none, .bin .lss (.t 6) (.t 8)⟩])
 (.cond (.t 9) (.skip) (.exit 0)))
 (.seq (.block 1 (.seq (.ops none [⟨some 12, none, .mov (.t 0)⟩, ⟨some 13, none, .mov (.t 5)⟩, ⟨some 14, none, .ixf 1 (.t 12) (.t 13)⟩, ⟨some 15, none, .ldf (.t 14) false 1⟩, ⟨some 16, none, .mov (.t 1)⟩, ⟨some 17, none, .bin .eql (.t 15) (.t 16)⟩])
 (.cond (.t 17) (.seq (.ops none [⟨some 4, none, .mov (.c (.bool true))⟩])
 (.ret)) (.skip))))
 (.ops none [⟨some 10, none, .mov (.t 5)⟩, ⟨some 11, none, .bin .add (.t 10) (.c (.int .i64 (1)))⟩, ⟨some 5, none, .mov (.t 11)⟩])))
def g50b : ACode :=
.seq (.ops none [⟨some 4, none, .mov (.c (.bool false))⟩])
 (.seq (.seq (.ops none [⟨some 5, none, .mov (.c (.int .i64 (0)))⟩])
 (.block 0 (.loop g50l0)))
 (.seq (.ops none [⟨some 4, none, .mov (.c (.bool false))⟩])
 (.ret)))
/-- bellwether/bellwetherref04.Has -/
def g50 : AFn := { np := 2, nt := 18, res := [.t 4], body := g50b }

def g51l0 : ACode :=
 .ghost (.renum [0, 1, 5, 6, 7] [5]) (.seq (.seq (.ops none [⟨some 8, none, .mov (.t 7)⟩, ⟨some 9, none, .mov (.t 0)⟩, ⟨some 10, none, .len (.t 9)⟩, ⟨some 11, none, .bin .lss (.t 8) (.t 10)⟩])
 (.cond (.t 11) (.skip) (.exit 0)))
 (.seq (.block 1 (.seq (.seq (.ops none [⟨some 14, none, .mov (.t 6)⟩, ⟨some 15, none, .notb (.t 14)⟩, ⟨some 16, none, .mov (.t 15)⟩, ⟨some 17, some (16, true), .mov (.t 0)⟩, ⟨some 18, some (16, true), .mov (.t 7)⟩, ⟨some 19, some (16, true), .ixf 1 (.t 17) (.t 18)⟩, ⟨some 20, some (16, true), .ldf (.t 19) false 1⟩, ⟨some 21, some (16, true), .mov (.t 1)⟩, ⟨some 22, some (16, true), .bin .gtr (.t 20) (.t 21)⟩, ⟨some 23, none, .pick (.t 16) (.t 22) (.c (.bool false))⟩])
 (.cond (.t 23) (.seq (.ops none [⟨some 24, none, .mov (.t 5)⟩, ⟨some 25, none, .mov (.t 1)⟩, ⟨some 26, none, .bsl 1 [.int .i64 0] 1 [(0, .t 25)]⟩, ⟨some 27, none, .app 3 1 8 [.int .i64 0] (.t 24) (.t 26)⟩, ⟨some 5, none, .mov (.t 27)⟩])
 (.ops none [⟨some 6, none, .mov (.c (.bool true))⟩])) (.skip)))
 (.ops none [⟨some 28, none, .mov (.t 5)⟩, ⟨some 29, none, .mov (.t 0)⟩, ⟨some 30, none, .mov (.t 7)⟩, ⟨some 31, none, .ixf 1 (.t 29) (.t 30)⟩, ⟨some 32, none, .ldf (.t 31) false 1⟩, ⟨some 33, none, .bsl 1 [.int .i64 0] 1 [(0, .t 32)]⟩, ⟨some 34, none, .app 3 1 8 [.int .i64 0] (.t 28) (.t 33)⟩, ⟨some 5, none, .mov (.t 34)⟩])))
 (.ops none [⟨some 12, none, .mov (.t 7)⟩, ⟨some 13, none, .bin .add (.t 12) (.c (.int .i64 (1)))⟩, ⟨some 7, none, .mov (.t 13)⟩])))
def g51b : ACode :=
.seq (.ops none [⟨some 4, none, .mov (.c (.list 1 []))⟩])
 (.seq (.ops none [⟨some 5, none, .nv 3 1⟩])
 (.seq (.ops none [⟨some 6, none, .mov (.c (.bool false))⟩])
 (.seq (.seq (.ops none [⟨some 7, none, .mov (.c (.int .i64 (0)))⟩])
 (.block 0 (.loop g51l0)))
 (.seq (.seq (.ops none [⟨some 35, none, .mov (.t 6)⟩, ⟨some 36, none, .notb (.t 35)⟩])
 (.cond (.t 36) (.ops none [⟨some 37, none, .mov (.t 5)⟩, ⟨some 38, none, .mov (.t 1)⟩, ⟨some 39, none, .bsl 1 [.int .i64 0] 1 [(0, .t 38)]⟩, ⟨some 40, none, .app 3 1 8 [.int .i64 0] (.t 37) (.t 39)⟩, ⟨some 5, none, .mov (.t 40)⟩]) (.skip)))
 (.seq (.ops none [⟨some 41, none, .mov (.t 5)⟩, ⟨some 4, none, .mov (.t 41)⟩])
 (.ret))))))
/-- bellwether/bellwetherref04.with -/
def g51 : AFn := { np := 2, nt := 42, res := [.t 4], body := g51b }

def g52l0 : ACode :=
 .ghost (.renum [0, 1, 5, 6] [5]) (.seq (.seq (.ops none [⟨some 7, none, .mov (.t 6)⟩, ⟨some 8, none, .mov (.t 0)⟩, ⟨some 9, none, .len (.t 8)⟩, ⟨some 10, none, .bin .lss (.t 7) (.t 9)⟩])
 (.cond (.t 10) (.skip) (.exit 0)))
 (.seq (.block 1 (.seq (.ops none [⟨some 13, none, .mov (.t 0)⟩, ⟨some 14, none, .mov (.t 6)⟩, ⟨some 15, none, .ixf 1 (.t 13) (.t 14)⟩, ⟨some 16, none, .ldf (.t 15) false 1⟩, ⟨some 17, none, .mov (.t 1)⟩, ⟨some 18, none, .bin .neq (.t 16) (.t 17)⟩])
 (.cond (.t 18) (.ops none [⟨some 19, none, .mov (.t 5)⟩, ⟨some 20, none, .mov (.t 0)⟩, ⟨some 21, none, .mov (.t 6)⟩, ⟨some 22, none, .ixf 1 (.t 20) (.t 21)⟩, ⟨some 23, none, .ldf (.t 22) false 1⟩, ⟨some 24, none, .bsl 1 [.int .i64 0] 1 [(0, .t 23)]⟩, ⟨some 25, none, .app 3 1 8 [.int .i64 0] (.t 19) (.t 24)⟩, ⟨some 5, none, .mov (.t 25)⟩]) (.skip))))
 (.ops none [⟨some 11, none, .mov (.t 6)⟩, ⟨some 12, none, .bin .add (.t 11) (.c (.int .i64 (1)))⟩, ⟨some 6, none, .mov (.t 12)⟩])))
def g52b : ACode :=
.seq (.ops none [⟨some 4, none, .mov (.c (.list 1 []))⟩])
 (.seq (.ops none [⟨some 5, none, .nv 3 1⟩])
 (.seq (.seq (.ops none [⟨some 6, none, .mov (.c (.int .i64 (0)))⟩])
 (.block 0 (.loop g52l0)))
 (.seq (.ops none [⟨some 26, none, .mov (.t 5)⟩, ⟨some 4, none, .mov (.t 26)⟩])
 (.ret))))
/-- bellwether/bellwetherref04.without -/
def g52 : AFn := { np := 2, nt := 27, res := [.t 4], body := g52b }

def g53l0 : ACode :=
 .ghost (.renum [0, 4, 5, 6] [5]) (.seq (.seq (.ops none [⟨some 26, none, .mov (.t 6)⟩, ⟨some 27, none, .mov (.t 4)⟩, ⟨some 28, none, .bin .lss (.t 26) (.t 27)⟩])
 (.cond (.t 28) (.skip) (.exit 0)))
 (.seq (.block 1 (.seq (.ops none [⟨some 31, none, .mov (.t 0)⟩, ⟨some 32, none, .mov (.t 5)⟩, ⟨some 33, none, .mov (.t 5)⟩, ⟨some 34, none, .lenv (.t 33)⟩, ⟨some 35, none, .bin .sub (.t 34) (.c (.int .i64 (1)))⟩, ⟨some 36, none, .ixv 1 (.t 32) (.t 35)⟩, ⟨some 37, none, .ldv (.t 36) false 1⟩, ⟨some 38, none, .calp 18 [.t 31, .t 37, .c (.int .i64 (1))]⟩, ⟨some 7, none, .mov (.t 38)⟩])
 (.seq (.seq (.ops none [⟨some 39, none, .mov (.t 7)⟩, ⟨some 40, none, .bin .lss (.t 39) (.c (.int .i64 (0)))⟩, ⟨some 41, none, .mov (.t 40)⟩, ⟨some 42, some (41, false), .mov (.t 7)⟩, ⟨some 43, some (41, false), .mov (.t 4)⟩, ⟨some 44, some (41, false), .bin .geq (.t 42) (.t 43)⟩, ⟨some 45, none, .pick (.t 41) (.c (.bool true)) (.t 44)⟩])
 (.cond (.t 45) (.seq (.ops none [⟨some 2, none, .mov (.c (.list 1 []))⟩, ⟨some 3, none, .mov (.c (.int .i64 (60)))⟩])
 (.ret)) (.skip)))
 (.seq (.ops none [⟨some 46, none, .mov (.t 5)⟩, ⟨some 47, none, .mov (.t 7)⟩, ⟨some 48, none, .bsl 1 [.int .i64 0] 1 [(0, .t 47)]⟩, ⟨some 49, none, .app 3 1 8 [.int .i64 0] (.t 46) (.t 48)⟩, ⟨some 5, none, .mov (.t 49)⟩])
 (.seq (.ops none [⟨some 50, none, .mov (.t 7)⟩, ⟨some 51, none, .bin .eql (.t 50) (.c (.int .i64 (1)))⟩])
 (.cond (.t 51) (.seq (.ops none [⟨some 52, none, .mov (.t 5)⟩, ⟨some 2, none, .mov (.t 52)⟩, ⟨some 3, none, .mov (.c (.int .i64 (0)))⟩])
 (.ret)) (.skip)))))))
 (.ops none [⟨some 29, none, .mov (.t 6)⟩, ⟨some 30, none, .bin .add (.t 29) (.c (.int .i64 (1)))⟩, ⟨some 6, none, .mov (.t 30)⟩])))
def g53b : ACode :=
.seq (.ops none [⟨some 2, none, .mov (.c (.list 1 []))⟩, ⟨some 3, none, .mov (.c (.int .i64 (0)))⟩])
 (.seq (.ops none [⟨some 8, none, .mov (.t 0)⟩, ⟨some 9, none, .calp 69 [.t 8]⟩, ⟨some 4, none, .mov (.t 9)⟩])
 (.seq (.seq (.ops none [⟨some 10, none, .mov (.t 4)⟩, ⟨some 11, none, .bin .lss (.t 10) (.c (.int .i64 (0)))⟩])
 (.cond (.t 11) (.seq (.ops none [⟨some 2, none, .mov (.c (.list 1 []))⟩, ⟨some 3, none, .mov (.c (.int .i64 (1)))⟩])
 (.ret)) (.skip)))
 (.seq (.seq (.ops none [⟨some 12, none, .mov (.t 0)⟩, ⟨some 13, none, .calp 18 [.t 12, .c (.int .i64 (0)), .c (.int .i64 (0))]⟩, ⟨some 14, none, .bin .neq (.t 13) (.c (.int .i64 (-1099511627777)))⟩, ⟨some 15, none, .mov (.t 14)⟩, ⟨some 16, some (15, false), .mov (.t 0)⟩, ⟨some 17, some (15, false), .calp 18 [.t 16, .c (.int .i64 (1)), .c (.int .i64 (0))]⟩, ⟨some 18, some (15, false), .bin .neq (.t 17) (.c (.int .i64 (1099511627777)))⟩, ⟨some 19, none, .pick (.t 15) (.c (.bool true)) (.t 18)⟩, ⟨some 20, none, .mov (.t 19)⟩, ⟨some 21, some (20, false), .mov (.t 0)⟩, ⟨some 22, some (20, false), .calp 18 [.t 21, .c (.int .i64 (1)), .c (.int .i64 (1))]⟩, ⟨some 23, some (20, false), .bin .neq (.t 22) (.c (.int .i64 (0)))⟩, ⟨some 24, none, .pick (.t 20) (.c (.bool true)) (.t 23)⟩])
 (.cond (.t 24) (.seq (.ops none [⟨some 2, none, .mov (.c (.list 1 []))⟩, ⟨some 3, none, .mov (.c (.int .i64 (60)))⟩])
 (.ret)) (.skip)))
 (.seq (.ops none [⟨some 25, none, .bsv 3 1 [.int .i64 0] 1 [(0, .c (.int .i64 (0)))]⟩, ⟨some 5, none, .mov (.t 25)⟩])
 (.seq (.seq (.ops none [⟨some 6, none, .mov (.c (.int .i64 (0)))⟩])
 (.block 0 (.loop g53l0)))
 (.seq (.ops none [⟨some 2, none, .mov (.c (.list 1 []))⟩, ⟨some 3, none, .mov (.c (.int .i64 (60)))⟩])
 (.ret)))))))
/-- bellwether/bellwetherref11.Walk -/
def g53 : AFn := { np := 1, nt := 53, res := [.t 2, .t 3], body := g53b }

def g60b : ACode :=
.seq (.ops none [⟨some 2, none, .mov (.c (.bool false))⟩])
 (.seq (.seq (.ops none [⟨some 5, none, .mov (.t 0)⟩, ⟨some 6, none, .nilc (.t 5)⟩, ⟨some 7, none, .fad (.t 6) 0⟩, ⟨some 8, none, .fad (.t 7) 1⟩, ⟨some 9, none, .ldv (.t 8) false 1⟩])
 (.block 0 (.seq (.block 4 (.seq (.block 3 (.seq (.block 2 (.seq (.block 1 (.seq (.seq (.seq (.ops none [⟨some 11, none, .bin .eql (.t 9) (.c (.int .i64 (2)))⟩, ⟨some 10, none, .mov (.t 11)⟩])
 (.cond (.t 10) (.exit 1) (.skip)))
 (.seq (.seq (.ops none [⟨some 13, none, .bin .eql (.t 9) (.c (.int .i64 (0)))⟩, ⟨some 12, none, .mov (.t 13)⟩])
 (.cond (.t 12) (.exit 2) (.skip)))
 (.seq (.ops none [⟨some 15, none, .bin .eql (.t 9) (.c (.int .i64 (1)))⟩, ⟨some 14, none, .mov (.t 15)⟩])
 (.cond (.t 14) (.exit 3) (.skip)))))
 (.exit 4)))
 (.ops (some [[], [], [1], [1, 2], [1, 2, 3], [1, 2, 3, 4], [1, 2, 3, 4, 5], [0], [0, 7], [0, 7, 8], [0, 1, 2, 3, 4, 5, 6, 7, 8, 9], [0, 1, 2, 3, 4, 5, 6, 7, 8, 9, 10]]) [⟨some 16, none, .mov (.t 0)⟩, ⟨some 17, none, .mov (.t 0)⟩, ⟨some 18, none, .nilc (.t 17)⟩, ⟨some 19, none, .fad (.t 18) 0⟩, ⟨some 20, none, .fad (.t 19) 2⟩, ⟨some 21, none, .aix (.t 20) (.c (.int .i64 (2))) 10 1⟩, ⟨some 22, none, .ldv (.t 21) false 1⟩, ⟨some 23, none, .nilc (.t 16)⟩, ⟨some 24, none, .fad (.t 23) 0⟩, ⟨some 25, none, .fad (.t 24) 2⟩, ⟨some 26, none, .aix (.t 25) (.c (.int .i64 (1))) 10 1⟩, ⟨none, none, .st (.t 26) (.t 22) 1⟩])))
 (.seq (.seq (.ops none [⟨some 27, none, .mov (.t 0)⟩, ⟨some 28, none, .nilc (.t 27)⟩, ⟨some 29, none, .fad (.t 28) 0⟩, ⟨some 30, none, .fad (.t 29) 2⟩, ⟨some 31, none, .aix (.t 30) (.c (.int .i64 (1))) 10 1⟩, ⟨some 32, none, .ldv (.t 31) false 1⟩, ⟨some 3, none, .mov (.t 32)⟩])
 (.seq (.seq (.ops none [⟨some 33, none, .mov (.t 0)⟩, ⟨some 34, none, .nilc (.t 33)⟩, ⟨some 35, none, .fad (.t 34) 0⟩, ⟨some 36, none, .fad (.t 35) 1⟩, ⟨some 37, none, .ldv (.t 36) false 1⟩, ⟨some 38, none, .bin .eql (.t 37) (.c (.int .i64 (0)))⟩])
 (.cond (.t 38) (.ops none [⟨some 3, none, .mov (.c (.int .i64 (0)))⟩]) (.skip)))
 (.ops (some [[], [], [], [], [], [], [4, 5], [0], [0, 7], [0, 7, 8], [0, 3, 4, 5, 6, 7, 8, 9], [0, 3, 4, 5, 6, 7, 8, 9, 10], [1], [1, 12], [1, 12, 13], [0, 1, 3, 4, 5, 6, 7, 8, 9, 10, 11, 12, 13, 14], [0, 1, 3, 4, 5, 6, 7, 8, 9, 10, 11, 12, 13, 14, 15], [0, 1, 2, 3, 4, 5, 6, 7, 8, 9, 10, 11, 12, 13, 14, 15, 16], [0, 1, 2, 3, 4, 5, 6, 7, 8, 9, 10, 11, 12, 13, 14, 15, 16, 17], [0, 1, 2, 3, 4, 5, 6, 7, 8, 9, 10, 11, 12, 13, 14, 15, 16, 17, 18], [0, 1, 2, 3, 4, 5, 6, 7, 8, 9, 10, 11, 12, 13, 14, 15, 16, 17, 18, 19]]) [⟨some 39, none, .mov (.t 0)⟩, ⟨some 40, none, .mov (.t 0)⟩, ⟨some 41, none, .mov (.t 0)⟩, ⟨some 42, none, .mov (.t 3)⟩, ⟨some 43, none, .mov (.t 0)⟩, ⟨some 44, none, .mov (.t 3)⟩, ⟨some 45, none, .calr 72 [.t 43, .t 44, .c (.int .i64 (1))]⟩, ⟨some 46, none, .nilc (.t 39)⟩, ⟨some 47, none, .fad (.t 46) 0⟩, ⟨some 48, none, .fad (.t 47) 2⟩, ⟨some 49, none, .aix (.t 48) (.c (.int .i64 (1))) 10 1⟩, ⟨none, none, .st (.t 49) (.t 42) 1⟩, ⟨some 50, none, .nilc (.t 40)⟩, ⟨some 51, none, .fad (.t 50) 0⟩, ⟨some 52, none, .fad (.t 51) 2⟩, ⟨some 53, none, .aix (.t 52) (.c (.int .i64 (2))) 10 1⟩, ⟨none, none, .st (.t 53) (.t 45) 1⟩, ⟨some 54, none, .nilc (.t 41)⟩, ⟨some 55, none, .fad (.t 54) 0⟩, ⟨some 56, none, .fad (.t 55) 1⟩, ⟨none, none, .st (.t 56) (.c (.int .i64 (1))) 1⟩])))
 (.exit 0))))
 (.seq (.seq (.ops none [⟨some 57, none, .mov (.t 0)⟩, ⟨some 58, none, .mov (.t 0)⟩, ⟨some 59, none, .calq 73 [.t 58]⟩, ⟨some 60, none, .calr 72 [.t 57, .t 59, .c (.int .i64 (0))]⟩, ⟨some 4, none, .mov (.t 60)⟩])
 (.block 5 (.seq (.ops none [⟨some 72, none, .mov (.t 4)⟩, ⟨some 73, none, .mov (.t 0)⟩, ⟨some 74, none, .nilc (.t 73)⟩, ⟨some 75, none, .fad (.t 74) 0⟩, ⟨some 76, none, .fad (.t 75) 2⟩, ⟨some 77, none, .aix (.t 76) (.c (.int .i64 (0))) 10 1⟩, ⟨some 78, none, .ldv (.t 77) false 1⟩, ⟨some 79, none, .bin .lss (.t 72) (.t 78)⟩, ⟨some 71, none, .mov (.t 79)⟩])
 (.cond (.t 71) (.ops none [⟨some 80, none, .mov (.t 0)⟩, ⟨some 81, none, .nilc (.t 80)⟩, ⟨some 82, none, .fad (.t 81) 0⟩, ⟨some 83, none, .fad (.t 82) 1⟩, ⟨none, none, .st (.t 83) (.c (.int .i64 (2))) 1⟩]) (.seq (.ops none [⟨some 85, none, .mov (.t 0)⟩, ⟨some 86, none, .nilc (.t 85)⟩, ⟨some 87, none, .fad (.t 86) 0⟩, ⟨some 88, none, .fad (.t 87) 0⟩, ⟨some 89, none, .ldv (.t 88) false 1⟩, ⟨some 90, none, .bin .eql (.t 89) (.c (.int .i64 (3)))⟩, ⟨some 84, none, .mov (.t 90)⟩])
 (.cond (.t 84) (.ops none [⟨some 91, none, .mov (.t 0)⟩, ⟨some 92, none, .mov (.t 0)⟩, ⟨some 93, none, .mov (.t 4)⟩, ⟨some 94, none, .nilc (.t 91)⟩, ⟨some 95, none, .fad (.t 94) 0⟩, ⟨some 96, none, .fad (.t 95) 2⟩, ⟨some 97, none, .aix (.t 96) (.c (.int .i64 (5))) 10 1⟩, ⟨none, none, .st (.t 97) (.t 93) 1⟩, ⟨some 98, none, .nilc (.t 92)⟩, ⟨some 99, none, .fad (.t 98) 0⟩, ⟨some 100, none, .fad (.t 99) 1⟩, ⟨none, none, .st (.t 100) (.c (.int .i64 (3))) 1⟩]) (.ops none [⟨some 61, none, .mov (.t 0)⟩, ⟨some 62, none, .mov (.t 0)⟩, ⟨some 63, none, .mov (.t 4)⟩, ⟨some 64, none, .nilc (.t 61)⟩, ⟨some 65, none, .fad (.t 64) 0⟩, ⟨some 66, none, .fad (.t 65) 2⟩, ⟨some 67, none, .aix (.t 66) (.c (.int .i64 (5))) 10 1⟩, ⟨none, none, .st (.t 67) (.t 63) 1⟩, ⟨some 68, none, .nilc (.t 62)⟩, ⟨some 69, none, .fad (.t 68) 0⟩, ⟨some 70, none, .fad (.t 69) 1⟩, ⟨none, none, .st (.t 70) (.c (.int .i64 (10))) 1⟩])))))))
 (.exit 0))))
 (.seq (.seq (.ops none [⟨some 2, none, .mov (.c (.bool false))⟩])
 (.ret))
 (.exit 0)))))
 (.seq (.ops none [⟨some 2, none, .mov (.c (.bool true))⟩])
 (.ret)))
/-- (*bellwether/lazy.hand).walk -/
def g60 : AFn := { np := 1, nt := 101, res := [.t 2], body := g60b }

def g61b : ACode :=
.seq (.ops none [⟨some 2, none, .mov (.c (.bool false))⟩])
 (.seq (.seq (.ops none [⟨some 4, none, .mov (.t 0)⟩, ⟨some 5, none, .nilc (.t 4)⟩, ⟨some 6, none, .fad (.t 5) 0⟩, ⟨some 7, none, .fad (.t 6) 1⟩, ⟨some 8, none, .ldv (.t 7) false 1⟩, ⟨some 9, none, .bin .neq (.t 8) (.c (.int .i64 (3)))⟩])
 (.cond (.t 9) (.seq (.ops none [⟨some 2, none, .mov (.c (.bool false))⟩])
 (.ret)) (.skip)))
 (.seq (.ops none [⟨some 10, none, .mov (.t 0)⟩, ⟨some 11, none, .mov (.t 0)⟩, ⟨some 12, none, .calq 73 [.t 11]⟩, ⟨some 13, none, .calr 72 [.t 10, .t 12, .c (.int .i64 (3))]⟩, ⟨some 3, none, .mov (.t 13)⟩])
 (.seq (.ops none [⟨some 14, none, .mov (.t 0)⟩, ⟨some 15, none, .mov (.t 0)⟩, ⟨some 16, none, .nilc (.t 14)⟩, ⟨some 17, none, .fad (.t 16) 0⟩, ⟨some 18, none, .fad (.t 17) 12⟩, ⟨none, none, .st (.t 18) (.c (.bool true)) 1⟩, ⟨some 19, none, .nilc (.t 15)⟩, ⟨some 20, none, .fad (.t 19) 0⟩, ⟨some 21, none, .fad (.t 20) 13⟩, ⟨none, none, .st (.t 21) (.c (.int .i64 (0))) 1⟩])
 (.seq (.seq (.ops (some [[], [0], [0, 1], [0, 1, 2], [0, 1, 2, 3], [0, 1, 2, 3, 4], [0, 1, 2, 3, 4, 5], [0, 1, 2, 3, 4, 5, 6], [0, 1, 2, 3, 4, 5, 6, 7], [0, 1, 2], [0, 1, 2, 9], [0, 1, 2, 9, 10], [0, 1, 2, 9, 10, 11], [0, 1, 2, 9, 10, 11, 12], [0, 1, 2, 9, 10, 11, 12, 13], [0, 1, 2, 3, 4, 5, 6, 7, 8, 9, 10, 11, 12, 13, 14], [0, 1, 2, 3, 4, 5, 6, 7, 8, 9, 10, 11, 12, 13, 14, 15]]) [⟨some 22, none, .mov (.t 3)⟩, ⟨some 23, none, .bin .eql (.t 22) (.c (.int .i64 (0)))⟩, ⟨some 24, none, .mov (.t 23)⟩, ⟨some 25, some (24, true), .mov (.t 0)⟩, ⟨some 26, some (24, true), .nilc (.t 25)⟩, ⟨some 27, some (24, true), .fad (.t 26) 0⟩, ⟨some 28, some (24, true), .fad (.t 27) 2⟩, ⟨some 29, some (24, true), .aix (.t 28) (.c (.int .i64 (5))) 10 1⟩, ⟨some 30, some (24, true), .ldv (.t 29) false 1⟩, ⟨some 31, some (24, true), .mov (.t 0)⟩, ⟨some 32, some (24, true), .nilc (.t 31)⟩, ⟨some 33, some (24, true), .fad (.t 32) 0⟩, ⟨some 34, some (24, true), .fad (.t 33) 2⟩, ⟨some 35, some (24, true), .aix (.t 34) (.c (.int .i64 (0))) 10 1⟩, ⟨some 36, some (24, true), .ldv (.t 35) false 1⟩, ⟨some 37, some (24, true), .bin .eql (.t 30) (.t 36)⟩, ⟨some 38, none, .pick (.t 24) (.t 37) (.c (.bool false))⟩])
 (.cond (.t 38) (.ops none [⟨some 39, none, .mov (.t 0)⟩, ⟨some 40, none, .nilc (.t 39)⟩, ⟨some 41, none, .fad (.t 40) 0⟩, ⟨some 42, none, .fad (.t 41) 13⟩, ⟨none, none, .st (.t 42) (.c (.int .i64 (1))) 1⟩]) (.skip)))
 (.seq (.ops none [⟨some 2, none, .mov (.c (.bool true))⟩])
 (.ret))))))
/-- (*bellwether/lazy.hand).tell -/
def g61 : AFn := { np := 1, nt := 43, res := [.t 2], body := g61b }

def g62b : ACode :=
.seq (.ops none [⟨some 2, none, .mov (.c (.bool false))⟩])
 (.seq (.seq (.ops none [⟨some 3, none, .mov (.t 0)⟩, ⟨some 4, none, .nilc (.t 3)⟩, ⟨some 5, none, .fad (.t 4) 0⟩, ⟨some 6, none, .fad (.t 5) 1⟩, ⟨some 7, none, .ldv (.t 6) false 1⟩])
 (.block 0 (.seq (.ops none [⟨some 9, none, .bin .eql (.t 7) (.c (.int .i64 (10)))⟩, ⟨some 8, none, .mov (.t 9)⟩])
 (.cond (.t 8) (.seq (.ops none [⟨some 10, none, .mov (.t 0)⟩, ⟨some 11, none, .nilc (.t 10)⟩, ⟨some 12, none, .fad (.t 11) 0⟩, ⟨some 13, none, .fad (.t 12) 1⟩, ⟨none, none, .st (.t 13) (.c (.int .i64 (0))) 1⟩])
 (.seq (.ops none [⟨some 14, none, .mov (.t 0)⟩, ⟨some 15, none, .mov (.t 0)⟩, ⟨some 16, none, .calq 75 [.t 15]⟩, ⟨some 17, none, .calr 74 [.t 14, .t 16]⟩])
 (.cond (.t 17) (.ops none [⟨some 18, none, .mov (.t 0)⟩, ⟨some 19, none, .nilc (.t 18)⟩, ⟨some 20, none, .fad (.t 19) 0⟩, ⟨some 21, none, .fad (.t 20) 1⟩, ⟨none, none, .st (.t 21) (.c (.int .i64 (11))) 1⟩]) (.skip)))) (.seq (.ops none [⟨some 23, none, .bin .eql (.t 7) (.c (.int .i64 (11)))⟩, ⟨some 22, none, .mov (.t 23)⟩])
 (.cond (.t 22) (.seq (.ops none [⟨some 24, none, .mov (.t 0)⟩, ⟨some 25, none, .mov (.t 0)⟩, ⟨some 26, none, .calq 73 [.t 25]⟩, ⟨some 27, none, .calr 74 [.t 24, .t 26]⟩])
 (.cond (.t 27) (.ops none [⟨some 28, none, .mov (.t 0)⟩, ⟨some 29, none, .nilc (.t 28)⟩, ⟨some 30, none, .fad (.t 29) 0⟩, ⟨some 31, none, .fad (.t 30) 1⟩, ⟨none, none, .st (.t 31) (.c (.int .i64 (12))) 1⟩]) (.ops none [⟨some 32, none, .mov (.t 0)⟩, ⟨some 33, none, .calr 76 [.t 32, .c (.int .i64 (-1)), .c (.int .i64 (21))]⟩]))) (.seq (.ops none [⟨some 35, none, .bin .eql (.t 7) (.c (.int .i64 (12)))⟩, ⟨some 34, none, .mov (.t 35)⟩])
 (.cond (.t 34) (.ops none [⟨some 36, none, .mov (.t 0)⟩, ⟨some 37, none, .mov (.t 0)⟩, ⟨some 38, none, .calq 75 [.t 37]⟩, ⟨some 39, none, .calr 77 [.t 36, .t 38]⟩]) (.seq (.ops none [⟨some 41, none, .bin .eql (.t 7) (.c (.int .i64 (13)))⟩, ⟨some 40, none, .mov (.t 41)⟩])
 (.cond (.t 40) (.ops none [⟨some 42, none, .mov (.t 0)⟩, ⟨some 43, none, .mov (.t 0)⟩, ⟨some 44, none, .calq 73 [.t 43]⟩, ⟨some 45, none, .calr 77 [.t 42, .t 44]⟩]) (.seq (.ops none [⟨some 47, none, .bin .eql (.t 7) (.c (.int .i64 (14)))⟩, ⟨some 46, none, .mov (.t 47)⟩])
 (.cond (.t 46) (.ops none [⟨some 48, none, .mov (.t 0)⟩, ⟨some 49, none, .calr 78 [.t 48]⟩]) (.seq (.ops none [⟨some 51, none, .bin .eql (.t 7) (.c (.int .i64 (20)))⟩, ⟨some 50, none, .mov (.t 51)⟩])
 (.cond (.t 50) (.seq (.ops none [⟨some 52, none, .mov (.t 0)⟩, ⟨some 53, none, .mov (.t 0)⟩, ⟨some 54, none, .calq 73 [.t 53]⟩, ⟨some 55, none, .calr 79 [.t 52, .c (.int .i64 (2)), .t 54, .c (.int .i64 (2)), .c (.int .i64 (0))]⟩])
 (.ops none [⟨some 56, none, .mov (.t 0)⟩, ⟨some 57, none, .nilc (.t 56)⟩, ⟨some 58, none, .fad (.t 57) 0⟩, ⟨some 59, none, .fad (.t 58) 1⟩, ⟨none, none, .st (.t 59) (.c (.int .i64 (21))) 1⟩])) (.seq (.ops none [⟨some 61, none, .bin .eql (.t 7) (.c (.int .i64 (21)))⟩, ⟨some 60, none, .mov (.t 61)⟩])
 (.cond (.t 60) (.seq (.ops none [⟨some 62, none, .mov (.t 0)⟩, ⟨some 63, none, .mov (.t 0)⟩, ⟨some 64, none, .calq 75 [.t 63]⟩, ⟨some 65, none, .calr 79 [.t 62, .c (.int .i64 (2)), .t 64, .c (.int .i64 (2)), .c (.int .i64 (0))]⟩])
 (.seq (.ops none [⟨some 66, none, .mov (.t 0)⟩, ⟨some 67, none, .nilc (.t 66)⟩, ⟨some 68, none, .fad (.t 67) 0⟩, ⟨some 69, none, .fad (.t 68) 2⟩, ⟨some 70, none, .aix (.t 69) (.c (.int .i64 (7))) 10 1⟩, ⟨some 71, none, .ldv (.t 70) false 1⟩, ⟨some 72, none, .bin .eql (.t 71) (.c (.int .i64 (-1)))⟩])
 (.cond (.t 72) (.ops none [⟨some 73, none, .mov (.t 0)⟩, ⟨some 74, none, .nilc (.t 73)⟩, ⟨some 75, none, .fad (.t 74) 0⟩, ⟨some 76, none, .fad (.t 75) 1⟩, ⟨none, none, .st (.t 76) (.c (.int .i64 (0))) 1⟩]) (.ops none [⟨some 77, none, .mov (.t 0)⟩, ⟨some 78, none, .mov (.t 0)⟩, ⟨some 79, none, .mov (.t 0)⟩, ⟨some 80, none, .nilc (.t 79)⟩, ⟨some 81, none, .fad (.t 80) 0⟩, ⟨some 82, none, .fad (.t 81) 2⟩, ⟨some 83, none, .aix (.t 82) (.c (.int .i64 (7))) 10 1⟩, ⟨some 84, none, .ldv (.t 83) false 1⟩, ⟨some 85, none, .nilc (.t 77)⟩, ⟨some 86, none, .fad (.t 85) 0⟩, ⟨some 87, none, .fad (.t 86) 12⟩, ⟨none, none, .st (.t 87) (.c (.bool true)) 1⟩, ⟨some 88, none, .nilc (.t 78)⟩, ⟨some 89, none, .fad (.t 88) 0⟩, ⟨some 90, none, .fad (.t 89) 13⟩, ⟨none, none, .st (.t 90) (.t 84) 1⟩])))) (.seq (.ops none [⟨some 2, none, .mov (.c (.bool false))⟩])
 (.ret))))))))))))))))))
 (.seq (.ops none [⟨some 2, none, .mov (.c (.bool true))⟩])
 (.ret)))
/-- (*bellwether/lazy.hand).locks -/
def g62 : AFn := { np := 1, nt := 91, res := [.t 2], body := g62b }

def g63b : ACode :=
.seq (.ops none [⟨some 2, none, .mov (.c (.bool false))⟩])
 (.seq (.seq (.ops none [⟨some 3, none, .mov (.t 0)⟩, ⟨some 4, none, .nilc (.t 3)⟩, ⟨some 5, none, .fad (.t 4) 0⟩, ⟨some 6, none, .fad (.t 5) 1⟩, ⟨some 7, none, .ldv (.t 6) false 1⟩])
 (.block 0 (.seq (.ops none [⟨some 9, none, .bin .eql (.t 7) (.c (.int .i64 (15)))⟩, ⟨some 8, none, .mov (.t 9)⟩])
 (.cond (.t 8) (.seq (.ops (some [[], [], [1], [], [3], [3, 4], [3, 4, 5], [3, 4, 5, 6], [3, 4, 5, 6, 7], [0, 1, 2, 3, 4, 5, 6, 7, 8]]) [⟨some 10, none, .mov (.t 0)⟩, ⟨some 11, none, .mov (.t 0)⟩, ⟨some 12, none, .calq 80 [.t 11]⟩, ⟨some 13, none, .mov (.t 0)⟩, ⟨some 14, none, .nilc (.t 13)⟩, ⟨some 15, none, .fad (.t 14) 0⟩, ⟨some 16, none, .fad (.t 15) 2⟩, ⟨some 17, none, .aix (.t 16) (.c (.int .i64 (0))) 10 1⟩, ⟨some 18, none, .ldv (.t 17) false 1⟩, ⟨some 19, none, .calr 79 [.t 10, .c (.int .i64 (2)), .t 12, .c (.int .i64 (0)), .t 18]⟩])
 (.ops none [⟨some 20, none, .mov (.t 0)⟩, ⟨some 21, none, .nilc (.t 20)⟩, ⟨some 22, none, .fad (.t 21) 0⟩, ⟨some 23, none, .fad (.t 22) 1⟩, ⟨none, none, .st (.t 23) (.c (.int .i64 (16))) 1⟩])) (.seq (.ops none [⟨some 25, none, .bin .eql (.t 7) (.c (.int .i64 (16)))⟩, ⟨some 24, none, .mov (.t 25)⟩])
 (.cond (.t 24) (.seq (.ops none [⟨some 26, none, .mov (.t 0)⟩, ⟨some 27, none, .mov (.t 0)⟩, ⟨some 28, none, .calq 80 [.t 27]⟩, ⟨some 29, none, .mov (.t 0)⟩, ⟨some 30, none, .calq 73 [.t 29]⟩, ⟨some 31, none, .calr 79 [.t 26, .c (.int .i64 (2)), .t 28, .c (.int .i64 (1)), .t 30]⟩])
 (.ops none [⟨some 32, none, .mov (.t 0)⟩, ⟨some 33, none, .nilc (.t 32)⟩, ⟨some 34, none, .fad (.t 33) 0⟩, ⟨some 35, none, .fad (.t 34) 1⟩, ⟨none, none, .st (.t 35) (.c (.int .i64 (18))) 1⟩])) (.seq (.ops none [⟨some 37, none, .bin .eql (.t 7) (.c (.int .i64 (18)))⟩, ⟨some 36, none, .mov (.t 37)⟩])
 (.cond (.t 36) (.seq (.ops none [⟨some 38, none, .mov (.t 0)⟩, ⟨some 39, none, .mov (.t 0)⟩, ⟨some 40, none, .calq 75 [.t 39]⟩, ⟨some 41, none, .mov (.t 0)⟩, ⟨some 42, none, .calq 80 [.t 41]⟩, ⟨some 43, none, .calr 79 [.t 38, .c (.int .i64 (2)), .t 40, .c (.int .i64 (1)), .t 42]⟩])
 (.ops none [⟨some 44, none, .mov (.t 0)⟩, ⟨some 45, none, .calr 76 [.t 44, .c (.int .i64 (1)), .c (.int .i64 (20))]⟩])) (.seq (.ops none [⟨some 2, none, .mov (.c (.bool false))⟩])
 (.ret))))))))))
 (.seq (.ops none [⟨some 2, none, .mov (.c (.bool true))⟩])
 (.ret)))
/-- (*bellwether/lazy.hand).insert -/
def g63 : AFn := { np := 1, nt := 46, res := [.t 2], body := g63b }

def g64b : ACode :=
.seq (.ops none [⟨some 2, none, .mov (.c (.bool false))⟩])
 (.seq (.seq (.ops none [⟨some 3, none, .mov (.t 0)⟩, ⟨some 4, none, .nilc (.t 3)⟩, ⟨some 5, none, .fad (.t 4) 0⟩, ⟨some 6, none, .fad (.t 5) 1⟩, ⟨some 7, none, .ldv (.t 6) false 1⟩])
 (.block 0 (.seq (.ops none [⟨some 9, none, .bin .eql (.t 7) (.c (.int .i64 (17)))⟩, ⟨some 8, none, .mov (.t 9)⟩])
 (.cond (.t 8) (.seq (.ops none [⟨some 10, none, .mov (.t 0)⟩, ⟨some 11, none, .mov (.t 0)⟩, ⟨some 12, none, .calq 73 [.t 11]⟩, ⟨some 13, none, .calr 79 [.t 10, .c (.int .i64 (2)), .t 12, .c (.int .i64 (3)), .c (.int .i64 (1))]⟩])
 (.ops none [⟨some 14, none, .mov (.t 0)⟩, ⟨some 15, none, .nilc (.t 14)⟩, ⟨some 16, none, .fad (.t 15) 0⟩, ⟨some 17, none, .fad (.t 16) 1⟩, ⟨none, none, .st (.t 17) (.c (.int .i64 (19))) 1⟩])) (.seq (.ops none [⟨some 19, none, .bin .eql (.t 7) (.c (.int .i64 (19)))⟩, ⟨some 18, none, .mov (.t 19)⟩])
 (.cond (.t 18) (.ops (some [[], [], [], [], [3], [2, 3, 4], [0], [0, 6], [0, 6, 7], [0, 2, 3, 4, 5, 6, 7, 8], [0, 2, 3, 4, 5, 6, 7, 8, 9], [0, 1, 2, 3, 4, 5, 6, 7, 8, 9, 10], [0, 1, 2, 3, 4, 5, 6, 7, 8, 9, 10, 11], [0, 1, 2, 3, 4, 5, 6, 7, 8, 9, 10, 11, 12], [0, 1, 2, 3, 4, 5, 6, 7, 8, 9, 10, 11, 12, 13]]) [⟨some 20, none, .mov (.t 0)⟩, ⟨some 21, none, .mov (.t 0)⟩, ⟨some 22, none, .mov (.t 0)⟩, ⟨some 23, none, .mov (.t 0)⟩, ⟨some 24, none, .calq 73 [.t 23]⟩, ⟨some 25, none, .calr 72 [.t 22, .t 24, .c (.int .i64 (1))]⟩, ⟨some 26, none, .nilc (.t 20)⟩, ⟨some 27, none, .fad (.t 26) 0⟩, ⟨some 28, none, .fad (.t 27) 2⟩, ⟨some 29, none, .aix (.t 28) (.c (.int .i64 (6))) 10 1⟩, ⟨none, none, .st (.t 29) (.t 25) 1⟩, ⟨some 30, none, .nilc (.t 21)⟩, ⟨some 31, none, .fad (.t 30) 0⟩, ⟨some 32, none, .fad (.t 31) 1⟩, ⟨none, none, .st (.t 32) (.c (.int .i64 (22))) 1⟩]) (.seq (.ops none [⟨some 34, none, .bin .eql (.t 7) (.c (.int .i64 (22)))⟩, ⟨some 33, none, .mov (.t 34)⟩])
 (.cond (.t 33) (.seq (.ops (some [[], [], [1], [], [3], [3, 4], [3, 4, 5], [3, 4, 5, 6], [3, 4, 5, 6, 7], [0, 1, 2, 3, 4, 5, 6, 7, 8]]) [⟨some 35, none, .mov (.t 0)⟩, ⟨some 36, none, .mov (.t 0)⟩, ⟨some 37, none, .calq 75 [.t 36]⟩, ⟨some 38, none, .mov (.t 0)⟩, ⟨some 39, none, .nilc (.t 38)⟩, ⟨some 40, none, .fad (.t 39) 0⟩, ⟨some 41, none, .fad (.t 40) 2⟩, ⟨some 42, none, .aix (.t 41) (.c (.int .i64 (6))) 10 1⟩, ⟨some 43, none, .ldv (.t 42) false 1⟩, ⟨some 44, none, .calr 79 [.t 35, .c (.int .i64 (2)), .t 37, .c (.int .i64 (1)), .t 43]⟩])
 (.ops none [⟨some 45, none, .mov (.t 0)⟩, ⟨some 46, none, .calr 76 [.t 45, .c (.int .i64 (1)), .c (.int .i64 (20))]⟩])) (.seq (.ops none [⟨some 2, none, .mov (.c (.bool false))⟩])
 (.ret))))))))))
 (.seq (.ops none [⟨some 2, none, .mov (.c (.bool true))⟩])
 (.ret)))
/-- (*bellwether/lazy.hand).remove -/
def g64 : AFn := { np := 1, nt := 47, res := [.t 2], body := g64b }

def g65b : ACode :=
.seq (.ops none [⟨some 3, none, .boxf 14 (.t 1)⟩, ⟨some 4, none, .new 77 [.int .i64 0, .int .i64 0, .int .i64 0, .int .i64 0]⟩])
 (.seq (.seq (.ops none [⟨some 5, none, .fad (.t 3) 1⟩, ⟨some 6, none, .ldf (.t 5) false 1⟩])
 (.block 0 (.seq (.ops none [⟨some 8, none, .bin .eql (.t 6) (.c (.int .i64 (0)))⟩, ⟨some 7, none, .mov (.t 8)⟩])
 (.cond (.t 7) (.seq (.ops none [⟨some 9, none, .mov (.t 0)⟩, ⟨some 10, none, .calp 66 [.t 9, .c (.int .i64 (0)), .c (.int .i64 (1))]⟩, ⟨some 11, none, .build [.int .i64 0, .int .i64 0, .int .i64 0, .int .i64 0] [(0, 1, .c (.int .i64 (1))), (1, 1, .t 10)]⟩, ⟨none, none, .st (.t 4) (.t 11) 4⟩])
 (.ret)) (.seq (.ops none [⟨some 13, none, .bin .eql (.t 6) (.c (.int .i64 (1)))⟩, ⟨some 12, none, .mov (.t 13)⟩])
 (.cond (.t 12) (.seq (.ops none [⟨some 14, none, .mov (.t 0)⟩, ⟨some 15, none, .fad (.t 3) 2⟩, ⟨some 16, none, .aix (.t 15) (.c (.int .i64 (2))) 10 1⟩, ⟨some 17, none, .ldf (.t 16) false 1⟩, ⟨some 18, none, .calp 66 [.t 14, .t 17, .c (.int .i64 (0))]⟩, ⟨some 19, none, .build [.int .i64 0, .int .i64 0, .int .i64 0, .int .i64 0] [(0, 1, .c (.int .i64 (1))), (1, 1, .t 18)]⟩, ⟨none, none, .st (.t 4) (.t 19) 4⟩])
 (.ret)) (.seq (.ops none [⟨some 21, none, .bin .eql (.t 6) (.c (.int .i64 (2)))⟩, ⟨some 20, none, .mov (.t 21)⟩])
 (.cond (.t 20) (.seq (.ops none [⟨some 22, none, .mov (.t 0)⟩, ⟨some 23, none, .fad (.t 3) 2⟩, ⟨some 24, none, .aix (.t 23) (.c (.int .i64 (2))) 10 1⟩, ⟨some 25, none, .ldf (.t 24) false 1⟩, ⟨some 26, none, .calp 66 [.t 22, .t 25, .c (.int .i64 (1))]⟩, ⟨some 27, none, .build [.int .i64 0, .int .i64 0, .int .i64 0, .int .i64 0] [(0, 1, .c (.int .i64 (1))), (1, 1, .t 26)]⟩, ⟨none, none, .st (.t 4) (.t 27) 4⟩])
 (.ret)) (.skip)))))))))
 (.seq (.ops none [⟨some 28, none, .build [.int .i64 0, .int .i64 0, .int .i64 0, .int .i64 0] []⟩, ⟨none, none, .st (.t 4) (.t 28) 4⟩])
 (.ret)))
/-- bellwether/bellwetherref12.passes -/
def g65 : AFn := { np := 2, nt := 29, res := [.cell 4 true 4], body := g65b }

def g66b : ACode :=
.seq (.ops none [⟨some 6, none, .mov (.c (.int .i64 (0)))⟩])
 (.seq (.seq (.ops none [⟨some 7, none, .mov (.t 1)⟩, ⟨some 8, none, .bin .lss (.t 7) (.c (.int .i64 (0)))⟩, ⟨some 9, none, .mov (.t 8)⟩, ⟨some 10, some (9, false), .mov (.t 1)⟩, ⟨some 11, some (9, false), .mov (.t 0)⟩, ⟨some 12, some (9, false), .len (.t 11)⟩, ⟨some 13, some (9, false), .bin .quo (.t 12) (.c (.int .i64 (4)))⟩, ⟨some 14, some (9, false), .bin .geq (.t 10) (.t 13)⟩, ⟨some 15, none, .pick (.t 9) (.c (.bool true)) (.t 14)⟩])
 (.cond (.t 15) (.seq (.ops none [⟨some 6, none, .mov (.c (.int .i64 (-1)))⟩])
 (.ret)) (.skip)))
 (.seq (.ops none [⟨some 16, none, .mov (.t 1)⟩, ⟨some 17, none, .bin .mul (.c (.int .i64 (4))) (.t 16)⟩, ⟨some 18, none, .mov (.t 2)⟩, ⟨some 19, none, .bin .add (.t 17) (.t 18)⟩, ⟨some 6, none, .mov (.t 19)⟩])
 (.ret)))
/-- bellwether/bellwetherref12.place -/
def g66 : AFn := { np := 3, nt := 20, res := [.t 6], body := g66b }

def g67b : ACode :=
.seq (.ops none [⟨some 2, none, .mov (.c (.bool false))⟩])
 (.seq (.ops none [⟨some 3, none, .mov (.t 0)⟩, ⟨some 4, none, .bin .geq (.t 3) (.c (.int .i64 (-1152921504606846975)))⟩, ⟨some 5, none, .mov (.t 4)⟩, ⟨some 6, some (5, true), .mov (.t 0)⟩, ⟨some 7, some (5, true), .bin .leq (.t 6) (.c (.int .i64 (1152921504606846975)))⟩, ⟨some 8, none, .pick (.t 5) (.t 7) (.c (.bool false))⟩, ⟨some 2, none, .mov (.t 8)⟩])
 (.ret))
/-- bellwether/bellwetherref02.within -/
def g67 : AFn := { np := 1, nt := 9, res := [.t 2], body := g67b }

def g68b : ACode :=
.seq (.ops none [⟨some 3, none, .box 25 14 (.t 0)⟩, ⟨some 6, none, .new 25 [.int .i64 0, .int .i64 0, .int .i64 0, .int .i64 0, .int .i64 0, .int .i64 0, .int .i64 0, .int .i64 0, .int .i64 0, .int .i64 0, .int .i64 0, .int .i64 0, .bool false, .int .i64 0]⟩])
 (.seq (.ops none [⟨some 7, none, .mov (.t 1)⟩, ⟨some 8, none, .fad (.t 3) 1⟩, ⟨none, none, .st (.t 8) (.t 7) 1⟩])
 (.seq (.ops none [⟨some 9, none, .mov (.t 2)⟩, ⟨some 10, none, .fad (.t 3) 2⟩, ⟨some 11, none, .aix (.t 10) (.c (.int .i64 (7))) 10 1⟩, ⟨none, none, .st (.t 11) (.t 9) 1⟩])
 (.seq (.ops none [⟨some 12, none, .ldv (.t 3) true 14⟩, ⟨none, none, .st (.t 6) (.t 12) 14⟩])
 (.ret))))
/-- bellwether/bellwetherref12.to -/
def g68 : AFn := { np := 3, nt := 13, res := [.cell 6 true 14], body := g68b }

def g69b : ACode :=
.seq (.ops none [⟨some 2, none, .mov (.c (.int .i64 (0)))⟩])
 (.seq (.ops none [⟨some 4, none, .mov (.t 0)⟩, ⟨some 5, none, .len (.t 4)⟩, ⟨some 6, none, .bin .quo (.t 5) (.c (.int .i64 (4)))⟩, ⟨some 3, none, .mov (.t 6)⟩])
 (.seq (.seq (.ops none [⟨some 7, none, .mov (.t 0)⟩, ⟨some 8, none, .len (.t 7)⟩, ⟨some 9, none, .bin .rem (.t 8) (.c (.int .i64 (4)))⟩, ⟨some 10, none, .bin .neq (.t 9) (.c (.int .i64 (0)))⟩, ⟨some 11, none, .mov (.t 10)⟩, ⟨some 12, some (11, false), .mov (.t 3)⟩, ⟨some 13, some (11, false), .bin .lss (.t 12) (.c (.int .i64 (2)))⟩, ⟨some 14, none, .pick (.t 11) (.c (.bool true)) (.t 13)⟩, ⟨some 15, none, .mov (.t 14)⟩, ⟨some 16, some (15, false), .mov (.t 3)⟩, ⟨some 17, some (15, false), .bin .gtr (.t 16) (.c (.int .i64 (500)))⟩, ⟨some 18, none, .pick (.t 15) (.c (.bool true)) (.t 17)⟩])
 (.cond (.t 18) (.seq (.ops none [⟨some 2, none, .mov (.c (.int .i64 (-1)))⟩])
 (.ret)) (.skip)))
 (.seq (.ops none [⟨some 19, none, .mov (.t 3)⟩, ⟨some 2, none, .mov (.t 19)⟩])
 (.ret))))
/-- bellwether/bellwetherref11.nodes -/
def g69 : AFn := { np := 1, nt := 20, res := [.t 2], body := g69b }

def g72b : ACode :=
.seq (.ops none [⟨some 6, none, .mov (.c (.int .i64 (0)))⟩])
 (.seq (.ops none [⟨some 7, none, .mov (.t 0)⟩, ⟨some 8, none, .mov (.t 1)⟩, ⟨some 9, none, .mov (.t 2)⟩, ⟨some 10, none, .calr 79 [.t 7, .c (.int .i64 (1)), .t 8, .t 9, .c (.int .i64 (0))]⟩, ⟨some 11, none, .fld (.t 10) 0 false 1⟩, ⟨some 6, none, .mov (.t 11)⟩])
 (.ret))
/-- (*bellwether/lazy.hand).load -/
def g72 : AFn := { np := 3, nt := 12, res := [.t 6], body := g72b }

def g73b : ACode :=
.seq (.ops none [⟨some 2, none, .mov (.c (.int .i64 (0)))⟩])
 (.seq (.ops none [⟨some 3, none, .mov (.t 0)⟩, ⟨some 4, none, .nilc (.t 3)⟩, ⟨some 5, none, .fad (.t 4) 0⟩, ⟨some 6, none, .fad (.t 5) 2⟩, ⟨some 7, none, .aix (.t 6) (.c (.int .i64 (2))) 10 1⟩, ⟨some 8, none, .ldv (.t 7) false 1⟩, ⟨some 2, none, .mov (.t 8)⟩])
 (.ret))
/-- (*bellwether/lazy.hand).cur -/
def g73 : AFn := { np := 1, nt := 9, res := [.t 2], body := g73b }

def g74b : ACode :=
.seq (.ops none [⟨some 4, none, .mov (.c (.bool false))⟩])
 (.seq (.ops none [⟨some 5, none, .mov (.t 0)⟩, ⟨some 6, none, .mov (.t 1)⟩, ⟨some 7, none, .mov (.t 0)⟩, ⟨some 8, none, .nilc (.t 7)⟩, ⟨some 9, none, .fad (.t 8) 0⟩, ⟨some 10, none, .fad (.t 9) 2⟩, ⟨some 11, none, .aix (.t 10) (.c (.int .i64 (4))) 10 1⟩, ⟨some 12, none, .ldv (.t 11) false 1⟩, ⟨some 13, none, .calr 79 [.t 5, .c (.int .i64 (3)), .t 6, .c (.int .i64 (2)), .t 12]⟩, ⟨some 14, none, .fld (.t 13) 1 false 1⟩, ⟨some 4, none, .mov (.t 14)⟩])
 (.ret))
/-- (*bellwether/lazy.hand).lock -/
def g74 : AFn := { np := 2, nt := 15, res := [.t 4], body := g74b }

def g75b : ACode :=
.seq (.ops none [⟨some 2, none, .mov (.c (.int .i64 (0)))⟩])
 (.seq (.ops none [⟨some 3, none, .mov (.t 0)⟩, ⟨some 4, none, .nilc (.t 3)⟩, ⟨some 5, none, .fad (.t 4) 0⟩, ⟨some 6, none, .fad (.t 5) 2⟩, ⟨some 7, none, .aix (.t 6) (.c (.int .i64 (1))) 10 1⟩, ⟨some 8, none, .ldv (.t 7) false 1⟩, ⟨some 2, none, .mov (.t 8)⟩])
 (.ret))
/-- (*bellwether/lazy.hand).pred -/
def g75 : AFn := { np := 1, nt := 9, res := [.t 2], body := g75b }

def g76b : ACode :=
.ops none [⟨some 6, none, .mov (.t 0)⟩, ⟨some 7, none, .mov (.t 0)⟩, ⟨some 8, none, .mov (.t 1)⟩, ⟨some 9, none, .mov (.t 2)⟩, ⟨some 10, none, .nilc (.t 6)⟩, ⟨some 11, none, .fad (.t 10) 0⟩, ⟨some 12, none, .fad (.t 11) 2⟩, ⟨some 13, none, .aix (.t 12) (.c (.int .i64 (7))) 10 1⟩, ⟨none, none, .st (.t 13) (.t 8) 1⟩, ⟨some 14, none, .nilc (.t 7)⟩, ⟨some 15, none, .fad (.t 14) 0⟩, ⟨some 16, none, .fad (.t 15) 1⟩, ⟨none, none, .st (.t 16) (.t 9) 1⟩]
/-- (*bellwether/lazy.hand).ends -/
def g76 : AFn := { np := 3, nt := 17, res := [], body := g76b }

def g77b : ACode :=
.seq (.seq (.ops none [⟨some 4, none, .mov (.t 0)⟩, ⟨some 5, none, .mov (.t 1)⟩, ⟨some 6, none, .calr 72 [.t 4, .t 5, .c (.int .i64 (3))]⟩, ⟨some 7, none, .bin .neq (.t 6) (.c (.int .i64 (0)))⟩])
 (.cond (.t 7) (.seq (.ops none [⟨some 8, none, .mov (.t 0)⟩, ⟨some 9, none, .calr 76 [.t 8, .c (.int .i64 (-1)), .c (.int .i64 (20))]⟩])
 (.ret)) (.skip)))
 (.ops none [⟨some 10, none, .mov (.t 0)⟩, ⟨some 11, none, .nilc (.t 10)⟩, ⟨some 12, none, .fad (.t 11) 0⟩, ⟨some 13, none, .fad (.t 12) 1⟩, ⟨some 14, none, .ldv (.t 13) false 1⟩, ⟨some 15, none, .bin .add (.t 14) (.c (.int .i64 (1)))⟩, ⟨some 16, none, .nilc (.t 10)⟩, ⟨some 17, none, .fad (.t 16) 0⟩, ⟨some 18, none, .fad (.t 17) 1⟩, ⟨none, none, .st (.t 18) (.t 15) 1⟩])
/-- (*bellwether/lazy.hand).alive -/
def g77 : AFn := { np := 2, nt := 19, res := [], body := g77b }

def g78b : ACode :=
.seq (.ops none [⟨some 4, none, .mov (.t 0)⟩, ⟨some 5, none, .mov (.t 0)⟩, ⟨some 6, none, .calq 75 [.t 5]⟩, ⟨some 7, none, .calr 72 [.t 4, .t 6, .c (.int .i64 (1))]⟩, ⟨some 8, none, .mov (.t 0)⟩, ⟨some 9, none, .calq 73 [.t 8]⟩, ⟨some 10, none, .bin .eql (.t 7) (.t 9)⟩, ⟨some 2, none, .mov (.t 10)⟩])
 (.seq (.ops (some [[], [0], [0, 1], [0, 1, 2], [0, 1, 2, 3], [0, 1, 2, 3, 4], [], [6], [6, 7], [6, 7, 8], [6, 7, 8, 9], [6, 7, 8, 9, 10], [0, 1, 2, 3, 4, 5, 6, 7, 8, 9, 10, 11], [0, 1, 2, 3, 4, 5, 6, 7, 8, 9, 10, 11, 12]]) [⟨some 11, none, .mov (.t 0)⟩, ⟨some 12, none, .nilc (.t 11)⟩, ⟨some 13, none, .fad (.t 12) 0⟩, ⟨some 14, none, .fad (.t 13) 2⟩, ⟨some 15, none, .aix (.t 14) (.c (.int .i64 (5))) 10 1⟩, ⟨some 16, none, .ldv (.t 15) false 1⟩, ⟨some 17, none, .mov (.t 0)⟩, ⟨some 18, none, .nilc (.t 17)⟩, ⟨some 19, none, .fad (.t 18) 0⟩, ⟨some 20, none, .fad (.t 19) 2⟩, ⟨some 21, none, .aix (.t 20) (.c (.int .i64 (0))) 10 1⟩, ⟨some 22, none, .ldv (.t 21) false 1⟩, ⟨some 23, none, .bin .eql (.t 16) (.t 22)⟩, ⟨some 3, none, .mov (.t 23)⟩])
 (.block 0 (.seq (.ops none [⟨some 27, none, .mov (.t 2)⟩, ⟨some 28, none, .notb (.t 27)⟩, ⟨some 26, none, .mov (.t 28)⟩])
 (.cond (.t 26) (.ops none [⟨some 29, none, .mov (.t 0)⟩, ⟨some 30, none, .calr 76 [.t 29, .c (.int .i64 (-1)), .c (.int .i64 (20))]⟩]) (.seq (.ops none [⟨some 32, none, .mov (.t 3)⟩, ⟨some 33, none, .mov (.t 32)⟩, ⟨some 34, some (33, true), .mov (.t 0)⟩, ⟨some 35, some (33, true), .nilc (.t 34)⟩, ⟨some 36, some (33, true), .fad (.t 35) 0⟩, ⟨some 37, some (33, true), .fad (.t 36) 0⟩, ⟨some 38, some (33, true), .ldv (.t 37) false 1⟩, ⟨some 39, some (33, true), .bin .eql (.t 38) (.c (.int .i64 (2)))⟩, ⟨some 40, none, .pick (.t 33) (.t 39) (.c (.bool false))⟩, ⟨some 31, none, .mov (.t 40)⟩])
 (.cond (.t 31) (.ops none [⟨some 41, none, .mov (.t 0)⟩, ⟨some 42, none, .nilc (.t 41)⟩, ⟨some 43, none, .fad (.t 42) 0⟩, ⟨some 44, none, .fad (.t 43) 1⟩, ⟨none, none, .st (.t 44) (.c (.int .i64 (17))) 1⟩]) (.seq (.ops none [⟨some 46, none, .mov (.t 3)⟩, ⟨some 47, none, .notb (.t 46)⟩, ⟨some 48, none, .mov (.t 47)⟩, ⟨some 49, some (48, true), .mov (.t 0)⟩, ⟨some 50, some (48, true), .nilc (.t 49)⟩, ⟨some 51, some (48, true), .fad (.t 50) 0⟩, ⟨some 52, some (48, true), .fad (.t 51) 0⟩, ⟨some 53, some (48, true), .ldv (.t 52) false 1⟩, ⟨some 54, some (48, true), .bin .eql (.t 53) (.c (.int .i64 (1)))⟩, ⟨some 55, none, .pick (.t 48) (.t 54) (.c (.bool false))⟩, ⟨some 45, none, .mov (.t 55)⟩])
 (.cond (.t 45) (.ops none [⟨some 56, none, .mov (.t 0)⟩, ⟨some 57, none, .nilc (.t 56)⟩, ⟨some 58, none, .fad (.t 57) 0⟩, ⟨some 59, none, .fad (.t 58) 1⟩, ⟨none, none, .st (.t 59) (.c (.int .i64 (15))) 1⟩]) (.ops none [⟨some 24, none, .mov (.t 0)⟩, ⟨some 25, none, .calr 76 [.t 24, .c (.int .i64 (0)), .c (.int .i64 (20))]⟩])))))))))
/-- (*bellwether/lazy.hand).decide -/
def g78 : AFn := { np := 1, nt := 60, res := [], body := g78b }

def g79b : ACode :=
.seq (.ops none [⟨some 10, none, .new 81 [.int .i64 0, .bool false]⟩])
 (.seq (.ops none [⟨some 13, none, .mov (.t 1)⟩, ⟨some 14, none, .mov (.t 4)⟩, ⟨some 15, none, .build [.int .i64 0, .int .i64 0, .int .i64 0, .int .i64 0] [(0, 1, .t 13), (1, 1, .c (.int .i64 (-1))), (3, 1, .t 14)]⟩, ⟨some 11, none, .new 77 [.int .i64 0, .int .i64 0, .int .i64 0, .int .i64 0]⟩, ⟨none, none, .st (.t 11) (.t 15) 4⟩])
 (.seq (.seq (.ops none [⟨some 16, none, .mov (.t 2)⟩, ⟨some 17, none, .bin .geq (.t 16) (.c (.int .i64 (0)))⟩, ⟨some 18, none, .mov (.t 17)⟩, ⟨some 19, some (18, true), .mov (.t 2)⟩, ⟨some 20, some (18, true), .mov (.t 0)⟩, ⟨some 21, some (18, true), .nilc (.t 20)⟩, ⟨some 22, some (18, true), .fad (.t 21) 14⟩, ⟨some 23, some (18, true), .ldv (.t 22) false 1⟩, ⟨some 24, some (18, true), .len (.t 23)⟩, ⟨some 25, some (18, true), .bin .quo (.t 24) (.c (.int .i64 (4)))⟩, ⟨some 26, some (18, true), .bin .lss (.t 19) (.t 25)⟩, ⟨some 27, none, .pick (.t 18) (.t 26) (.c (.bool false))⟩])
 (.cond (.t 27) (.ops none [⟨some 28, none, .mov (.t 2)⟩, ⟨some 29, none, .bin .mul (.c (.int .i64 (4))) (.t 28)⟩, ⟨some 30, none, .mov (.t 3)⟩, ⟨some 31, none, .bin .add (.t 29) (.t 30)⟩, ⟨some 32, none, .fad (.t 11) 1⟩, ⟨none, none, .st (.t 32) (.t 31) 1⟩]) (.skip)))
 (.seq (.ops none [⟨some 12, none, .new 81 [.int .i64 0, .bool false]⟩])
 (.seq (.ops (some [[], [], [], [2], [2, 3], [2, 3, 4], [], [2, 3, 4, 5, 6], [2, 3, 4, 5, 6, 7], [2, 3, 4, 5, 6, 7, 8], [2, 3, 4, 5, 6, 7, 8], [2, 3, 4, 5, 6, 7, 8], [0, 2, 3, 4, 5, 6, 7, 8, 9], [0, 2, 3, 4, 5, 6, 7, 8, 9, 12], [0, 2, 3, 4, 5, 6, 7, 8, 9, 12, 13], [0, 2, 3, 4, 5, 6, 7, 8, 9, 10, 12, 13, 14], [0, 1, 2, 3, 4, 5, 6, 7, 8, 9, 10, 11, 12, 13, 14, 15], [0, 1, 2, 3, 4, 5, 6, 7, 8, 9, 10, 11, 12, 13, 14, 15, 16], [0, 1, 2, 3, 4, 5, 6, 7, 8, 9, 10, 11, 12, 13, 14, 15, 16, 17]]) [⟨some 34, none, .mov (.t 0)⟩, ⟨some 35, none, .mov (.t 0)⟩, ⟨some 36, none, .mov (.t 0)⟩, ⟨some 37, none, .nilc (.t 36)⟩, ⟨some 38, none, .fad (.t 37) 14⟩, ⟨some 39, none, .ldv (.t 38) false 1⟩, ⟨some 40, none, .ldv (.t 11) true 4⟩, ⟨some 41, none, .calp 83 [.t 39, .t 40]⟩, ⟨some 33, none, .mov (.t 41)⟩, ⟨some 42, none, .ext (.t 33) 0⟩, ⟨some 43, none, .ext (.t 33) 1⟩, ⟨some 44, none, .ext (.t 33) 2⟩, ⟨some 45, none, .nilc (.t 34)⟩, ⟨some 46, none, .fad (.t 45) 14⟩, ⟨none, none, .st (.t 46) (.t 42) 1⟩, ⟨none, none, .st (.t 12) (.t 43) 2⟩, ⟨some 47, none, .nilc (.t 35)⟩, ⟨some 48, none, .fad (.t 47) 15⟩, ⟨none, none, .st (.t 48) (.t 44) 1⟩])
 (.seq (.ops none [⟨some 49, none, .ldv (.t 12) true 2⟩, ⟨none, none, .st (.t 10) (.t 49) 2⟩])
 (.ret))))))
/-- (*bellwether/lazy.hand).touch -/
def g79 : AFn := { np := 5, nt := 50, res := [.cell 10 true 2], body := g79b }

def g80b : ACode :=
.seq (.ops none [⟨some 2, none, .mov (.c (.int .i64 (0)))⟩])
 (.seq (.ops none [⟨some 3, none, .mov (.t 0)⟩, ⟨some 4, none, .nilc (.t 3)⟩, ⟨some 5, none, .fad (.t 4) 0⟩, ⟨some 6, none, .fad (.t 5) 2⟩, ⟨some 7, none, .aix (.t 6) (.c (.int .i64 (3))) 10 1⟩, ⟨some 8, none, .ldv (.t 7) false 1⟩, ⟨some 2, none, .mov (.t 8)⟩])
 (.ret))
/-- (*bellwether/lazy.hand).own -/
def g80 : AFn := { np := 1, nt := 9, res := [.t 2], body := g80b }

def g83b : ACode :=
.seq (.ops none [⟨some 3, none, .boxf 4 (.t 1)⟩, ⟨some 4, none, .mov (.c (.list 1 []))⟩, ⟨some 5, none, .new 81 [.int .i64 0, .bool false]⟩, ⟨some 6, none, .mov (.c (.int .i64 (0)))⟩])
 (.seq (.ops none [⟨some 11, none, .mov (.t 0)⟩, ⟨some 12, none, .calf 41 [.t 11]⟩, ⟨some 7, none, .mov (.t 12)⟩])
 (.seq (.block 0 (.seq (.ops none [⟨some 14, none, .mov (.t 0)⟩, ⟨some 15, none, .len (.t 14)⟩, ⟨some 16, none, .bin .gtr (.t 15) (.c (.int .i64 (50000)))⟩, ⟨some 13, none, .mov (.t 16)⟩])
 (.cond (.t 13) (.seq (.ops none [⟨some 17, none, .mov (.t 7)⟩, ⟨some 18, none, .build [.int .i64 0, .bool false] []⟩, ⟨some 4, none, .mov (.t 17)⟩, ⟨none, none, .st (.t 5) (.t 18) 2⟩, ⟨some 6, none, .mov (.c (.int .i64 (2)))⟩])
 (.ret)) (.seq (.seq (.ops none [⟨some 20, none, .fad (.t 3) 0⟩, ⟨some 21, none, .ldf (.t 20) false 1⟩, ⟨some 22, none, .bin .lss (.t 21) (.c (.int .i64 (1)))⟩, ⟨some 19, none, .mov (.t 22)⟩])
 (.cond (.t 19) (.skip) (.ops none [⟨some 23, none, .fad (.t 3) 0⟩, ⟨some 24, none, .ldf (.t 23) false 1⟩, ⟨some 25, none, .bin .gtr (.t 24) (.c (.int .i64 (4)))⟩, ⟨some 19, none, .mov (.t 25)⟩])))
 (.cond (.t 19) (.seq (.ops none [⟨some 26, none, .mov (.t 7)⟩, ⟨some 27, none, .build [.int .i64 0, .bool false] []⟩, ⟨some 4, none, .mov (.t 26)⟩, ⟨none, none, .st (.t 5) (.t 27) 2⟩, ⟨some 6, none, .mov (.c (.int .i64 (1)))⟩])
 (.ret)) (.seq (.seq (.ops none [⟨some 29, none, .fad (.t 3) 1⟩, ⟨some 30, none, .ldf (.t 29) false 1⟩, ⟨some 31, none, .bin .lss (.t 30) (.c (.int .i64 (0)))⟩, ⟨some 28, none, .mov (.t 31)⟩])
 (.cond (.t 28) (.skip) (.ops none [⟨some 32, none, .fad (.t 3) 1⟩, ⟨some 33, none, .ldf (.t 32) false 1⟩, ⟨some 34, none, .mov (.t 0)⟩, ⟨some 35, none, .len (.t 34)⟩, ⟨some 36, none, .bin .geq (.t 33) (.t 35)⟩, ⟨some 28, none, .mov (.t 36)⟩])))
 (.cond (.t 28) (.seq (.ops none [⟨some 37, none, .mov (.t 7)⟩, ⟨some 38, none, .build [.int .i64 0, .bool false] []⟩, ⟨some 4, none, .mov (.t 37)⟩, ⟨none, none, .st (.t 5) (.t 38) 2⟩, ⟨some 6, none, .mov (.c (.int .i64 (20)))⟩])
 (.ret)) (.skip))))))))
 (.seq (.ops none [⟨some 39, none, .mov (.t 7)⟩, ⟨some 40, none, .fad (.t 3) 1⟩, ⟨some 41, none, .ldf (.t 40) false 1⟩, ⟨some 42, none, .ixv 1 (.t 39) (.t 41)⟩, ⟨some 43, none, .ldv (.t 42) false 1⟩, ⟨some 8, none, .mov (.t 43)⟩])
 (.seq (.ops none [⟨some 9, none, .mov (.c (.bool true))⟩])
 (.seq (.seq (.ops none [⟨some 44, none, .fad (.t 3) 3⟩, ⟨some 45, none, .ldf (.t 44) false 1⟩, ⟨some 10, none, .mov (.t 45)⟩])
 (.seq (.ops none [⟨some 46, none, .fad (.t 3) 0⟩, ⟨some 47, none, .ldf (.t 46) false 1⟩])
 (.block 1 (.seq (.block 4 (.seq (.block 3 (.seq (.block 2 (.seq (.seq (.seq (.ops none [⟨some 49, none, .bin .eql (.t 47) (.c (.int .i64 (4)))⟩, ⟨some 48, none, .mov (.t 49)⟩])
 (.cond (.t 48) (.exit 2) (.skip)))
 (.seq (.seq (.ops none [⟨some 51, none, .bin .eql (.t 47) (.c (.int .i64 (3)))⟩, ⟨some 50, none, .mov (.t 51)⟩])
 (.cond (.t 50) (.exit 3) (.skip)))
 (.seq (.ops none [⟨some 53, none, .bin .eql (.t 47) (.c (.int .i64 (2)))⟩, ⟨some 52, none, .mov (.t 53)⟩])
 (.cond (.t 52) (.exit 4) (.skip)))))
 (.exit 1)))
 (.seq (.seq (.ops none [⟨some 55, none, .mov (.t 8)⟩, ⟨some 56, none, .mov (.t 10)⟩, ⟨some 57, none, .calp 84 [.t 55, .t 56]⟩, ⟨some 54, none, .mov (.t 57)⟩, ⟨some 58, none, .ext (.t 54) 0⟩, ⟨some 59, none, .ext (.t 54) 1⟩, ⟨some 10, none, .mov (.t 58)⟩, ⟨some 9, none, .mov (.t 59)⟩])
 (.seq (.ops none [⟨some 60, none, .mov (.t 9)⟩])
 (.cond (.t 60) (.ops none [⟨some 61, none, .mov (.t 7)⟩, ⟨some 62, none, .fad (.t 3) 1⟩, ⟨some 63, none, .ldf (.t 62) false 1⟩, ⟨some 64, none, .mov (.t 10)⟩, ⟨some 65, none, .ixv 1 (.t 61) (.t 63)⟩, ⟨none, none, .st (.t 65) (.t 64) 1⟩]) (.skip))))
 (.exit 1))))
 (.seq (.ops none [⟨some 66, none, .mov (.t 8)⟩, ⟨some 67, none, .fad (.t 3) 2⟩, ⟨some 68, none, .ldf (.t 67) false 1⟩, ⟨some 69, none, .bin .neq (.t 66) (.t 68)⟩])
 (.cond (.t 69) (.seq (.ops none [⟨some 70, none, .mov (.t 7)⟩, ⟨some 71, none, .mov (.t 8)⟩, ⟨some 72, none, .build [.int .i64 0, .bool false] [(0, 1, .t 71)]⟩, ⟨some 4, none, .mov (.t 70)⟩, ⟨none, none, .st (.t 5) (.t 72) 2⟩, ⟨some 6, none, .mov (.c (.int .i64 (0)))⟩])
 (.ret)) (.skip)))))
 (.seq (.seq (.ops none [⟨some 73, none, .mov (.t 10)⟩, ⟨some 74, none, .calp 85 [.t 73]⟩, ⟨some 9, none, .mov (.t 74)⟩])
 (.seq (.ops none [⟨some 75, none, .mov (.t 9)⟩])
 (.cond (.t 75) (.ops none [⟨some 76, none, .mov (.t 7)⟩, ⟨some 77, none, .fad (.t 3) 1⟩, ⟨some 78, none, .ldf (.t 77) false 1⟩, ⟨some 79, none, .mov (.t 10)⟩, ⟨some 80, none, .ixv 1 (.t 76) (.t 78)⟩, ⟨none, none, .st (.t 80) (.t 79) 1⟩]) (.skip))))
 (.exit 1))))))
 (.seq (.seq (.ops none [⟨some 81, none, .mov (.t 9)⟩, ⟨some 82, none, .notb (.t 81)⟩])
 (.cond (.t 82) (.seq (.ops none [⟨some 83, none, .mov (.t 7)⟩, ⟨some 84, none, .build [.int .i64 0, .bool false] []⟩, ⟨some 4, none, .mov (.t 83)⟩, ⟨none, none, .st (.t 5) (.t 84) 2⟩, ⟨some 6, none, .mov (.c (.int .i64 (20)))⟩])
 (.ret)) (.skip)))
 (.seq (.ops none [⟨some 85, none, .mov (.t 7)⟩, ⟨some 86, none, .mov (.t 8)⟩, ⟨some 87, none, .build [.int .i64 0, .bool false] [(0, 1, .t 86), (1, 1, .c (.bool true))]⟩, ⟨some 4, none, .mov (.t 85)⟩, ⟨none, none, .st (.t 5) (.t 87) 2⟩, ⟨some 6, none, .mov (.c (.int .i64 (0)))⟩])
 (.ret))))))))
/-- bellwether/mem.Do -/
def g83 : AFn := { np := 2, nt := 88, res := [.t 4, .cell 5 true 2, .t 6], body := g83b }

def g84b : ACode :=
.seq (.ops none [⟨some 4, none, .mov (.c (.int .i64 (0)))⟩, ⟨some 5, none, .mov (.c (.bool false))⟩])
 (.seq (.ops none [⟨some 7, none, .mov (.t 0)⟩, ⟨some 8, none, .mov (.t 1)⟩, ⟨some 9, none, .bin .add (.t 7) (.t 8)⟩, ⟨some 6, none, .mov (.t 9)⟩])
 (.seq (.seq (.ops none [⟨some 10, none, .mov (.t 6)⟩, ⟨some 11, none, .mov (.t 0)⟩, ⟨some 12, none, .bin .gtr (.t 10) (.t 11)⟩, ⟨some 13, none, .mov (.t 1)⟩, ⟨some 14, none, .bin .gtr (.t 13) (.c (.int .i64 (0)))⟩, ⟨some 15, none, .eqb true (.t 12) (.t 14)⟩, ⟨some 16, none, .mov (.t 15)⟩, ⟨some 17, some (16, false), .mov (.t 6)⟩, ⟨some 18, some (16, false), .calp 85 [.t 17]⟩, ⟨some 19, some (16, false), .notb (.t 18)⟩, ⟨some 20, none, .pick (.t 16) (.c (.bool true)) (.t 19)⟩])
 (.cond (.t 20) (.seq (.ops none [⟨some 4, none, .mov (.c (.int .i64 (0)))⟩, ⟨some 5, none, .mov (.c (.bool false))⟩])
 (.ret)) (.skip)))
 (.seq (.ops none [⟨some 21, none, .mov (.t 6)⟩, ⟨some 4, none, .mov (.t 21)⟩, ⟨some 5, none, .mov (.c (.bool true))⟩])
 (.ret))))
/-- bellwether/mem.sum -/
def g84 : AFn := { np := 2, nt := 22, res := [.t 4, .t 5], body := g84b }

def g85b : ACode :=
.seq (.ops none [⟨some 2, none, .mov (.c (.bool false))⟩])
 (.seq (.ops none [⟨some 3, none, .mov (.t 0)⟩, ⟨some 4, none, .bin .geq (.t 3) (.c (.int .i64 (-1152921504606846975)))⟩, ⟨some 5, none, .mov (.t 4)⟩, ⟨some 6, some (5, true), .mov (.t 0)⟩, ⟨some 7, some (5, true), .bin .leq (.t 6) (.c (.int .i64 (1152921504606846975)))⟩, ⟨some 8, none, .pick (.t 5) (.t 7) (.c (.bool false))⟩, ⟨some 2, none, .mov (.t 8)⟩])
 (.ret))
/-- bellwether/mem.within -/
def g85 : AFn := { np := 1, nt := 9, res := [.t 2], body := g85b }

def lazyFn : Nat → Option AFn
  | 3 => some g3
  | 4 => some g4
  | 5 => some g5
  | 6 => some g6
  | 7 => some g7
  | 8 => some g8
  | 9 => some g9
  | 13 => some g13
  | 14 => some g14
  | 15 => some g15
  | 16 => some g16
  | 17 => some g17
  | 18 => some g18
  | 19 => some g19
  | 20 => some g20
  | 21 => some g21
  | 22 => some g22
  | 23 => some g23
  | 24 => some g24
  | 25 => some g25
  | 26 => some g26
  | 27 => some g27
  | 28 => some g28
  | 29 => some g29
  | 39 => some g39
  | 40 => some g40
  | 42 => some g42
  | 43 => some g43
  | 44 => some g44
  | 45 => some g45
  | 46 => some g46
  | 47 => some g47
  | 48 => some g48
  | 49 => some g49
  | 50 => some g50
  | 51 => some g51
  | 52 => some g52
  | 53 => some g53
  | 60 => some g60
  | 61 => some g61
  | 62 => some g62
  | 63 => some g63
  | 64 => some g64
  | 65 => some g65
  | 66 => some g66
  | 67 => some g67
  | 68 => some g68
  | 69 => some g69
  | 72 => some g72
  | 73 => some g73
  | 74 => some g74
  | 75 => some g75
  | 76 => some g76
  | 77 => some g77
  | 78 => some g78
  | 79 => some g79
  | 80 => some g80
  | 83 => some g83
  | 84 => some g84
  | 85 => some g85
  | _ => none

end Go.Proofs.Ytnomicnfgdjdeaa.Ab
