/- Slim code of functions of the program: printed by a program (slim.py) after the loaded form, checked in WcTab.lean. -/
import Derived.Test.YtgmmalddlpmjdaaGreatDoorAmVal
set_option maxRecDepth 100000
namespace Go.AM.Wc
open Go Go.AM
def glob0 : List AV := [.int .u64 1, .int .u64 10, .int .u64 100, .int .u64 1000, .int .u64 10000, .int .u64 100000, .int .u64 1000000, .int .u64 10000000, .int .u64 100000000, .int .u64 1000000000, .int .u64 10000000000, .int .u64 100000000000, .int .u64 1000000000000, .int .u64 10000000000000, .int .u64 100000000000000, .int .u64 1000000000000000, .int .u64 10000000000000000, .int .u64 100000000000000000, .int .u64 1000000000000000000, .int .u64 10000000000000000000]
def glob2 : List AV := [.int .u8 0, .int .u8 1, .int .u8 28, .int .u8 2, .int .u8 29, .int .u8 14, .int .u8 24, .int .u8 3, .int .u8 30, .int .u8 22, .int .u8 20, .int .u8 15, .int .u8 25, .int .u8 17, .int .u8 4, .int .u8 8, .int .u8 31, .int .u8 27, .int .u8 13, .int .u8 23, .int .u8 21, .int .u8 19, .int .u8 16, .int .u8 7, .int .u8 26, .int .u8 12, .int .u8 18, .int .u8 6, .int .u8 11, .int .u8 5, .int .u8 10, .int .u8 9]
def glob3 : List AV := [.int .u8 0, .int .u8 1, .int .u8 56, .int .u8 2, .int .u8 57, .int .u8 49, .int .u8 28, .int .u8 3, .int .u8 61, .int .u8 58, .int .u8 42, .int .u8 50, .int .u8 38, .int .u8 29, .int .u8 17, .int .u8 4, .int .u8 62, .int .u8 47, .int .u8 59, .int .u8 36, .int .u8 45, .int .u8 43, .int .u8 51, .int .u8 22, .int .u8 53, .int .u8 39, .int .u8 33, .int .u8 30, .int .u8 24, .int .u8 18, .int .u8 12, .int .u8 5, .int .u8 63, .int .u8 55, .int .u8 48, .int .u8 27, .int .u8 60, .int .u8 41, .int .u8 37, .int .u8 16, .int .u8 46, .int .u8 35, .int .u8 44, .int .u8 21, .int .u8 52, .int .u8 32, .int .u8 23, .int .u8 11, .int .u8 54, .int .u8 26, .int .u8 40, .int .u8 15, .int .u8 34, .int .u8 20, .int .u8 31, .int .u8 10, .int .u8 25, .int .u8 14, .int .u8 19, .int .u8 9, .int .u8 13, .int .u8 8, .int .u8 7, .int .u8 6]
/- underpin/underpinlaw07.WatchChecks -/
def sf3 : SFun := ⟨85, (.seq (.reg [⟨some 4, .box true (.t 0), none⟩, ⟨some 5, .box true (.t 1), none⟩, ⟨some 6, .box true (.t 2), none⟩, ⟨some 8, .mv (.c (.bool false)), none⟩] [] [0, 1, 2, 8]) (.seq (.seq (.reg [⟨some
 15, .ld true 3 (.t 4), none⟩, ⟨some 16, .call (.c (.fn 4 [])) [(.t 15)], none⟩, ⟨some 17, .mv (.t 16), none⟩, ⟨some 18, .ld true 3 (.t 5), (some (some 17, false))⟩, ⟨some 19, .call (.c (.fn 4 [])) [(.t 18)], (some (some
 17, false))⟩, ⟨some 20, .pick (.t 17) (.c (.bool true)) (.t 19), none⟩] [] [15, 16, 17, 18, 19]) (.cond (.t 20) (.seq (.reg [⟨some 21, .call (.c (.fn 5 [])) [], none⟩, ⟨some 8, .mv (.t 21), none⟩] [] [3, 4, 5, 6, 20,
 21]) .ret) .skip)) (.seq (.reg [⟨some 23, .ld true 3 (.t 4), none⟩, ⟨some 24, .call (.c (.fn 6 [])) [(.t 23)], none⟩, ⟨some 22, .mv (.t 24), none⟩, ⟨some 25, .ext (.t 22) 0, none⟩, ⟨some 26, .ext (.t 22) 1, none⟩, ⟨some
 9, .mv (.t 25), none⟩, ⟨some 10, .mv (.t 26), none⟩] [] [20, 22, 23, 24, 25, 26]) (.seq (.reg [⟨some 28, .ld true 3 (.t 4), none⟩, ⟨some 29, .call (.c (.fn 7 [])) [(.t 28)], none⟩, ⟨some 27, .mv (.t 29), none⟩, ⟨some 30,
 .ext (.t 27) 0, none⟩, ⟨some 31, .ext (.t 27) 1, none⟩, ⟨some 11, .mv (.t 30), none⟩, ⟨some 12, .mv (.t 31), none⟩] [] [27, 28, 29, 30, 31]) (.seq (.seq (.draw [⟨some 32, .ld true 3 (.t 4), none⟩, ⟨some 33, .call (.c
 (.fn 8 [])) [(.t 32)], none⟩, ⟨some 34, .ld true 3 (.t 4), none⟩, ⟨some 35, .call (.c (.fn 9 [])) [(.t 34)], none⟩, ⟨some 36, .bin .neq false true (some .int) (.t 33) (.t 35), none⟩, ⟨some 37, .mv (.t 36), none⟩, ⟨some
 38, .mv (.t 9), (some (some 37, false))⟩, ⟨some 39, .mv (.t 11), (some (some 37, false))⟩, ⟨some 40, .bin .neq false true (some .str) (.t 38) (.t 39), (some (some 37, false))⟩, ⟨some 41, .pick (.t 37) (.c (.bool true))
 (.t 40), none⟩, ⟨some 42, .mv (.t 41), none⟩, ⟨some 43, .mv (.t 10), (some (some 42, false))⟩, ⟨some 44, .mv (.t 12), (some (some 42, false))⟩, ⟨some 45, .bin .neq false true (some .int) (.t 43) (.t 44), (some (some 42,
 false))⟩, ⟨some 46, .pick (.t 42) (.c (.bool true)) (.t 45), none⟩, ⟨some 47, .mv (.t 46), none⟩, ⟨some 48, .ld true 3 (.t 4), (some (some 47, false))⟩, ⟨some 49, .ld true 3 (.t 5), (some (some 47, false))⟩, ⟨some 50,
 .call (.c (.fn 10 [])) [(.t 48), (.t 49)], (some (some 47, false))⟩, ⟨some 51, .ld true 3 (.t 4), (some (some 47, false))⟩, ⟨some 52, .ld true 3 (.t 5), (some (some 47, false))⟩, ⟨some 53, .call (.c (.fn 11 [])) [(.t
 51), (.t 52)], (some (some 47, false))⟩, ⟨some 54, .bin .neq false true (some .bool) (.t 50) (.t 53), (some (some 47, false))⟩, ⟨some 55, .pick (.t 47) (.c (.bool true)) (.t 54), none⟩, ⟨some 56, .mv (.t 55), none⟩,
 ⟨some 57, .ld true 3 (.t 4), (some (some 56, false))⟩, ⟨some 58, .ld true 3 (.t 4), (some (some 56, false))⟩, ⟨some 59, .call (.c (.fn 10 [])) [(.t 57), (.t 58)], (some (some 56, false))⟩, ⟨some 60, .un .not (.t 59),
 (some (some 56, false))⟩, ⟨some 61, .pick (.t 56) (.c (.bool true)) (.t 60), none⟩] [(0, 0), (2, 0), (2, 2), (16, 4), (17, 4), (19, 4), (19, 19), (20, 4), (20, 19), (25, 22), (26, 22)] [] [4, 5, 9, 10, 11, 12, 32, 33,
 34, 35, 36, 37, 38, 39, 40, 41, 42, 43, 44, 45, 46, 47, 48, 49, 50, 51, 52, 53, 54, 55, 56, 57, 58, 59, 60]) (.cond (.t 61) (.seq (.reg [⟨some 8, .mv (.c (.bool false)), none⟩] [] [3, 6, 61]) .ret) .skip)) (.seq (.reg
 [⟨some 63, .ld true 4 (.t 6), none⟩, ⟨some 64, .mv (.t 3), none⟩, ⟨some 65, .call (.c (.fn 12 [])) [(.t 63), (.t 64)], none⟩, ⟨some 62, .mv (.t 65), none⟩, ⟨some 66, .ext (.t 62) 0, none⟩, ⟨some 67, .ext (.t 62) 1,
 none⟩, ⟨some 13, .mv (.t 66), none⟩, ⟨some 10, .mv (.t 67), none⟩] [] [61, 62, 63, 64, 65, 66, 67]) (.seq (.reg [⟨some 69, .ld true 4 (.t 6), none⟩, ⟨some 70, .mv (.t 3), none⟩, ⟨some 71, .call (.c (.fn 13 [])) [(.t 69),
 (.t 70)], none⟩, ⟨some 68, .mv (.t 71), none⟩, ⟨some 72, .ext (.t 68) 0, none⟩, ⟨some 73, .ext (.t 68) 1, none⟩, ⟨some 14, .mv (.t 72), none⟩, ⟨some 12, .mv (.t 73), none⟩] [] [3, 6, 68, 69, 70, 71, 72, 73]) (.seq (.reg
 [⟨some 74, .mv (.t 13), none⟩, ⟨some 75, .mv (.t 14), none⟩, ⟨some 76, .bin .eql false true (some .int) (.t 74) (.t 75), none⟩, ⟨some 77, .mv (.t 76), none⟩, ⟨some 78, .mv (.t 10), (some (some 77, true))⟩, ⟨some 79, .mv
 (.t 12), (some (some 77, true))⟩, ⟨some 80, .bin .eql false true (some .int) (.t 78) (.t 79), (some (some 77, true))⟩, ⟨some 81, .pick (.t 77) (.t 80) (.c (.bool false)), none⟩, ⟨some 82, .mv (.t 81), none⟩, ⟨some 83,
 .call (.c (.fn 5 [])) [], (some (some 82, true))⟩, ⟨some 84, .pick (.t 82) (.t 83) (.c (.bool false)), none⟩, ⟨some 8, .mv (.t 84), none⟩] [] [10, 12, 13, 14, 74, 75, 76, 77, 78, 79, 80, 81, 82, 83, 84]) .ret)))))))),
 [.t 8], true⟩
/- underpin/underpinlaw07.vast -/
def sf4 : SFun := ⟨77, (.seq (.reg [⟨some 1, .box true (.t 0), none⟩, ⟨some 2, .mv (.c (.bool false)), none⟩] [] [0, 2]) (.seq (.reg [⟨some 6, .fad 0 (.t 1), none⟩, ⟨some 7, .ld false 1 (.t 6), none⟩, ⟨some 8, .lenl (.t
 7), none⟩, ⟨some 9, .fad 1 (.t 1), none⟩, ⟨some 10, .ld false 1 (.t 9), none⟩, ⟨some 11, .lenl (.t 10), none⟩, ⟨some 12, .bin .add false false none (.t 8) (.t 11), none⟩, ⟨some 13, .fad 2 (.t 1), none⟩, ⟨some 14, .ld
 false 1 (.t 13), none⟩, ⟨some 15, .lenl (.t 14), none⟩, ⟨some 16, .bin .add false false none (.t 12) (.t 15), none⟩, ⟨some 3, .mv (.t 16), none⟩] [] [6, 7, 8, 9, 10, 11, 12, 13, 14, 15, 16]) (.seq (.seq (.reg [⟨some 4,
 .mv (.c (.int .i64 0)), none⟩] [] []) (.block 0 (.loop (.seq (.seq (.reg [⟨some 17, .mv (.t 4), none⟩, ⟨some 18, .fad 0 (.t 1), none⟩, ⟨some 19, .ld false 1 (.t 18), none⟩, ⟨some 20, .lenl (.t 19), none⟩, ⟨some 21, .bin
 .lss false false none (.t 17) (.t 20), none⟩, ⟨some 22, .mv (.t 21), none⟩, ⟨some 23, .mv (.t 3), (some (some 22, true))⟩, ⟨some 24, .bin .lss true false none (.t 23) (.c (.int .i64 100)), (some (some 22, true))⟩, ⟨some
 25, .pick (.t 22) (.t 24) (.c (.bool false)), none⟩] [] [17, 18, 19, 20, 21, 22, 23, 24]) (.cond (.t 25) .skip (.exit 0))) (.seq (.block 1 (.draw [⟨some 28, .mv (.t 3), none⟩, ⟨some 29, .fad 0 (.t 1), none⟩, ⟨some 30,
 .ld false 1 (.t 29), none⟩, ⟨some 31, .mv (.t 4), none⟩, ⟨some 32, .iad 7 (.t 30) (.t 31), none⟩, ⟨some 33, .fad 6 (.t 32), none⟩, ⟨some 34, .ld false 1 (.t 33), none⟩, ⟨some 35, .lenl (.t 34), none⟩, ⟨some 36, .bin .add
 false false none (.t 28) (.t 35), none⟩, ⟨some 37, .fad 0 (.t 1), none⟩, ⟨some 38, .ld false 1 (.t 37), none⟩, ⟨some 39, .mv (.t 4), none⟩, ⟨some 40, .iad 7 (.t 38) (.t 39), none⟩, ⟨some 41, .fad 0 (.t 40), none⟩, ⟨some
 42, .ld false 1 (.t 41), none⟩, ⟨some 43, .lens (.t 42), none⟩, ⟨some 44, .bin .quo true false none (.t 43) (.c (.int .i64 10)), none⟩, ⟨some 45, .bin .add false false none (.t 36) (.t 44), none⟩, ⟨some 3, .mv (.t 45),
 none⟩] [(2, 0), (4, 0), (6, 0), (7, 0), (10, 0), (12, 0), (14, 0), (15, 0)] [] [25, 28, 29, 30, 31, 32, 33, 34, 35, 36, 37, 38, 39, 40, 41, 42, 43, 44, 45])) (.reg [⟨some 26, .mv (.t 4), none⟩, ⟨some 27, .bin .add true
 false none (.t 26) (.c (.int .i64 1)), none⟩, ⟨some 4, .mv (.t 27), none⟩] [] [26, 27])))))) (.seq (.seq (.reg [⟨some 5, .mv (.c (.int .i64 0)), none⟩] [] [4, 25]) (.block 2 (.loop (.seq (.seq (.reg [⟨some 46, .mv (.t
 5), none⟩, ⟨some 47, .fad 1 (.t 1), none⟩, ⟨some 48, .ld false 1 (.t 47), none⟩, ⟨some 49, .lenl (.t 48), none⟩, ⟨some 50, .bin .lss false false none (.t 46) (.t 49), none⟩, ⟨some 51, .mv (.t 50), none⟩, ⟨some 52, .mv
 (.t 3), (some (some 51, true))⟩, ⟨some 53, .bin .lss true false none (.t 52) (.c (.int .i64 100)), (some (some 51, true))⟩, ⟨some 54, .pick (.t 51) (.t 53) (.c (.bool false)), none⟩] [] [46, 47, 48, 49, 50, 51, 52, 53])
 (.cond (.t 54) .skip (.exit 2))) (.seq (.block 3 (.draw [⟨some 57, .mv (.t 3), none⟩, ⟨some 58, .fad 1 (.t 1), none⟩, ⟨some 59, .ld false 1 (.t 58), none⟩, ⟨some 60, .mv (.t 5), none⟩, ⟨some 61, .iad 5 (.t 59) (.t 60),
 none⟩, ⟨some 62, .fad 0 (.t 61), none⟩, ⟨some 63, .ld false 1 (.t 62), none⟩, ⟨some 64, .lens (.t 63), none⟩, ⟨some 65, .fad 1 (.t 1), none⟩, ⟨some 66, .ld false 1 (.t 65), none⟩, ⟨some 67, .mv (.t 5), none⟩, ⟨some 68,
 .iad 5 (.t 66) (.t 67), none⟩, ⟨some 69, .fad 1 (.t 68), none⟩, ⟨some 70, .ld false 1 (.t 69), none⟩, ⟨some 71, .lens (.t 70), none⟩, ⟨some 72, .bin .add false false none (.t 64) (.t 71), none⟩, ⟨some 73, .bin .quo true
 false none (.t 72) (.c (.int .i64 10)), none⟩, ⟨some 74, .bin .add false false none (.t 57) (.t 73), none⟩, ⟨some 3, .mv (.t 74), none⟩] [(2, 0), (4, 0), (6, 0), (7, 0), (9, 0), (11, 0), (13, 0), (14, 0)] [] [54, 57, 58,
 59, 60, 61, 62, 63, 64, 65, 66, 67, 68, 69, 70, 71, 72, 73, 74])) (.reg [⟨some 55, .mv (.t 5), none⟩, ⟨some 56, .bin .add true false none (.t 55) (.c (.int .i64 1)), none⟩, ⟨some 5, .mv (.t 56), none⟩] [] [55, 56]))))))
 (.seq (.reg [⟨some 75, .mv (.t 3), none⟩, ⟨some 76, .bin .gtr true false none (.t 75) (.c (.int .i64 60)), none⟩, ⟨some 2, .mv (.t 76), none⟩] [] [1, 3, 5, 54, 75, 76]) .ret))))), [.t 2], false⟩
/- underpin/underpinlaw07.wakes -/
def sf5 : SFun := ⟨111, (.seq (.reg [⟨some 0, .mv (.c (.bool false)), none⟩] [] [0]) (.seq (.reg [⟨some 16, .call (.c (.fn 14 [])) [], none⟩, ⟨some 1, .new [.str [], .int .i64 0, .int .i64 0, .int .i64 0, .int .i64 0,
 .int .i64 0, .nilsl], none⟩, ⟨none, .st 7 (.t 1) (.t 16), none⟩] [1] [16]) (.seq (.reg [⟨some 18, .ld true 7 (.t 1), none⟩, ⟨some 19, .call (.c (.fn 15 [])) [(.t 18), (.c (.nilsl)), (.c (.int .i64 5))], none⟩, ⟨some 17,
 .mv (.t 19), none⟩, ⟨some 20, .ext (.t 17) 0, none⟩, ⟨some 21, .ext (.t 17) 1, none⟩, ⟨some 2, .mv (.t 20), none⟩, ⟨some 3, .mv (.t 21), none⟩] [] [17, 18, 19, 20, 21]) (.seq (.reg [⟨some 23, .ld true 7 (.t 1), none⟩,
 ⟨some 24, .bst [.int .i64 0, .int .i64 0, .int .i64 0] [(0, 1), (1, 1), (2, 1)] [(0, (.c (.int .i64 0))), (1, (.c (.int .i64 5))), (2, (.c (.int .i64 4)))], none⟩, ⟨some 25, .bsl false 3 [.int .i64 0, .int .i64 0, .int
 .i64 0] 1 [(0, (.t 24))], none⟩, ⟨some 26, .call (.c (.fn 15 [])) [(.t 23), (.t 25), (.c (.int .i64 5))], none⟩, ⟨some 22, .mv (.t 26), none⟩, ⟨some 27, .ext (.t 22) 0, none⟩, ⟨some 28, .ext (.t 22) 1, none⟩, ⟨some 4,
 .mv (.t 27), none⟩, ⟨some 5, .mv (.t 28), none⟩] [] [22, 23, 24, 25, 26, 27, 28]) (.seq (.reg [⟨some 30, .ld true 7 (.t 1), none⟩, ⟨some 31, .bst [.int .i64 0, .int .i64 0, .int .i64 0] [(0, 1), (1, 1), (2, 1)] [(0, (.c
 (.int .i64 0))), (1, (.c (.int .i64 5))), (2, (.c (.int .i64 4)))], none⟩, ⟨some 32, .bst [.int .i64 0, .int .i64 0, .int .i64 0] [(0, 1), (1, 1), (2, 1)] [(0, (.c (.int .i64 1))), (1, (.c (.int .i64 5))), (2, (.c (.int
 .i64 5)))], none⟩, ⟨some 33, .bsl false 3 [.int .i64 0, .int .i64 0, .int .i64 0] 2 [(0, (.t 31)), (1, (.t 32))], none⟩, ⟨some 34, .call (.c (.fn 15 [])) [(.t 30), (.t 33), (.c (.int .i64 5))], none⟩, ⟨some 29, .mv (.t
 34), none⟩, ⟨some 35, .ext (.t 29) 0, none⟩, ⟨some 36, .ext (.t 29) 1, none⟩, ⟨some 6, .mv (.t 35), none⟩, ⟨some 7, .mv (.t 36), none⟩] [] [29, 30, 31, 32, 33, 34, 35, 36]) (.seq (.reg [⟨some 37, .bst [.int .i64 0, .int
 .i64 0, .int .i64 0] [(0, 1), (1, 1), (2, 1)] [(0, (.c (.int .i64 0))), (1, (.c (.int .i64 5))), (2, (.c (.int .i64 9)))], none⟩, ⟨some 38, .bst [.int .i64 0, .int .i64 0, .int .i64 0] [(0, 1), (1, 1), (2, 1)] [(0, (.c
 (.int .i64 1))), (1, (.c (.int .i64 5)))], none⟩, ⟨some 39, .bst [.int .i64 0, .int .i64 0, .int .i64 0] [(0, 1), (1, 1), (2, 1)] [(0, (.c (.int .i64 2))), (1, (.c (.int .i64 5)))], none⟩, ⟨some 40, .bsl false 3 [.int
 .i64 0, .int .i64 0, .int .i64 0] 3 [(0, (.t 37)), (1, (.t 38)), (2, (.t 39))], none⟩, ⟨some 8, .mv (.t 40), none⟩] [] [37, 38, 39, 40]) (.seq (.reg [⟨some 42, .ld true 7 (.t 1), none⟩, ⟨some 43, .mv (.t 8), none⟩, ⟨some
 44, .call (.c (.fn 15 [])) [(.t 42), (.t 43), (.c (.int .i64 5))], none⟩, ⟨some 41, .mv (.t 44), none⟩, ⟨some 45, .ext (.t 41) 0, none⟩, ⟨some 46, .ext (.t 41) 1, none⟩, ⟨some 9, .mv (.t 45), none⟩, ⟨some 10, .mv (.t
 46), none⟩] [] [41, 42, 43, 44, 45, 46]) (.seq (.reg [⟨some 48, .ld true 7 (.t 1), none⟩, ⟨some 49, .mv (.t 8), none⟩, ⟨some 50, .call (.c (.fn 16 [])) [(.t 48), (.t 49)], none⟩, ⟨some 47, .mv (.t 50), none⟩, ⟨some 51,
 .ext (.t 47) 0, none⟩, ⟨some 52, .ext (.t 47) 1, none⟩, ⟨some 53, .ext (.t 47) 2, none⟩, ⟨some 11, .mv (.t 51), none⟩, ⟨some 12, .mv (.t 52), none⟩, ⟨some 13, .mv (.t 53), none⟩] [] [8, 47, 48, 49, 50, 51, 52, 53]) (.seq
 (.reg [⟨some 55, .ld true 7 (.t 1), none⟩, ⟨some 56, .call (.c (.fn 17 [])) [(.t 55), (.c (.int .i64 10)), (.c (.int .i64 100))], none⟩, ⟨some 54, .mv (.t 56), none⟩, ⟨some 57, .ext (.t 54) 0, none⟩, ⟨some 58, .ext (.t
 54) 1, none⟩, ⟨some 14, .mv (.t 57), none⟩, ⟨some 15, .mv (.t 58), none⟩] [] [1, 54, 55, 56, 57, 58]) (.seq (.reg [⟨some 59, .mv (.t 2), none⟩, ⟨some 60, .mv (.t 3), none⟩, ⟨some 61, .call (.c (.fn 18 [])) [(.t 59), (.t
 60), (.c (.int .i64 (-5))), (.c (.int .i64 10))], none⟩, ⟨some 62, .mv (.t 61), none⟩, ⟨some 63, .mv (.t 4), (some (some 62, true))⟩, ⟨some 64, .mv (.t 5), (some (some 62, true))⟩, ⟨some 65, .call (.c (.fn 18 [])) [(.t
 63), (.t 64), (.c (.int .i64 (-5))), (.c (.int .i64 10))], (some (some 62, true))⟩, ⟨some 66, .pick (.t 62) (.t 65) (.c (.bool false)), none⟩, ⟨some 67, .mv (.t 66), none⟩, ⟨some 68, .mv (.t 6), (some (some 67, true))⟩,
 ⟨some 69, .mv (.t 7), (some (some 67, true))⟩, ⟨some 70, .call (.c (.fn 18 [])) [(.t 68), (.t 69), (.c (.int .i64 3)), (.c (.int .i64 6))], (some (some 67, true))⟩, ⟨some 71, .pick (.t 67) (.t 70) (.c (.bool false)),
 none⟩, ⟨some 72, .mv (.t 71), none⟩, ⟨some 73, .mv (.t 9), (some (some 72, true))⟩, ⟨some 74, .mv (.t 10), (some (some 72, true))⟩, ⟨some 75, .call (.c (.fn 18 [])) [(.t 73), (.t 74), (.c (.int .i64 (-1))), (.c (.int
 .i64 1))], (some (some 72, true))⟩, ⟨some 76, .pick (.t 72) (.t 75) (.c (.bool false)), none⟩, ⟨some 77, .mv (.t 76), none⟩, ⟨some 78, .mv (.t 13), (some (some 77, true))⟩, ⟨some 79, .bin .eql true true (some .int) (.t
 78) (.c (.int .i64 0)), (some (some 77, true))⟩, ⟨some 80, .pick (.t 77) (.t 79) (.c (.bool false)), none⟩, ⟨some 81, .mv (.t 80), none⟩, ⟨some 82, .mv (.t 11), (some (some 81, true))⟩, ⟨some 83, .lenl (.t 82), (some
 (some 81, true))⟩, ⟨some 84, .bin .eql true true (some .int) (.t 83) (.c (.int .i64 1)), (some (some 81, true))⟩, ⟨some 85, .pick (.t 81) (.t 84) (.c (.bool false)), none⟩, ⟨some 86, .mv (.t 85), none⟩, ⟨some 87, .mv (.t
 11), (some (some 86, true))⟩, ⟨some 88, .iad 1 (.t 87) (.c (.int .i64 0)), (some (some 86, true))⟩, ⟨some 89, .ld false 1 (.t 88), (some (some 86, true))⟩, ⟨some 90, .bin .eql true true (some .int) (.t 89) (.c (.int .i64
 0)), (some (some 86, true))⟩, ⟨some 91, .pick (.t 86) (.t 90) (.c (.bool false)), none⟩, ⟨some 92, .mv (.t 91), none⟩, ⟨some 93, .mv (.t 12), (some (some 92, true))⟩, ⟨some 94, .lenl (.t 93), (some (some 92, true))⟩,
 ⟨some 95, .bin .eql true true (some .int) (.t 94) (.c (.int .i64 1)), (some (some 92, true))⟩, ⟨some 96, .pick (.t 92) (.t 95) (.c (.bool false)), none⟩, ⟨some 97, .mv (.t 96), none⟩, ⟨some 98, .mv (.t 12), (some (some
 97, true))⟩, ⟨some 99, .iad 1 (.t 98) (.c (.int .i64 0)), (some (some 97, true))⟩, ⟨some 100, .ld false 1 (.t 99), (some (some 97, true))⟩, ⟨some 101, .bin .eql true true (some .int) (.t 100) (.c (.int .i64 0)), (some
 (some 97, true))⟩, ⟨some 102, .pick (.t 97) (.t 101) (.c (.bool false)), none⟩, ⟨some 103, .mv (.t 102), none⟩, ⟨some 104, .mv (.t 14), (some (some 103, true))⟩, ⟨some 105, .bin .eql true true (some .int) (.t 104) (.c
 (.int .i64 32)), (some (some 103, true))⟩, ⟨some 106, .pick (.t 103) (.t 105) (.c (.bool false)), none⟩, ⟨some 107, .mv (.t 106), none⟩, ⟨some 108, .mv (.t 15), (some (some 107, true))⟩, ⟨some 109, .bin .eql true true
 (some .int) (.t 108) (.c (.int .i64 0)), (some (some 107, true))⟩, ⟨some 110, .pick (.t 107) (.t 109) (.c (.bool false)), none⟩, ⟨some 0, .mv (.t 110), none⟩] [] [2, 3, 4, 5, 6, 7, 9, 10, 11, 12, 13, 14, 15, 59, 60, 61,
 62, 63, 64, 65, 66, 67, 68, 69, 70, 71, 72, 73, 74, 75, 76, 77, 78, 79, 80, 81, 82, 83, 84, 85, 86, 87, 88, 89, 90, 91, 92, 93, 94, 95, 96, 97, 98, 99, 100, 101, 102, 103, 104, 105, 106, 107, 108, 109, 110])
 .ret)))))))))), [.t 0], true⟩
/- underpin/watch.Print -/
def sf6 : SFun := ⟨123, (.seq (.reg [⟨some 1, .box true (.t 0), none⟩, ⟨some 2, .mv (.c (.str [])), none⟩, ⟨some 3, .mv (.c (.int .i64 0)), none⟩] [] [0, 2, 3]) (.seq (.seq (.reg [⟨some 15, .ld true 3 (.t 1), none⟩, ⟨some
 16, .call (.c (.fn 8 [])) [(.t 15)], none⟩, ⟨some 4, .mv (.t 16), none⟩] [] [15, 16]) (.seq (.reg [⟨some 17, .mv (.t 4), none⟩, ⟨some 18, .bin .neq true true (some .int) (.t 17) (.c (.int .i64 0)), none⟩] [] [17]) (.cond
 (.t 18) (.seq (.reg [⟨some 19, .mv (.t 4), none⟩, ⟨some 2, .mv (.c (.str [])), none⟩, ⟨some 3, .mv (.t 19), none⟩] [] [1, 4, 18, 19]) .ret) .skip))) (.seq (.reg [⟨some 5, .new [], none⟩] [] [4, 18]) (.seq (.reg [⟨some
 20, .mkf 19 [(.t 5)], none⟩, ⟨some 6, .mv (.t 20), none⟩] [] [20]) (.seq (.seq (.reg [⟨some 21, .fad 0 (.t 1), none⟩, ⟨some 22, .ld false 1 (.t 21), none⟩, ⟨some 23, .lenl (.t 22), none⟩, ⟨some 24, .mv (.c (.int .i64
 0)), none⟩] [] [21]) (.block 0 (.loop (.seq (.reg [⟨some 25, .bin .lss false false none (.t 24) (.t 23), none⟩] [] []) (.seq (.cond (.t 25) .skip (.exit 0)) (.seq (.block 1 (.seq (.reg [⟨some 26, .iad 7 (.t 22) (.t 24),
 none⟩, ⟨some 27, .ld true 7 (.t 26), none⟩, ⟨some 8, .new [.str [], .int .i64 0, .int .i64 0, .int .i64 0, .int .i64 0, .int .i64 0, .nilsl], none⟩, ⟨none, .st 7 (.t 8) (.t 27), none⟩] [8] [25, 26, 27]) (.seq (.reg
 [⟨some 28, .mv (.t 6), none⟩, ⟨some 29, .fad 0 (.t 8), none⟩, ⟨some 30, .ld false 1 (.t 29), none⟩, ⟨some 31, .bsl true 1 [.str []] 2 [(0, (.c (.str [113,117,97,110,116,105,116,121]))), (1, (.t 30))], none⟩, ⟨some 32,
 .fad 1 (.t 8), none⟩, ⟨some 33, .fad 0 (.t 32), none⟩, ⟨some 34, .ld false 1 (.t 33), none⟩, ⟨some 35, .fad 1 (.t 8), none⟩, ⟨some 36, .fad 1 (.t 35), none⟩, ⟨some 37, .ld false 1 (.t 36), none⟩, ⟨some 38, .fad 3 (.t 8),
 none⟩, ⟨some 39, .ld false 1 (.t 38), none⟩, ⟨some 40, .fad 4 (.t 8), none⟩, ⟨some 41, .ld false 1 (.t 40), none⟩, ⟨some 42, .fad 5 (.t 8), none⟩, ⟨some 43, .ld false 1 (.t 42), none⟩, ⟨some 44, .bsl true 1 [.int .i64 0]
 5 [(0, (.t 34)), (1, (.t 37)), (2, (.t 39)), (3, (.t 41)), (4, (.t 43))], none⟩, ⟨some 45, .call (.t 28) [(.t 31), (.t 44)], none⟩] [] [28, 29, 30, 31, 32, 33, 34, 35, 36, 37, 38, 39, 40, 41, 42, 43, 44, 45]) (.seq (.reg
 [⟨some 46, .fad 6 (.t 8), none⟩, ⟨some 47, .ld false 1 (.t 46), none⟩, ⟨some 48, .lenl (.t 47), none⟩, ⟨some 49, .mv (.c (.int .i64 0)), none⟩] [] [8, 46]) (.block 2 (.loop (.seq (.reg [⟨some 50, .bin .lss false false
 none (.t 49) (.t 48), none⟩] [] []) (.seq (.cond (.t 50) .skip (.exit 2)) (.seq (.block 3 (.seq (.reg [⟨some 51, .iad 4 (.t 47) (.t 49), none⟩, ⟨some 52, .ld true 4 (.t 51), none⟩, ⟨some 10, .new [.str [], .int .i64 0,
 .int .i64 0, .int .i64 0], none⟩, ⟨none, .st 4 (.t 10) (.t 52), none⟩] [10] [50, 51, 52]) (.reg [⟨some 53, .mv (.t 6), none⟩, ⟨some 54, .fad 0 (.t 10), none⟩, ⟨some 55, .ld false 1 (.t 54), none⟩, ⟨some 56, .bsl true 1
 [.str []] 2 [(0, (.c (.str [103,97,117,103,101]))), (1, (.t 55))], none⟩, ⟨some 57, .fad 1 (.t 10), none⟩, ⟨some 58, .ld false 1 (.t 57), none⟩, ⟨some 59, .fad 2 (.t 10), none⟩, ⟨some 60, .ld false 1 (.t 59), none⟩,
 ⟨some 61, .fad 3 (.t 10), none⟩, ⟨some 62, .ld false 1 (.t 61), none⟩, ⟨some 63, .bsl true 1 [.int .i64 0] 3 [(0, (.t 58)), (1, (.t 60)), (2, (.t 62))], none⟩, ⟨some 64, .call (.t 53) [(.t 56), (.t 63)], none⟩] [] [10,
 53, 54, 55, 56, 57, 58, 59, 60, 61, 62, 63, 64]))) (.reg [⟨some 65, .bin .add true false none (.t 49) (.c (.int .i64 1)), none⟩, ⟨some 49, .mv (.t 65), none⟩] [] [65])))))))))) (.reg [⟨some 66, .bin .add true false none
 (.t 24) (.c (.int .i64 1)), none⟩, ⟨some 24, .mv (.t 66), none⟩] [] [47, 48, 49, 50, 66]))))))) (.seq (.seq (.reg [⟨some 67, .fad 1 (.t 1), none⟩, ⟨some 68, .ld false 1 (.t 67), none⟩, ⟨some 69, .lenl (.t 68), none⟩,
 ⟨some 70, .mv (.c (.int .i64 0)), none⟩] [] [22, 23, 24, 25, 67]) (.block 4 (.loop (.seq (.reg [⟨some 71, .bin .lss false false none (.t 70) (.t 69), none⟩] [] []) (.seq (.cond (.t 71) .skip (.exit 4)) (.seq (.block 5
 (.seq (.reg [⟨some 72, .iad 5 (.t 68) (.t 70), none⟩, ⟨some 73, .ld true 5 (.t 72), none⟩, ⟨some 12, .new [.str [], .str [], .int .i64 0, .int .i64 0, .int .i64 0], none⟩, ⟨none, .st 5 (.t 12) (.t 73), none⟩] [12] [71,
 72, 73]) (.reg [⟨some 74, .mv (.t 6), none⟩, ⟨some 75, .fad 0 (.t 12), none⟩, ⟨some 76, .ld false 1 (.t 75), none⟩, ⟨some 77, .fad 1 (.t 12), none⟩, ⟨some 78, .ld false 1 (.t 77), none⟩, ⟨some 79, .bsl true 1 [.str []] 3
 [(0, (.c (.str [109,101,97,115,117,114,101]))), (1, (.t 76)), (2, (.t 78))], none⟩, ⟨some 80, .fad 2 (.t 12), none⟩, ⟨some 81, .ld false 1 (.t 80), none⟩, ⟨some 82, .fad 3 (.t 12), none⟩, ⟨some 83, .ld false 1 (.t 82),
 none⟩, ⟨some 84, .fad 4 (.t 12), none⟩, ⟨some 85, .ld false 1 (.t 84), none⟩, ⟨some 86, .bsl true 1 [.int .i64 0] 3 [(0, (.t 81)), (1, (.t 83)), (2, (.t 85))], none⟩, ⟨some 87, .call (.t 74) [(.t 79), (.t 86)], none⟩] []
 [12, 74, 75, 76, 77, 78, 79, 80, 81, 82, 83, 84, 85, 86, 87]))) (.reg [⟨some 88, .bin .add true false none (.t 70) (.c (.int .i64 1)), none⟩, ⟨some 70, .mv (.t 88), none⟩] [] [88]))))))) (.seq (.seq (.reg [⟨some 89, .fad
 2 (.t 1), none⟩, ⟨some 90, .ld false 1 (.t 89), none⟩, ⟨some 91, .lenl (.t 90), none⟩, ⟨some 92, .mv (.c (.int .i64 0)), none⟩] [] [68, 69, 70, 71, 89]) (.block 6 (.loop (.seq (.reg [⟨some 93, .bin .lss false false none
 (.t 92) (.t 91), none⟩] [] []) (.seq (.cond (.t 93) .skip (.exit 6)) (.seq (.block 7 (.seq (.reg [⟨some 94, .iad 4 (.t 90) (.t 92), none⟩, ⟨some 95, .ld true 4 (.t 94), none⟩, ⟨some 14, .new [.int .i64 0, .int .i64 0,
 .int .i64 0, .int .i64 0], none⟩, ⟨none, .st 4 (.t 14) (.t 95), none⟩] [14] [93, 94, 95]) (.draw [⟨some 96, .mv (.t 6), none⟩, ⟨some 97, .fad 0 (.t 1), none⟩, ⟨some 98, .ld false 1 (.t 97), none⟩, ⟨some 99, .fad 0 (.t
 14), none⟩, ⟨some 100, .ld false 1 (.t 99), none⟩, ⟨some 101, .iad 7 (.t 98) (.t 100), none⟩, ⟨some 102, .fad 0 (.t 101), none⟩, ⟨some 103, .ld false 1 (.t 102), none⟩, ⟨some 104, .fad 1 (.t 14), none⟩, ⟨some 105, .ld
 false 1 (.t 104), none⟩, ⟨some 106, .call (.c (.fn 20 [])) [(.t 105)], none⟩, ⟨some 107, .fad 2 (.t 14), none⟩, ⟨some 108, .ld false 1 (.t 107), none⟩, ⟨some 109, .call (.c (.fn 20 [])) [(.t 108)], none⟩, ⟨some 110, .fad
 1 (.t 1), none⟩, ⟨some 111, .ld false 1 (.t 110), none⟩, ⟨some 112, .fad 3 (.t 14), none⟩, ⟨some 113, .ld false 1 (.t 112), none⟩, ⟨some 114, .iad 5 (.t 111) (.t 113), none⟩, ⟨some 115, .fad 0 (.t 114), none⟩, ⟨some 116,
 .ld false 1 (.t 115), none⟩, ⟨some 117, .bsl true 1 [.str []] 5 [(0, (.c (.str [97,108,97,114,109]))), (1, (.t 103)), (2, (.t 106)), (3, (.t 109)), (4, (.t 116))], none⟩, ⟨some 118, .call (.t 96) [(.t 117), (.c
 (.nilsl))], none⟩] [(2, 0), (2, 11), (2, 14), (4, 0), (4, 11), (4, 14), (5, 0), (5, 11), (5, 14), (7, 0), (7, 11), (7, 14), (9, 0), (12, 0), (12, 11), (15, 0), (15, 11), (15, 14), (17, 0), (17, 11), (17, 14), (18, 0),
 (18, 11), (18, 14), (20, 0), (20, 11), (20, 14)] [] [14, 96, 97, 98, 99, 100, 101, 102, 103, 104, 105, 106, 107, 108, 109, 110, 111, 112, 113, 114, 115, 116, 117, 118]))) (.reg [⟨some 119, .bin .add true false none (.t
 92) (.c (.int .i64 1)), none⟩, ⟨some 92, .mv (.t 119), none⟩] [] [119]))))))) (.seq (.seq (.reg [⟨some 120, .call (.c (.fn 23 [])) [(.t 5)], none⟩, ⟨some 121, .bin .gtr true false none (.t 120) (.c (.int .i64 65536)),
 none⟩] [] [1, 6, 90, 91, 92, 93, 120]) (.cond (.t 121) (.seq (.reg [⟨some 2, .mv (.c (.str [])), none⟩, ⟨some 3, .mv (.c (.int .i64 3)), none⟩] [] [5, 121]) .ret) .skip)) (.seq (.reg [⟨some 122, .call (.c (.fn 24 []))
 [(.t 5)], none⟩, ⟨some 2, .mv (.t 122), none⟩, ⟨some 3, .mv (.c (.int .i64 0)), none⟩] [] [5, 121, 122]) .ret))))))))), [.t 2, .t 3], true⟩
/- underpin/underpinref07.Print -/
def sf7 : SFun := ⟨17, (.seq (.reg [⟨some 1, .box true (.t 0), none⟩, ⟨some 2, .mv (.c (.str [])), none⟩, ⟨some 3, .mv (.c (.int .i64 0)), none⟩] [] [0, 2, 3]) (.seq (.reg [⟨some 6, .ld true 3 (.t 1), none⟩, ⟨some 7,
 .call (.c (.fn 9 [])) [(.t 6)], none⟩, ⟨some 4, .mv (.t 7), none⟩] [] [6, 7]) (.seq (.seq (.reg [⟨some 8, .mv (.t 4), none⟩, ⟨some 9, .bin .neq true true (some .int) (.t 8) (.c (.int .i64 0)), none⟩] [] [8]) (.cond (.t
 9) (.seq (.reg [⟨some 10, .mv (.t 4), none⟩, ⟨some 2, .mv (.c (.str [])), none⟩, ⟨some 3, .mv (.t 10), none⟩] [] [1, 4, 9, 10]) .ret) .skip)) (.seq (.reg [⟨some 11, .ld true 3 (.t 1), none⟩, ⟨some 12, .call (.c (.fn 25
 [])) [(.t 11)], none⟩, ⟨some 5, .mv (.t 12), none⟩] [] [1, 4, 9, 11, 12]) (.seq (.seq (.reg [⟨some 13, .mv (.t 5), none⟩, ⟨some 14, .lens (.t 13), none⟩, ⟨some 15, .bin .gtr true false none (.t 14) (.c (.int .i64
 65536)), none⟩] [] [13, 14]) (.cond (.t 15) (.seq (.reg [⟨some 2, .mv (.c (.str [])), none⟩, ⟨some 3, .mv (.c (.int .i64 3)), none⟩] [] [5, 15]) .ret) .skip)) (.seq (.reg [⟨some 16, .mv (.t 5), none⟩, ⟨some 2, .mv (.t
 16), none⟩, ⟨some 3, .mv (.c (.int .i64 0)), none⟩] [] [5, 15, 16]) .ret)))))), [.t 2, .t 3], false⟩
/- underpin/watch.Check -/
def sf8 : SFun := ⟨69, (.seq (.reg [⟨some 1, .box true (.t 0), none⟩, ⟨some 2, .mv (.c (.int .i64 0)), none⟩] [] [0, 2]) (.seq (.seq (.reg [⟨some 7, .fad 0 (.t 1), none⟩, ⟨some 8, .ld false 1 (.t 7), none⟩, ⟨some 9, .call
 (.c (.fn 26 [])) [(.t 8)], none⟩, ⟨some 3, .mv (.t 9), none⟩] [] [7, 8, 9]) (.seq (.reg [⟨some 10, .mv (.t 3), none⟩, ⟨some 11, .bin .neq true true (some .int) (.t 10) (.c (.int .i64 0)), none⟩] [] [10]) (.cond (.t 11)
 (.seq (.reg [⟨some 12, .mv (.t 3), none⟩, ⟨some 2, .mv (.t 12), none⟩] [] [1, 3, 11, 12]) .ret) .skip))) (.seq (.seq (.reg [⟨some 13, .fad 1 (.t 1), none⟩, ⟨some 14, .ld false 1 (.t 13), none⟩, ⟨some 15, .call (.c (.fn
 27 [])) [(.t 14)], none⟩, ⟨some 4, .mv (.t 15), none⟩] [] [3, 11, 13, 14, 15]) (.seq (.reg [⟨some 16, .mv (.t 4), none⟩, ⟨some 17, .bin .neq true true (some .int) (.t 16) (.c (.int .i64 0)), none⟩] [] [16]) (.cond (.t
 17) (.seq (.reg [⟨some 18, .mv (.t 4), none⟩, ⟨some 2, .mv (.t 18), none⟩] [] [1, 4, 17, 18]) .ret) .skip))) (.seq (.seq (.reg [⟨some 19, .fad 2 (.t 1), none⟩, ⟨some 20, .ld false 1 (.t 19), none⟩, ⟨some 21, .lenl (.t
 20), none⟩, ⟨some 22, .bin .gtr true false none (.t 21) (.c (.int .i64 16)), none⟩] [] [4, 17, 19, 20, 21]) (.cond (.t 22) (.seq (.reg [⟨some 2, .mv (.c (.int .i64 3)), none⟩] [] [1, 22]) .ret) .skip)) (.seq (.seq (.reg
 [⟨some 23, .fad 2 (.t 1), none⟩, ⟨some 24, .ld false 1 (.t 23), none⟩, ⟨some 25, .lenl (.t 24), none⟩, ⟨some 26, .mv (.c (.int .i64 0)), none⟩] [] [22, 23]) (.block 0 (.loop (.seq (.reg [⟨some 27, .bin .lss false false
 none (.t 26) (.t 25), none⟩] [] []) (.seq (.cond (.t 27) .skip (.exit 0)) (.seq (.block 1 (.seq (.reg [⟨some 28, .mv (.t 26), none⟩, ⟨some 29, .iad 4 (.t 24) (.t 26), none⟩, ⟨some 30, .ld true 4 (.t 29), none⟩, ⟨some 6,
 .new [.int .i64 0, .int .i64 0, .int .i64 0, .int .i64 0], none⟩, ⟨some 5, .mv (.t 28), none⟩, ⟨none, .st 4 (.t 6) (.t 30), none⟩] [6] [27, 28, 29, 30]) (.block 2 (.seq (.reg [⟨some 32, .fad 0 (.t 6), none⟩, ⟨some 33,
 .ld false 1 (.t 32), none⟩, ⟨some 34, .fad 0 (.t 1), none⟩, ⟨some 35, .ld false 1 (.t 34), none⟩, ⟨some 36, .lenl (.t 35), none⟩, ⟨some 37, .bin .sub true false none (.t 36) (.c (.int .i64 1)), none⟩, ⟨some 38, .call (.c
 (.fn 28 [])) [(.t 33), (.c (.int .i64 0)), (.t 37)], none⟩, ⟨some 39, .un .not (.t 38), none⟩, ⟨some 40, .mv (.t 39), none⟩, ⟨some 41, .fad 3 (.t 6), (some (some 40, false))⟩, ⟨some 42, .ld false 1 (.t 41), (some (some
 40, false))⟩, ⟨some 43, .fad 1 (.t 1), (some (some 40, false))⟩, ⟨some 44, .ld false 1 (.t 43), (some (some 40, false))⟩, ⟨some 45, .lenl (.t 44), (some (some 40, false))⟩, ⟨some 46, .bin .sub true false none (.t 45) (.c
 (.int .i64 1)), (some (some 40, false))⟩, ⟨some 47, .call (.c (.fn 28 [])) [(.t 42), (.c (.int .i64 0)), (.t 46)], (some (some 40, false))⟩, ⟨some 48, .un .not (.t 47), (some (some 40, false))⟩, ⟨some 49, .pick (.t 40)
 (.c (.bool true)) (.t 48), none⟩, ⟨some 31, .mv (.t 49), none⟩] [] [32, 33, 34, 35, 36, 37, 38, 39, 40, 41, 42, 43, 44, 45, 46, 47, 48, 49]) (.cond (.t 31) (.seq (.reg [⟨some 2, .mv (.c (.int .i64 7)), none⟩] [] [1, 5,
 6, 24, 25, 26, 31]) .ret) (.seq (.reg [⟨some 51, .fad 1 (.t 6), none⟩, ⟨some 52, .ld false 1 (.t 51), none⟩, ⟨some 53, .call (.c (.fn 29 [])) [(.t 52)], none⟩, ⟨some 54, .un .not (.t 53), none⟩, ⟨some 55, .mv (.t 54),
 none⟩, ⟨some 56, .fad 2 (.t 6), (some (some 55, false))⟩, ⟨some 57, .ld false 1 (.t 56), (some (some 55, false))⟩, ⟨some 58, .call (.c (.fn 29 [])) [(.t 57)], (some (some 55, false))⟩, ⟨some 59, .un .not (.t 58), (some
 (some 55, false))⟩, ⟨some 60, .pick (.t 55) (.c (.bool true)) (.t 59), none⟩, ⟨some 50, .mv (.t 60), none⟩] [] [31, 51, 52, 53, 54, 55, 56, 57, 58, 59, 60]) (.cond (.t 50) (.seq (.reg [⟨some 2, .mv (.c (.int .i64 1)),
 none⟩] [] [1, 5, 6, 24, 25, 26, 50]) .ret) (.seq (.reg [⟨some 62, .fad 2 (.t 1), none⟩, ⟨some 63, .ld false 1 (.t 62), none⟩, ⟨some 64, .mv (.t 5), none⟩, ⟨some 65, .slc 4 (.t 63) none (some (.t 64)) none, none⟩, ⟨some
 66, .mkf 31 [(.t 6)], none⟩, ⟨some 67, .call (.c (.fn 30 [])) [(.t 65), (.t 66)], none⟩, ⟨some 61, .mv (.t 67), none⟩] [] [5, 6, 50, 62, 63, 64, 65, 66, 67]) (.cond (.t 61) (.seq (.reg [⟨some 2, .mv (.c (.int .i64 6)),
 none⟩] [] [1, 24, 25, 26, 61]) .ret) .skip))))))))) (.reg [⟨some 68, .bin .add true false none (.t 26) (.c (.int .i64 1)), none⟩, ⟨some 26, .mv (.t 68), none⟩] [] [61, 68]))))))) (.seq (.reg [⟨some 2, .mv (.c (.int .i64
 0)), none⟩] [] [1, 24, 25, 26, 27]) .ret)))))), [.t 2], true⟩
/- underpin/underpinref07.Check -/
def sf9 : SFun := ⟨97, (.seq (.reg [⟨some 1, .box true (.t 0), none⟩, ⟨some 2, .mv (.c (.int .i64 0)), none⟩] [] [0, 2]) (.seq (.seq (.reg [⟨some 10, .fad 0 (.t 1), none⟩, ⟨some 11, .ld false 1 (.t 10), none⟩, ⟨some 12,
 .lenl (.t 11), none⟩, ⟨some 13, .bin .gtr true false none (.t 12) (.c (.int .i64 16)), none⟩] [] [10, 11, 12]) (.cond (.t 13) (.seq (.reg [⟨some 2, .mv (.c (.int .i64 3)), none⟩] [] [1, 13]) .ret) .skip)) (.seq (.seq
 (.reg [⟨some 3, .mv (.c (.int .i64 0)), none⟩] [] [13]) (.block 0 (.loop (.seq (.seq (.reg [⟨some 14, .mv (.t 3), none⟩, ⟨some 15, .fad 0 (.t 1), none⟩, ⟨some 16, .ld false 1 (.t 15), none⟩, ⟨some 17, .lenl (.t 16),
 none⟩, ⟨some 18, .bin .lss false false none (.t 14) (.t 17), none⟩] [] [14, 15, 16, 17]) (.cond (.t 18) .skip (.exit 0))) (.seq (.block 1 (.seq (.seq (.reg [⟨some 21, .fad 0 (.t 1), none⟩, ⟨some 22, .ld false 1 (.t 21),
 none⟩, ⟨some 23, .mv (.t 3), none⟩, ⟨some 24, .iad 7 (.t 22) (.t 23), none⟩, ⟨some 25, .fad 0 (.t 24), none⟩, ⟨some 26, .ld false 1 (.t 25), none⟩, ⟨some 27, .call (.c (.fn 32 [])) [(.t 26)], none⟩, ⟨some 28, .un .not
 (.t 27), none⟩] [] [18, 21, 22, 23, 24, 25, 26, 27]) (.cond (.t 28) (.seq (.reg [⟨some 2, .mv (.c (.int .i64 5)), none⟩] [] [1, 3, 28]) .ret) .skip)) (.seq (.seq (.reg [⟨some 4, .mv (.c (.int .i64 0)), none⟩] [] [28])
 (.block 2 (.loop (.seq (.seq (.reg [⟨some 29, .mv (.t 4), none⟩, ⟨some 30, .mv (.t 3), none⟩, ⟨some 31, .bin .lss false false none (.t 29) (.t 30), none⟩] [] [29, 30]) (.cond (.t 31) .skip (.exit 2))) (.seq (.block 3
 (.seq (.draw [⟨some 34, .fad 0 (.t 1), none⟩, ⟨some 35, .ld false 1 (.t 34), none⟩, ⟨some 36, .mv (.t 4), none⟩, ⟨some 37, .iad 7 (.t 35) (.t 36), none⟩, ⟨some 38, .fad 0 (.t 37), none⟩, ⟨some 39, .ld false 1 (.t 38),
 none⟩, ⟨some 40, .fad 0 (.t 1), none⟩, ⟨some 41, .ld false 1 (.t 40), none⟩, ⟨some 42, .mv (.t 3), none⟩, ⟨some 43, .iad 7 (.t 41) (.t 42), none⟩, ⟨some 44, .fad 0 (.t 43), none⟩, ⟨some 45, .ld false 1 (.t 44), none⟩,
 ⟨some 46, .bin .eql false true (some .str) (.t 39) (.t 45), none⟩] [(1, 0), (3, 0), (5, 0), (7, 0), (9, 0), (11, 0)] [] [31, 34, 35, 36, 37, 38, 39, 40, 41, 42, 43, 44, 45]) (.cond (.t 46) (.seq (.reg [⟨some 2, .mv (.c
 (.int .i64 6)), none⟩] [] [1, 3, 4, 46]) .ret) .skip))) (.reg [⟨some 32, .mv (.t 4), none⟩, ⟨some 33, .bin .add true false none (.t 32) (.c (.int .i64 1)), none⟩, ⟨some 4, .mv (.t 33), none⟩] [] [32, 33, 46])))))) (.seq
 (.reg [⟨some 47, .fad 0 (.t 1), none⟩, ⟨some 48, .ld false 1 (.t 47), none⟩, ⟨some 49, .mv (.t 3), none⟩, ⟨some 50, .iad 7 (.t 48) (.t 49), none⟩, ⟨some 51, .ld true 7 (.t 50), none⟩, ⟨some 52, .call (.c (.fn 33 []))
 [(.t 51)], none⟩, ⟨some 5, .mv (.t 52), none⟩] [] [4, 31, 47, 48, 49, 50, 51, 52]) (.seq (.reg [⟨some 53, .mv (.t 5), none⟩, ⟨some 54, .bin .neq true true (some .int) (.t 53) (.c (.int .i64 0)), none⟩] [] [53]) (.cond
 (.t 54) (.seq (.reg [⟨some 55, .mv (.t 5), none⟩, ⟨some 2, .mv (.t 55), none⟩] [] [1, 3, 5, 54, 55]) .ret) .skip)))))) (.reg [⟨some 19, .mv (.t 3), none⟩, ⟨some 20, .bin .add true false none (.t 19) (.c (.int .i64 1)),
 none⟩, ⟨some 3, .mv (.t 20), none⟩] [] [5, 19, 20, 54])))))) (.seq (.seq (.reg [⟨some 56, .fad 1 (.t 1), none⟩, ⟨some 57, .ld false 1 (.t 56), none⟩, ⟨some 58, .lenl (.t 57), none⟩, ⟨some 59, .bin .gtr true false none
 (.t 58) (.c (.int .i64 16)), none⟩] [] [3, 18, 56, 57, 58]) (.cond (.t 59) (.seq (.reg [⟨some 2, .mv (.c (.int .i64 3)), none⟩] [] [1, 59]) .ret) .skip)) (.seq (.seq (.reg [⟨some 6, .mv (.c (.int .i64 0)), none⟩] []
 [59]) (.block 4 (.loop (.seq (.seq (.reg [⟨some 60, .mv (.t 6), none⟩, ⟨some 61, .fad 1 (.t 1), none⟩, ⟨some 62, .ld false 1 (.t 61), none⟩, ⟨some 63, .lenl (.t 62), none⟩, ⟨some 64, .bin .lss false false none (.t 60)
 (.t 63), none⟩] [] [60, 61, 62, 63]) (.cond (.t 64) .skip (.exit 4))) (.seq (.block 5 (.seq (.draw [⟨some 67, .fad 1 (.t 1), none⟩, ⟨some 68, .ld false 1 (.t 67), none⟩, ⟨some 69, .mv (.t 6), none⟩, ⟨some 70, .iad 5 (.t
 68) (.t 69), none⟩, ⟨some 71, .ld true 5 (.t 70), none⟩, ⟨some 72, .fad 1 (.t 1), none⟩, ⟨some 73, .ld false 1 (.t 72), none⟩, ⟨some 74, .mv (.t 6), none⟩, ⟨some 75, .slc 5 (.t 73) none (some (.t 74)) none, none⟩, ⟨some
 76, .call (.c (.fn 34 [])) [(.t 71), (.t 75)], none⟩, ⟨some 7, .mv (.t 76), none⟩] [(1, 0), (3, 0), (4, 0), (6, 0), (8, 0)] [] [64, 67, 68, 69, 70, 71, 72, 73, 74, 75, 76]) (.seq (.reg [⟨some 77, .mv (.t 7), none⟩, ⟨some
 78, .bin .neq true true (some .int) (.t 77) (.c (.int .i64 0)), none⟩] [] [77]) (.cond (.t 78) (.seq (.reg [⟨some 79, .mv (.t 7), none⟩, ⟨some 2, .mv (.t 79), none⟩] [] [1, 6, 7, 78, 79]) .ret) .skip)))) (.reg [⟨some 65,
 .mv (.t 6), none⟩, ⟨some 66, .bin .add true false none (.t 65) (.c (.int .i64 1)), none⟩, ⟨some 6, .mv (.t 66), none⟩] [] [7, 65, 66, 78])))))) (.seq (.seq (.reg [⟨some 80, .fad 2 (.t 1), none⟩, ⟨some 81, .ld false 1 (.t
 80), none⟩, ⟨some 82, .lenl (.t 81), none⟩, ⟨some 83, .bin .gtr true false none (.t 82) (.c (.int .i64 16)), none⟩] [] [6, 64, 80, 81, 82]) (.cond (.t 83) (.seq (.reg [⟨some 2, .mv (.c (.int .i64 3)), none⟩] [] [1, 83])
 .ret) .skip)) (.seq (.seq (.reg [⟨some 8, .mv (.c (.int .i64 0)), none⟩] [] [83]) (.block 6 (.loop (.seq (.seq (.reg [⟨some 84, .mv (.t 8), none⟩, ⟨some 85, .fad 2 (.t 1), none⟩, ⟨some 86, .ld false 1 (.t 85), none⟩,
 ⟨some 87, .lenl (.t 86), none⟩, ⟨some 88, .bin .lss false false none (.t 84) (.t 87), none⟩] [] [84, 85, 86, 87]) (.cond (.t 88) .skip (.exit 6))) (.seq (.block 7 (.seq (.reg [⟨some 91, .ld true 3 (.t 1), none⟩, ⟨some
 92, .mv (.t 8), none⟩, ⟨some 93, .call (.c (.fn 35 [])) [(.t 91), (.t 92)], none⟩, ⟨some 9, .mv (.t 93), none⟩] [] [88, 91, 92, 93]) (.seq (.reg [⟨some 94, .mv (.t 9), none⟩, ⟨some 95, .bin .neq true true (some .int) (.t
 94) (.c (.int .i64 0)), none⟩] [] [94]) (.cond (.t 95) (.seq (.reg [⟨some 96, .mv (.t 9), none⟩, ⟨some 2, .mv (.t 96), none⟩] [] [1, 8, 9, 95, 96]) .ret) .skip)))) (.reg [⟨some 89, .mv (.t 8), none⟩, ⟨some 90, .bin .add
 true false none (.t 89) (.c (.int .i64 1)), none⟩, ⟨some 8, .mv (.t 90), none⟩] [] [9, 89, 90, 95])))))) (.seq (.reg [⟨some 2, .mv (.c (.int .i64 0)), none⟩] [] [1, 8, 88]) .ret)))))))), [.t 2], false⟩
/- underpin/watch.Same -/
def sf10 : SFun := ⟨26, (.seq (.reg [⟨some 2, .box true (.t 0), none⟩, ⟨some 3, .box true (.t 1), none⟩, ⟨some 4, .mv (.c (.bool false)), none⟩] [] [0, 1, 4]) (.seq (.reg [⟨some 5, .mv (.c (.fn 36 [])), none⟩] [] [])
 (.seq (.reg [⟨some 6, .fad 0 (.t 2), none⟩, ⟨some 7, .ld false 1 (.t 6), none⟩, ⟨some 8, .fad 0 (.t 3), none⟩, ⟨some 9, .ld false 1 (.t 8), none⟩, ⟨some 10, .mv (.t 5), none⟩, ⟨some 11, .call (.c (.fn 38 [])) [(.t 7),
 (.t 9), (.t 10)], none⟩, ⟨some 12, .mv (.t 11), none⟩, ⟨some 13, .fad 1 (.t 2), (some (some 12, true))⟩, ⟨some 14, .ld false 1 (.t 13), (some (some 12, true))⟩, ⟨some 15, .fad 1 (.t 3), (some (some 12, true))⟩, ⟨some 16,
 .ld false 1 (.t 15), (some (some 12, true))⟩, ⟨some 17, .call (.c (.fn 39 [])) [(.t 14), (.t 16)], (some (some 12, true))⟩, ⟨some 18, .pick (.t 12) (.t 17) (.c (.bool false)), none⟩, ⟨some 19, .mv (.t 18), none⟩, ⟨some
 20, .fad 2 (.t 2), (some (some 19, true))⟩, ⟨some 21, .ld false 1 (.t 20), (some (some 19, true))⟩, ⟨some 22, .fad 2 (.t 3), (some (some 19, true))⟩, ⟨some 23, .ld false 1 (.t 22), (some (some 19, true))⟩, ⟨some 24,
 .call (.c (.fn 40 [])) [(.t 21), (.t 23)], (some (some 19, true))⟩, ⟨some 25, .pick (.t 19) (.t 24) (.c (.bool false)), none⟩, ⟨some 4, .mv (.t 25), none⟩] [] [2, 3, 5, 6, 7, 8, 9, 10, 11, 12, 13, 14, 15, 16, 17, 18, 19,
 20, 21, 22, 23, 24, 25]) .ret))), [.t 4], true⟩
/- underpin/underpinref07.Same -/
def sf11 : SFun := ⟨88, (.seq (.reg [⟨some 2, .box true (.t 0), none⟩, ⟨some 3, .box true (.t 1), none⟩, ⟨some 4, .mv (.c (.bool false)), none⟩] [] [0, 1, 4]) (.seq (.seq (.reg [⟨some 8, .fad 0 (.t 2), none⟩, ⟨some 9, .ld
 false 1 (.t 8), none⟩, ⟨some 10, .lenl (.t 9), none⟩, ⟨some 11, .fad 0 (.t 3), none⟩, ⟨some 12, .ld false 1 (.t 11), none⟩, ⟨some 13, .lenl (.t 12), none⟩, ⟨some 14, .bin .neq false true (some .int) (.t 10) (.t 13),
 none⟩, ⟨some 15, .mv (.t 14), none⟩, ⟨some 16, .fad 1 (.t 2), (some (some 15, false))⟩, ⟨some 17, .ld false 1 (.t 16), (some (some 15, false))⟩, ⟨some 18, .lenl (.t 17), (some (some 15, false))⟩, ⟨some 19, .fad 1 (.t 3),
 (some (some 15, false))⟩, ⟨some 20, .ld false 1 (.t 19), (some (some 15, false))⟩, ⟨some 21, .lenl (.t 20), (some (some 15, false))⟩, ⟨some 22, .bin .neq false true (some .int) (.t 18) (.t 21), (some (some 15, false))⟩,
 ⟨some 23, .pick (.t 15) (.c (.bool true)) (.t 22), none⟩, ⟨some 24, .mv (.t 23), none⟩, ⟨some 25, .fad 2 (.t 2), (some (some 24, false))⟩, ⟨some 26, .ld false 1 (.t 25), (some (some 24, false))⟩, ⟨some 27, .lenl (.t 26),
 (some (some 24, false))⟩, ⟨some 28, .fad 2 (.t 3), (some (some 24, false))⟩, ⟨some 29, .ld false 1 (.t 28), (some (some 24, false))⟩, ⟨some 30, .lenl (.t 29), (some (some 24, false))⟩, ⟨some 31, .bin .neq false true
 (some .int) (.t 27) (.t 30), (some (some 24, false))⟩, ⟨some 32, .pick (.t 24) (.c (.bool true)) (.t 31), none⟩] [] [8, 9, 10, 11, 12, 13, 14, 15, 16, 17, 18, 19, 20, 21, 22, 23, 24, 25, 26, 27, 28, 29, 30, 31]) (.cond
 (.t 32) (.seq (.reg [⟨some 4, .mv (.c (.bool false)), none⟩] [] [2, 3, 32]) .ret) .skip)) (.seq (.seq (.reg [⟨some 5, .mv (.c (.int .i64 0)), none⟩] [] [32]) (.block 0 (.loop (.seq (.seq (.reg [⟨some 33, .mv (.t 5),
 none⟩, ⟨some 34, .fad 0 (.t 2), none⟩, ⟨some 35, .ld false 1 (.t 34), none⟩, ⟨some 36, .lenl (.t 35), none⟩, ⟨some 37, .bin .lss false false none (.t 33) (.t 36), none⟩] [] [33, 34, 35, 36]) (.cond (.t 37) .skip (.exit
 0))) (.seq (.block 1 (.seq (.draw [⟨some 40, .fad 0 (.t 2), none⟩, ⟨some 41, .ld false 1 (.t 40), none⟩, ⟨some 42, .mv (.t 5), none⟩, ⟨some 43, .iad 7 (.t 41) (.t 42), none⟩, ⟨some 44, .ld true 7 (.t 43), none⟩, ⟨some
 45, .fad 0 (.t 3), none⟩, ⟨some 46, .ld false 1 (.t 45), none⟩, ⟨some 47, .mv (.t 5), none⟩, ⟨some 48, .iad 7 (.t 46) (.t 47), none⟩, ⟨some 49, .ld true 7 (.t 48), none⟩, ⟨some 50, .call (.c (.fn 41 [])) [(.t 44), (.t
 49)], none⟩, ⟨some 51, .un .not (.t 50), none⟩] [(1, 0), (3, 0), (4, 0), (6, 0), (8, 0), (9, 0)] [] [37, 40, 41, 42, 43, 44, 45, 46, 47, 48, 49, 50]) (.cond (.t 51) (.seq (.reg [⟨some 4, .mv (.c (.bool false)), none⟩] []
 [2, 3, 5, 51]) .ret) .skip))) (.reg [⟨some 38, .mv (.t 5), none⟩, ⟨some 39, .bin .add true false none (.t 38) (.c (.int .i64 1)), none⟩, ⟨some 5, .mv (.t 39), none⟩] [] [38, 39, 51])))))) (.seq (.seq (.reg [⟨some 6, .mv
 (.c (.int .i64 0)), none⟩] [] [5, 37]) (.block 2 (.loop (.seq (.seq (.reg [⟨some 52, .mv (.t 6), none⟩, ⟨some 53, .fad 1 (.t 2), none⟩, ⟨some 54, .ld false 1 (.t 53), none⟩, ⟨some 55, .lenl (.t 54), none⟩, ⟨some 56, .bin
 .lss false false none (.t 52) (.t 55), none⟩] [] [52, 53, 54, 55]) (.cond (.t 56) .skip (.exit 2))) (.seq (.block 3 (.seq (.draw [⟨some 59, .fad 1 (.t 2), none⟩, ⟨some 60, .ld false 1 (.t 59), none⟩, ⟨some 61, .mv (.t
 6), none⟩, ⟨some 62, .iad 5 (.t 60) (.t 61), none⟩, ⟨some 63, .ld true 5 (.t 62), none⟩, ⟨some 64, .fad 1 (.t 3), none⟩, ⟨some 65, .ld false 1 (.t 64), none⟩, ⟨some 66, .mv (.t 6), none⟩, ⟨some 67, .iad 5 (.t 65) (.t
 66), none⟩, ⟨some 68, .ld true 5 (.t 67), none⟩, ⟨some 69, .bin .neq false true (some (.fld 0 1 false .str (.fld 1 1 false .str (.fld 2 1 false .int (.fld 3 1 false .int (.fld 4 1 false .int .fin)))))) (.t 63) (.t 68),
 none⟩] [(1, 0), (3, 0), (4, 0), (6, 0), (8, 0), (9, 0)] [] [56, 59, 60, 61, 62, 63, 64, 65, 66, 67, 68]) (.cond (.t 69) (.seq (.reg [⟨some 4, .mv (.c (.bool false)), none⟩] [] [2, 3, 6, 69]) .ret) .skip))) (.reg [⟨some
 57, .mv (.t 6), none⟩, ⟨some 58, .bin .add true false none (.t 57) (.c (.int .i64 1)), none⟩, ⟨some 6, .mv (.t 58), none⟩] [] [57, 58, 69])))))) (.seq (.seq (.reg [⟨some 7, .mv (.c (.int .i64 0)), none⟩] [] [6, 56])
 (.block 4 (.loop (.seq (.seq (.reg [⟨some 70, .mv (.t 7), none⟩, ⟨some 71, .fad 2 (.t 2), none⟩, ⟨some 72, .ld false 1 (.t 71), none⟩, ⟨some 73, .lenl (.t 72), none⟩, ⟨some 74, .bin .lss false false none (.t 70) (.t 73),
 none⟩] [] [70, 71, 72, 73]) (.cond (.t 74) .skip (.exit 4))) (.seq (.block 5 (.seq (.draw [⟨some 77, .fad 2 (.t 2), none⟩, ⟨some 78, .ld false 1 (.t 77), none⟩, ⟨some 79, .mv (.t 7), none⟩, ⟨some 80, .iad 4 (.t 78) (.t
 79), none⟩, ⟨some 81, .ld true 4 (.t 80), none⟩, ⟨some 82, .fad 2 (.t 3), none⟩, ⟨some 83, .ld false 1 (.t 82), none⟩, ⟨some 84, .mv (.t 7), none⟩, ⟨some 85, .iad 4 (.t 83) (.t 84), none⟩, ⟨some 86, .ld true 4 (.t 85),
 none⟩, ⟨some 87, .bin .neq false true (some (.fld 0 1 false .int (.fld 1 1 false .int (.fld 2 1 false .int (.fld 3 1 false .int .fin))))) (.t 81) (.t 86), none⟩] [(1, 0), (3, 0), (4, 0), (6, 0), (8, 0), (9, 0)] [] [74,
 77, 78, 79, 80, 81, 82, 83, 84, 85, 86]) (.cond (.t 87) (.seq (.reg [⟨some 4, .mv (.c (.bool false)), none⟩] [] [2, 3, 7, 87]) .ret) .skip))) (.reg [⟨some 75, .mv (.t 7), none⟩, ⟨some 76, .bin .add true false none (.t
 75) (.c (.int .i64 1)), none⟩, ⟨some 7, .mv (.t 76), none⟩] [] [75, 76, 87])))))) (.seq (.reg [⟨some 4, .mv (.c (.bool true)), none⟩] [] [2, 3, 7, 74]) .ret)))))), [.t 4], false⟩
/- underpin/watch.Error -/
def sf12 : SFun := ⟨17, (.seq (.reg [⟨some 2, .box true (.t 0), none⟩, ⟨some 4, .mv (.c (.int .i64 0)), none⟩, ⟨some 5, .mv (.c (.int .i64 0)), none⟩] [] [0, 4, 5]) (.seq (.seq (.reg [⟨some 6, .ld true 4 (.t 2), none⟩,
 ⟨some 7, .call (.c (.fn 42 [])) [(.t 6)], none⟩, ⟨some 8, .bin .neq true true (some .int) (.t 7) (.c (.int .i64 0)), none⟩, ⟨some 9, .mv (.t 8), none⟩, ⟨some 10, .mv (.t 1), (some (some 9, false))⟩, ⟨some 11, .call (.c
 (.fn 43 [])) [(.t 10)], (some (some 9, false))⟩, ⟨some 12, .un .not (.t 11), (some (some 9, false))⟩, ⟨some 13, .pick (.t 9) (.c (.bool true)) (.t 12), none⟩] [] [6, 7, 8, 9, 10, 11, 12]) (.cond (.t 13) (.seq (.reg
 [⟨some 4, .mv (.c (.int .i64 0)), none⟩, ⟨some 5, .mv (.c (.int .i64 1)), none⟩] [] [1, 2, 13]) .ret) .skip)) (.seq (.reg [⟨some 14, .ld true 4 (.t 2), none⟩, ⟨some 15, .mv (.t 1), none⟩, ⟨some 16, .call (.c (.fn 44 []))
 [(.t 14), (.t 15)], none⟩, ⟨some 4, .mv (.t 16), none⟩, ⟨some 5, .mv (.c (.int .i64 0)), none⟩] [] [1, 2, 13, 14, 15, 16]) .ret))), [.t 4, .t 5], false⟩
/- underpin/underpinref07.Error -/
def sf13 : SFun := ⟨22, (.seq (.reg [⟨some 2, .box true (.t 0), none⟩, ⟨some 4, .mv (.c (.int .i64 0)), none⟩, ⟨some 5, .mv (.c (.int .i64 0)), none⟩] [] [0, 4, 5]) (.seq (.reg [⟨some 7, .ld true 4 (.t 2), none⟩, ⟨some 8,
 .call (.c (.fn 45 [])) [(.t 7)], none⟩, ⟨some 6, .mv (.t 8), none⟩] [] [7, 8]) (.seq (.seq (.reg [⟨some 9, .mv (.t 6), none⟩, ⟨some 10, .bin .eql true true (some .int) (.t 9) (.c (.int .i64 0)), none⟩, ⟨some 11, .mv (.t
 10), none⟩, ⟨some 12, .mv (.t 1), (some (some 11, true))⟩, ⟨some 13, .call (.c (.fn 46 [])) [(.t 12)], (some (some 11, true))⟩, ⟨some 14, .un .not (.t 13), (some (some 11, true))⟩, ⟨some 15, .pick (.t 11) (.t 14) (.c
 (.bool false)), none⟩] [] [9, 10, 11, 12, 13, 14]) (.cond (.t 15) (.reg [⟨some 6, .mv (.c (.int .i64 1)), none⟩] [] [15]) .skip)) (.seq (.seq (.reg [⟨some 16, .mv (.t 6), none⟩, ⟨some 17, .bin .neq true true (some .int)
 (.t 16) (.c (.int .i64 0)), none⟩] [] [15, 16]) (.cond (.t 17) (.seq (.reg [⟨some 18, .mv (.t 6), none⟩, ⟨some 4, .mv (.c (.int .i64 0)), none⟩, ⟨some 5, .mv (.t 18), none⟩] [] [1, 2, 6, 17, 18]) .ret) .skip)) (.seq
 (.reg [⟨some 19, .ld true 4 (.t 2), none⟩, ⟨some 20, .mv (.t 1), none⟩, ⟨some 21, .call (.c (.fn 47 [])) [(.t 19), (.t 20)], none⟩, ⟨some 4, .mv (.t 21), none⟩, ⟨some 5, .mv (.c (.int .i64 0)), none⟩] [] [1, 2, 6, 17,
 19, 20, 21]) .ret))))), [.t 4, .t 5], false⟩
/- underpin/underpinlaw07.three -/
def sf14 : SFun := ⟨6, (.seq (.reg [⟨some 0, .new [.str [], .int .i64 0, .int .i64 0, .int .i64 0, .int .i64 0, .int .i64 0, .nilsl], none⟩] [] []) (.seq (.reg [⟨some 1, .bst [.str [], .int .i64 0, .int .i64 0, .int .i64
 0] [(0, 1), (1, 1), (2, 1), (3, 1)] [(0, (.c (.str [97]))), (1, (.c (.int .i64 1)))], none⟩, ⟨some 2, .bst [.str [], .int .i64 0, .int .i64 0, .int .i64 0] [(0, 1), (1, 1), (2, 1), (3, 1)] [(0, (.c (.str [98]))), (1, (.c
 (.int .i64 1)))], none⟩, ⟨some 3, .bst [.str [], .int .i64 0, .int .i64 0, .int .i64 0] [(0, 1), (1, 1), (2, 1), (3, 1)] [(0, (.c (.str [99]))), (1, (.c (.int .i64 1)))], none⟩, ⟨some 4, .bsl false 4 [.str [], .int .i64
 0, .int .i64 0, .int .i64 0] 3 [(0, (.t 1)), (1, (.t 2)), (2, (.t 3))], none⟩, ⟨some 5, .bst [.str [], .int .i64 0, .int .i64 0, .int .i64 0, .int .i64 0, .int .i64 0, .nilsl] [(0, 1), (1, 2), (3, 1), (4, 1), (5, 1), (6,
 1)] [(0, (.c (.str [113]))), (2, (.c (.int .i64 2))), (3, (.c (.int .i64 1))), (4, (.c (.int .i64 1))), (5, (.t 4))], none⟩, ⟨none, .st 7 (.t 0) (.t 5), none⟩] [] [1, 2, 3, 4, 5]) .ret)), [.c 0 true 7], false⟩
/- underpin/watch.Possible -/
def sf15 : SFun := ⟨22, (.seq (.reg [⟨some 3, .box true (.t 0), none⟩, ⟨some 6, .mv (.c (.nilsl)), none⟩, ⟨some 7, .mv (.c (.int .i64 0)), none⟩] [] [0, 6, 7]) (.seq (.seq (.reg [⟨some 9, .ld true 7 (.t 3), none⟩, ⟨some
 10, .mv (.t 1), none⟩, ⟨some 11, .call (.c (.fn 48 [])) [(.t 9), (.t 10)], none⟩, ⟨some 8, .mv (.t 11), none⟩] [] [9, 10, 11]) (.seq (.reg [⟨some 12, .mv (.t 8), none⟩, ⟨some 13, .bin .neq true true (some .int) (.t 12)
 (.c (.int .i64 0)), none⟩] [] [12]) (.cond (.t 13) (.seq (.reg [⟨some 14, .mv (.t 8), none⟩, ⟨some 6, .mv (.c (.nilsl)), none⟩, ⟨some 7, .mv (.t 14), none⟩] [] [1, 2, 3, 8, 13, 14]) .ret) .skip))) (.seq (.seq (.reg
 [⟨some 15, .mv (.t 2), none⟩, ⟨some 16, .call (.c (.fn 43 [])) [(.t 15)], none⟩, ⟨some 17, .un .not (.t 16), none⟩] [] [8, 13, 15, 16]) (.cond (.t 17) (.seq (.reg [⟨some 6, .mv (.c (.nilsl)), none⟩, ⟨some 7, .mv (.c
 (.int .i64 1)), none⟩] [] [1, 2, 3, 17]) .ret) .skip)) (.seq (.reg [⟨some 18, .ld true 7 (.t 3), none⟩, ⟨some 19, .mv (.t 1), none⟩, ⟨some 20, .mv (.t 2), none⟩, ⟨some 21, .call (.c (.fn 49 [])) [(.t 18), (.t 19), (.t
 20)], none⟩, ⟨some 6, .mv (.t 21), none⟩, ⟨some 7, .mv (.c (.int .i64 0)), none⟩] [] [1, 2, 3, 17, 18, 19, 20, 21]) .ret)))), [.t 6, .t 7], true⟩
/- underpin/watch.Suspects -/
def sf16 : SFun := ⟨84, (.seq (.reg [⟨some 2, .box true (.t 0), none⟩, ⟨some 3, .box true (.t 1), none⟩, ⟨some 4, .mv (.c (.nilsl)), none⟩, ⟨some 5, .mv (.c (.nilsl)), none⟩, ⟨some 6, .mv (.c (.int .i64 0)), none⟩] [] [0,
 1, 6]) (.seq (.seq (.reg [⟨some 16, .ld true 7 (.t 2), none⟩, ⟨some 17, .ld false 1 (.t 3), none⟩, ⟨some 18, .call (.c (.fn 48 [])) [(.t 16), (.t 17)], none⟩, ⟨some 7, .mv (.t 18), none⟩] [] [16, 17, 18]) (.seq (.reg
 [⟨some 19, .mv (.t 7), none⟩, ⟨some 20, .bin .neq true true (some .int) (.t 19) (.c (.int .i64 0)), none⟩] [] [19]) (.cond (.t 20) (.seq (.reg [⟨some 21, .mv (.t 7), none⟩, ⟨some 4, .mv (.c (.nilsl)), none⟩, ⟨some 5, .mv
 (.c (.nilsl)), none⟩, ⟨some 6, .mv (.t 21), none⟩] [] [2, 3, 7, 20, 21]) .ret) .skip))) (.seq (.seq (.reg [⟨some 8, .mv (.c (.int .i64 0)), none⟩] [] [7, 20]) (.block 0 (.loop (.seq (.seq (.reg [⟨some 22, .mv (.t 8),
 none⟩, ⟨some 23, .fad 5 (.t 2), none⟩, ⟨some 24, .ld false 1 (.t 23), none⟩, ⟨some 25, .bin .leq false false none (.t 22) (.t 24), none⟩] [] [22, 23, 24]) (.cond (.t 25) .skip (.exit 0))) (.seq (.block 1 (.seq (.reg
 [⟨some 28, .fad 6 (.t 2), none⟩, ⟨some 29, .ld false 1 (.t 28), none⟩, ⟨some 30, .lenl (.t 29), none⟩, ⟨some 31, .mks 1 8 [.int .i64 0] (.t 30) (.t 30), none⟩, ⟨some 9, .new [.nilsl], none⟩, ⟨none, .st 1 (.t 9) (.t 31),
 none⟩] [9] [25, 28, 29, 30, 31]) (.seq (.reg [⟨some 10, .new [.int .i64 0], none⟩, ⟨none, .st 1 (.t 10) (.c (.int .i64 0)), none⟩] [] []) (.seq (.seq (.reg [⟨some 32, .fad 6 (.t 2), none⟩, ⟨some 33, .ld false 1 (.t 32),
 none⟩, ⟨some 34, .lenl (.t 33), none⟩, ⟨some 35, .mv (.t 8), none⟩, ⟨some 36, .call (.c (.fn 50 [])) [(.t 34), (.t 35)], none⟩] [] [32, 33, 34, 35]) (.block 2 (.range (.t 36) [37] (.reg [⟨some 11, .mv (.t 37), none⟩] []
 [36]) (.block 3 (.seq (.draw [⟨some 38, .ld true 7 (.t 2), none⟩, ⟨some 39, .ld true 7 (.t 2), none⟩, ⟨some 40, .ld false 1 (.t 3), none⟩, ⟨some 41, .mv (.t 11), none⟩, ⟨some 42, .call (.c (.fn 52 [])) [(.t 39), (.t 40),
 (.t 41), (.c (.nilsl))], none⟩, ⟨some 43, .call (.c (.fn 51 [])) [(.t 38), (.t 42)], none⟩] [(0, 0), (0, 5), (1, 0), (2, 0)] [] [38, 39, 40, 41, 42]) (.cond (.t 43) (.seq (.reg [⟨some 44, .ld false 1 (.t 10), none⟩,
 ⟨some 45, .bin .add true false none (.t 44) (.c (.int .i64 1)), none⟩, ⟨none, .st 1 (.t 10) (.t 45), none⟩] [] [43, 44, 45]) (.seq (.reg [⟨some 46, .mv (.t 11), none⟩, ⟨some 47, .lenl (.t 46), none⟩, ⟨some 48, .mv (.c
 (.int .i64 0)), none⟩] [] [11]) (.block 4 (.loop (.seq (.reg [⟨some 49, .bin .lss false false none (.t 48) (.t 47), none⟩] [] []) (.seq (.cond (.t 49) .skip (.exit 4)) (.seq (.block 5 (.seq (.reg [⟨some 50, .iad 1 (.t
 46) (.t 48), none⟩, ⟨some 51, .ld false 1 (.t 50), none⟩, ⟨some 13, .mv (.t 51), none⟩] [] [49, 50, 51]) (.reg [⟨some 52, .ld false 1 (.t 9), none⟩, ⟨some 53, .mv (.t 13), none⟩, ⟨some 54, .iad 1 (.t 52) (.t 53), none⟩,
 ⟨some 55, .ld false 1 (.t 54), none⟩, ⟨some 56, .bin .add true false none (.t 55) (.c (.int .i64 1)), none⟩, ⟨some 57, .iad 1 (.t 52) (.t 53), none⟩, ⟨none, .st 1 (.t 57) (.t 56), none⟩] [] [13, 52, 53, 54, 55, 56,
 57]))) (.reg [⟨some 58, .bin .add true false none (.t 48) (.c (.int .i64 1)), none⟩, ⟨some 48, .mv (.t 58), none⟩] [] [58])))))))) .skip)))))) (.seq (.seq (.reg [⟨some 59, .ld false 1 (.t 10), none⟩, ⟨some 60, .bin .eql
 true true (some .int) (.t 59) (.c (.int .i64 0)), none⟩] [] [36, 59]) (.cond (.t 60) (.exit 1) .skip)) (.seq (.seq (.reg [⟨some 61, .ld false 1 (.t 9), none⟩, ⟨some 62, .lenl (.t 61), none⟩, ⟨some 63, .mv (.c (.int .i64
 0)), none⟩] [] [2, 3, 8, 9, 60]) (.block 6 (.loop (.seq (.reg [⟨some 64, .bin .lss false false none (.t 63) (.t 62), none⟩] [] []) (.seq (.cond (.t 64) .skip (.exit 6)) (.seq (.block 7 (.seq (.reg [⟨some 65, .mv (.t 63),
 none⟩, ⟨some 66, .iad 1 (.t 61) (.t 63), none⟩, ⟨some 67, .ld false 1 (.t 66), none⟩, ⟨some 14, .mv (.t 65), none⟩, ⟨some 15, .mv (.t 67), none⟩] [] [64, 65, 66, 67]) (.seq (.seq (.reg [⟨some 68, .mv (.t 15), none⟩,
 ⟨some 69, .ld false 1 (.t 10), none⟩, ⟨some 70, .bin .eql false true (some .int) (.t 68) (.t 69), none⟩] [] [68, 69]) (.cond (.t 70) (.reg [⟨some 71, .mv (.t 4), none⟩, ⟨some 72, .mv (.t 14), none⟩, ⟨some 73, .bsl true 1
 [.int .i64 0] 1 [(0, (.t 72))], none⟩, ⟨some 74, .app 1 8 (.t 71) (.t 73), none⟩, ⟨some 4, .mv (.t 74), none⟩] [] [70, 71, 72, 73, 74]) .skip)) (.seq (.reg [⟨some 75, .mv (.t 15), none⟩, ⟨some 76, .bin .gtr true false
 none (.t 75) (.c (.int .i64 0)), none⟩] [] [15, 70, 75]) (.cond (.t 76) (.reg [⟨some 77, .mv (.t 5), none⟩, ⟨some 78, .mv (.t 14), none⟩, ⟨some 79, .bsl true 1 [.int .i64 0] 1 [(0, (.t 78))], none⟩, ⟨some 80, .app 1 8
 (.t 77) (.t 79), none⟩, ⟨some 5, .mv (.t 80), none⟩] [] [14, 76, 77, 78, 79, 80]) .skip))))) (.reg [⟨some 81, .bin .add true false none (.t 63) (.c (.int .i64 1)), none⟩, ⟨some 63, .mv (.t 81), none⟩] [] [14, 76,
 81]))))))) (.exit 0))))))) (.reg [⟨some 26, .mv (.t 8), none⟩, ⟨some 27, .bin .add true false none (.t 26) (.c (.int .i64 1)), none⟩, ⟨some 8, .mv (.t 27), none⟩] [] [9, 10, 26, 27, 60])))))) (.seq (.reg [⟨some 82, .mv
 (.t 4), none⟩, ⟨some 83, .mv (.t 5), none⟩, ⟨some 4, .mv (.t 82), none⟩, ⟨some 5, .mv (.t 83), none⟩, ⟨some 6, .mv (.c (.int .i64 0)), none⟩] [4, 5] [2, 3, 8, 10, 25, 61, 62, 63, 64, 82, 83]) .ret)))), [.t 4, .t 5, .t
 6], true⟩
/- underpin/watch.Margin -/
def sf17 : SFun := ⟨58, (.seq (.reg [⟨some 3, .box true (.t 0), none⟩, ⟨some 6, .mv (.c (.int .i64 0)), none⟩, ⟨some 7, .mv (.c (.int .i64 0)), none⟩] [] [0, 6, 7]) (.seq (.seq (.reg [⟨some 12, .ld true 7 (.t 3), none⟩,
 ⟨some 13, .bsl true 7 [.str [], .int .i64 0, .int .i64 0, .int .i64 0, .int .i64 0, .int .i64 0, .nilsl] 1 [(0, (.t 12))], none⟩, ⟨some 14, .call (.c (.fn 26 [])) [(.t 13)], none⟩, ⟨some 8, .mv (.t 14), none⟩] [] [12,
 13, 14]) (.seq (.reg [⟨some 15, .mv (.t 8), none⟩, ⟨some 16, .bin .neq true true (some .int) (.t 15) (.c (.int .i64 0)), none⟩] [] [15]) (.cond (.t 16) (.seq (.reg [⟨some 17, .mv (.t 8), none⟩, ⟨some 6, .mv (.c (.int
 .i64 0)), none⟩, ⟨some 7, .mv (.t 17), none⟩] [] [1, 2, 3, 8, 16, 17]) .ret) .skip))) (.seq (.block 0 (.seq (.reg [⟨some 19, .mv (.t 1), none⟩, ⟨some 20, .call (.c (.fn 28 [])) [(.t 19), (.c (.int .i64 1)), (.c (.int
 .i64 100000))], none⟩, ⟨some 21, .un .not (.t 20), none⟩, ⟨some 22, .mv (.t 21), none⟩, ⟨some 23, .mv (.t 2), (some (some 22, false))⟩, ⟨some 24, .call (.c (.fn 43 [])) [(.t 23)], (some (some 22, false))⟩, ⟨some 25, .un
 .not (.t 24), (some (some 22, false))⟩, ⟨some 26, .pick (.t 22) (.c (.bool true)) (.t 25), none⟩, ⟨some 18, .mv (.t 26), none⟩] [] [8, 16, 19, 20, 21, 22, 23, 24, 25, 26]) (.cond (.t 18) (.seq (.reg [⟨some 6, .mv (.c
 (.int .i64 0)), none⟩, ⟨some 7, .mv (.c (.int .i64 1)), none⟩] [] [1, 2, 3, 18]) .ret) (.seq (.reg [⟨some 28, .fad 6 (.t 3), none⟩, ⟨some 29, .ld false 1 (.t 28), none⟩, ⟨some 30, .lenl (.t 29), none⟩, ⟨some 31, .fad 5
 (.t 3), none⟩, ⟨some 32, .ld false 1 (.t 31), none⟩, ⟨some 33, .bin .mul true false none (.c (.int .i64 2)) (.t 32), none⟩, ⟨some 34, .bin .leq false false none (.t 30) (.t 33), none⟩, ⟨some 27, .mv (.t 34), none⟩] []
 [18, 28, 29, 30, 31, 32, 33, 34]) (.cond (.t 27) (.seq (.reg [⟨some 6, .mv (.c (.int .i64 0)), none⟩, ⟨some 7, .mv (.c (.int .i64 9)), none⟩] [] [1, 2, 3, 27]) .ret) .skip))))) (.seq (.reg [⟨some 9, .mv (.c (.int .i64
 0)), none⟩] [] [27]) (.seq (.seq (.reg [⟨some 35, .fad 6 (.t 3), none⟩, ⟨some 36, .ld false 1 (.t 35), none⟩, ⟨some 37, .lenl (.t 36), none⟩, ⟨some 38, .mv (.c (.int .i64 0)), none⟩] [] [35]) (.block 1 (.loop (.seq (.reg
 [⟨some 39, .bin .lss false false none (.t 38) (.t 37), none⟩] [] []) (.seq (.cond (.t 39) .skip (.exit 1)) (.seq (.block 2 (.seq (.reg [⟨some 40, .iad 4 (.t 36) (.t 38), none⟩, ⟨some 41, .ld true 4 (.t 40), none⟩, ⟨some
 11, .new [.str [], .int .i64 0, .int .i64 0, .int .i64 0], none⟩, ⟨none, .st 4 (.t 11) (.t 41), none⟩] [11] [39, 40, 41]) (.reg [⟨some 42, .mv (.t 9), none⟩, ⟨some 43, .ld true 4 (.t 11), none⟩, ⟨some 44, .mv (.t 2),
 none⟩, ⟨some 45, .call (.c (.fn 44 [])) [(.t 43), (.t 44)], none⟩, ⟨some 46, .mnx true (.t 42) [(.t 45)], none⟩, ⟨some 9, .mv (.t 46), none⟩] [] [11, 42, 43, 44, 45, 46]))) (.reg [⟨some 47, .bin .add true false none (.t
 38) (.c (.int .i64 1)), none⟩, ⟨some 38, .mv (.t 47), none⟩] [] [47]))))))) (.seq (.reg [⟨some 48, .mv (.t 9), none⟩, ⟨some 49, .bin .mul true false none (.c (.int .i64 2)) (.t 48), none⟩, ⟨some 50, .fad 3 (.t 3), none⟩,
 ⟨some 51, .ld false 1 (.t 50), none⟩, ⟨some 52, .fad 4 (.t 3), none⟩, ⟨some 53, .ld false 1 (.t 52), none⟩, ⟨some 54, .bin .add false false none (.t 51) (.t 53), none⟩, ⟨some 55, .mv (.t 1), none⟩, ⟨some 56, .bin .mul
 false false none (.t 54) (.t 55), none⟩, ⟨some 57, .bin .add false false none (.t 49) (.t 56), none⟩, ⟨some 6, .mv (.t 57), none⟩, ⟨some 7, .mv (.c (.int .i64 0)), none⟩] [] [1, 2, 3, 9, 36, 37, 38, 39, 48, 49, 50, 51,
 52, 53, 54, 55, 56, 57]) .ret)))))), [.t 6, .t 7], true⟩
/- underpin/underpinlaw07.one -/
def sf18 : SFun := ⟨25, (.seq (.reg [⟨some 8, .mv (.c (.bool false)), none⟩] [] [8]) (.seq (.reg [⟨some 9, .mv (.t 1), none⟩, ⟨some 10, .bin .eql true true (some .int) (.t 9) (.c (.int .i64 0)), none⟩, ⟨some 11, .mv (.t
 10), none⟩, ⟨some 12, .mv (.t 0), (some (some 11, true))⟩, ⟨some 13, .lenl (.t 12), (some (some 11, true))⟩, ⟨some 14, .bin .eql true true (some .int) (.t 13) (.c (.int .i64 1)), (some (some 11, true))⟩, ⟨some 15, .pick
 (.t 11) (.t 14) (.c (.bool false)), none⟩, ⟨some 16, .mv (.t 15), none⟩, ⟨some 17, .mv (.t 0), (some (some 16, true))⟩, ⟨some 18, .iad 2 (.t 17) (.c (.int .i64 0)), (some (some 16, true))⟩, ⟨some 19, .ld true 2 (.t 18),
 (some (some 16, true))⟩, ⟨some 20, .mv (.t 2), (some (some 16, true))⟩, ⟨some 21, .mv (.t 3), (some (some 16, true))⟩, ⟨some 22, .bst [.int .i64 0, .int .i64 0] [(0, 1), (1, 1)] [(0, (.t 20)), (1, (.t 21))], (some (some
 16, true))⟩, ⟨some 23, .bin .eql false true (some (.fld 0 1 false .int (.fld 1 1 false .int .fin))) (.t 19) (.t 22), (some (some 16, true))⟩, ⟨some 24, .pick (.t 16) (.t 23) (.c (.bool false)), none⟩, ⟨some 8, .mv (.t
 24), none⟩] [] [0, 1, 2, 3, 9, 10, 11, 12, 13, 14, 15, 16, 17, 18, 19, 20, 21, 22, 23, 24]) .ret)), [.t 8], false⟩
/- underpin/watch.Print$1 -/
def sf19 : SFun := ⟨23, (.seq (.seq (.reg [⟨some 7, .mv (.t 1), none⟩, ⟨some 8, .lenl (.t 7), none⟩, ⟨some 9, .mv (.c (.int .i64 0)), none⟩] [] [1]) (.block 0 (.loop (.seq (.reg [⟨some 10, .bin .lss false false none (.t
 9) (.t 8), none⟩] [] []) (.seq (.cond (.t 10) .skip (.exit 0)) (.seq (.block 1 (.seq (.reg [⟨some 11, .iad 1 (.t 7) (.t 9), none⟩, ⟨some 12, .ld false 1 (.t 11), none⟩, ⟨some 6, .mv (.t 12), none⟩] [] [10, 11, 12]) (.reg
 [⟨some 13, .mv (.t 0), none⟩, ⟨some 14, .mv (.t 6), none⟩, ⟨some 15, .call (.c (.fn 20 [])) [(.t 14)], none⟩, ⟨some 16, .bsl true 1 [.str []] 1 [(0, (.t 15))], none⟩, ⟨some 17, .app 1 16 (.t 13) (.t 16), none⟩, ⟨some 0,
 .mv (.t 17), none⟩] [] [6, 13, 14, 15, 16, 17]))) (.reg [⟨some 18, .bin .add true false none (.t 9) (.c (.int .i64 1)), none⟩, ⟨some 9, .mv (.t 18), none⟩] [] [18]))))))) (.reg [⟨some 19, .mv (.t 0), none⟩, ⟨some 20,
 .call (.c (.fn 22 [])) [(.t 19), (.c (.str [32]))], none⟩, ⟨some 21, .bin .add true false none (.t 20) (.c (.str [10])), none⟩, ⟨some 22, .call (.c (.fn 21 [])) [(.t 2), (.t 21)], none⟩] [0] [0, 2, 7, 8, 9, 10, 19, 20,
 21, 22])), [], false⟩
/- underpin/underpinref07.Text -/
def sf25 : SFun := ⟨170, (.seq (.reg [⟨some 1, .box true (.t 0), none⟩, ⟨some 2, .mv (.c (.str [])), none⟩] [] [0, 2]) (.seq (.reg [⟨some 3, .mv (.c (.str [])), none⟩] [] []) (.seq (.seq (.reg [⟨some 4, .mv (.c (.int .i64
 0)), none⟩] [] []) (.block 0 (.loop (.seq (.seq (.reg [⟨some 12, .mv (.t 4), none⟩, ⟨some 13, .fad 0 (.t 1), none⟩, ⟨some 14, .ld false 1 (.t 13), none⟩, ⟨some 15, .lenl (.t 14), none⟩, ⟨some 16, .bin .lss false false
 none (.t 12) (.t 15), none⟩] [] [12, 13, 14, 15]) (.cond (.t 16) .skip (.exit 0))) (.seq (.block 1 (.seq (.reg [⟨some 19, .fad 0 (.t 1), none⟩, ⟨some 20, .ld false 1 (.t 19), none⟩, ⟨some 21, .mv (.t 4), none⟩, ⟨some 22,
 .iad 7 (.t 20) (.t 21), none⟩, ⟨some 23, .ld true 7 (.t 22), none⟩, ⟨some 5, .new [.str [], .int .i64 0, .int .i64 0, .int .i64 0, .int .i64 0, .int .i64 0, .nilsl], none⟩, ⟨none, .st 7 (.t 5) (.t 23), none⟩] [5] [16,
 19, 20, 21, 22, 23]) (.seq (.draw [⟨some 24, .mv (.t 3), none⟩, ⟨some 25, .bin .add true false none (.t 24) (.c (.str [113,117,97,110,116,105,116,121,32])), none⟩, ⟨some 26, .fad 0 (.t 5), none⟩, ⟨some 27, .ld false 1
 (.t 26), none⟩, ⟨some 28, .bin .add false false none (.t 25) (.t 27), none⟩, ⟨some 29, .bin .add true false none (.t 28) (.c (.str [32])), none⟩, ⟨some 30, .fad 1 (.t 5), none⟩, ⟨some 31, .fad 0 (.t 30), none⟩, ⟨some 32,
 .ld false 1 (.t 31), none⟩, ⟨some 33, .call (.c (.fn 56 [])) [(.t 32)], none⟩, ⟨some 34, .bin .add false false none (.t 29) (.t 33), none⟩, ⟨some 35, .bin .add true false none (.t 34) (.c (.str [32])), none⟩, ⟨some 36,
 .fad 1 (.t 5), none⟩, ⟨some 37, .fad 1 (.t 36), none⟩, ⟨some 38, .ld false 1 (.t 37), none⟩, ⟨some 39, .call (.c (.fn 56 [])) [(.t 38)], none⟩, ⟨some 40, .bin .add false false none (.t 35) (.t 39), none⟩, ⟨some 41, .bin
 .add true false none (.t 40) (.c (.str [32])), none⟩, ⟨some 42, .fad 3 (.t 5), none⟩, ⟨some 43, .ld false 1 (.t 42), none⟩, ⟨some 44, .call (.c (.fn 56 [])) [(.t 43)], none⟩, ⟨some 45, .bin .add false false none (.t 41)
 (.t 44), none⟩, ⟨some 46, .bin .add true false none (.t 45) (.c (.str [32])), none⟩, ⟨some 47, .fad 4 (.t 5), none⟩, ⟨some 48, .ld false 1 (.t 47), none⟩, ⟨some 49, .call (.c (.fn 56 [])) [(.t 48)], none⟩, ⟨some 50, .bin
 .add false false none (.t 46) (.t 49), none⟩, ⟨some 51, .bin .add true false none (.t 50) (.c (.str [32])), none⟩, ⟨some 52, .fad 5 (.t 5), none⟩, ⟨some 53, .ld false 1 (.t 52), none⟩, ⟨some 54, .call (.c (.fn 56 []))
 [(.t 53)], none⟩, ⟨some 55, .bin .add false false none (.t 51) (.t 54), none⟩, ⟨some 56, .bin .add true false none (.t 55) (.c (.str [10])), none⟩, ⟨some 3, .mv (.t 56), none⟩] [(3, 0), (3, 10), (3, 16), (3, 21), (3,
 26), (3, 31), (8, 0), (14, 0), (14, 10), (19, 0), (19, 10), (19, 16), (24, 0), (24, 10), (24, 16), (24, 21), (29, 0), (29, 10), (29, 16), (29, 21), (29, 26)] [] [24, 25, 26, 27, 28, 29, 30, 31, 32, 33, 34, 35, 36, 37,
 38, 39, 40, 41, 42, 43, 44, 45, 46, 47, 48, 49, 50, 51, 52, 53, 54, 55, 56]) (.seq (.reg [⟨some 6, .mv (.c (.int .i64 0)), none⟩] [] []) (.block 2 (.loop (.seq (.seq (.reg [⟨some 57, .mv (.t 6), none⟩, ⟨some 58, .fad 6
 (.t 5), none⟩, ⟨some 59, .ld false 1 (.t 58), none⟩, ⟨some 60, .lenl (.t 59), none⟩, ⟨some 61, .bin .lss false false none (.t 57) (.t 60), none⟩] [] [57, 58, 59, 60]) (.cond (.t 61) .skip (.exit 2))) (.seq (.block 3
 (.seq (.reg [⟨some 64, .fad 6 (.t 5), none⟩, ⟨some 65, .ld false 1 (.t 64), none⟩, ⟨some 66, .mv (.t 6), none⟩, ⟨some 67, .iad 4 (.t 65) (.t 66), none⟩, ⟨some 68, .ld true 4 (.t 67), none⟩, ⟨some 7, .new [.str [], .int
 .i64 0, .int .i64 0, .int .i64 0], none⟩, ⟨none, .st 4 (.t 7) (.t 68), none⟩] [7] [61, 64, 65, 66, 67, 68]) (.draw [⟨some 69, .mv (.t 3), none⟩, ⟨some 70, .bin .add true false none (.t 69) (.c (.str
 [103,97,117,103,101,32])), none⟩, ⟨some 71, .fad 0 (.t 7), none⟩, ⟨some 72, .ld false 1 (.t 71), none⟩, ⟨some 73, .bin .add false false none (.t 70) (.t 72), none⟩, ⟨some 74, .bin .add true false none (.t 73) (.c (.str
 [32])), none⟩, ⟨some 75, .fad 1 (.t 7), none⟩, ⟨some 76, .ld false 1 (.t 75), none⟩, ⟨some 77, .call (.c (.fn 56 [])) [(.t 76)], none⟩, ⟨some 78, .bin .add false false none (.t 74) (.t 77), none⟩, ⟨some 79, .bin .add
 true false none (.t 78) (.c (.str [32])), none⟩, ⟨some 80, .fad 2 (.t 7), none⟩, ⟨some 81, .ld false 1 (.t 80), none⟩, ⟨some 82, .call (.c (.fn 56 [])) [(.t 81)], none⟩, ⟨some 83, .bin .add false false none (.t 79) (.t
 82), none⟩, ⟨some 84, .bin .add true false none (.t 83) (.c (.str [32])), none⟩, ⟨some 85, .fad 3 (.t 7), none⟩, ⟨some 86, .ld false 1 (.t 85), none⟩, ⟨some 87, .call (.c (.fn 56 [])) [(.t 86)], none⟩, ⟨some 88, .bin
 .add false false none (.t 84) (.t 87), none⟩, ⟨some 89, .bin .add true false none (.t 88) (.c (.str [10])), none⟩, ⟨some 3, .mv (.t 89), none⟩] [(3, 0), (3, 9), (3, 14), (3, 19), (7, 0), (12, 0), (12, 9), (17, 0), (17,
 9), (17, 14)] [] [7, 69, 70, 71, 72, 73, 74, 75, 76, 77, 78, 79, 80, 81, 82, 83, 84, 85, 86, 87, 88, 89]))) (.reg [⟨some 62, .mv (.t 6), none⟩, ⟨some 63, .bin .add true false none (.t 62) (.c (.int .i64 1)), none⟩, ⟨some
 6, .mv (.t 63), none⟩] [] [62, 63]))))))))) (.reg [⟨some 17, .mv (.t 4), none⟩, ⟨some 18, .bin .add true false none (.t 17) (.c (.int .i64 1)), none⟩, ⟨some 4, .mv (.t 18), none⟩] [] [5, 6, 17, 18, 61])))))) (.seq (.seq
 (.reg [⟨some 8, .mv (.c (.int .i64 0)), none⟩] [] [4, 16]) (.block 4 (.loop (.seq (.seq (.reg [⟨some 90, .mv (.t 8), none⟩, ⟨some 91, .fad 1 (.t 1), none⟩, ⟨some 92, .ld false 1 (.t 91), none⟩, ⟨some 93, .lenl (.t 92),
 none⟩, ⟨some 94, .bin .lss false false none (.t 90) (.t 93), none⟩] [] [90, 91, 92, 93]) (.cond (.t 94) .skip (.exit 4))) (.seq (.block 5 (.seq (.reg [⟨some 97, .fad 1 (.t 1), none⟩, ⟨some 98, .ld false 1 (.t 97), none⟩,
 ⟨some 99, .mv (.t 8), none⟩, ⟨some 100, .iad 5 (.t 98) (.t 99), none⟩, ⟨some 101, .ld true 5 (.t 100), none⟩, ⟨some 9, .new [.str [], .str [], .int .i64 0, .int .i64 0, .int .i64 0], none⟩, ⟨none, .st 5 (.t 9) (.t 101),
 none⟩] [9] [94, 97, 98, 99, 100, 101]) (.draw [⟨some 102, .mv (.t 3), none⟩, ⟨some 103, .bin .add true false none (.t 102) (.c (.str [109,101,97,115,117,114,101,32])), none⟩, ⟨some 104, .fad 0 (.t 9), none⟩, ⟨some 105,
 .ld false 1 (.t 104), none⟩, ⟨some 106, .bin .add false false none (.t 103) (.t 105), none⟩, ⟨some 107, .bin .add true false none (.t 106) (.c (.str [32])), none⟩, ⟨some 108, .fad 1 (.t 9), none⟩, ⟨some 109, .ld false 1
 (.t 108), none⟩, ⟨some 110, .bin .add false false none (.t 107) (.t 109), none⟩, ⟨some 111, .bin .add true false none (.t 110) (.c (.str [32])), none⟩, ⟨some 112, .fad 2 (.t 9), none⟩, ⟨some 113, .ld false 1 (.t 112),
 none⟩, ⟨some 114, .call (.c (.fn 56 [])) [(.t 113)], none⟩, ⟨some 115, .bin .add false false none (.t 111) (.t 114), none⟩, ⟨some 116, .bin .add true false none (.t 115) (.c (.str [32])), none⟩, ⟨some 117, .fad 3 (.t 9),
 none⟩, ⟨some 118, .ld false 1 (.t 117), none⟩, ⟨some 119, .call (.c (.fn 56 [])) [(.t 118)], none⟩, ⟨some 120, .bin .add false false none (.t 116) (.t 119), none⟩, ⟨some 121, .bin .add true false none (.t 120) (.c (.str
 [32])), none⟩, ⟨some 122, .fad 4 (.t 9), none⟩, ⟨some 123, .ld false 1 (.t 122), none⟩, ⟨some 124, .call (.c (.fn 56 [])) [(.t 123)], none⟩, ⟨some 125, .bin .add false false none (.t 121) (.t 124), none⟩, ⟨some 126, .bin
 .add true false none (.t 125) (.c (.str [10])), none⟩, ⟨some 3, .mv (.t 126), none⟩] [(3, 0), (3, 13), (3, 18), (3, 23), (7, 0), (7, 13), (7, 18), (7, 23), (11, 0), (16, 0), (16, 13), (21, 0), (21, 13), (21, 18)] [] [9,
 102, 103, 104, 105, 106, 107, 108, 109, 110, 111, 112, 113, 114, 115, 116, 117, 118, 119, 120, 121, 122, 123, 124, 125, 126]))) (.reg [⟨some 95, .mv (.t 8), none⟩, ⟨some 96, .bin .add true false none (.t 95) (.c (.int
 .i64 1)), none⟩, ⟨some 8, .mv (.t 96), none⟩] [] [95, 96])))))) (.seq (.seq (.reg [⟨some 10, .mv (.c (.int .i64 0)), none⟩] [] [8, 94]) (.block 6 (.loop (.seq (.seq (.reg [⟨some 127, .mv (.t 10), none⟩, ⟨some 128, .fad 2
 (.t 1), none⟩, ⟨some 129, .ld false 1 (.t 128), none⟩, ⟨some 130, .lenl (.t 129), none⟩, ⟨some 131, .bin .lss false false none (.t 127) (.t 130), none⟩] [] [127, 128, 129, 130]) (.cond (.t 131) .skip (.exit 6))) (.seq
 (.block 7 (.seq (.reg [⟨some 134, .fad 2 (.t 1), none⟩, ⟨some 135, .ld false 1 (.t 134), none⟩, ⟨some 136, .mv (.t 10), none⟩, ⟨some 137, .iad 4 (.t 135) (.t 136), none⟩, ⟨some 138, .ld true 4 (.t 137), none⟩, ⟨some 11,
 .new [.int .i64 0, .int .i64 0, .int .i64 0, .int .i64 0], none⟩, ⟨none, .st 4 (.t 11) (.t 138), none⟩] [11] [131, 134, 135, 136, 137, 138]) (.draw [⟨some 139, .mv (.t 3), none⟩, ⟨some 140, .bin .add true false none (.t
 139) (.c (.str [97,108,97,114,109,32])), none⟩, ⟨some 141, .fad 0 (.t 1), none⟩, ⟨some 142, .ld false 1 (.t 141), none⟩, ⟨some 143, .fad 0 (.t 11), none⟩, ⟨some 144, .ld false 1 (.t 143), none⟩, ⟨some 145, .iad 7 (.t
 142) (.t 144), none⟩, ⟨some 146, .fad 0 (.t 145), none⟩, ⟨some 147, .ld false 1 (.t 146), none⟩, ⟨some 148, .bin .add false false none (.t 140) (.t 147), none⟩, ⟨some 149, .bin .add true false none (.t 148) (.c (.str
 [32])), none⟩, ⟨some 150, .fad 1 (.t 11), none⟩, ⟨some 151, .ld false 1 (.t 150), none⟩, ⟨some 152, .call (.c (.fn 56 [])) [(.t 151)], none⟩, ⟨some 153, .bin .add false false none (.t 149) (.t 152), none⟩, ⟨some 154,
 .bin .add true false none (.t 153) (.c (.str [32])), none⟩, ⟨some 155, .fad 2 (.t 11), none⟩, ⟨some 156, .ld false 1 (.t 155), none⟩, ⟨some 157, .call (.c (.fn 56 [])) [(.t 156)], none⟩, ⟨some 158, .bin .add false false
 none (.t 154) (.t 157), none⟩, ⟨some 159, .bin .add true false none (.t 158) (.c (.str [32])), none⟩, ⟨some 160, .fad 1 (.t 1), none⟩, ⟨some 161, .ld false 1 (.t 160), none⟩, ⟨some 162, .fad 3 (.t 11), none⟩, ⟨some 163,
 .ld false 1 (.t 162), none⟩, ⟨some 164, .iad 5 (.t 161) (.t 163), none⟩, ⟨some 165, .fad 0 (.t 164), none⟩, ⟨some 166, .ld false 1 (.t 165), none⟩, ⟨some 167, .bin .add false false none (.t 159) (.t 166), none⟩, ⟨some
 168, .bin .add true false none (.t 167) (.c (.str [10])), none⟩, ⟨some 3, .mv (.t 168), none⟩] [(3, 0), (3, 14), (3, 19), (5, 0), (5, 14), (5, 19), (6, 0), (6, 14), (6, 19), (8, 0), (8, 14), (8, 19), (12, 0), (17, 0),
 (17, 14), (22, 0), (22, 14), (22, 19), (24, 0), (24, 14), (24, 19), (25, 0), (25, 14), (25, 19), (27, 0), (27, 14), (27, 19)] [] [11, 139, 140, 141, 142, 143, 144, 145, 146, 147, 148, 149, 150, 151, 152, 153, 154, 155,
 156, 157, 158, 159, 160, 161, 162, 163, 164, 165, 166, 167, 168]))) (.reg [⟨some 132, .mv (.t 10), none⟩, ⟨some 133, .bin .add true false none (.t 132) (.c (.int .i64 1)), none⟩, ⟨some 10, .mv (.t 133), none⟩] [] [132,
 133])))))) (.seq (.reg [⟨some 169, .mv (.t 3), none⟩, ⟨some 2, .mv (.t 169), none⟩] [] [1, 3, 10, 131, 169]) .ret)))))), [.t 2], true⟩
/- underpin/watch.quantities -/
def sf26 : SFun := ⟨31, (.seq (.reg [⟨some 2, .mv (.c (.int .i64 0)), none⟩] [] [2]) (.seq (.seq (.reg [⟨some 6, .mv (.t 0), none⟩, ⟨some 7, .lenl (.t 6), none⟩, ⟨some 8, .bin .gtr true false none (.t 7) (.c (.int .i64
 16)), none⟩] [] [6, 7]) (.cond (.t 8) (.seq (.reg [⟨some 2, .mv (.c (.int .i64 3)), none⟩] [] [0, 8]) .ret) .skip)) (.seq (.seq (.reg [⟨some 9, .mv (.t 0), none⟩, ⟨some 10, .lenl (.t 9), none⟩, ⟨some 11, .mv (.c (.int
 .i64 0)), none⟩] [] [8]) (.block 0 (.loop (.seq (.reg [⟨some 12, .bin .lss false false none (.t 11) (.t 10), none⟩] [] []) (.seq (.cond (.t 12) .skip (.exit 0)) (.seq (.block 1 (.seq (.reg [⟨some 13, .mv (.t 11), none⟩,
 ⟨some 14, .iad 7 (.t 9) (.t 11), none⟩, ⟨some 15, .ld true 7 (.t 14), none⟩, ⟨some 4, .new [.str [], .int .i64 0, .int .i64 0, .int .i64 0, .int .i64 0, .int .i64 0, .nilsl], none⟩, ⟨some 3, .mv (.t 13), none⟩, ⟨none,
 .st 7 (.t 4) (.t 15), none⟩] [4] [12, 13, 14, 15]) (.seq (.seq (.reg [⟨some 16, .fad 0 (.t 4), none⟩, ⟨some 17, .ld false 1 (.t 16), none⟩, ⟨some 18, .call (.c (.fn 57 [])) [(.t 17)], none⟩, ⟨some 19, .un .not (.t 18),
 none⟩] [] [16, 17, 18]) (.cond (.t 19) (.seq (.reg [⟨some 2, .mv (.c (.int .i64 5)), none⟩] [] [0, 3, 4, 9, 10, 11, 19]) .ret) .skip)) (.seq (.seq (.reg [⟨some 20, .mv (.t 0), none⟩, ⟨some 21, .mv (.t 3), none⟩, ⟨some
 22, .slc 7 (.t 20) none (some (.t 21)) none, none⟩, ⟨some 23, .mkf 59 [(.t 4)], none⟩, ⟨some 24, .call (.c (.fn 58 [])) [(.t 22), (.t 23)], none⟩] [] [3, 19, 20, 21, 22, 23]) (.cond (.t 24) (.seq (.reg [⟨some 2, .mv (.c
 (.int .i64 6)), none⟩] [] [0, 4, 9, 10, 11, 24]) .ret) .skip)) (.seq (.reg [⟨some 25, .ld true 7 (.t 4), none⟩, ⟨some 26, .call (.c (.fn 60 [])) [(.t 25)], none⟩, ⟨some 5, .mv (.t 26), none⟩] [] [4, 24, 25, 26]) (.seq
 (.reg [⟨some 27, .mv (.t 5), none⟩, ⟨some 28, .bin .neq true true (some .int) (.t 27) (.c (.int .i64 0)), none⟩] [] [27]) (.cond (.t 28) (.seq (.reg [⟨some 29, .mv (.t 5), none⟩, ⟨some 2, .mv (.t 29), none⟩] [] [0, 5, 9,
 10, 11, 28, 29]) .ret) .skip))))))) (.reg [⟨some 30, .bin .add true false none (.t 11) (.c (.int .i64 1)), none⟩, ⟨some 11, .mv (.t 30), none⟩] [] [5, 28, 30]))))))) (.seq (.reg [⟨some 2, .mv (.c (.int .i64 0)), none⟩]
 [] [0, 9, 10, 11, 12]) .ret)))), [.t 2], true⟩
/- underpin/watch.measures -/
def sf27 : SFun := ⟨56, (.seq (.reg [⟨some 2, .mv (.c (.int .i64 0)), none⟩] [] [2]) (.seq (.seq (.reg [⟨some 5, .mv (.t 0), none⟩, ⟨some 6, .lenl (.t 5), none⟩, ⟨some 7, .bin .gtr true false none (.t 6) (.c (.int .i64
 16)), none⟩] [] [5, 6]) (.cond (.t 7) (.seq (.reg [⟨some 2, .mv (.c (.int .i64 3)), none⟩] [] [0, 7]) .ret) .skip)) (.seq (.seq (.reg [⟨some 8, .mv (.t 0), none⟩, ⟨some 9, .lenl (.t 8), none⟩, ⟨some 10, .mv (.c (.int
 .i64 0)), none⟩] [] [7]) (.block 0 (.loop (.seq (.reg [⟨some 11, .bin .lss false false none (.t 10) (.t 9), none⟩] [] []) (.seq (.cond (.t 11) .skip (.exit 0)) (.seq (.block 1 (.seq (.reg [⟨some 12, .mv (.t 10), none⟩,
 ⟨some 13, .iad 5 (.t 8) (.t 10), none⟩, ⟨some 14, .ld true 5 (.t 13), none⟩, ⟨some 4, .new [.str [], .str [], .int .i64 0, .int .i64 0, .int .i64 0], none⟩, ⟨some 3, .mv (.t 12), none⟩, ⟨none, .st 5 (.t 4) (.t 14),
 none⟩] [4] [11, 12, 13, 14]) (.block 2 (.seq (.reg [⟨some 16, .fad 0 (.t 4), none⟩, ⟨some 17, .ld false 1 (.t 16), none⟩, ⟨some 18, .call (.c (.fn 57 [])) [(.t 17)], none⟩, ⟨some 19, .un .not (.t 18), none⟩, ⟨some 20,
 .mv (.t 19), none⟩, ⟨some 21, .fad 1 (.t 4), (some (some 20, false))⟩, ⟨some 22, .ld false 1 (.t 21), (some (some 20, false))⟩, ⟨some 23, .call (.c (.fn 57 [])) [(.t 22)], (some (some 20, false))⟩, ⟨some 24, .un .not (.t
 23), (some (some 20, false))⟩, ⟨some 25, .pick (.t 20) (.c (.bool true)) (.t 24), none⟩, ⟨some 15, .mv (.t 25), none⟩] [] [16, 17, 18, 19, 20, 21, 22, 23, 24, 25]) (.cond (.t 15) (.seq (.reg [⟨some 2, .mv (.c (.int .i64
 5)), none⟩] [] [0, 3, 4, 8, 9, 10, 15]) .ret) (.seq (.reg [⟨some 27, .mv (.t 0), none⟩, ⟨some 28, .mv (.t 3), none⟩, ⟨some 29, .slc 5 (.t 27) none (some (.t 28)) none, none⟩, ⟨some 30, .mkf 62 [(.t 4)], none⟩, ⟨some 31,
 .call (.c (.fn 61 [])) [(.t 29), (.t 30)], none⟩, ⟨some 26, .mv (.t 31), none⟩] [] [15, 27, 28, 29, 30, 31]) (.cond (.t 26) (.seq (.reg [⟨some 2, .mv (.c (.int .i64 6)), none⟩] [] [0, 3, 4, 8, 9, 10, 26]) .ret) (.seq
 (.reg [⟨some 33, .fad 2 (.t 4), none⟩, ⟨some 34, .ld false 1 (.t 33), none⟩, ⟨some 35, .call (.c (.fn 43 [])) [(.t 34)], none⟩, ⟨some 36, .un .not (.t 35), none⟩, ⟨some 37, .mv (.t 36), none⟩, ⟨some 38, .fad 3 (.t 4),
 (some (some 37, false))⟩, ⟨some 39, .ld false 1 (.t 38), (some (some 37, false))⟩, ⟨some 40, .call (.c (.fn 43 [])) [(.t 39)], (some (some 37, false))⟩, ⟨some 41, .un .not (.t 40), (some (some 37, false))⟩, ⟨some 42,
 .pick (.t 37) (.c (.bool true)) (.t 41), none⟩, ⟨some 43, .mv (.t 42), none⟩, ⟨some 44, .fad 4 (.t 4), (some (some 43, false))⟩, ⟨some 45, .ld false 1 (.t 44), (some (some 43, false))⟩, ⟨some 46, .call (.c (.fn 43 []))
 [(.t 45)], (some (some 43, false))⟩, ⟨some 47, .un .not (.t 46), (some (some 43, false))⟩, ⟨some 48, .pick (.t 43) (.c (.bool true)) (.t 47), none⟩, ⟨some 32, .mv (.t 48), none⟩] [] [26, 33, 34, 35, 36, 37, 38, 39, 40,
 41, 42, 43, 44, 45, 46, 47, 48]) (.cond (.t 32) (.seq (.reg [⟨some 2, .mv (.c (.int .i64 1)), none⟩] [] [0, 3, 4, 8, 9, 10, 32]) .ret) (.seq (.reg [⟨some 50, .mv (.t 0), none⟩, ⟨some 51, .mv (.t 3), none⟩, ⟨some 52, .slc
 5 (.t 50) none (some (.t 51)) none, none⟩, ⟨some 53, .mkf 63 [(.t 4)], none⟩, ⟨some 54, .call (.c (.fn 61 [])) [(.t 52), (.t 53)], none⟩, ⟨some 49, .mv (.t 54), none⟩] [] [3, 4, 32, 50, 51, 52, 53, 54]) (.cond (.t 49)
 (.seq (.reg [⟨some 2, .mv (.c (.int .i64 10)), none⟩] [] [0, 8, 9, 10, 49]) .ret) .skip))))))))))) (.reg [⟨some 55, .bin .add true false none (.t 10) (.c (.int .i64 1)), none⟩, ⟨some 10, .mv (.t 55), none⟩] [] [49,
 55]))))))) (.seq (.reg [⟨some 2, .mv (.c (.int .i64 0)), none⟩] [] [0, 8, 9, 10, 11]) .ret)))), [.t 2], true⟩
/- underpin/watch.within -/
def sf28 : SFun := ⟨15, (.seq (.reg [⟨some 6, .mv (.c (.bool false)), none⟩] [] [6]) (.seq (.reg [⟨some 7, .mv (.t 0), none⟩, ⟨some 8, .mv (.t 1), none⟩, ⟨some 9, .bin .geq false false none (.t 7) (.t 8), none⟩, ⟨some 10,
 .mv (.t 9), none⟩, ⟨some 11, .mv (.t 0), (some (some 10, true))⟩, ⟨some 12, .mv (.t 2), (some (some 10, true))⟩, ⟨some 13, .bin .leq false false none (.t 11) (.t 12), (some (some 10, true))⟩, ⟨some 14, .pick (.t 10) (.t
 13) (.c (.bool false)), none⟩, ⟨some 6, .mv (.t 14), none⟩] [] [0, 1, 2, 7, 8, 9, 10, 11, 12, 13, 14]) .ret)), [.t 6], false⟩
/- underpin/watch.isValue -/
def sf29 : SFun := ⟨5, (.seq (.reg [⟨some 2, .mv (.c (.bool false)), none⟩] [] [2]) (.seq (.reg [⟨some 3, .mv (.t 0), none⟩, ⟨some 4, .call (.c (.fn 28 [])) [(.t 3), (.c (.int .i64 (-1000000000))), (.c (.int .i64
 1000000000))], none⟩, ⟨some 2, .mv (.t 4), none⟩] [] [0, 3, 4]) .ret)), [.t 2], false⟩
/- slices.ContainsFunc[[]underpin/api.Alarm,underpin/api.Alarm] -/
def sf30 : SFun := ⟨9, (.seq (.reg [⟨some 4, .mv (.c (.bool false)), none⟩] [] [4]) (.seq (.reg [⟨some 5, .mv (.t 0), none⟩, ⟨some 6, .mv (.t 1), none⟩, ⟨some 7, .call (.c (.fn 64 [])) [(.t 5), (.t 6)], none⟩, ⟨some 8,
 .bin .geq true false none (.t 7) (.c (.int .i64 0)), none⟩, ⟨some 4, .mv (.t 8), none⟩] [] [0, 1, 5, 6, 7, 8]) .ret)), [.t 4], false⟩
/- underpin/watch.Check$1 -/
def sf31 : SFun := ⟨9, (.seq (.reg [⟨some 2, .box true (.t 0), none⟩, ⟨some 3, .mv (.c (.bool false)), none⟩] [] [0, 3]) (.seq (.reg [⟨some 4, .fad 3 (.t 2), none⟩, ⟨some 5, .ld false 1 (.t 4), none⟩, ⟨some 6, .fad 3 (.t
 1), none⟩, ⟨some 7, .ld false 1 (.t 6), none⟩, ⟨some 8, .bin .eql false true (some .int) (.t 5) (.t 7), none⟩, ⟨some 3, .mv (.t 8), none⟩] [] [1, 2, 4, 5, 6, 7, 8]) .ret)), [.t 3], false⟩
/- underpin/underpinref07.Name -/
def sf32 : SFun := ⟨50, (.seq (.reg [⟨some 2, .mv (.c (.bool false)), none⟩] [] [2]) (.seq (.seq (.reg [⟨some 5, .mv (.t 0), none⟩, ⟨some 6, .lens (.t 5), none⟩, ⟨some 7, .bin .eql true true (some .int) (.t 6) (.c (.int
 .i64 0)), none⟩, ⟨some 8, .mv (.t 7), none⟩, ⟨some 9, .mv (.t 0), (some (some 8, false))⟩, ⟨some 10, .lens (.t 9), (some (some 8, false))⟩, ⟨some 11, .bin .gtr true false none (.t 10) (.c (.int .i64 16)), (some (some 8,
 false))⟩, ⟨some 12, .pick (.t 8) (.c (.bool true)) (.t 11), none⟩, ⟨some 13, .mv (.t 12), none⟩, ⟨some 14, .mv (.t 0), (some (some 13, false))⟩, ⟨some 15, .ixs (.t 14) (.c (.int .i64 0)), (some (some 13, false))⟩, ⟨some
 16, .bin .lss true false none (.t 15) (.c (.int .u8 97)), (some (some 13, false))⟩, ⟨some 17, .pick (.t 13) (.c (.bool true)) (.t 16), none⟩, ⟨some 18, .mv (.t 17), none⟩, ⟨some 19, .mv (.t 0), (some (some 18, false))⟩,
 ⟨some 20, .ixs (.t 19) (.c (.int .i64 0)), (some (some 18, false))⟩, ⟨some 21, .bin .gtr true false none (.t 20) (.c (.int .u8 122)), (some (some 18, false))⟩, ⟨some 22, .pick (.t 18) (.c (.bool true)) (.t 21), none⟩] []
 [5, 6, 7, 8, 9, 10, 11, 12, 13, 14, 15, 16, 17, 18, 19, 20, 21]) (.cond (.t 22) (.seq (.reg [⟨some 2, .mv (.c (.bool false)), none⟩] [] [0, 22]) .ret) .skip)) (.seq (.seq (.reg [⟨some 3, .mv (.c (.int .i64 0)), none⟩] []
 [22]) (.block 0 (.loop (.seq (.seq (.reg [⟨some 23, .mv (.t 3), none⟩, ⟨some 24, .mv (.t 0), none⟩, ⟨some 25, .lens (.t 24), none⟩, ⟨some 26, .bin .lss false false none (.t 23) (.t 25), none⟩] [] [23, 24, 25]) (.cond (.t
 26) .skip (.exit 0))) (.seq (.block 1 (.seq (.reg [⟨some 29, .mv (.t 0), none⟩, ⟨some 30, .mv (.t 3), none⟩, ⟨some 31, .ixs (.t 29) (.t 30), none⟩, ⟨some 4, .mv (.t 31), none⟩] [] [26, 29, 30, 31]) (.seq (.reg [⟨some 32,
 .mv (.t 4), none⟩, ⟨some 33, .bin .lss true false none (.t 32) (.c (.int .u8 97)), none⟩, ⟨some 34, .mv (.t 33), none⟩, ⟨some 35, .mv (.t 4), (some (some 34, false))⟩, ⟨some 36, .bin .gtr true false none (.t 35) (.c
 (.int .u8 122)), (some (some 34, false))⟩, ⟨some 37, .pick (.t 34) (.c (.bool true)) (.t 36), none⟩, ⟨some 38, .mv (.t 37), none⟩, ⟨some 39, .mv (.t 4), (some (some 38, true))⟩, ⟨some 40, .bin .lss true false none (.t
 39) (.c (.int .u8 48)), (some (some 38, true))⟩, ⟨some 41, .mv (.t 40), (some (some 38, true))⟩, ⟨some 42, .mv (.t 4), (some (some 41, false))⟩, ⟨some 43, .bin .gtr true false none (.t 42) (.c (.int .u8 57)), (some (some
 41, false))⟩, ⟨some 44, .pick (.t 41) (.c (.bool true)) (.t 43), (some (some 38, true))⟩, ⟨some 45, .pick (.t 38) (.t 44) (.c (.bool false)), none⟩, ⟨some 46, .mv (.t 45), none⟩, ⟨some 47, .mv (.t 4), (some (some 46,
 true))⟩, ⟨some 48, .bin .neq true true (some .int) (.t 47) (.c (.int .u8 45)), (some (some 46, true))⟩, ⟨some 49, .pick (.t 46) (.t 48) (.c (.bool false)), none⟩] [] [4, 32, 33, 34, 35, 36, 37, 38, 39, 40, 41, 42, 43,
 44, 45, 46, 47, 48]) (.cond (.t 49) (.seq (.reg [⟨some 2, .mv (.c (.bool false)), none⟩] [] [0, 3, 49]) .ret) .skip)))) (.reg [⟨some 27, .mv (.t 3), none⟩, ⟨some 28, .bin .add true false none (.t 27) (.c (.int .i64 1)),
 none⟩, ⟨some 3, .mv (.t 28), none⟩] [] [27, 28, 49])))))) (.seq (.reg [⟨some 2, .mv (.c (.bool true)), none⟩] [] [0, 3, 26]) .ret)))), [.t 2], false⟩
/- underpin/underpinref07.CheckQuantity -/
def sf33 : SFun := ⟨111, (.seq (.reg [⟨some 1, .box true (.t 0), none⟩, ⟨some 2, .mv (.c (.int .i64 0)), none⟩] [] [0, 2]) (.seq (.block 0 (.seq (.reg [⟨some 7, .fad 0 (.t 1), none⟩, ⟨some 8, .ld false 1 (.t 7), none⟩,
 ⟨some 9, .call (.c (.fn 32 [])) [(.t 8)], none⟩, ⟨some 10, .un .not (.t 9), none⟩, ⟨some 6, .mv (.t 10), none⟩] [] [7, 8, 9, 10]) (.cond (.t 6) (.seq (.reg [⟨some 2, .mv (.c (.int .i64 5)), none⟩] [] [1, 6]) .ret) (.seq
 (.reg [⟨some 12, .fad 1 (.t 1), none⟩, ⟨some 13, .fad 0 (.t 12), none⟩, ⟨some 14, .ld false 1 (.t 13), none⟩, ⟨some 15, .call (.c (.fn 65 [])) [(.t 14)], none⟩, ⟨some 16, .un .not (.t 15), none⟩, ⟨some 17, .mv (.t 16),
 none⟩, ⟨some 18, .fad 1 (.t 1), (some (some 17, false))⟩, ⟨some 19, .fad 1 (.t 18), (some (some 17, false))⟩, ⟨some 20, .ld false 1 (.t 19), (some (some 17, false))⟩, ⟨some 21, .call (.c (.fn 65 [])) [(.t 20)], (some
 (some 17, false))⟩, ⟨some 22, .un .not (.t 21), (some (some 17, false))⟩, ⟨some 23, .pick (.t 17) (.c (.bool true)) (.t 22), none⟩, ⟨some 24, .mv (.t 23), none⟩, ⟨some 25, .fad 1 (.t 1), (some (some 24, false))⟩, ⟨some
 26, .fad 0 (.t 25), (some (some 24, false))⟩, ⟨some 27, .ld false 1 (.t 26), (some (some 24, false))⟩, ⟨some 28, .fad 1 (.t 1), (some (some 24, false))⟩, ⟨some 29, .fad 1 (.t 28), (some (some 24, false))⟩, ⟨some 30, .ld
 false 1 (.t 29), (some (some 24, false))⟩, ⟨some 31, .bin .gtr false false none (.t 27) (.t 30), (some (some 24, false))⟩, ⟨some 32, .pick (.t 24) (.c (.bool true)) (.t 31), none⟩, ⟨some 11, .mv (.t 32), none⟩] [] [6,
 12, 13, 14, 15, 16, 17, 18, 19, 20, 21, 22, 23, 24, 25, 26, 27, 28, 29, 30, 31, 32]) (.cond (.t 11) (.seq (.reg [⟨some 2, .mv (.c (.int .i64 1)), none⟩] [] [1, 11]) .ret) (.seq (.reg [⟨some 34, .fad 3 (.t 1), none⟩,
 ⟨some 35, .ld false 1 (.t 34), none⟩, ⟨some 36, .bin .lss true false none (.t 35) (.c (.int .i64 0)), none⟩, ⟨some 37, .mv (.t 36), none⟩, ⟨some 38, .fad 3 (.t 1), (some (some 37, false))⟩, ⟨some 39, .ld false 1 (.t 38),
 (some (some 37, false))⟩, ⟨some 40, .bin .gtr true false none (.t 39) (.c (.int .i64 10000)), (some (some 37, false))⟩, ⟨some 41, .pick (.t 37) (.c (.bool true)) (.t 40), none⟩, ⟨some 42, .mv (.t 41), none⟩, ⟨some 43,
 .fad 4 (.t 1), (some (some 42, false))⟩, ⟨some 44, .ld false 1 (.t 43), (some (some 42, false))⟩, ⟨some 45, .bin .lss true false none (.t 44) (.c (.int .i64 0)), (some (some 42, false))⟩, ⟨some 46, .pick (.t 42) (.c
 (.bool true)) (.t 45), none⟩, ⟨some 47, .mv (.t 46), none⟩, ⟨some 48, .fad 4 (.t 1), (some (some 47, false))⟩, ⟨some 49, .ld false 1 (.t 48), (some (some 47, false))⟩, ⟨some 50, .bin .gtr true false none (.t 49) (.c
 (.int .i64 10000)), (some (some 47, false))⟩, ⟨some 51, .pick (.t 47) (.c (.bool true)) (.t 50), none⟩, ⟨some 33, .mv (.t 51), none⟩] [] [11, 34, 35, 36, 37, 38, 39, 40, 41, 42, 43, 44, 45, 46, 47, 48, 49, 50, 51])
 (.cond (.t 33) (.seq (.reg [⟨some 2, .mv (.c (.int .i64 1)), none⟩] [] [1, 33]) .ret) (.seq (.reg [⟨some 53, .fad 6 (.t 1), none⟩, ⟨some 54, .ld false 1 (.t 53), none⟩, ⟨some 55, .lenl (.t 54), none⟩, ⟨some 56, .bin .gtr
 true false none (.t 55) (.c (.int .i64 8)), none⟩, ⟨some 52, .mv (.t 56), none⟩] [] [33, 53, 54, 55, 56]) (.cond (.t 52) (.seq (.reg [⟨some 2, .mv (.c (.int .i64 3)), none⟩] [] [1, 52]) .ret) (.seq (.reg [⟨some 58, .fad
 5 (.t 1), none⟩, ⟨some 59, .ld false 1 (.t 58), none⟩, ⟨some 60, .bin .lss true false none (.t 59) (.c (.int .i64 0)), none⟩, ⟨some 61, .mv (.t 60), none⟩, ⟨some 62, .fad 5 (.t 1), (some (some 61, false))⟩, ⟨some 63, .ld
 false 1 (.t 62), (some (some 61, false))⟩, ⟨some 64, .fad 6 (.t 1), (some (some 61, false))⟩, ⟨some 65, .ld false 1 (.t 64), (some (some 61, false))⟩, ⟨some 66, .lenl (.t 65), (some (some 61, false))⟩, ⟨some 67, .bin
 .gtr false false none (.t 63) (.t 66), (some (some 61, false))⟩, ⟨some 68, .pick (.t 61) (.c (.bool true)) (.t 67), none⟩, ⟨some 57, .mv (.t 68), none⟩] [] [52, 58, 59, 60, 61, 62, 63, 64, 65, 66, 67, 68]) (.cond (.t 57)
 (.seq (.reg [⟨some 2, .mv (.c (.int .i64 1)), none⟩] [] [1, 57]) .ret) .skip))))))))))) (.seq (.seq (.reg [⟨some 3, .mv (.c (.int .i64 0)), none⟩] [] [57]) (.block 1 (.loop (.seq (.seq (.reg [⟨some 69, .mv (.t 3), none⟩,
 ⟨some 70, .fad 6 (.t 1), none⟩, ⟨some 71, .ld false 1 (.t 70), none⟩, ⟨some 72, .lenl (.t 71), none⟩, ⟨some 73, .bin .lss false false none (.t 69) (.t 72), none⟩] [] [69, 70, 71, 72]) (.cond (.t 73) .skip (.exit 1)))
 (.seq (.block 2 (.seq (.seq (.reg [⟨some 76, .fad 6 (.t 1), none⟩, ⟨some 77, .ld false 1 (.t 76), none⟩, ⟨some 78, .mv (.t 3), none⟩, ⟨some 79, .iad 4 (.t 77) (.t 78), none⟩, ⟨some 80, .fad 0 (.t 79), none⟩, ⟨some 81,
 .ld false 1 (.t 80), none⟩, ⟨some 82, .call (.c (.fn 32 [])) [(.t 81)], none⟩, ⟨some 83, .un .not (.t 82), none⟩] [] [73, 76, 77, 78, 79, 80, 81, 82]) (.cond (.t 83) (.seq (.reg [⟨some 2, .mv (.c (.int .i64 5)), none⟩]
 [] [1, 3, 83]) .ret) .skip)) (.seq (.seq (.reg [⟨some 4, .mv (.c (.int .i64 0)), none⟩] [] [83]) (.block 3 (.loop (.seq (.seq (.reg [⟨some 84, .mv (.t 4), none⟩, ⟨some 85, .mv (.t 3), none⟩, ⟨some 86, .bin .lss false
 false none (.t 84) (.t 85), none⟩] [] [84, 85]) (.cond (.t 86) .skip (.exit 3))) (.seq (.block 4 (.seq (.draw [⟨some 89, .fad 6 (.t 1), none⟩, ⟨some 90, .ld false 1 (.t 89), none⟩, ⟨some 91, .mv (.t 4), none⟩, ⟨some 92,
 .iad 4 (.t 90) (.t 91), none⟩, ⟨some 93, .fad 0 (.t 92), none⟩, ⟨some 94, .ld false 1 (.t 93), none⟩, ⟨some 95, .fad 6 (.t 1), none⟩, ⟨some 96, .ld false 1 (.t 95), none⟩, ⟨some 97, .mv (.t 3), none⟩, ⟨some 98, .iad 4
 (.t 96) (.t 97), none⟩, ⟨some 99, .fad 0 (.t 98), none⟩, ⟨some 100, .ld false 1 (.t 99), none⟩, ⟨some 101, .bin .eql false true (some .str) (.t 94) (.t 100), none⟩] [(1, 0), (3, 0), (5, 0), (7, 0), (9, 0), (11, 0)] []
 [86, 89, 90, 91, 92, 93, 94, 95, 96, 97, 98, 99, 100]) (.cond (.t 101) (.seq (.reg [⟨some 2, .mv (.c (.int .i64 6)), none⟩] [] [1, 3, 4, 101]) .ret) .skip))) (.reg [⟨some 87, .mv (.t 4), none⟩, ⟨some 88, .bin .add true
 false none (.t 87) (.c (.int .i64 1)), none⟩, ⟨some 4, .mv (.t 88), none⟩] [] [87, 88, 101])))))) (.seq (.reg [⟨some 102, .fad 6 (.t 1), none⟩, ⟨some 103, .ld false 1 (.t 102), none⟩, ⟨some 104, .mv (.t 3), none⟩, ⟨some
 105, .iad 4 (.t 103) (.t 104), none⟩, ⟨some 106, .ld true 4 (.t 105), none⟩, ⟨some 107, .call (.c (.fn 45 [])) [(.t 106)], none⟩, ⟨some 5, .mv (.t 107), none⟩] [] [4, 86, 102, 103, 104, 105, 106, 107]) (.seq (.reg [⟨some
 108, .mv (.t 5), none⟩, ⟨some 109, .bin .neq true true (some .int) (.t 108) (.c (.int .i64 0)), none⟩] [] [108]) (.cond (.t 109) (.seq (.reg [⟨some 110, .mv (.t 5), none⟩, ⟨some 2, .mv (.t 110), none⟩] [] [1, 3, 5, 109,
 110]) .ret) .skip)))))) (.reg [⟨some 74, .mv (.t 3), none⟩, ⟨some 75, .bin .add true false none (.t 74) (.c (.int .i64 1)), none⟩, ⟨some 3, .mv (.t 75), none⟩] [] [5, 74, 75, 109])))))) (.seq (.reg [⟨some 2, .mv (.c
 (.int .i64 0)), none⟩] [] [1, 3, 73]) .ret)))), [.t 2], false⟩
/- underpin/underpinref07.checkMeasure -/
def sf34 : SFun := ⟨71, (.seq (.reg [⟨some 2, .box true (.t 0), none⟩, ⟨some 4, .mv (.c (.int .i64 0)), none⟩] [] [0, 4]) (.seq (.seq (.reg [⟨some 7, .fad 0 (.t 2), none⟩, ⟨some 8, .ld false 1 (.t 7), none⟩, ⟨some 9,
 .call (.c (.fn 32 [])) [(.t 8)], none⟩, ⟨some 10, .un .not (.t 9), none⟩, ⟨some 11, .mv (.t 10), none⟩, ⟨some 12, .fad 1 (.t 2), (some (some 11, false))⟩, ⟨some 13, .ld false 1 (.t 12), (some (some 11, false))⟩, ⟨some
 14, .call (.c (.fn 32 [])) [(.t 13)], (some (some 11, false))⟩, ⟨some 15, .un .not (.t 14), (some (some 11, false))⟩, ⟨some 16, .pick (.t 11) (.c (.bool true)) (.t 15), none⟩] [] [7, 8, 9, 10, 11, 12, 13, 14, 15]) (.cond
 (.t 16) (.seq (.reg [⟨some 4, .mv (.c (.int .i64 5)), none⟩] [] [1, 2, 16]) .ret) .skip)) (.seq (.seq (.reg [⟨some 5, .mv (.c (.int .i64 0)), none⟩] [] [16]) (.block 0 (.loop (.seq (.seq (.reg [⟨some 17, .mv (.t 5),
 none⟩, ⟨some 18, .mv (.t 1), none⟩, ⟨some 19, .lenl (.t 18), none⟩, ⟨some 20, .bin .lss false false none (.t 17) (.t 19), none⟩] [] [17, 18, 19]) (.cond (.t 20) .skip (.exit 0))) (.seq (.block 1 (.seq (.draw [⟨some 23,
 .mv (.t 1), none⟩, ⟨some 24, .mv (.t 5), none⟩, ⟨some 25, .iad 5 (.t 23) (.t 24), none⟩, ⟨some 26, .fad 0 (.t 25), none⟩, ⟨some 27, .ld false 1 (.t 26), none⟩, ⟨some 28, .fad 0 (.t 2), none⟩, ⟨some 29, .ld false 1 (.t
 28), none⟩, ⟨some 30, .bin .eql false true (some .str) (.t 27) (.t 29), none⟩] [(2, 0), (4, 0), (6, 0)] [] [20, 23, 24, 25, 26, 27, 28, 29]) (.cond (.t 30) (.seq (.reg [⟨some 4, .mv (.c (.int .i64 6)), none⟩] [] [1, 2,
 5, 30]) .ret) .skip))) (.reg [⟨some 21, .mv (.t 5), none⟩, ⟨some 22, .bin .add true false none (.t 21) (.c (.int .i64 1)), none⟩, ⟨some 5, .mv (.t 22), none⟩] [] [21, 22, 30])))))) (.seq (.seq (.reg [⟨some 31, .fad 2 (.t
 2), none⟩, ⟨some 32, .ld false 1 (.t 31), none⟩, ⟨some 33, .call (.c (.fn 46 [])) [(.t 32)], none⟩, ⟨some 34, .un .not (.t 33), none⟩, ⟨some 35, .mv (.t 34), none⟩, ⟨some 36, .fad 3 (.t 2), (some (some 35, false))⟩,
 ⟨some 37, .ld false 1 (.t 36), (some (some 35, false))⟩, ⟨some 38, .call (.c (.fn 46 [])) [(.t 37)], (some (some 35, false))⟩, ⟨some 39, .un .not (.t 38), (some (some 35, false))⟩, ⟨some 40, .pick (.t 35) (.c (.bool
 true)) (.t 39), none⟩, ⟨some 41, .mv (.t 40), none⟩, ⟨some 42, .fad 4 (.t 2), (some (some 41, false))⟩, ⟨some 43, .ld false 1 (.t 42), (some (some 41, false))⟩, ⟨some 44, .call (.c (.fn 46 [])) [(.t 43)], (some (some 41,
 false))⟩, ⟨some 45, .un .not (.t 44), (some (some 41, false))⟩, ⟨some 46, .pick (.t 41) (.c (.bool true)) (.t 45), none⟩] [] [5, 20, 31, 32, 33, 34, 35, 36, 37, 38, 39, 40, 41, 42, 43, 44, 45]) (.cond (.t 46) (.seq (.reg
 [⟨some 4, .mv (.c (.int .i64 1)), none⟩] [] [1, 2, 46]) .ret) .skip)) (.seq (.seq (.reg [⟨some 6, .mv (.c (.int .i64 0)), none⟩] [] [46]) (.block 2 (.loop (.seq (.seq (.reg [⟨some 47, .mv (.t 6), none⟩, ⟨some 48, .mv (.t
 1), none⟩, ⟨some 49, .lenl (.t 48), none⟩, ⟨some 50, .bin .lss false false none (.t 47) (.t 49), none⟩] [] [47, 48, 49]) (.cond (.t 50) .skip (.exit 2))) (.seq (.block 3 (.seq (.draw [⟨some 53, .mv (.t 1), none⟩, ⟨some
 54, .mv (.t 6), none⟩, ⟨some 55, .iad 5 (.t 53) (.t 54), none⟩, ⟨some 56, .fad 1 (.t 55), none⟩, ⟨some 57, .ld false 1 (.t 56), none⟩, ⟨some 58, .fad 1 (.t 2), none⟩, ⟨some 59, .ld false 1 (.t 58), none⟩, ⟨some 60, .bin
 .eql false true (some .str) (.t 57) (.t 59), none⟩, ⟨some 61, .mv (.t 60), none⟩, ⟨some 62, .mv (.t 1), (some (some 61, true))⟩, ⟨some 63, .mv (.t 6), (some (some 61, true))⟩, ⟨some 64, .iad 5 (.t 62) (.t 63), (some
 (some 61, true))⟩, ⟨some 65, .fad 2 (.t 64), (some (some 61, true))⟩, ⟨some 66, .ld false 1 (.t 65), (some (some 61, true))⟩, ⟨some 67, .fad 2 (.t 2), (some (some 61, true))⟩, ⟨some 68, .ld false 1 (.t 67), (some (some
 61, true))⟩, ⟨some 69, .bin .eql false true (some .int) (.t 66) (.t 68), (some (some 61, true))⟩, ⟨some 70, .pick (.t 61) (.t 69) (.c (.bool false)), none⟩] [(2, 0), (4, 0), (6, 0), (11, 0), (13, 0), (15, 0)] [] [50, 53,
 54, 55, 56, 57, 58, 59, 60, 61, 62, 63, 64, 65, 66, 67, 68, 69]) (.cond (.t 70) (.seq (.reg [⟨some 4, .mv (.c (.int .i64 10)), none⟩] [] [1, 2, 6, 70]) .ret) .skip))) (.reg [⟨some 51, .mv (.t 6), none⟩, ⟨some 52, .bin
 .add true false none (.t 51) (.c (.int .i64 1)), none⟩, ⟨some 6, .mv (.t 52), none⟩] [] [51, 52, 70])))))) (.seq (.reg [⟨some 4, .mv (.c (.int .i64 0)), none⟩] [] [1, 2, 6, 50]) .ret)))))), [.t 4], false⟩
/- underpin/underpinref07.checkAlarm -/
def sf35 : SFun := ⟨60, (.seq (.reg [⟨some 2, .box true (.t 0), none⟩, ⟨some 4, .mv (.c (.int .i64 0)), none⟩] [] [0, 4]) (.seq (.reg [⟨some 7, .fad 2 (.t 2), none⟩, ⟨some 8, .ld false 1 (.t 7), none⟩, ⟨some 9, .mv (.t
 1), none⟩, ⟨some 10, .iad 4 (.t 8) (.t 9), none⟩, ⟨some 11, .ld true 4 (.t 10), none⟩, ⟨some 5, .new [.int .i64 0, .int .i64 0, .int .i64 0, .int .i64 0], none⟩, ⟨none, .st 4 (.t 5) (.t 11), none⟩] [5] [7, 8, 9, 10, 11])
 (.seq (.seq (.reg [⟨some 12, .fad 0 (.t 5), none⟩, ⟨some 13, .ld false 1 (.t 12), none⟩, ⟨some 14, .bin .lss true false none (.t 13) (.c (.int .i64 0)), none⟩, ⟨some 15, .mv (.t 14), none⟩, ⟨some 16, .fad 0 (.t 5), (some
 (some 15, false))⟩, ⟨some 17, .ld false 1 (.t 16), (some (some 15, false))⟩, ⟨some 18, .fad 0 (.t 2), (some (some 15, false))⟩, ⟨some 19, .ld false 1 (.t 18), (some (some 15, false))⟩, ⟨some 20, .lenl (.t 19), (some
 (some 15, false))⟩, ⟨some 21, .bin .geq false false none (.t 17) (.t 20), (some (some 15, false))⟩, ⟨some 22, .pick (.t 15) (.c (.bool true)) (.t 21), none⟩, ⟨some 23, .mv (.t 22), none⟩, ⟨some 24, .fad 3 (.t 5), (some
 (some 23, false))⟩, ⟨some 25, .ld false 1 (.t 24), (some (some 23, false))⟩, ⟨some 26, .bin .lss true false none (.t 25) (.c (.int .i64 0)), (some (some 23, false))⟩, ⟨some 27, .pick (.t 23) (.c (.bool true)) (.t 26),
 none⟩, ⟨some 28, .mv (.t 27), none⟩, ⟨some 29, .fad 3 (.t 5), (some (some 28, false))⟩, ⟨some 30, .ld false 1 (.t 29), (some (some 28, false))⟩, ⟨some 31, .fad 1 (.t 2), (some (some 28, false))⟩, ⟨some 32, .ld false 1
 (.t 31), (some (some 28, false))⟩, ⟨some 33, .lenl (.t 32), (some (some 28, false))⟩, ⟨some 34, .bin .geq false false none (.t 30) (.t 33), (some (some 28, false))⟩, ⟨some 35, .pick (.t 28) (.c (.bool true)) (.t 34),
 none⟩] [] [12, 13, 14, 15, 16, 17, 18, 19, 20, 21, 22, 23, 24, 25, 26, 27, 28, 29, 30, 31, 32, 33, 34]) (.cond (.t 35) (.seq (.reg [⟨some 4, .mv (.c (.int .i64 7)), none⟩] [] [1, 2, 5, 35]) .ret) .skip)) (.seq (.seq
 (.reg [⟨some 36, .fad 1 (.t 5), none⟩, ⟨some 37, .ld false 1 (.t 36), none⟩, ⟨some 38, .call (.c (.fn 65 [])) [(.t 37)], none⟩, ⟨some 39, .un .not (.t 38), none⟩, ⟨some 40, .mv (.t 39), none⟩, ⟨some 41, .fad 2 (.t 5),
 (some (some 40, false))⟩, ⟨some 42, .ld false 1 (.t 41), (some (some 40, false))⟩, ⟨some 43, .call (.c (.fn 65 [])) [(.t 42)], (some (some 40, false))⟩, ⟨some 44, .un .not (.t 43), (some (some 40, false))⟩, ⟨some 45,
 .pick (.t 40) (.c (.bool true)) (.t 44), none⟩] [] [35, 36, 37, 38, 39, 40, 41, 42, 43, 44]) (.cond (.t 45) (.seq (.reg [⟨some 4, .mv (.c (.int .i64 1)), none⟩] [] [1, 2, 5, 45]) .ret) .skip)) (.seq (.seq (.reg [⟨some 6,
 .mv (.c (.int .i64 0)), none⟩] [] [45]) (.block 0 (.loop (.seq (.seq (.reg [⟨some 46, .mv (.t 6), none⟩, ⟨some 47, .mv (.t 1), none⟩, ⟨some 48, .bin .lss false false none (.t 46) (.t 47), none⟩] [] [46, 47]) (.cond (.t
 48) .skip (.exit 0))) (.seq (.block 1 (.seq (.draw [⟨some 51, .fad 2 (.t 2), none⟩, ⟨some 52, .ld false 1 (.t 51), none⟩, ⟨some 53, .mv (.t 6), none⟩, ⟨some 54, .iad 4 (.t 52) (.t 53), none⟩, ⟨some 55, .fad 3 (.t 54),
 none⟩, ⟨some 56, .ld false 1 (.t 55), none⟩, ⟨some 57, .fad 3 (.t 5), none⟩, ⟨some 58, .ld false 1 (.t 57), none⟩, ⟨some 59, .bin .eql false true (some .int) (.t 56) (.t 58), none⟩] [(1, 0), (3, 0), (5, 0), (7, 0)] []
 [48, 51, 52, 53, 54, 55, 56, 57, 58]) (.cond (.t 59) (.seq (.reg [⟨some 4, .mv (.c (.int .i64 6)), none⟩] [] [1, 2, 5, 6, 59]) .ret) .skip))) (.reg [⟨some 49, .mv (.t 6), none⟩, ⟨some 50, .bin .add true false none (.t
 49) (.c (.int .i64 1)), none⟩, ⟨some 6, .mv (.t 50), none⟩] [] [49, 50, 59])))))) (.seq (.reg [⟨some 4, .mv (.c (.int .i64 0)), none⟩] [] [1, 2, 5, 6, 48]) .ret)))))), [.t 4], true⟩
/- underpin/watch.Same$1 -/
def sf36 : SFun := ⟨45, (.seq (.reg [⟨some 2, .box true (.t 0), none⟩, ⟨some 3, .box true (.t 1), none⟩, ⟨some 4, .mv (.c (.bool false)), none⟩] [] [0, 1, 4]) (.seq (.reg [⟨some 5, .fad 0 (.t 2), none⟩, ⟨some 6, .ld false
 1 (.t 5), none⟩, ⟨some 7, .fad 0 (.t 3), none⟩, ⟨some 8, .ld false 1 (.t 7), none⟩, ⟨some 9, .bin .eql false true (some .str) (.t 6) (.t 8), none⟩, ⟨some 10, .mv (.t 9), none⟩, ⟨some 11, .fad 1 (.t 2), (some (some 10,
 true))⟩, ⟨some 12, .ld true 2 (.t 11), (some (some 10, true))⟩, ⟨some 13, .fad 1 (.t 3), (some (some 10, true))⟩, ⟨some 14, .ld true 2 (.t 13), (some (some 10, true))⟩, ⟨some 15, .bin .eql false true (some (.fld 0 1
 false .int (.fld 1 1 false .int .fin))) (.t 12) (.t 14), (some (some 10, true))⟩, ⟨some 16, .pick (.t 10) (.t 15) (.c (.bool false)), none⟩, ⟨some 17, .mv (.t 16), none⟩, ⟨some 18, .fad 3 (.t 2), (some (some 17, true))⟩,
 ⟨some 19, .ld false 1 (.t 18), (some (some 17, true))⟩, ⟨some 20, .fad 3 (.t 3), (some (some 17, true))⟩, ⟨some 21, .ld false 1 (.t 20), (some (some 17, true))⟩, ⟨some 22, .bin .eql false true (some .int) (.t 19) (.t
 21), (some (some 17, true))⟩, ⟨some 23, .pick (.t 17) (.t 22) (.c (.bool false)), none⟩, ⟨some 24, .mv (.t 23), none⟩, ⟨some 25, .fad 4 (.t 2), (some (some 24, true))⟩, ⟨some 26, .ld false 1 (.t 25), (some (some 24,
 true))⟩, ⟨some 27, .fad 4 (.t 3), (some (some 24, true))⟩, ⟨some 28, .ld false 1 (.t 27), (some (some 24, true))⟩, ⟨some 29, .bin .eql false true (some .int) (.t 26) (.t 28), (some (some 24, true))⟩, ⟨some 30, .pick (.t
 24) (.t 29) (.c (.bool false)), none⟩, ⟨some 31, .mv (.t 30), none⟩, ⟨some 32, .fad 5 (.t 2), (some (some 31, true))⟩, ⟨some 33, .ld false 1 (.t 32), (some (some 31, true))⟩, ⟨some 34, .fad 5 (.t 3), (some (some 31,
 true))⟩, ⟨some 35, .ld false 1 (.t 34), (some (some 31, true))⟩, ⟨some 36, .bin .eql false true (some .int) (.t 33) (.t 35), (some (some 31, true))⟩, ⟨some 37, .pick (.t 31) (.t 36) (.c (.bool false)), none⟩, ⟨some 38,
 .mv (.t 37), none⟩, ⟨some 39, .fad 6 (.t 2), (some (some 38, true))⟩, ⟨some 40, .ld false 1 (.t 39), (some (some 38, true))⟩, ⟨some 41, .fad 6 (.t 3), (some (some 38, true))⟩, ⟨some 42, .ld false 1 (.t 41), (some (some
 38, true))⟩, ⟨some 43, .call (.c (.fn 37 [])) [(.t 40), (.t 42)], (some (some 38, true))⟩, ⟨some 44, .pick (.t 38) (.t 43) (.c (.bool false)), none⟩, ⟨some 4, .mv (.t 44), none⟩] [] [2, 3, 5, 6, 7, 8, 9, 10, 11, 12, 13,
 14, 15, 16, 17, 18, 19, 20, 21, 22, 23, 24, 25, 26, 27, 28, 29, 30, 31, 32, 33, 34, 35, 36, 37, 38, 39, 40, 41, 42, 43, 44]) .ret)), [.t 4], false⟩
/- slices.Equal[[]underpin/api.Gauge,underpin/api.Gauge] -/
def sf37 : SFun := ⟨26, (.seq (.reg [⟨some 4, .mv (.c (.bool false)), none⟩] [] [4]) (.seq (.seq (.reg [⟨some 6, .mv (.t 0), none⟩, ⟨some 7, .lenl (.t 6), none⟩, ⟨some 8, .mv (.t 1), none⟩, ⟨some 9, .lenl (.t 8), none⟩,
 ⟨some 10, .bin .neq false true (some .int) (.t 7) (.t 9), none⟩] [] [6, 7, 8, 9]) (.cond (.t 10) (.seq (.reg [⟨some 4, .mv (.c (.bool false)), none⟩] [] [0, 1, 10]) .ret) .skip)) (.seq (.seq (.reg [⟨some 11, .mv (.t 0),
 none⟩, ⟨some 12, .lenl (.t 11), none⟩, ⟨some 13, .mv (.c (.int .i64 0)), none⟩] [] [10, 11]) (.block 0 (.loop (.seq (.reg [⟨some 14, .bin .lss false false none (.t 13) (.t 12), none⟩] [] []) (.seq (.cond (.t 14) .skip
 (.exit 0)) (.seq (.block 1 (.seq (.reg [⟨some 15, .mv (.t 13), none⟩, ⟨some 5, .mv (.t 15), none⟩] [] [14, 15]) (.seq (.draw [⟨some 16, .mv (.t 0), none⟩, ⟨some 17, .mv (.t 5), none⟩, ⟨some 18, .iad 4 (.t 16) (.t 17),
 none⟩, ⟨some 19, .ld true 4 (.t 18), none⟩, ⟨some 20, .mv (.t 1), none⟩, ⟨some 21, .mv (.t 5), none⟩, ⟨some 22, .iad 4 (.t 20) (.t 21), none⟩, ⟨some 23, .ld true 4 (.t 22), none⟩, ⟨some 24, .bin .neq false true (some
 (.fld 0 1 false .str (.fld 1 1 false .int (.fld 2 1 false .int (.fld 3 1 false .int .fin))))) (.t 19) (.t 23), none⟩] [(2, 0), (3, 0), (6, 0), (7, 0)] [] [5, 16, 17, 18, 19, 20, 21, 22, 23]) (.cond (.t 24) (.seq (.reg
 [⟨some 4, .mv (.c (.bool false)), none⟩] [] [0, 1, 12, 13, 24]) .ret) .skip)))) (.reg [⟨some 25, .bin .add true false none (.t 13) (.c (.int .i64 1)), none⟩, ⟨some 13, .mv (.t 25), none⟩] [] [24, 25]))))))) (.seq (.reg
 [⟨some 4, .mv (.c (.bool true)), none⟩] [] [0, 1, 12, 13, 14]) .ret)))), [.t 4], false⟩
/- slices.EqualFunc[[]underpin/api.Quantity,[]underpin/api.Quantity,underpin/api.Quantity,underpin/api.Quantity] -/
def sf38 : SFun := ⟨32, (.seq (.reg [⟨some 6, .mv (.c (.bool false)), none⟩] [] [6]) (.seq (.seq (.reg [⟨some 10, .mv (.t 0), none⟩, ⟨some 11, .lenl (.t 10), none⟩, ⟨some 12, .mv (.t 1), none⟩, ⟨some 13, .lenl (.t 12),
 none⟩, ⟨some 14, .bin .neq false true (some .int) (.t 11) (.t 13), none⟩] [] [10, 11, 12, 13]) (.cond (.t 14) (.seq (.reg [⟨some 6, .mv (.c (.bool false)), none⟩] [] [0, 1, 2, 14]) .ret) .skip)) (.seq (.seq (.reg [⟨some
 15, .mv (.t 0), none⟩, ⟨some 16, .lenl (.t 15), none⟩, ⟨some 17, .mv (.c (.int .i64 0)), none⟩] [] [0, 14]) (.block 0 (.loop (.seq (.reg [⟨some 18, .bin .lss false false none (.t 17) (.t 16), none⟩] [] []) (.seq (.cond
 (.t 18) .skip (.exit 0)) (.seq (.block 1 (.seq (.reg [⟨some 19, .mv (.t 17), none⟩, ⟨some 20, .iad 7 (.t 15) (.t 17), none⟩, ⟨some 21, .ld true 7 (.t 20), none⟩, ⟨some 8, .new [.str [], .int .i64 0, .int .i64 0, .int
 .i64 0, .int .i64 0, .int .i64 0, .nilsl], none⟩, ⟨some 7, .mv (.t 19), none⟩, ⟨none, .st 7 (.t 8) (.t 21), none⟩] [8] [18, 19, 20, 21]) (.seq (.reg [⟨some 22, .mv (.t 1), none⟩, ⟨some 23, .mv (.t 7), none⟩, ⟨some 24,
 .iad 7 (.t 22) (.t 23), none⟩, ⟨some 25, .ld true 7 (.t 24), none⟩, ⟨some 9, .new [.str [], .int .i64 0, .int .i64 0, .int .i64 0, .int .i64 0, .int .i64 0, .nilsl], none⟩, ⟨none, .st 7 (.t 9) (.t 25), none⟩] [9] [7, 22,
 23, 24, 25]) (.seq (.reg [⟨some 26, .mv (.t 2), none⟩, ⟨some 27, .ld true 7 (.t 8), none⟩, ⟨some 28, .ld true 7 (.t 9), none⟩, ⟨some 29, .call (.t 26) [(.t 27), (.t 28)], none⟩, ⟨some 30, .un .not (.t 29), none⟩] [] [8,
 9, 26, 27, 28, 29]) (.cond (.t 30) (.seq (.reg [⟨some 6, .mv (.c (.bool false)), none⟩] [] [1, 2, 15, 16, 17, 30]) .ret) .skip))))) (.reg [⟨some 31, .bin .add true false none (.t 17) (.c (.int .i64 1)), none⟩, ⟨some 17,
 .mv (.t 31), none⟩] [] [30, 31]))))))) (.seq (.reg [⟨some 6, .mv (.c (.bool true)), none⟩] [] [1, 2, 15, 16, 17, 18]) .ret)))), [.t 6], true⟩
/- slices.Equal[[]underpin/api.Measure,underpin/api.Measure] -/
def sf39 : SFun := ⟨26, (.seq (.reg [⟨some 4, .mv (.c (.bool false)), none⟩] [] [4]) (.seq (.seq (.reg [⟨some 6, .mv (.t 0), none⟩, ⟨some 7, .lenl (.t 6), none⟩, ⟨some 8, .mv (.t 1), none⟩, ⟨some 9, .lenl (.t 8), none⟩,
 ⟨some 10, .bin .neq false true (some .int) (.t 7) (.t 9), none⟩] [] [6, 7, 8, 9]) (.cond (.t 10) (.seq (.reg [⟨some 4, .mv (.c (.bool false)), none⟩] [] [0, 1, 10]) .ret) .skip)) (.seq (.seq (.reg [⟨some 11, .mv (.t 0),
 none⟩, ⟨some 12, .lenl (.t 11), none⟩, ⟨some 13, .mv (.c (.int .i64 0)), none⟩] [] [10, 11]) (.block 0 (.loop (.seq (.reg [⟨some 14, .bin .lss false false none (.t 13) (.t 12), none⟩] [] []) (.seq (.cond (.t 14) .skip
 (.exit 0)) (.seq (.block 1 (.seq (.reg [⟨some 15, .mv (.t 13), none⟩, ⟨some 5, .mv (.t 15), none⟩] [] [14, 15]) (.seq (.draw [⟨some 16, .mv (.t 0), none⟩, ⟨some 17, .mv (.t 5), none⟩, ⟨some 18, .iad 5 (.t 16) (.t 17),
 none⟩, ⟨some 19, .ld true 5 (.t 18), none⟩, ⟨some 20, .mv (.t 1), none⟩, ⟨some 21, .mv (.t 5), none⟩, ⟨some 22, .iad 5 (.t 20) (.t 21), none⟩, ⟨some 23, .ld true 5 (.t 22), none⟩, ⟨some 24, .bin .neq false true (some
 (.fld 0 1 false .str (.fld 1 1 false .str (.fld 2 1 false .int (.fld 3 1 false .int (.fld 4 1 false .int .fin)))))) (.t 19) (.t 23), none⟩] [(2, 0), (3, 0), (6, 0), (7, 0)] [] [5, 16, 17, 18, 19, 20, 21, 22, 23]) (.cond
 (.t 24) (.seq (.reg [⟨some 4, .mv (.c (.bool false)), none⟩] [] [0, 1, 12, 13, 24]) .ret) .skip)))) (.reg [⟨some 25, .bin .add true false none (.t 13) (.c (.int .i64 1)), none⟩, ⟨some 13, .mv (.t 25), none⟩] [] [24,
 25]))))))) (.seq (.reg [⟨some 4, .mv (.c (.bool true)), none⟩] [] [0, 1, 12, 13, 14]) .ret)))), [.t 4], false⟩
/- slices.Equal[[]underpin/api.Alarm,underpin/api.Alarm] -/
def sf40 : SFun := ⟨26, (.seq (.reg [⟨some 4, .mv (.c (.bool false)), none⟩] [] [4]) (.seq (.seq (.reg [⟨some 6, .mv (.t 0), none⟩, ⟨some 7, .lenl (.t 6), none⟩, ⟨some 8, .mv (.t 1), none⟩, ⟨some 9, .lenl (.t 8), none⟩,
 ⟨some 10, .bin .neq false true (some .int) (.t 7) (.t 9), none⟩] [] [6, 7, 8, 9]) (.cond (.t 10) (.seq (.reg [⟨some 4, .mv (.c (.bool false)), none⟩] [] [0, 1, 10]) .ret) .skip)) (.seq (.seq (.reg [⟨some 11, .mv (.t 0),
 none⟩, ⟨some 12, .lenl (.t 11), none⟩, ⟨some 13, .mv (.c (.int .i64 0)), none⟩] [] [10, 11]) (.block 0 (.loop (.seq (.reg [⟨some 14, .bin .lss false false none (.t 13) (.t 12), none⟩] [] []) (.seq (.cond (.t 14) .skip
 (.exit 0)) (.seq (.block 1 (.seq (.reg [⟨some 15, .mv (.t 13), none⟩, ⟨some 5, .mv (.t 15), none⟩] [] [14, 15]) (.seq (.draw [⟨some 16, .mv (.t 0), none⟩, ⟨some 17, .mv (.t 5), none⟩, ⟨some 18, .iad 4 (.t 16) (.t 17),
 none⟩, ⟨some 19, .ld true 4 (.t 18), none⟩, ⟨some 20, .mv (.t 1), none⟩, ⟨some 21, .mv (.t 5), none⟩, ⟨some 22, .iad 4 (.t 20) (.t 21), none⟩, ⟨some 23, .ld true 4 (.t 22), none⟩, ⟨some 24, .bin .neq false true (some
 (.fld 0 1 false .int (.fld 1 1 false .int (.fld 2 1 false .int (.fld 3 1 false .int .fin))))) (.t 19) (.t 23), none⟩] [(2, 0), (3, 0), (6, 0), (7, 0)] [] [5, 16, 17, 18, 19, 20, 21, 22, 23]) (.cond (.t 24) (.seq (.reg
 [⟨some 4, .mv (.c (.bool false)), none⟩] [] [0, 1, 12, 13, 24]) .ret) .skip)))) (.reg [⟨some 25, .bin .add true false none (.t 13) (.c (.int .i64 1)), none⟩, ⟨some 13, .mv (.t 25), none⟩] [] [24, 25]))))))) (.seq (.reg
 [⟨some 4, .mv (.c (.bool true)), none⟩] [] [0, 1, 12, 13, 14]) .ret)))), [.t 4], false⟩
/- underpin/underpinref07.sameQuantity -/
def sf41 : SFun := ⟨66, (.seq (.reg [⟨some 2, .box true (.t 0), none⟩, ⟨some 3, .box true (.t 1), none⟩, ⟨some 4, .mv (.c (.bool false)), none⟩] [] [0, 1, 4]) (.seq (.seq (.reg [⟨some 6, .fad 0 (.t 2), none⟩, ⟨some 7, .ld
 false 1 (.t 6), none⟩, ⟨some 8, .fad 0 (.t 3), none⟩, ⟨some 9, .ld false 1 (.t 8), none⟩, ⟨some 10, .bin .neq false true (some .str) (.t 7) (.t 9), none⟩, ⟨some 11, .mv (.t 10), none⟩, ⟨some 12, .fad 1 (.t 2), (some
 (some 11, false))⟩, ⟨some 13, .ld true 2 (.t 12), (some (some 11, false))⟩, ⟨some 14, .fad 1 (.t 3), (some (some 11, false))⟩, ⟨some 15, .ld true 2 (.t 14), (some (some 11, false))⟩, ⟨some 16, .bin .neq false true (some
 (.fld 0 1 false .int (.fld 1 1 false .int .fin))) (.t 13) (.t 15), (some (some 11, false))⟩, ⟨some 17, .pick (.t 11) (.c (.bool true)) (.t 16), none⟩, ⟨some 18, .mv (.t 17), none⟩, ⟨some 19, .fad 3 (.t 2), (some (some
 18, false))⟩, ⟨some 20, .ld false 1 (.t 19), (some (some 18, false))⟩, ⟨some 21, .fad 3 (.t 3), (some (some 18, false))⟩, ⟨some 22, .ld false 1 (.t 21), (some (some 18, false))⟩, ⟨some 23, .bin .neq false true (some
 .int) (.t 20) (.t 22), (some (some 18, false))⟩, ⟨some 24, .pick (.t 18) (.c (.bool true)) (.t 23), none⟩, ⟨some 25, .mv (.t 24), none⟩, ⟨some 26, .fad 4 (.t 2), (some (some 25, false))⟩, ⟨some 27, .ld false 1 (.t 26),
 (some (some 25, false))⟩, ⟨some 28, .fad 4 (.t 3), (some (some 25, false))⟩, ⟨some 29, .ld false 1 (.t 28), (some (some 25, false))⟩, ⟨some 30, .bin .neq false true (some .int) (.t 27) (.t 29), (some (some 25, false))⟩,
 ⟨some 31, .pick (.t 25) (.c (.bool true)) (.t 30), none⟩, ⟨some 32, .mv (.t 31), none⟩, ⟨some 33, .fad 5 (.t 2), (some (some 32, false))⟩, ⟨some 34, .ld false 1 (.t 33), (some (some 32, false))⟩, ⟨some 35, .fad 5 (.t 3),
 (some (some 32, false))⟩, ⟨some 36, .ld false 1 (.t 35), (some (some 32, false))⟩, ⟨some 37, .bin .neq false true (some .int) (.t 34) (.t 36), (some (some 32, false))⟩, ⟨some 38, .pick (.t 32) (.c (.bool true)) (.t 37),
 none⟩, ⟨some 39, .mv (.t 38), none⟩, ⟨some 40, .fad 6 (.t 2), (some (some 39, false))⟩, ⟨some 41, .ld false 1 (.t 40), (some (some 39, false))⟩, ⟨some 42, .lenl (.t 41), (some (some 39, false))⟩, ⟨some 43, .fad 6 (.t 3),
 (some (some 39, false))⟩, ⟨some 44, .ld false 1 (.t 43), (some (some 39, false))⟩, ⟨some 45, .lenl (.t 44), (some (some 39, false))⟩, ⟨some 46, .bin .neq false true (some .int) (.t 42) (.t 45), (some (some 39, false))⟩,
 ⟨some 47, .pick (.t 39) (.c (.bool true)) (.t 46), none⟩] [] [6, 7, 8, 9, 10, 11, 12, 13, 14, 15, 16, 17, 18, 19, 20, 21, 22, 23, 24, 25, 26, 27, 28, 29, 30, 31, 32, 33, 34, 35, 36, 37, 38, 39, 40, 41, 42, 43, 44, 45,
 46]) (.cond (.t 47) (.seq (.reg [⟨some 4, .mv (.c (.bool false)), none⟩] [] [2, 3, 47]) .ret) .skip)) (.seq (.seq (.reg [⟨some 5, .mv (.c (.int .i64 0)), none⟩] [] [47]) (.block 0 (.loop (.seq (.seq (.reg [⟨some 48, .mv
 (.t 5), none⟩, ⟨some 49, .fad 6 (.t 2), none⟩, ⟨some 50, .ld false 1 (.t 49), none⟩, ⟨some 51, .lenl (.t 50), none⟩, ⟨some 52, .bin .lss false false none (.t 48) (.t 51), none⟩] [] [48, 49, 50, 51]) (.cond (.t 52) .skip
 (.exit 0))) (.seq (.block 1 (.seq (.draw [⟨some 55, .fad 6 (.t 2), none⟩, ⟨some 56, .ld false 1 (.t 55), none⟩, ⟨some 57, .mv (.t 5), none⟩, ⟨some 58, .iad 4 (.t 56) (.t 57), none⟩, ⟨some 59, .ld true 4 (.t 58), none⟩,
 ⟨some 60, .fad 6 (.t 3), none⟩, ⟨some 61, .ld false 1 (.t 60), none⟩, ⟨some 62, .mv (.t 5), none⟩, ⟨some 63, .iad 4 (.t 61) (.t 62), none⟩, ⟨some 64, .ld true 4 (.t 63), none⟩, ⟨some 65, .bin .neq false true (some (.fld
 0 1 false .str (.fld 1 1 false .int (.fld 2 1 false .int (.fld 3 1 false .int .fin))))) (.t 59) (.t 64), none⟩] [(1, 0), (3, 0), (4, 0), (6, 0), (8, 0), (9, 0)] [] [52, 55, 56, 57, 58, 59, 60, 61, 62, 63, 64]) (.cond (.t
 65) (.seq (.reg [⟨some 4, .mv (.c (.bool false)), none⟩] [] [2, 3, 5, 65]) .ret) .skip))) (.reg [⟨some 53, .mv (.t 5), none⟩, ⟨some 54, .bin .add true false none (.t 53) (.c (.int .i64 1)), none⟩, ⟨some 5, .mv (.t 54),
 none⟩] [] [53, 54, 65])))))) (.seq (.reg [⟨some 4, .mv (.c (.bool true)), none⟩] [] [2, 3, 5, 52]) .ret)))), [.t 4], false⟩
/- underpin/watch.checkGauge -/
def sf42 : SFun := ⟨19, (.seq (.reg [⟨some 1, .box true (.t 0), none⟩, ⟨some 2, .mv (.c (.int .i64 0)), none⟩] [] [0, 2]) (.seq (.seq (.reg [⟨some 3, .fad 1 (.t 1), none⟩, ⟨some 4, .ld false 1 (.t 3), none⟩, ⟨some 5,
 .call (.c (.fn 28 [])) [(.t 4), (.c (.int .i64 0)), (.c (.int .i64 1000000000))], none⟩, ⟨some 6, .un .not (.t 5), none⟩, ⟨some 7, .mv (.t 6), none⟩, ⟨some 8, .fad 2 (.t 1), (some (some 7, false))⟩, ⟨some 9, .ld false 1
 (.t 8), (some (some 7, false))⟩, ⟨some 10, .call (.c (.fn 28 [])) [(.t 9), (.c (.int .i64 0)), (.c (.int .i64 1000000000))], (some (some 7, false))⟩, ⟨some 11, .un .not (.t 10), (some (some 7, false))⟩, ⟨some 12, .pick
 (.t 7) (.c (.bool true)) (.t 11), none⟩, ⟨some 13, .mv (.t 12), none⟩, ⟨some 14, .fad 3 (.t 1), (some (some 13, false))⟩, ⟨some 15, .ld false 1 (.t 14), (some (some 13, false))⟩, ⟨some 16, .call (.c (.fn 43 [])) [(.t
 15)], (some (some 13, false))⟩, ⟨some 17, .un .not (.t 16), (some (some 13, false))⟩, ⟨some 18, .pick (.t 13) (.c (.bool true)) (.t 17), none⟩] [] [1, 3, 4, 5, 6, 7, 8, 9, 10, 11, 12, 13, 14, 15, 16, 17]) (.cond (.t 18)
 (.seq (.reg [⟨some 2, .mv (.c (.int .i64 1)), none⟩] [] [18]) .ret) .skip)) (.seq (.reg [⟨some 2, .mv (.c (.int .i64 0)), none⟩] [] [18]) .ret))), [.t 2], false⟩
/- underpin/watch.isTime -/
def sf43 : SFun := ⟨5, (.seq (.reg [⟨some 2, .mv (.c (.bool false)), none⟩] [] [2]) (.seq (.reg [⟨some 3, .mv (.t 0), none⟩, ⟨some 4, .call (.c (.fn 28 [])) [(.t 3), (.c (.int .i64 0)), (.c (.int .i64 100000))], none⟩,
 ⟨some 2, .mv (.t 4), none⟩] [] [0, 3, 4]) .ret)), [.t 2], false⟩
/- underpin/watch.deviation -/
def sf44 : SFun := ⟨23, (.seq (.reg [⟨some 2, .box true (.t 0), none⟩, ⟨some 4, .mv (.c (.int .i64 0)), none⟩] [] [0, 4]) (.seq (.seq (.reg [⟨some 5, .mv (.t 1), none⟩, ⟨some 6, .fad 3 (.t 2), none⟩, ⟨some 7, .ld false 1
 (.t 6), none⟩, ⟨some 8, .bin .leq false false none (.t 5) (.t 7), none⟩] [] [5, 6, 7]) (.cond (.t 8) (.seq (.reg [⟨some 9, .fad 1 (.t 2), none⟩, ⟨some 10, .ld false 1 (.t 9), none⟩, ⟨some 4, .mv (.t 10), none⟩] [] [1, 2,
 8, 9, 10]) .ret) .skip)) (.seq (.reg [⟨some 11, .fad 1 (.t 2), none⟩, ⟨some 12, .ld false 1 (.t 11), none⟩, ⟨some 13, .mv (.t 1), none⟩, ⟨some 14, .fad 3 (.t 2), none⟩, ⟨some 15, .ld false 1 (.t 14), none⟩, ⟨some 16,
 .bin .sub false false none (.t 13) (.t 15), none⟩, ⟨some 17, .bin .add true false none (.t 16) (.c (.int .i64 999)), none⟩, ⟨some 18, .bin .quo true false none (.t 17) (.c (.int .i64 1000)), none⟩, ⟨some 19, .fad 2 (.t
 2), none⟩, ⟨some 20, .ld false 1 (.t 19), none⟩, ⟨some 21, .bin .mul false false none (.t 18) (.t 20), none⟩, ⟨some 22, .bin .add false false none (.t 12) (.t 21), none⟩, ⟨some 4, .mv (.t 22), none⟩] [] [1, 2, 8, 11, 12,
 13, 14, 15, 16, 17, 18, 19, 20, 21, 22]) .ret))), [.t 4], false⟩
/- underpin/underpinref07.checkGauge -/
def sf45 : SFun := ⟨27, (.seq (.reg [⟨some 1, .box true (.t 0), none⟩, ⟨some 2, .mv (.c (.int .i64 0)), none⟩] [] [0, 2]) (.seq (.seq (.reg [⟨some 3, .fad 1 (.t 1), none⟩, ⟨some 4, .ld false 1 (.t 3), none⟩, ⟨some 5, .bin
 .lss true false none (.t 4) (.c (.int .i64 0)), none⟩, ⟨some 6, .mv (.t 5), none⟩, ⟨some 7, .fad 1 (.t 1), (some (some 6, false))⟩, ⟨some 8, .ld false 1 (.t 7), (some (some 6, false))⟩, ⟨some 9, .bin .gtr true false none
 (.t 8) (.c (.int .i64 1000000000)), (some (some 6, false))⟩, ⟨some 10, .pick (.t 6) (.c (.bool true)) (.t 9), none⟩, ⟨some 11, .mv (.t 10), none⟩, ⟨some 12, .fad 2 (.t 1), (some (some 11, false))⟩, ⟨some 13, .ld false 1
 (.t 12), (some (some 11, false))⟩, ⟨some 14, .bin .lss true false none (.t 13) (.c (.int .i64 0)), (some (some 11, false))⟩, ⟨some 15, .pick (.t 11) (.c (.bool true)) (.t 14), none⟩, ⟨some 16, .mv (.t 15), none⟩, ⟨some
 17, .fad 2 (.t 1), (some (some 16, false))⟩, ⟨some 18, .ld false 1 (.t 17), (some (some 16, false))⟩, ⟨some 19, .bin .gtr true false none (.t 18) (.c (.int .i64 1000000000)), (some (some 16, false))⟩, ⟨some 20, .pick (.t
 16) (.c (.bool true)) (.t 19), none⟩, ⟨some 21, .mv (.t 20), none⟩, ⟨some 22, .fad 3 (.t 1), (some (some 21, false))⟩, ⟨some 23, .ld false 1 (.t 22), (some (some 21, false))⟩, ⟨some 24, .call (.c (.fn 46 [])) [(.t 23)],
 (some (some 21, false))⟩, ⟨some 25, .un .not (.t 24), (some (some 21, false))⟩, ⟨some 26, .pick (.t 21) (.c (.bool true)) (.t 25), none⟩] [] [1, 3, 4, 5, 6, 7, 8, 9, 10, 11, 12, 13, 14, 15, 16, 17, 18, 19, 20, 21, 22,
 23, 24, 25]) (.cond (.t 26) (.seq (.reg [⟨some 2, .mv (.c (.int .i64 1)), none⟩] [] [26]) .ret) .skip)) (.seq (.reg [⟨some 2, .mv (.c (.int .i64 0)), none⟩] [] [26]) .ret))), [.t 2], false⟩
/- underpin/underpinref07.timed -/
def sf46 : SFun := ⟨9, (.seq (.reg [⟨some 2, .mv (.c (.bool false)), none⟩] [] [2]) (.seq (.reg [⟨some 3, .mv (.t 0), none⟩, ⟨some 4, .bin .geq true false none (.t 3) (.c (.int .i64 0)), none⟩, ⟨some 5, .mv (.t 4), none⟩,
 ⟨some 6, .mv (.t 0), (some (some 5, true))⟩, ⟨some 7, .bin .leq true false none (.t 6) (.c (.int .i64 100000)), (some (some 5, true))⟩, ⟨some 8, .pick (.t 5) (.t 7) (.c (.bool false)), none⟩, ⟨some 2, .mv (.t 8), none⟩]
 [] [0, 3, 4, 5, 6, 7, 8]) .ret)), [.t 2], false⟩
/- underpin/underpinref07.worst -/
def sf47 : SFun := ⟨20, (.seq (.reg [⟨some 2, .box true (.t 0), none⟩, ⟨some 4, .mv (.c (.int .i64 0)), none⟩] [] [0, 4]) (.seq (.reg [⟨some 6, .mv (.t 1), none⟩, ⟨some 7, .fad 3 (.t 2), none⟩, ⟨some 8, .ld false 1 (.t
 7), none⟩, ⟨some 9, .bin .sub false false none (.t 6) (.t 8), none⟩, ⟨some 10, .mnx true (.t 9) [(.c (.int .i64 0))], none⟩, ⟨some 5, .mv (.t 10), none⟩] [] [1, 6, 7, 8, 9, 10]) (.seq (.reg [⟨some 11, .fad 1 (.t 2),
 none⟩, ⟨some 12, .ld false 1 (.t 11), none⟩, ⟨some 13, .fad 2 (.t 2), none⟩, ⟨some 14, .ld false 1 (.t 13), none⟩, ⟨some 15, .mv (.t 5), none⟩, ⟨some 16, .bin .add true false none (.t 15) (.c (.int .i64 999)), none⟩,
 ⟨some 17, .bin .quo true false none (.t 16) (.c (.int .i64 1000)), none⟩, ⟨some 18, .bin .mul false false none (.t 14) (.t 17), none⟩, ⟨some 19, .bin .add false false none (.t 12) (.t 18), none⟩, ⟨some 4, .mv (.t 19),
 none⟩] [] [2, 5, 11, 12, 13, 14, 15, 16, 17, 18, 19]) .ret))), [.t 4], false⟩
/- underpin/watch.checked -/
def sf48 : SFun := ⟨31, (.seq (.reg [⟨some 2, .box true (.t 0), none⟩, ⟨some 4, .mv (.c (.int .i64 0)), none⟩] [] [0, 4]) (.seq (.seq (.reg [⟨some 9, .ld true 7 (.t 2), none⟩, ⟨some 10, .bsl true 7 [.str [], .int .i64 0,
 .int .i64 0, .int .i64 0, .int .i64 0, .int .i64 0, .nilsl] 1 [(0, (.t 9))], none⟩, ⟨some 11, .call (.c (.fn 26 [])) [(.t 10)], none⟩, ⟨some 5, .mv (.t 11), none⟩] [] [9, 10, 11]) (.seq (.reg [⟨some 12, .mv (.t 5),
 none⟩, ⟨some 13, .bin .neq true true (some .int) (.t 12) (.c (.int .i64 0)), none⟩] [] [12]) (.cond (.t 13) (.seq (.reg [⟨some 14, .mv (.t 5), none⟩, ⟨some 4, .mv (.t 14), none⟩] [] [1, 2, 5, 13, 14]) .ret) .skip)))
 (.seq (.seq (.reg [⟨some 15, .mv (.t 1), none⟩, ⟨some 16, .lenl (.t 15), none⟩, ⟨some 17, .bin .gtr true false none (.t 16) (.c (.int .i64 64)), none⟩] [] [5, 13, 15, 16]) (.cond (.t 17) (.seq (.reg [⟨some 4, .mv (.c
 (.int .i64 3)), none⟩] [] [1, 2, 17]) .ret) .skip)) (.seq (.seq (.reg [⟨some 18, .mv (.t 1), none⟩, ⟨some 19, .lenl (.t 18), none⟩, ⟨some 20, .mv (.c (.int .i64 0)), none⟩] [] [1, 17]) (.block 0 (.loop (.seq (.reg [⟨some
 21, .bin .lss false false none (.t 20) (.t 19), none⟩] [] []) (.seq (.cond (.t 21) .skip (.exit 0)) (.seq (.block 1 (.seq (.reg [⟨some 22, .iad 3 (.t 18) (.t 20), none⟩, ⟨some 23, .ld true 3 (.t 22), none⟩, ⟨some 7, .new
 [.int .i64 0, .int .i64 0, .int .i64 0], none⟩, ⟨none, .st 3 (.t 7) (.t 23), none⟩] [7] [21, 22, 23]) (.seq (.reg [⟨some 24, .ld true 7 (.t 2), none⟩, ⟨some 25, .ld true 3 (.t 7), none⟩, ⟨some 26, .call (.c (.fn 66 []))
 [(.t 24), (.t 25)], none⟩, ⟨some 8, .mv (.t 26), none⟩] [] [7, 24, 25, 26]) (.seq (.reg [⟨some 27, .mv (.t 8), none⟩, ⟨some 28, .bin .neq true true (some .int) (.t 27) (.c (.int .i64 0)), none⟩] [] [27]) (.cond (.t 28)
 (.seq (.reg [⟨some 29, .mv (.t 8), none⟩, ⟨some 4, .mv (.t 29), none⟩] [] [2, 8, 18, 19, 20, 28, 29]) .ret) .skip))))) (.reg [⟨some 30, .bin .add true false none (.t 20) (.c (.int .i64 1)), none⟩, ⟨some 20, .mv (.t 30),
 none⟩] [] [8, 28, 30]))))))) (.seq (.reg [⟨some 4, .mv (.c (.int .i64 0)), none⟩] [] [2, 18, 19, 20, 21]) .ret))))), [.t 4], false⟩
/- underpin/watch.possible -/
def sf49 : SFun := ⟨82, (.seq (.reg [⟨some 3, .box true (.t 0), none⟩, ⟨some 4, .box true (.t 1), none⟩, ⟨some 5, .box true (.t 2), none⟩, ⟨some 6, .mv (.c (.nilsl)), none⟩] [] [0, 1, 2, 6]) (.seq (.reg [⟨some 7, .new
 [.nilsl], none⟩] [] []) (.seq (.seq (.reg [⟨some 14, .fad 6 (.t 3), none⟩, ⟨some 15, .ld false 1 (.t 14), none⟩, ⟨some 16, .lenl (.t 15), none⟩, ⟨some 17, .fad 5 (.t 3), none⟩, ⟨some 18, .ld false 1 (.t 17), none⟩, ⟨some
 19, .call (.c (.fn 50 [])) [(.t 16), (.t 18)], none⟩] [] [14, 15, 16, 17, 18]) (.block 0 (.range (.t 19) [20] (.reg [⟨some 8, .mv (.t 20), none⟩] [] [19, 20]) (.block 1 (.seq (.draw [⟨some 21, .ld true 7 (.t 3), none⟩,
 ⟨some 22, .ld false 1 (.t 4), none⟩, ⟨some 23, .mv (.t 8), none⟩, ⟨some 24, .ld false 1 (.t 5), none⟩, ⟨some 25, .call (.c (.fn 67 [])) [], none⟩, ⟨some 26, .bst [.int .i64 0, .int .i64 0, .int .i64 0] [(0, 1), (1, 2)]
 [(0, (.t 24)), (1, (.t 25))], none⟩, ⟨some 27, .bsl true 3 [.int .i64 0, .int .i64 0, .int .i64 0] 1 [(0, (.t 26))], none⟩, ⟨some 28, .call (.c (.fn 52 [])) [(.t 21), (.t 22), (.t 23), (.t 27)], none⟩, ⟨some 9, .mv (.t
 28), none⟩] [(0, 0), (0, 5), (1, 0), (1, 5), (3, 0), (3, 5)] [] [4, 8, 21, 22, 23, 24, 25, 26, 27, 28]) (.seq (.reg [⟨some 29, .ld true 7 (.t 3), none⟩, ⟨some 30, .mv (.t 9), none⟩, ⟨some 31, .call (.c (.fn 51 [])) [(.t
 29), (.t 30)], none⟩] [] [3, 29, 30]) (.cond (.t 31) (.draw [⟨some 32, .ld false 1 (.t 7), none⟩, ⟨some 33, .mv (.t 9), none⟩, ⟨some 34, .ld false 1 (.t 5), none⟩, ⟨some 35, .call (.c (.fn 68 [])) [(.t 33), (.t 34)],
 none⟩, ⟨some 36, .bsl true 2 [.int .i64 0, .int .i64 0] 1 [(0, (.t 35))], none⟩, ⟨some 37, .app 2 16 (.t 32) (.t 36), none⟩, ⟨none, .st 1 (.t 7) (.t 37), none⟩] [(0, 0), (0, 4), (2, 0)] [] [5, 9, 31, 32, 33, 34, 35, 36,
 37]) .skip))))))) (.seq (.reg [⟨some 38, .ld false 1 (.t 7), none⟩, ⟨some 39, .call (.c (.fn 69 [])) [(.t 38), (.c (.fn 70 []))], none⟩] [] [3, 4, 5, 19, 38, 39]) (.seq (.reg [⟨some 10, .mv (.c (.nilsl)), none⟩] [] [])
 (.seq (.seq (.reg [⟨some 40, .ld false 1 (.t 7), none⟩, ⟨some 41, .lenl (.t 40), none⟩, ⟨some 42, .mv (.c (.int .i64 0)), none⟩] [] [7]) (.block 2 (.loop (.seq (.reg [⟨some 43, .bin .lss false false none (.t 42) (.t 41),
 none⟩] [] []) (.seq (.cond (.t 43) .skip (.exit 2)) (.seq (.block 3 (.seq (.reg [⟨some 44, .iad 2 (.t 40) (.t 42), none⟩, ⟨some 45, .ld true 2 (.t 44), none⟩, ⟨some 12, .new [.int .i64 0, .int .i64 0], none⟩, ⟨none, .st
 2 (.t 12) (.t 45), none⟩] [12] [43, 44, 45]) (.seq (.seq (.reg [⟨some 46, .mv (.t 10), none⟩, ⟨some 47, .lenl (.t 46), none⟩, ⟨some 13, .mv (.t 47), none⟩] [] [46, 47]) (.seq (.draw [⟨some 48, .mv (.t 13), none⟩, ⟨some
 49, .bin .gtr true false none (.t 48) (.c (.int .i64 0)), none⟩, ⟨some 50, .mv (.t 49), none⟩, ⟨some 51, .fad 0 (.t 12), (some (some 50, true))⟩, ⟨some 52, .ld false 1 (.t 51), (some (some 50, true))⟩, ⟨some 53, .mv (.t
 10), (some (some 50, true))⟩, ⟨some 54, .mv (.t 13), (some (some 50, true))⟩, ⟨some 55, .bin .sub true false none (.t 54) (.c (.int .i64 1)), (some (some 50, true))⟩, ⟨some 56, .iad 2 (.t 53) (.t 55), (some (some 50,
 true))⟩, ⟨some 57, .fad 1 (.t 56), (some (some 50, true))⟩, ⟨some 58, .ld false 1 (.t 57), (some (some 50, true))⟩, ⟨some 59, .bin .add true false none (.t 58) (.c (.int .i64 1)), (some (some 50, true))⟩, ⟨some 60, .bin
 .leq false false none (.t 52) (.t 59), (some (some 50, true))⟩, ⟨some 61, .pick (.t 50) (.t 60) (.c (.bool false)), none⟩] [(4, 0), (8, 0), (10, 0)] [] [48, 49, 50, 51, 52, 53, 54, 55, 56, 57, 58, 59, 60]) (.cond (.t 61)
 (.seq (.draw [⟨some 62, .mv (.t 10), none⟩, ⟨some 63, .mv (.t 13), none⟩, ⟨some 64, .bin .sub true false none (.t 63) (.c (.int .i64 1)), none⟩, ⟨some 65, .mv (.t 10), none⟩, ⟨some 66, .mv (.t 13), none⟩, ⟨some 67, .bin
 .sub true false none (.t 66) (.c (.int .i64 1)), none⟩, ⟨some 68, .iad 2 (.t 65) (.t 67), none⟩, ⟨some 69, .fad 1 (.t 68), none⟩, ⟨some 70, .ld false 1 (.t 69), none⟩, ⟨some 71, .fad 1 (.t 12), none⟩, ⟨some 72, .ld false
 1 (.t 71), none⟩, ⟨some 73, .mnx true (.t 70) [(.t 72)], none⟩, ⟨some 74, .iad 2 (.t 62) (.t 64), none⟩, ⟨some 75, .fad 1 (.t 74), none⟩, ⟨none, .st 1 (.t 75) (.t 73), none⟩] [(6, 0), (8, 0), (10, 0), (12, 0)] [] [12,
 13, 61, 62, 63, 64, 65, 66, 67, 68, 69, 70, 71, 72, 73, 74, 75]) (.exit 3)) .skip))) (.reg [⟨some 76, .mv (.t 10), none⟩, ⟨some 77, .ld true 2 (.t 12), none⟩, ⟨some 78, .bsl true 2 [.int .i64 0, .int .i64 0] 1 [(0, (.t
 77))], none⟩, ⟨some 79, .app 2 16 (.t 76) (.t 78), none⟩, ⟨some 10, .mv (.t 79), none⟩] [] [12, 13, 61, 76, 77, 78, 79])))) (.reg [⟨some 80, .bin .add true false none (.t 42) (.c (.int .i64 1)), none⟩, ⟨some 42, .mv (.t
 80), none⟩] [] [80]))))))) (.seq (.reg [⟨some 81, .mv (.t 10), none⟩, ⟨some 6, .mv (.t 81), none⟩] [6] [10, 40, 41, 42, 43, 81]) .ret))))))), [.t 6], true⟩
/- underpin/watch.subsets -/
def sf50 : SFun := ⟨6, (.seq (.reg [⟨some 2, .box true (.t 0), none⟩, ⟨some 3, .box true (.t 1), none⟩, ⟨some 4, .mv (.c (.nilfn)), none⟩] [] [0, 1, 4]) (.seq (.reg [⟨some 5, .mkf 71 [(.t 3), (.t 2)], none⟩, ⟨some 4, .mv
 (.t 5), none⟩] [] [2, 3, 5]) .ret)), [.t 4], false⟩
/- underpin/watch.narrowed -/
def sf51 : SFun := ⟨124, (.seq (.reg [⟨some 2, .box true (.t 0), none⟩, ⟨some 4, .mv (.c (.bool false)), none⟩] [] [0, 4]) (.seq (.seq (.reg [⟨some 9, .mv (.t 1), none⟩, ⟨some 10, .lenl (.t 9), none⟩, ⟨some 11, .mv (.c
 (.int .i64 0)), none⟩] [] [9]) (.block 0 (.loop (.seq (.reg [⟨some 12, .bin .lss false false none (.t 11) (.t 10), none⟩] [] []) (.seq (.cond (.t 12) .skip (.exit 0)) (.seq (.block 1 (.seq (.reg [⟨some 13, .mv (.t 11),
 none⟩, ⟨some 5, .mv (.t 13), none⟩] [] [12, 13]) (.seq (.seq (.reg [⟨some 14, .mv (.t 5), none⟩, ⟨some 15, .bin .gtr true false none (.t 14) (.c (.int .i64 0)), none⟩] [] [14]) (.cond (.t 15) (.seq (.draw [⟨some 16, .mv
 (.t 1), none⟩, ⟨some 17, .mv (.t 5), none⟩, ⟨some 18, .iad 3 (.t 16) (.t 17), none⟩, ⟨some 19, .fad 0 (.t 18), none⟩, ⟨some 20, .ld false 1 (.t 19), none⟩, ⟨some 21, .mv (.t 1), none⟩, ⟨some 22, .mv (.t 5), none⟩, ⟨some
 23, .bin .sub true false none (.t 22) (.c (.int .i64 1)), none⟩, ⟨some 24, .iad 3 (.t 21) (.t 23), none⟩, ⟨some 25, .fad 0 (.t 24), none⟩, ⟨some 26, .ld false 1 (.t 25), none⟩, ⟨some 27, .bin .sub false false none (.t
 20) (.t 26), none⟩, ⟨some 6, .mv (.t 27), none⟩] [(2, 0), (4, 0), (8, 0), (10, 0)] [] [15, 16, 17, 18, 19, 20, 21, 22, 23, 24, 25, 26, 27]) (.draw [⟨some 28, .mv (.t 1), none⟩, ⟨some 29, .mv (.t 5), none⟩, ⟨some 30, .mv
 (.t 1), none⟩, ⟨some 31, .mv (.t 5), none⟩, ⟨some 32, .iad 3 (.t 30) (.t 31), none⟩, ⟨some 33, .fad 1 (.t 32), none⟩, ⟨some 34, .ld true 2 (.t 33), none⟩, ⟨some 35, .mv (.t 1), none⟩, ⟨some 36, .mv (.t 5), none⟩, ⟨some
 37, .bin .sub true false none (.t 36) (.c (.int .i64 1)), none⟩, ⟨some 38, .iad 3 (.t 35) (.t 37), none⟩, ⟨some 39, .fad 1 (.t 38), none⟩, ⟨some 40, .fad 0 (.t 39), none⟩, ⟨some 41, .ld false 1 (.t 40), none⟩, ⟨some 42,
 .fad 4 (.t 2), none⟩, ⟨some 43, .ld false 1 (.t 42), none⟩, ⟨some 44, .mv (.t 6), none⟩, ⟨some 45, .bin .mul false false none (.t 43) (.t 44), none⟩, ⟨some 46, .bin .sub false false none (.t 41) (.t 45), none⟩, ⟨some 47,
 .mv (.t 1), none⟩, ⟨some 48, .mv (.t 5), none⟩, ⟨some 49, .bin .sub true false none (.t 48) (.c (.int .i64 1)), none⟩, ⟨some 50, .iad 3 (.t 47) (.t 49), none⟩, ⟨some 51, .fad 1 (.t 50), none⟩, ⟨some 52, .fad 1 (.t 51),
 none⟩, ⟨some 53, .ld false 1 (.t 52), none⟩, ⟨some 54, .fad 3 (.t 2), none⟩, ⟨some 55, .ld false 1 (.t 54), none⟩, ⟨some 56, .mv (.t 6), none⟩, ⟨some 57, .bin .mul false false none (.t 55) (.t 56), none⟩, ⟨some 58, .bin
 .add false false none (.t 53) (.t 57), none⟩, ⟨some 59, .bst [.int .i64 0, .int .i64 0] [(0, 1), (1, 1)] [(0, (.t 46)), (1, (.t 58))], none⟩, ⟨some 60, .call (.c (.fn 74 [])) [(.t 34), (.t 59)], none⟩, ⟨some 61, .iad 3
 (.t 28) (.t 29), none⟩, ⟨some 62, .fad 1 (.t 61), none⟩, ⟨none, .st 2 (.t 62) (.t 60), none⟩] [(4, 0), (6, 0), (10, 0), (13, 0), (15, 0), (22, 0), (25, 0), (27, 0), (33, 33)] [] [6, 28, 29, 30, 31, 32, 33, 34, 35, 36,
 37, 38, 39, 40, 41, 42, 43, 44, 45, 46, 47, 48, 49, 50, 51, 52, 53, 54, 55, 56, 57, 58, 59, 60, 61, 62])) .skip)) (.seq (.reg [⟨some 63, .mv (.t 1), none⟩, ⟨some 64, .mv (.t 5), none⟩, ⟨some 65, .iad 3 (.t 63) (.t 64),
 none⟩, ⟨some 66, .fad 1 (.t 65), none⟩, ⟨some 67, .ld true 2 (.t 66), none⟩, ⟨some 68, .call (.c (.fn 75 [])) [(.t 67)], none⟩] [] [5, 15, 63, 64, 65, 66, 67]) (.cond (.t 68) (.seq (.reg [⟨some 4, .mv (.c (.bool false)),
 none⟩] [] [1, 2, 10, 11, 68]) .ret) .skip))))) (.reg [⟨some 69, .bin .add true false none (.t 11) (.c (.int .i64 1)), none⟩, ⟨some 11, .mv (.t 69), none⟩] [] [68, 69]))))))) (.seq (.seq (.reg [⟨some 70, .mv (.t 1),
 none⟩, ⟨some 71, .lenl (.t 70), none⟩, ⟨some 72, .bin .sub true false none (.t 71) (.c (.int .i64 2)), none⟩, ⟨some 7, .mv (.t 72), none⟩] [] [10, 11, 12, 70, 71, 72]) (.block 2 (.loop (.seq (.seq (.reg [⟨some 73, .mv
 (.t 7), none⟩, ⟨some 74, .bin .geq true false none (.t 73) (.c (.int .i64 0)), none⟩] [] [73]) (.cond (.t 74) .skip (.exit 2))) (.seq (.block 3 (.seq (.draw [⟨some 77, .mv (.t 1), none⟩, ⟨some 78, .mv (.t 7), none⟩,
 ⟨some 79, .bin .add true false none (.t 78) (.c (.int .i64 1)), none⟩, ⟨some 80, .iad 3 (.t 77) (.t 79), none⟩, ⟨some 81, .fad 0 (.t 80), none⟩, ⟨some 82, .ld false 1 (.t 81), none⟩, ⟨some 83, .mv (.t 1), none⟩, ⟨some
 84, .mv (.t 7), none⟩, ⟨some 85, .iad 3 (.t 83) (.t 84), none⟩, ⟨some 86, .fad 0 (.t 85), none⟩, ⟨some 87, .ld false 1 (.t 86), none⟩, ⟨some 88, .bin .sub false false none (.t 82) (.t 87), none⟩, ⟨some 8, .mv (.t 88),
 none⟩] [(3, 0), (5, 0), (8, 0), (10, 0)] [] [74, 77, 78, 79, 80, 81, 82, 83, 84, 85, 86, 87, 88]) (.draw [⟨some 89, .mv (.t 1), none⟩, ⟨some 90, .mv (.t 7), none⟩, ⟨some 91, .mv (.t 1), none⟩, ⟨some 92, .mv (.t 7),
 none⟩, ⟨some 93, .iad 3 (.t 91) (.t 92), none⟩, ⟨some 94, .fad 1 (.t 93), none⟩, ⟨some 95, .ld true 2 (.t 94), none⟩, ⟨some 96, .mv (.t 1), none⟩, ⟨some 97, .mv (.t 7), none⟩, ⟨some 98, .bin .add true false none (.t 97)
 (.c (.int .i64 1)), none⟩, ⟨some 99, .iad 3 (.t 96) (.t 98), none⟩, ⟨some 100, .fad 1 (.t 99), none⟩, ⟨some 101, .fad 0 (.t 100), none⟩, ⟨some 102, .ld false 1 (.t 101), none⟩, ⟨some 103, .fad 3 (.t 2), none⟩, ⟨some 104,
 .ld false 1 (.t 103), none⟩, ⟨some 105, .mv (.t 8), none⟩, ⟨some 106, .bin .mul false false none (.t 104) (.t 105), none⟩, ⟨some 107, .bin .sub false false none (.t 102) (.t 106), none⟩, ⟨some 108, .mv (.t 1), none⟩,
 ⟨some 109, .mv (.t 7), none⟩, ⟨some 110, .bin .add true false none (.t 109) (.c (.int .i64 1)), none⟩, ⟨some 111, .iad 3 (.t 108) (.t 110), none⟩, ⟨some 112, .fad 1 (.t 111), none⟩, ⟨some 113, .fad 1 (.t 112), none⟩,
 ⟨some 114, .ld false 1 (.t 113), none⟩, ⟨some 115, .fad 4 (.t 2), none⟩, ⟨some 116, .ld false 1 (.t 115), none⟩, ⟨some 117, .mv (.t 8), none⟩, ⟨some 118, .bin .mul false false none (.t 116) (.t 117), none⟩, ⟨some 119,
 .bin .add false false none (.t 114) (.t 118), none⟩, ⟨some 120, .bst [.int .i64 0, .int .i64 0] [(0, 1), (1, 1)] [(0, (.t 107)), (1, (.t 119))], none⟩, ⟨some 121, .call (.c (.fn 74 [])) [(.t 95), (.t 120)], none⟩, ⟨some
 122, .iad 3 (.t 89) (.t 90), none⟩, ⟨some 123, .fad 1 (.t 122), none⟩, ⟨none, .st 2 (.t 123) (.t 121), none⟩] [(4, 0), (6, 0), (10, 0), (13, 0), (15, 0), (22, 0), (25, 0), (27, 0), (33, 33)] [] [8, 89, 90, 91, 92, 93,
 94, 95, 96, 97, 98, 99, 100, 101, 102, 103, 104, 105, 106, 107, 108, 109, 110, 111, 112, 113, 114, 115, 116, 117, 118, 119, 120, 121, 122, 123]))) (.reg [⟨some 75, .mv (.t 7), none⟩, ⟨some 76, .bin .sub true false none
 (.t 75) (.c (.int .i64 1)), none⟩, ⟨some 7, .mv (.t 76), none⟩] [] [75, 76])))))) (.seq (.reg [⟨some 4, .mv (.c (.bool true)), none⟩] [] [1, 2, 7, 74]) .ret)))), [.t 4], true⟩
/- underpin/watch.nodes -/
def sf52 : SFun := ⟨105, (.seq (.reg [⟨some 4, .box true (.t 0), none⟩, ⟨some 8, .mv (.c (.nilsl)), none⟩] [] [0, 8]) (.seq (.reg [⟨some 18, .fad 1 (.t 4), none⟩, ⟨some 19, .ld true 2 (.t 18), none⟩, ⟨some 20, .bst [.int
 .i64 0, .int .i64 0, .int .i64 0] [(0, 1), (1, 2)] [(0, (.c (.int .i64 0))), (1, (.t 19))], none⟩, ⟨some 21, .bsl false 3 [.int .i64 0, .int .i64 0, .int .i64 0] 1 [(0, (.t 20))], none⟩, ⟨some 22, .mv (.t 3), none⟩,
 ⟨some 23, .app 3 24 (.t 21) (.t 22), none⟩, ⟨some 9, .mv (.t 23), none⟩] [] [3, 18, 19, 20, 21, 22, 23]) (.seq (.seq (.reg [⟨some 24, .mv (.t 1), none⟩, ⟨some 25, .lenl (.t 24), none⟩, ⟨some 26, .mv (.c (.int .i64 0)),
 none⟩] [] [1]) (.block 0 (.loop (.seq (.reg [⟨some 27, .bin .lss false false none (.t 26) (.t 25), none⟩] [] []) (.seq (.cond (.t 27) .skip (.exit 0)) (.seq (.block 1 (.seq (.reg [⟨some 28, .iad 3 (.t 24) (.t 26), none⟩,
 ⟨some 29, .ld true 3 (.t 28), none⟩, ⟨some 11, .new [.int .i64 0, .int .i64 0, .int .i64 0], none⟩, ⟨none, .st 3 (.t 11) (.t 29), none⟩] [11] [27, 28, 29]) (.seq (.reg [⟨some 30, .call (.c (.fn 67 [])) [], none⟩, ⟨some
 12, .new [.int .i64 0, .int .i64 0], none⟩, ⟨none, .st 2 (.t 12) (.t 30), none⟩] [] [30]) (.seq (.seq (.reg [⟨some 31, .mv (.t 2), none⟩, ⟨some 32, .fad 0 (.t 11), none⟩, ⟨some 33, .ld false 1 (.t 32), none⟩, ⟨some 34,
 .call (.c (.fn 76 [])) [(.t 31), (.t 33)], none⟩, ⟨some 35, .un .not (.t 34), none⟩] [] [31, 32, 33, 34]) (.cond (.t 35) (.seq (.draw [⟨some 36, .fad 6 (.t 4), none⟩, ⟨some 37, .ld false 1 (.t 36), none⟩, ⟨some 38, .fad
 0 (.t 11), none⟩, ⟨some 39, .ld false 1 (.t 38), none⟩, ⟨some 40, .iad 4 (.t 37) (.t 39), none⟩, ⟨some 41, .ld true 4 (.t 40), none⟩, ⟨some 42, .fad 1 (.t 11), none⟩, ⟨some 43, .ld false 1 (.t 42), none⟩, ⟨some 44, .call
 (.c (.fn 44 [])) [(.t 41), (.t 43)], none⟩, ⟨some 13, .mv (.t 44), none⟩] [(1, 0), (3, 0), (4, 0), (5, 0), (7, 0)] [] [35, 36, 37, 38, 39, 40, 41, 42, 43, 44]) (.reg [⟨some 45, .fad 2 (.t 11), none⟩, ⟨some 46, .ld false
 1 (.t 45), none⟩, ⟨some 47, .mv (.t 13), none⟩, ⟨some 48, .bin .sub false false none (.t 46) (.t 47), none⟩, ⟨some 49, .fad 2 (.t 11), none⟩, ⟨some 50, .ld false 1 (.t 49), none⟩, ⟨some 51, .mv (.t 13), none⟩, ⟨some 52,
 .bin .add false false none (.t 50) (.t 51), none⟩, ⟨some 53, .bst [.int .i64 0, .int .i64 0] [(0, 1), (1, 1)] [(0, (.t 48)), (1, (.t 52))], none⟩, ⟨none, .st 2 (.t 12) (.t 53), none⟩] [] [13, 45, 46, 47, 48, 49, 50, 51,
 52, 53])) .skip)) (.reg [⟨some 54, .mv (.t 9), none⟩, ⟨some 55, .fad 1 (.t 11), none⟩, ⟨some 56, .ld false 1 (.t 55), none⟩, ⟨some 57, .ld true 2 (.t 12), none⟩, ⟨some 58, .bst [.int .i64 0, .int .i64 0, .int .i64 0]
 [(0, 1), (1, 2)] [(0, (.t 56)), (1, (.t 57))], none⟩, ⟨some 59, .bsl true 3 [.int .i64 0, .int .i64 0, .int .i64 0] 1 [(0, (.t 58))], none⟩, ⟨some 60, .app 3 24 (.t 54) (.t 59), none⟩, ⟨some 9, .mv (.t 60), none⟩] []
 [11, 12, 35, 54, 55, 56, 57, 58, 59, 60]))))) (.reg [⟨some 61, .bin .add true false none (.t 26) (.c (.int .i64 1)), none⟩, ⟨some 26, .mv (.t 61), none⟩] [] [61]))))))) (.seq (.reg [⟨some 62, .mv (.t 9), none⟩, ⟨some 63,
 .call (.c (.fn 77 [])) [(.t 62), (.c (.fn 78 []))], none⟩] [] [2, 4, 24, 25, 26, 27, 62, 63]) (.seq (.reg [⟨some 14, .mv (.c (.nilsl)), none⟩] [] []) (.seq (.seq (.reg [⟨some 64, .mv (.t 9), none⟩, ⟨some 65, .lenl (.t
 64), none⟩, ⟨some 66, .mv (.c (.int .i64 0)), none⟩] [] [9]) (.block 2 (.loop (.seq (.reg [⟨some 67, .bin .lss false false none (.t 66) (.t 65), none⟩] [] []) (.seq (.cond (.t 67) .skip (.exit 2)) (.seq (.block 3 (.seq
 (.reg [⟨some 68, .iad 3 (.t 64) (.t 66), none⟩, ⟨some 69, .ld true 3 (.t 68), none⟩, ⟨some 16, .new [.int .i64 0, .int .i64 0, .int .i64 0], none⟩, ⟨none, .st 3 (.t 16) (.t 69), none⟩] [16] [67, 68, 69]) (.seq (.seq
 (.reg [⟨some 70, .mv (.t 14), none⟩, ⟨some 71, .lenl (.t 70), none⟩, ⟨some 17, .mv (.t 71), none⟩] [] [70, 71]) (.seq (.draw [⟨some 72, .mv (.t 17), none⟩, ⟨some 73, .bin .gtr true false none (.t 72) (.c (.int .i64 0)),
 none⟩, ⟨some 74, .mv (.t 73), none⟩, ⟨some 75, .mv (.t 14), (some (some 74, true))⟩, ⟨some 76, .mv (.t 17), (some (some 74, true))⟩, ⟨some 77, .bin .sub true false none (.t 76) (.c (.int .i64 1)), (some (some 74,
 true))⟩, ⟨some 78, .iad 3 (.t 75) (.t 77), (some (some 74, true))⟩, ⟨some 79, .fad 0 (.t 78), (some (some 74, true))⟩, ⟨some 80, .ld false 1 (.t 79), (some (some 74, true))⟩, ⟨some 81, .fad 0 (.t 16), (some (some 74,
 true))⟩, ⟨some 82, .ld false 1 (.t 81), (some (some 74, true))⟩, ⟨some 83, .bin .eql false true (some .int) (.t 80) (.t 82), (some (some 74, true))⟩, ⟨some 84, .pick (.t 74) (.t 83) (.c (.bool false)), none⟩] [(6, 0),
 (8, 0), (10, 0)] [] [72, 73, 74, 75, 76, 77, 78, 79, 80, 81, 82, 83]) (.cond (.t 84) (.seq (.draw [⟨some 85, .mv (.t 14), none⟩, ⟨some 86, .mv (.t 17), none⟩, ⟨some 87, .bin .sub true false none (.t 86) (.c (.int .i64
 1)), none⟩, ⟨some 88, .mv (.t 14), none⟩, ⟨some 89, .mv (.t 17), none⟩, ⟨some 90, .bin .sub true false none (.t 89) (.c (.int .i64 1)), none⟩, ⟨some 91, .iad 3 (.t 88) (.t 90), none⟩, ⟨some 92, .fad 1 (.t 91), none⟩,
 ⟨some 93, .ld true 2 (.t 92), none⟩, ⟨some 94, .fad 1 (.t 16), none⟩, ⟨some 95, .ld true 2 (.t 94), none⟩, ⟨some 96, .call (.c (.fn 74 [])) [(.t 93), (.t 95)], none⟩, ⟨some 97, .iad 3 (.t 85) (.t 87), none⟩, ⟨some 98,
 .fad 1 (.t 97), none⟩, ⟨none, .st 2 (.t 98) (.t 96), none⟩] [(6, 0), (8, 0), (10, 0), (12, 12)] [] [16, 17, 84, 85, 86, 87, 88, 89, 90, 91, 92, 93, 94, 95, 96, 97, 98]) (.exit 3)) .skip))) (.reg [⟨some 99, .mv (.t 14),
 none⟩, ⟨some 100, .ld true 3 (.t 16), none⟩, ⟨some 101, .bsl true 3 [.int .i64 0, .int .i64 0, .int .i64 0] 1 [(0, (.t 100))], none⟩, ⟨some 102, .app 3 24 (.t 99) (.t 101), none⟩, ⟨some 14, .mv (.t 102), none⟩] [] [16,
 17, 84, 99, 100, 101, 102])))) (.reg [⟨some 103, .bin .add true false none (.t 66) (.c (.int .i64 1)), none⟩, ⟨some 66, .mv (.t 103), none⟩] [] [103]))))))) (.seq (.reg [⟨some 104, .mv (.t 14), none⟩, ⟨some 8, .mv (.t
 104), none⟩] [] [14, 64, 65, 66, 67, 104]) .ret))))))), [.t 8], false⟩
/- underpin/underpinref07.Decimal -/
def sf56 : SFun := ⟨34, (.seq (.reg [⟨some 2, .mv (.c (.str [])), none⟩] [] [2]) (.seq (.seq (.reg [⟨some 4, .mv (.t 0), none⟩, ⟨some 5, .bin .lss true false none (.t 4) (.c (.int .i64 (-9))), none⟩] [] [4]) (.cond (.t 5)
 (.seq (.reg [⟨some 6, .mv (.t 0), none⟩, ⟨some 7, .bin .quo true false none (.t 6) (.c (.int .i64 10)), none⟩, ⟨some 8, .call (.c (.fn 56 [])) [(.t 7)], none⟩, ⟨some 9, .mv (.t 0), none⟩, ⟨some 10, .bin .rem true false
 none (.t 9) (.c (.int .i64 10)), none⟩, ⟨some 11, .un .neg (.t 10), none⟩, ⟨some 12, .call (.c (.fn 56 [])) [(.t 11)], none⟩, ⟨some 13, .bin .add false false none (.t 8) (.t 12), none⟩, ⟨some 2, .mv (.t 13), none⟩] []
 [0, 5, 6, 7, 8, 9, 10, 11, 12, 13]) .ret) .skip)) (.seq (.seq (.reg [⟨some 14, .mv (.t 0), none⟩, ⟨some 15, .bin .lss true false none (.t 14) (.c (.int .i64 0)), none⟩] [] [5, 14]) (.cond (.t 15) (.seq (.reg [⟨some 16,
 .mv (.t 0), none⟩, ⟨some 17, .un .neg (.t 16), none⟩, ⟨some 18, .call (.c (.fn 56 [])) [(.t 17)], none⟩, ⟨some 19, .bin .add true false none (.c (.str [45])) (.t 18), none⟩, ⟨some 2, .mv (.t 19), none⟩] [] [0, 15, 16,
 17, 18, 19]) .ret) .skip)) (.seq (.reg [⟨some 20, .mv (.t 0), none⟩, ⟨some 21, .bin .rem true false none (.t 20) (.c (.int .i64 10)), none⟩, ⟨some 22, .bin .add true false none (.c (.int .i64 48)) (.t 21), none⟩, ⟨some
 23, .cvi .u8 (.t 22), none⟩, ⟨some 24, .bsl true 1 [.int .u8 0] 1 [(0, (.t 23))], none⟩, ⟨some 25, .cvt (.t 24), none⟩, ⟨some 3, .mv (.t 25), none⟩] [] [15, 20, 21, 22, 23, 24, 25]) (.seq (.seq (.reg [⟨some 26, .mv (.t
 0), none⟩, ⟨some 27, .bin .geq true false none (.t 26) (.c (.int .i64 10)), none⟩] [] [26]) (.cond (.t 27) (.reg [⟨some 28, .mv (.t 0), none⟩, ⟨some 29, .bin .quo true false none (.t 28) (.c (.int .i64 10)), none⟩, ⟨some
 30, .call (.c (.fn 56 [])) [(.t 29)], none⟩, ⟨some 31, .mv (.t 3), none⟩, ⟨some 32, .bin .add false false none (.t 30) (.t 31), none⟩, ⟨some 3, .mv (.t 32), none⟩] [] [0, 27, 28, 29, 30, 31, 32]) .skip)) (.seq (.reg
 [⟨some 33, .mv (.t 3), none⟩, ⟨some 2, .mv (.t 33), none⟩] [] [0, 3, 27, 33]) .ret)))))), [.t 2], false⟩
/- underpin/watch.isName -/
def sf57 : SFun := ⟨50, (.seq (.reg [⟨some 2, .mv (.c (.bool false)), none⟩] [] [2]) (.seq (.seq (.reg [⟨some 5, .mv (.t 0), none⟩, ⟨some 6, .bin .eql true true (some .str) (.t 5) (.c (.str [])), none⟩, ⟨some 7, .mv (.t
 6), none⟩, ⟨some 8, .mv (.t 0), (some (some 7, false))⟩, ⟨some 9, .lens (.t 8), (some (some 7, false))⟩, ⟨some 10, .bin .gtr true false none (.t 9) (.c (.int .i64 16)), (some (some 7, false))⟩, ⟨some 11, .pick (.t 7) (.c
 (.bool true)) (.t 10), none⟩, ⟨some 12, .mv (.t 11), none⟩, ⟨some 13, .mv (.t 0), (some (some 12, false))⟩, ⟨some 14, .ixs (.t 13) (.c (.int .i64 0)), (some (some 12, false))⟩, ⟨some 15, .bin .lss true false none (.t 14)
 (.c (.int .u8 97)), (some (some 12, false))⟩, ⟨some 16, .pick (.t 12) (.c (.bool true)) (.t 15), none⟩, ⟨some 17, .mv (.t 16), none⟩, ⟨some 18, .mv (.t 0), (some (some 17, false))⟩, ⟨some 19, .ixs (.t 18) (.c (.int .i64
 0)), (some (some 17, false))⟩, ⟨some 20, .bin .gtr true false none (.t 19) (.c (.int .u8 122)), (some (some 17, false))⟩, ⟨some 21, .pick (.t 17) (.c (.bool true)) (.t 20), none⟩] [] [5, 6, 7, 8, 9, 10, 11, 12, 13, 14,
 15, 16, 17, 18, 19, 20]) (.cond (.t 21) (.seq (.reg [⟨some 2, .mv (.c (.bool false)), none⟩] [] [0, 21]) .ret) .skip)) (.seq (.seq (.reg [⟨some 22, .mv (.t 0), none⟩, ⟨some 23, .lens (.t 22), none⟩, ⟨some 24, .mv (.c
 (.int .i64 0)), none⟩] [] [21, 22]) (.block 0 (.loop (.seq (.reg [⟨some 25, .bin .lss false false none (.t 24) (.t 23), none⟩] [] []) (.seq (.cond (.t 25) .skip (.exit 0)) (.seq (.block 1 (.seq (.reg [⟨some 26, .mv (.t
 24), none⟩, ⟨some 3, .mv (.t 26), none⟩] [] [25, 26]) (.seq (.reg [⟨some 27, .mv (.t 0), none⟩, ⟨some 28, .mv (.t 3), none⟩, ⟨some 29, .ixs (.t 27) (.t 28), none⟩, ⟨some 4, .mv (.t 29), none⟩] [] [3, 27, 28, 29]) (.seq
 (.reg [⟨some 30, .mv (.t 4), none⟩, ⟨some 31, .bin .geq true false none (.t 30) (.c (.int .u8 97)), none⟩, ⟨some 32, .mv (.t 31), none⟩, ⟨some 33, .mv (.t 4), (some (some 32, true))⟩, ⟨some 34, .bin .leq true false none
 (.t 33) (.c (.int .u8 122)), (some (some 32, true))⟩, ⟨some 35, .pick (.t 32) (.t 34) (.c (.bool false)), none⟩, ⟨some 36, .mv (.t 35), none⟩, ⟨some 37, .mv (.t 4), (some (some 36, false))⟩, ⟨some 38, .bin .geq true
 false none (.t 37) (.c (.int .u8 48)), (some (some 36, false))⟩, ⟨some 39, .mv (.t 38), (some (some 36, false))⟩, ⟨some 40, .mv (.t 4), (some (some 39, true))⟩, ⟨some 41, .bin .leq true false none (.t 40) (.c (.int .u8
 57)), (some (some 39, true))⟩, ⟨some 42, .pick (.t 39) (.t 41) (.c (.bool false)), (some (some 36, false))⟩, ⟨some 43, .pick (.t 36) (.c (.bool true)) (.t 42), none⟩, ⟨some 44, .mv (.t 43), none⟩, ⟨some 45, .mv (.t 4),
 (some (some 44, false))⟩, ⟨some 46, .bin .eql true true (some .int) (.t 45) (.c (.int .u8 45)), (some (some 44, false))⟩, ⟨some 47, .pick (.t 44) (.c (.bool true)) (.t 46), none⟩, ⟨some 48, .un .not (.t 47), none⟩] []
 [4, 30, 31, 32, 33, 34, 35, 36, 37, 38, 39, 40, 41, 42, 43, 44, 45, 46, 47]) (.cond (.t 48) (.seq (.reg [⟨some 2, .mv (.c (.bool false)), none⟩] [] [0, 23, 24, 48]) .ret) .skip))))) (.reg [⟨some 49, .bin .add true false
 none (.t 24) (.c (.int .i64 1)), none⟩, ⟨some 24, .mv (.t 49), none⟩] [] [48, 49]))))))) (.seq (.reg [⟨some 2, .mv (.c (.bool true)), none⟩] [] [0, 23, 24, 25]) .ret)))), [.t 2], false⟩
/- slices.ContainsFunc[[]underpin/api.Quantity,underpin/api.Quantity] -/
def sf58 : SFun := ⟨9, (.seq (.reg [⟨some 4, .mv (.c (.bool false)), none⟩] [] [4]) (.seq (.reg [⟨some 5, .mv (.t 0), none⟩, ⟨some 6, .mv (.t 1), none⟩, ⟨some 7, .call (.c (.fn 82 [])) [(.t 5), (.t 6)], none⟩, ⟨some 8,
 .bin .geq true false none (.t 7) (.c (.int .i64 0)), none⟩, ⟨some 4, .mv (.t 8), none⟩] [] [0, 1, 5, 6, 7, 8]) .ret)), [.t 4], false⟩
/- underpin/watch.quantities$1 -/
def sf59 : SFun := ⟨9, (.seq (.reg [⟨some 2, .box true (.t 0), none⟩, ⟨some 3, .mv (.c (.bool false)), none⟩] [] [0, 3]) (.seq (.reg [⟨some 4, .fad 0 (.t 2), none⟩, ⟨some 5, .ld false 1 (.t 4), none⟩, ⟨some 6, .fad 0 (.t
 1), none⟩, ⟨some 7, .ld false 1 (.t 6), none⟩, ⟨some 8, .bin .eql false true (some .str) (.t 5) (.t 7), none⟩, ⟨some 3, .mv (.t 8), none⟩] [] [1, 2, 4, 5, 6, 7, 8]) .ret)), [.t 3], false⟩
/- underpin/watch.checkQuantity -/
def sf60 : SFun := ⟨76, (.seq (.reg [⟨some 1, .box true (.t 0), none⟩, ⟨some 2, .mv (.c (.int .i64 0)), none⟩] [] [0, 2]) (.seq (.block 0 (.seq (.reg [⟨some 7, .fad 1 (.t 1), none⟩, ⟨some 8, .fad 0 (.t 7), none⟩, ⟨some 9,
 .ld false 1 (.t 8), none⟩, ⟨some 10, .call (.c (.fn 29 [])) [(.t 9)], none⟩, ⟨some 11, .un .not (.t 10), none⟩, ⟨some 12, .mv (.t 11), none⟩, ⟨some 13, .fad 1 (.t 1), (some (some 12, false))⟩, ⟨some 14, .fad 1 (.t 13),
 (some (some 12, false))⟩, ⟨some 15, .ld false 1 (.t 14), (some (some 12, false))⟩, ⟨some 16, .call (.c (.fn 29 [])) [(.t 15)], (some (some 12, false))⟩, ⟨some 17, .un .not (.t 16), (some (some 12, false))⟩, ⟨some 18,
 .pick (.t 12) (.c (.bool true)) (.t 17), none⟩, ⟨some 19, .mv (.t 18), none⟩, ⟨some 20, .fad 1 (.t 1), (some (some 19, false))⟩, ⟨some 21, .fad 0 (.t 20), (some (some 19, false))⟩, ⟨some 22, .ld false 1 (.t 21), (some
 (some 19, false))⟩, ⟨some 23, .fad 1 (.t 1), (some (some 19, false))⟩, ⟨some 24, .fad 1 (.t 23), (some (some 19, false))⟩, ⟨some 25, .ld false 1 (.t 24), (some (some 19, false))⟩, ⟨some 26, .bin .gtr false false none (.t
 22) (.t 25), (some (some 19, false))⟩, ⟨some 27, .pick (.t 19) (.c (.bool true)) (.t 26), none⟩, ⟨some 6, .mv (.t 27), none⟩] [] [7, 8, 9, 10, 11, 12, 13, 14, 15, 16, 17, 18, 19, 20, 21, 22, 23, 24, 25, 26, 27]) (.cond
 (.t 6) (.seq (.reg [⟨some 2, .mv (.c (.int .i64 1)), none⟩] [] [1, 6]) .ret) (.seq (.reg [⟨some 29, .fad 3 (.t 1), none⟩, ⟨some 30, .ld false 1 (.t 29), none⟩, ⟨some 31, .call (.c (.fn 28 [])) [(.t 30), (.c (.int .i64
 0)), (.c (.int .i64 10000))], none⟩, ⟨some 32, .un .not (.t 31), none⟩, ⟨some 33, .mv (.t 32), none⟩, ⟨some 34, .fad 4 (.t 1), (some (some 33, false))⟩, ⟨some 35, .ld false 1 (.t 34), (some (some 33, false))⟩, ⟨some 36,
 .call (.c (.fn 28 [])) [(.t 35), (.c (.int .i64 0)), (.c (.int .i64 10000))], (some (some 33, false))⟩, ⟨some 37, .un .not (.t 36), (some (some 33, false))⟩, ⟨some 38, .pick (.t 33) (.c (.bool true)) (.t 37), none⟩,
 ⟨some 28, .mv (.t 38), none⟩] [] [6, 29, 30, 31, 32, 33, 34, 35, 36, 37, 38]) (.cond (.t 28) (.seq (.reg [⟨some 2, .mv (.c (.int .i64 1)), none⟩] [] [1, 28]) .ret) (.seq (.reg [⟨some 40, .fad 6 (.t 1), none⟩, ⟨some 41,
 .ld false 1 (.t 40), none⟩, ⟨some 42, .lenl (.t 41), none⟩, ⟨some 43, .bin .gtr true false none (.t 42) (.c (.int .i64 8)), none⟩, ⟨some 39, .mv (.t 43), none⟩] [] [28, 40, 41, 42, 43]) (.cond (.t 39) (.seq (.reg [⟨some
 2, .mv (.c (.int .i64 3)), none⟩] [] [1, 39]) .ret) (.seq (.reg [⟨some 45, .fad 5 (.t 1), none⟩, ⟨some 46, .ld false 1 (.t 45), none⟩, ⟨some 47, .fad 6 (.t 1), none⟩, ⟨some 48, .ld false 1 (.t 47), none⟩, ⟨some 49, .lenl
 (.t 48), none⟩, ⟨some 50, .call (.c (.fn 28 [])) [(.t 46), (.c (.int .i64 0)), (.t 49)], none⟩, ⟨some 51, .un .not (.t 50), none⟩, ⟨some 44, .mv (.t 51), none⟩] [] [39, 45, 46, 47, 48, 49, 50, 51]) (.cond (.t 44) (.seq
 (.reg [⟨some 2, .mv (.c (.int .i64 1)), none⟩] [] [1, 44]) .ret) .skip))))))))) (.seq (.seq (.reg [⟨some 52, .fad 6 (.t 1), none⟩, ⟨some 53, .ld false 1 (.t 52), none⟩, ⟨some 54, .lenl (.t 53), none⟩, ⟨some 55, .mv (.c
 (.int .i64 0)), none⟩] [] [44, 52]) (.block 1 (.loop (.seq (.reg [⟨some 56, .bin .lss false false none (.t 55) (.t 54), none⟩] [] []) (.seq (.cond (.t 56) .skip (.exit 1)) (.seq (.block 2 (.seq (.reg [⟨some 57, .mv (.t
 55), none⟩, ⟨some 58, .iad 4 (.t 53) (.t 55), none⟩, ⟨some 59, .ld true 4 (.t 58), none⟩, ⟨some 4, .new [.str [], .int .i64 0, .int .i64 0, .int .i64 0], none⟩, ⟨some 3, .mv (.t 57), none⟩, ⟨none, .st 4 (.t 4) (.t 59),
 none⟩] [4] [56, 57, 58, 59]) (.seq (.seq (.reg [⟨some 60, .fad 0 (.t 4), none⟩, ⟨some 61, .ld false 1 (.t 60), none⟩, ⟨some 62, .call (.c (.fn 57 [])) [(.t 61)], none⟩, ⟨some 63, .un .not (.t 62), none⟩] [] [60, 61, 62])
 (.cond (.t 63) (.seq (.reg [⟨some 2, .mv (.c (.int .i64 5)), none⟩] [] [1, 3, 4, 53, 54, 55, 63]) .ret) .skip)) (.seq (.seq (.reg [⟨some 64, .fad 6 (.t 1), none⟩, ⟨some 65, .ld false 1 (.t 64), none⟩, ⟨some 66, .mv (.t
 3), none⟩, ⟨some 67, .slc 4 (.t 65) none (some (.t 66)) none, none⟩, ⟨some 68, .mkf 84 [(.t 4)], none⟩, ⟨some 69, .call (.c (.fn 83 [])) [(.t 67), (.t 68)], none⟩] [] [3, 63, 64, 65, 66, 67, 68]) (.cond (.t 69) (.seq
 (.reg [⟨some 2, .mv (.c (.int .i64 6)), none⟩] [] [1, 4, 53, 54, 55, 69]) .ret) .skip)) (.seq (.reg [⟨some 70, .ld true 4 (.t 4), none⟩, ⟨some 71, .call (.c (.fn 42 [])) [(.t 70)], none⟩, ⟨some 5, .mv (.t 71), none⟩] []
 [4, 69, 70, 71]) (.seq (.reg [⟨some 72, .mv (.t 5), none⟩, ⟨some 73, .bin .neq true true (some .int) (.t 72) (.c (.int .i64 0)), none⟩] [] [72]) (.cond (.t 73) (.seq (.reg [⟨some 74, .mv (.t 5), none⟩, ⟨some 2, .mv (.t
 74), none⟩] [] [1, 5, 53, 54, 55, 73, 74]) .ret) .skip))))))) (.reg [⟨some 75, .bin .add true false none (.t 55) (.c (.int .i64 1)), none⟩, ⟨some 55, .mv (.t 75), none⟩] [] [5, 73, 75]))))))) (.seq (.reg [⟨some 2, .mv
 (.c (.int .i64 0)), none⟩] [] [1, 53, 54, 55, 56]) .ret)))), [.t 2], true⟩
/- slices.ContainsFunc[[]underpin/api.Measure,underpin/api.Measure] -/
def sf61 : SFun := ⟨9, (.seq (.reg [⟨some 4, .mv (.c (.bool false)), none⟩] [] [4]) (.seq (.reg [⟨some 5, .mv (.t 0), none⟩, ⟨some 6, .mv (.t 1), none⟩, ⟨some 7, .call (.c (.fn 85 [])) [(.t 5), (.t 6)], none⟩, ⟨some 8,
 .bin .geq true false none (.t 7) (.c (.int .i64 0)), none⟩, ⟨some 4, .mv (.t 8), none⟩] [] [0, 1, 5, 6, 7, 8]) .ret)), [.t 4], false⟩
/- underpin/watch.measures$1 -/
def sf62 : SFun := ⟨9, (.seq (.reg [⟨some 2, .box true (.t 0), none⟩, ⟨some 3, .mv (.c (.bool false)), none⟩] [] [0, 3]) (.seq (.reg [⟨some 4, .fad 0 (.t 2), none⟩, ⟨some 5, .ld false 1 (.t 4), none⟩, ⟨some 6, .fad 0 (.t
 1), none⟩, ⟨some 7, .ld false 1 (.t 6), none⟩, ⟨some 8, .bin .eql false true (some .str) (.t 5) (.t 7), none⟩, ⟨some 3, .mv (.t 8), none⟩] [] [1, 2, 4, 5, 6, 7, 8]) .ret)), [.t 3], false⟩
/- underpin/watch.measures$2 -/
def sf63 : SFun := ⟨16, (.seq (.reg [⟨some 2, .box true (.t 0), none⟩, ⟨some 3, .mv (.c (.bool false)), none⟩] [] [0, 3]) (.seq (.reg [⟨some 4, .fad 1 (.t 2), none⟩, ⟨some 5, .ld false 1 (.t 4), none⟩, ⟨some 6, .fad 1 (.t
 1), none⟩, ⟨some 7, .ld false 1 (.t 6), none⟩, ⟨some 8, .bin .eql false true (some .str) (.t 5) (.t 7), none⟩, ⟨some 9, .mv (.t 8), none⟩, ⟨some 10, .fad 2 (.t 2), (some (some 9, true))⟩, ⟨some 11, .ld false 1 (.t 10),
 (some (some 9, true))⟩, ⟨some 12, .fad 2 (.t 1), (some (some 9, true))⟩, ⟨some 13, .ld false 1 (.t 12), (some (some 9, true))⟩, ⟨some 14, .bin .eql false true (some .int) (.t 11) (.t 13), (some (some 9, true))⟩, ⟨some
 15, .pick (.t 9) (.t 14) (.c (.bool false)), none⟩, ⟨some 3, .mv (.t 15), none⟩] [] [1, 2, 4, 5, 6, 7, 8, 9, 10, 11, 12, 13, 14, 15]) .ret)), [.t 3], false⟩
/- slices.IndexFunc[[]underpin/api.Alarm,underpin/api.Alarm] -/
def sf64 : SFun := ⟨19, (.seq (.reg [⟨some 4, .mv (.c (.int .i64 0)), none⟩] [] [4]) (.seq (.seq (.reg [⟨some 6, .mv (.t 0), none⟩, ⟨some 7, .lenl (.t 6), none⟩, ⟨some 8, .mv (.c (.int .i64 0)), none⟩] [] [6]) (.block 0
 (.loop (.seq (.reg [⟨some 9, .bin .lss false false none (.t 8) (.t 7), none⟩] [] []) (.seq (.cond (.t 9) .skip (.exit 0)) (.seq (.block 1 (.seq (.reg [⟨some 10, .mv (.t 8), none⟩, ⟨some 5, .mv (.t 10), none⟩] [] [9, 10])
 (.seq (.reg [⟨some 11, .mv (.t 1), none⟩, ⟨some 12, .mv (.t 0), none⟩, ⟨some 13, .mv (.t 5), none⟩, ⟨some 14, .iad 4 (.t 12) (.t 13), none⟩, ⟨some 15, .ld true 4 (.t 14), none⟩, ⟨some 16, .call (.t 11) [(.t 15)], none⟩]
 [] [11, 12, 13, 14, 15]) (.cond (.t 16) (.seq (.reg [⟨some 17, .mv (.t 5), none⟩, ⟨some 4, .mv (.t 17), none⟩] [] [0, 1, 5, 7, 8, 16, 17]) .ret) .skip)))) (.reg [⟨some 18, .bin .add true false none (.t 8) (.c (.int .i64
 1)), none⟩, ⟨some 8, .mv (.t 18), none⟩] [] [5, 16, 18]))))))) (.seq (.reg [⟨some 4, .mv (.c (.int .i64 (-1))), none⟩] [] [0, 1, 7, 8, 9]) .ret))), [.t 4], false⟩
/- underpin/underpinref07.value -/
def sf65 : SFun := ⟨9, (.seq (.reg [⟨some 2, .mv (.c (.bool false)), none⟩] [] [2]) (.seq (.reg [⟨some 3, .mv (.t 0), none⟩, ⟨some 4, .bin .geq true false none (.t 3) (.c (.int .i64 (-1000000000))), none⟩, ⟨some 5, .mv
 (.t 4), none⟩, ⟨some 6, .mv (.t 0), (some (some 5, true))⟩, ⟨some 7, .bin .leq true false none (.t 6) (.c (.int .i64 1000000000)), (some (some 5, true))⟩, ⟨some 8, .pick (.t 5) (.t 7) (.c (.bool false)), none⟩, ⟨some 2,
 .mv (.t 8), none⟩] [] [0, 3, 4, 5, 6, 7, 8]) .ret)), [.t 2], false⟩
/- underpin/watch.checkReading -/
def sf66 : SFun := ⟨25, (.seq (.reg [⟨some 2, .box true (.t 0), none⟩, ⟨some 3, .box true (.t 1), none⟩, ⟨some 4, .mv (.c (.int .i64 0)), none⟩] [] [0, 1, 4]) (.seq (.block 0 (.seq (.reg [⟨some 6, .fad 0 (.t 3), none⟩,
 ⟨some 7, .ld false 1 (.t 6), none⟩, ⟨some 8, .fad 6 (.t 2), none⟩, ⟨some 9, .ld false 1 (.t 8), none⟩, ⟨some 10, .lenl (.t 9), none⟩, ⟨some 11, .bin .sub true false none (.t 10) (.c (.int .i64 1)), none⟩, ⟨some 12, .call
 (.c (.fn 28 [])) [(.t 7), (.c (.int .i64 0)), (.t 11)], none⟩, ⟨some 13, .un .not (.t 12), none⟩, ⟨some 5, .mv (.t 13), none⟩] [] [2, 6, 7, 8, 9, 10, 11, 12, 13]) (.cond (.t 5) (.seq (.reg [⟨some 4, .mv (.c (.int .i64
 7)), none⟩] [] [3, 5]) .ret) (.seq (.reg [⟨some 15, .fad 1 (.t 3), none⟩, ⟨some 16, .ld false 1 (.t 15), none⟩, ⟨some 17, .call (.c (.fn 43 [])) [(.t 16)], none⟩, ⟨some 18, .un .not (.t 17), none⟩, ⟨some 19, .mv (.t 18),
 none⟩, ⟨some 20, .fad 2 (.t 3), (some (some 19, false))⟩, ⟨some 21, .ld false 1 (.t 20), (some (some 19, false))⟩, ⟨some 22, .call (.c (.fn 29 [])) [(.t 21)], (some (some 19, false))⟩, ⟨some 23, .un .not (.t 22), (some
 (some 19, false))⟩, ⟨some 24, .pick (.t 19) (.c (.bool true)) (.t 23), none⟩, ⟨some 14, .mv (.t 24), none⟩] [] [3, 5, 15, 16, 17, 18, 19, 20, 21, 22, 23, 24]) (.cond (.t 14) (.seq (.reg [⟨some 4, .mv (.c (.int .i64 1)),
 none⟩] [] [14]) .ret) .skip))))) (.seq (.reg [⟨some 4, .mv (.c (.int .i64 0)), none⟩] [] [14]) .ret))), [.t 4], false⟩
/- underpin/watch.anything -/
def sf67 : SFun := ⟨2, (.seq (.reg [⟨some 0, .new [.int .i64 0, .int .i64 0], none⟩] [] []) (.seq (.reg [⟨some 1, .bst [.int .i64 0, .int .i64 0] [(0, 1), (1, 1)] [(0, (.c (.int .i64 (-4000000000)))), (1, (.c (.int .i64
 4000000000)))], none⟩, ⟨none, .st 2 (.t 0) (.t 1), none⟩] [] [1]) .ret)), [.c 0 true 2], false⟩
/- underpin/watch.at -/
def sf68 : SFun := ⟨14, (.seq (.reg [⟨some 3, .box true (.t 1), none⟩, ⟨some 4, .new [.int .i64 0, .int .i64 0], none⟩] [] [1]) (.seq (.reg [⟨some 6, .mv (.t 0), none⟩, ⟨some 7, .mkf 87 [(.t 3)], none⟩, ⟨some 8, .call (.c
 (.fn 86 [])) [(.t 6), (.t 7)], none⟩, ⟨some 5, .mv (.t 8), none⟩] [] [3, 6, 7, 8]) (.seq (.reg [⟨some 9, .mv (.t 0), none⟩, ⟨some 10, .mv (.t 5), none⟩, ⟨some 11, .iad 3 (.t 9) (.t 10), none⟩, ⟨some 12, .fad 1 (.t 11),
 none⟩, ⟨some 13, .ld true 2 (.t 12), none⟩, ⟨none, .st 2 (.t 4) (.t 13), none⟩] [] [0, 5, 9, 10, 11, 12, 13]) .ret))), [.c 4 true 2], false⟩
/- slices.SortFunc[[]underpin/api.Span,underpin/api.Span] -/
def sf69 : SFun := ⟨14, (.seq (.reg [⟨some 5, .mv (.t 0), none⟩, ⟨some 6, .lenl (.t 5), none⟩, ⟨some 4, .mv (.t 6), none⟩] [] [5, 6]) (.reg [⟨some 7, .mv (.t 0), none⟩, ⟨some 8, .mv (.t 4), none⟩, ⟨some 9, .mv (.t 4),
 none⟩, ⟨some 10, .cvi .u64 (.t 9), none⟩, ⟨some 11, .call (.c (.fn 89 [])) [(.t 10)], none⟩, ⟨some 12, .mv (.t 1), none⟩, ⟨some 13, .call (.c (.fn 88 [])) [(.t 7), (.c (.int .i64 0)), (.t 8), (.t 11), (.t 12)], none⟩] []
 [0, 1, 4, 7, 8, 9, 10, 11, 12, 13])), [], true⟩
/- underpin/watch.possible$1 -/
def sf70 : SFun := ⟨10, (.seq (.reg [⟨some 2, .box true (.t 0), none⟩, ⟨some 3, .box true (.t 1), none⟩, ⟨some 4, .mv (.c (.int .i64 0)), none⟩] [] [0, 1, 4]) (.seq (.reg [⟨some 5, .fad 0 (.t 2), none⟩, ⟨some 6, .ld false
 1 (.t 5), none⟩, ⟨some 7, .fad 0 (.t 3), none⟩, ⟨some 8, .ld false 1 (.t 7), none⟩, ⟨some 9, .bin .sub false false none (.t 6) (.t 8), none⟩, ⟨some 4, .mv (.t 9), none⟩] [] [2, 3, 5, 6, 7, 8, 9]) .ret)), [.t 4], false⟩
/- underpin/watch.subsets$1 -/
def sf71 : SFun := ⟨8, (.seq (.reg [⟨some 3, .box true (.t 0), none⟩] [] [0]) (.seq (.reg [⟨some 4, .new [.nilfn], none⟩] [] []) (.seq (.reg [⟨some 5, .mkf 72 [(.t 1), (.t 3), (.t 2), (.t 4)], none⟩, ⟨none, .st 1 (.t 4)
 (.t 5), none⟩] [] [1, 2, 3, 5]) (.reg [⟨some 6, .ld false 1 (.t 4), none⟩, ⟨some 7, .call (.t 6) [(.c (.int .i64 0)), (.c (.nilsl))], none⟩] [] [4, 6, 7])))), [], false⟩
/- underpin/watch.subsets$1$1 -/
def sf72 : SFun := ⟨33, (.seq (.reg [⟨some 8, .mv (.c (.bool false)), none⟩] [] [8]) (.seq (.seq (.reg [⟨some 10, .mv (.t 1), none⟩, ⟨some 11, .lenl (.t 10), none⟩, ⟨some 12, .ld false 1 (.t 2), none⟩, ⟨some 13, .bin .eql
 false true (some .int) (.t 11) (.t 12), none⟩] [] [2, 10, 11, 12]) (.cond (.t 13) (.seq (.reg [⟨some 14, .ld false 1 (.t 3), none⟩, ⟨some 15, .mv (.t 1), none⟩, ⟨some 16, .call (.t 14) [(.t 15)], none⟩, ⟨some 8, .mv (.t
 16), none⟩] [] [0, 1, 3, 4, 5, 13, 14, 15, 16]) .ret) .skip)) (.seq (.seq (.reg [⟨some 17, .mv (.t 0), none⟩, ⟨some 9, .mv (.t 17), none⟩] [] [0, 3, 13, 17]) (.block 0 (.loop (.seq (.seq (.reg [⟨some 18, .mv (.t 9),
 none⟩, ⟨some 19, .ld false 1 (.t 4), none⟩, ⟨some 20, .bin .lss false false none (.t 18) (.t 19), none⟩] [] [18, 19]) (.cond (.t 20) .skip (.exit 0))) (.seq (.block 1 (.seq (.draw [⟨some 23, .ld false 1 (.t 5), none⟩,
 ⟨some 24, .mv (.t 9), none⟩, ⟨some 25, .bin .add true false none (.t 24) (.c (.int .i64 1)), none⟩, ⟨some 26, .mv (.t 1), none⟩, ⟨some 27, .call (.c (.fn 73 [])) [(.t 26)], none⟩, ⟨some 28, .mv (.t 9), none⟩, ⟨some 29,
 .bsl true 1 [.int .i64 0] 1 [(0, (.t 28))], none⟩, ⟨some 30, .app 1 8 (.t 27) (.t 29), none⟩, ⟨some 31, .call (.t 23) [(.t 25), (.t 30)], none⟩, ⟨some 32, .un .not (.t 31), none⟩] [(0, 0), (0, 5), (0, 8)] [] [20, 23, 24,
 25, 26, 27, 28, 29, 30, 31]) (.cond (.t 32) (.seq (.reg [⟨some 8, .mv (.c (.bool false)), none⟩] [] [1, 4, 5, 9, 32]) .ret) .skip))) (.reg [⟨some 21, .mv (.t 9), none⟩, ⟨some 22, .bin .add true false none (.t 21) (.c
 (.int .i64 1)), none⟩, ⟨some 9, .mv (.t 22), none⟩] [] [21, 22, 32])))))) (.seq (.reg [⟨some 8, .mv (.c (.bool true)), none⟩] [] [1, 4, 5, 9, 20]) .ret)))), [.t 8], false⟩
/- slices.Clone[[]int,int] -/
def sf73 : SFun := ⟨8, (.seq (.reg [⟨some 2, .mv (.c (.nilsl)), none⟩] [] [2]) (.seq (.seq (.reg [⟨some 3, .mv (.t 0), none⟩, ⟨some 4, .bin .eql true true (some .sl) (.t 3) (.c (.nilsl)), none⟩] [] [3]) (.cond (.t 4)
 (.seq (.reg [⟨some 2, .mv (.c (.nilsl)), none⟩] [] [0, 4]) .ret) .skip)) (.seq (.reg [⟨some 5, .bsl false 1 [.int .i64 0] 0 [], none⟩, ⟨some 6, .mv (.t 0), none⟩, ⟨some 7, .app 1 8 (.t 5) (.t 6), none⟩, ⟨some 2, .mv (.t
 7), none⟩] [] [0, 4, 5, 6, 7]) .ret))), [.t 2], false⟩
/- underpin/watch.meet -/
def sf74 : SFun := ⟨16, (.seq (.reg [⟨some 2, .box true (.t 0), none⟩, ⟨some 3, .box true (.t 1), none⟩, ⟨some 4, .new [.int .i64 0, .int .i64 0], none⟩] [] [0, 1]) (.seq (.reg [⟨some 5, .fad 0 (.t 2), none⟩, ⟨some 6, .ld
 false 1 (.t 5), none⟩, ⟨some 7, .fad 0 (.t 3), none⟩, ⟨some 8, .ld false 1 (.t 7), none⟩, ⟨some 9, .mnx true (.t 6) [(.t 8)], none⟩, ⟨some 10, .fad 1 (.t 2), none⟩, ⟨some 11, .ld false 1 (.t 10), none⟩, ⟨some 12, .fad 1
 (.t 3), none⟩, ⟨some 13, .ld false 1 (.t 12), none⟩, ⟨some 14, .mnx false (.t 11) [(.t 13)], none⟩, ⟨some 15, .bst [.int .i64 0, .int .i64 0] [(0, 1), (1, 1)] [(0, (.t 9)), (1, (.t 14))], none⟩, ⟨none, .st 2 (.t 4) (.t
 15), none⟩] [] [2, 3, 5, 6, 7, 8, 9, 10, 11, 12, 13, 14, 15]) .ret)), [.c 4 true 2], false⟩
/- underpin/watch.void -/
def sf75 : SFun := ⟨8, (.seq (.reg [⟨some 1, .box true (.t 0), none⟩, ⟨some 2, .mv (.c (.bool false)), none⟩] [] [0, 2]) (.seq (.reg [⟨some 3, .fad 0 (.t 1), none⟩, ⟨some 4, .ld false 1 (.t 3), none⟩, ⟨some 5, .fad 1 (.t
 1), none⟩, ⟨some 6, .ld false 1 (.t 5), none⟩, ⟨some 7, .bin .gtr false false none (.t 4) (.t 6), none⟩, ⟨some 2, .mv (.t 7), none⟩] [] [1, 3, 4, 5, 6, 7]) .ret)), [.t 2], false⟩
/- slices.Contains[[]int,int] -/
def sf76 : SFun := ⟨9, (.seq (.reg [⟨some 4, .mv (.c (.bool false)), none⟩] [] [4]) (.seq (.reg [⟨some 5, .mv (.t 0), none⟩, ⟨some 6, .mv (.t 1), none⟩, ⟨some 7, .call (.c (.fn 90 [])) [(.t 5), (.t 6)], none⟩, ⟨some 8,
 .bin .geq true false none (.t 7) (.c (.int .i64 0)), none⟩, ⟨some 4, .mv (.t 8), none⟩] [] [0, 1, 5, 6, 7, 8]) .ret)), [.t 4], false⟩
/- slices.SortStableFunc[[]underpin/watch.node,underpin/watch.node] -/
def sf77 : SFun := ⟨9, (.reg [⟨some 4, .mv (.t 0), none⟩, ⟨some 5, .mv (.t 0), none⟩, ⟨some 6, .lenl (.t 5), none⟩, ⟨some 7, .mv (.t 1), none⟩, ⟨some 8, .call (.c (.fn 91 [])) [(.t 4), (.t 6), (.t 7)], none⟩] [] [0, 1, 4,
 5, 6, 7, 8]), [], true⟩
/- underpin/watch.nodes$1 -/
def sf78 : SFun := ⟨10, (.seq (.reg [⟨some 2, .box true (.t 0), none⟩, ⟨some 3, .box true (.t 1), none⟩, ⟨some 4, .mv (.c (.int .i64 0)), none⟩] [] [0, 1, 4]) (.seq (.reg [⟨some 5, .fad 0 (.t 2), none⟩, ⟨some 6, .ld false
 1 (.t 5), none⟩, ⟨some 7, .fad 0 (.t 3), none⟩, ⟨some 8, .ld false 1 (.t 7), none⟩, ⟨some 9, .bin .sub false false none (.t 6) (.t 8), none⟩, ⟨some 4, .mv (.t 9), none⟩] [] [2, 3, 5, 6, 7, 8, 9]) .ret)), [.t 4], false⟩
/- slices.IndexFunc[[]underpin/api.Quantity,underpin/api.Quantity] -/
def sf82 : SFun := ⟨19, (.seq (.reg [⟨some 4, .mv (.c (.int .i64 0)), none⟩] [] [4]) (.seq (.seq (.reg [⟨some 6, .mv (.t 0), none⟩, ⟨some 7, .lenl (.t 6), none⟩, ⟨some 8, .mv (.c (.int .i64 0)), none⟩] [] [6]) (.block 0
 (.loop (.seq (.reg [⟨some 9, .bin .lss false false none (.t 8) (.t 7), none⟩] [] []) (.seq (.cond (.t 9) .skip (.exit 0)) (.seq (.block 1 (.seq (.reg [⟨some 10, .mv (.t 8), none⟩, ⟨some 5, .mv (.t 10), none⟩] [] [9, 10])
 (.seq (.reg [⟨some 11, .mv (.t 1), none⟩, ⟨some 12, .mv (.t 0), none⟩, ⟨some 13, .mv (.t 5), none⟩, ⟨some 14, .iad 7 (.t 12) (.t 13), none⟩, ⟨some 15, .ld true 7 (.t 14), none⟩, ⟨some 16, .call (.t 11) [(.t 15)], none⟩]
 [] [11, 12, 13, 14, 15]) (.cond (.t 16) (.seq (.reg [⟨some 17, .mv (.t 5), none⟩, ⟨some 4, .mv (.t 17), none⟩] [] [0, 1, 5, 7, 8, 16, 17]) .ret) .skip)))) (.reg [⟨some 18, .bin .add true false none (.t 8) (.c (.int .i64
 1)), none⟩, ⟨some 8, .mv (.t 18), none⟩] [] [5, 16, 18]))))))) (.seq (.reg [⟨some 4, .mv (.c (.int .i64 (-1))), none⟩] [] [0, 1, 7, 8, 9]) .ret))), [.t 4], false⟩
/- slices.ContainsFunc[[]underpin/api.Gauge,underpin/api.Gauge] -/
def sf83 : SFun := ⟨9, (.seq (.reg [⟨some 4, .mv (.c (.bool false)), none⟩] [] [4]) (.seq (.reg [⟨some 5, .mv (.t 0), none⟩, ⟨some 6, .mv (.t 1), none⟩, ⟨some 7, .call (.c (.fn 97 [])) [(.t 5), (.t 6)], none⟩, ⟨some 8,
 .bin .geq true false none (.t 7) (.c (.int .i64 0)), none⟩, ⟨some 4, .mv (.t 8), none⟩] [] [0, 1, 5, 6, 7, 8]) .ret)), [.t 4], false⟩
/- underpin/watch.checkQuantity$1 -/
def sf84 : SFun := ⟨9, (.seq (.reg [⟨some 2, .box true (.t 0), none⟩, ⟨some 3, .mv (.c (.bool false)), none⟩] [] [0, 3]) (.seq (.reg [⟨some 4, .fad 0 (.t 2), none⟩, ⟨some 5, .ld false 1 (.t 4), none⟩, ⟨some 6, .fad 0 (.t
 1), none⟩, ⟨some 7, .ld false 1 (.t 6), none⟩, ⟨some 8, .bin .eql false true (some .str) (.t 5) (.t 7), none⟩, ⟨some 3, .mv (.t 8), none⟩] [] [1, 2, 4, 5, 6, 7, 8]) .ret)), [.t 3], false⟩
/- slices.IndexFunc[[]underpin/api.Measure,underpin/api.Measure] -/
def sf85 : SFun := ⟨19, (.seq (.reg [⟨some 4, .mv (.c (.int .i64 0)), none⟩] [] [4]) (.seq (.seq (.reg [⟨some 6, .mv (.t 0), none⟩, ⟨some 7, .lenl (.t 6), none⟩, ⟨some 8, .mv (.c (.int .i64 0)), none⟩] [] [6]) (.block 0
 (.loop (.seq (.reg [⟨some 9, .bin .lss false false none (.t 8) (.t 7), none⟩] [] []) (.seq (.cond (.t 9) .skip (.exit 0)) (.seq (.block 1 (.seq (.reg [⟨some 10, .mv (.t 8), none⟩, ⟨some 5, .mv (.t 10), none⟩] [] [9, 10])
 (.seq (.reg [⟨some 11, .mv (.t 1), none⟩, ⟨some 12, .mv (.t 0), none⟩, ⟨some 13, .mv (.t 5), none⟩, ⟨some 14, .iad 5 (.t 12) (.t 13), none⟩, ⟨some 15, .ld true 5 (.t 14), none⟩, ⟨some 16, .call (.t 11) [(.t 15)], none⟩]
 [] [11, 12, 13, 14, 15]) (.cond (.t 16) (.seq (.reg [⟨some 17, .mv (.t 5), none⟩, ⟨some 4, .mv (.t 17), none⟩] [] [0, 1, 5, 7, 8, 16, 17]) .ret) .skip)))) (.reg [⟨some 18, .bin .add true false none (.t 8) (.c (.int .i64
 1)), none⟩, ⟨some 8, .mv (.t 18), none⟩] [] [5, 16, 18]))))))) (.seq (.reg [⟨some 4, .mv (.c (.int .i64 (-1))), none⟩] [] [0, 1, 7, 8, 9]) .ret))), [.t 4], false⟩
/- slices.IndexFunc[[]underpin/watch.node,underpin/watch.node] -/
def sf86 : SFun := ⟨19, (.seq (.reg [⟨some 4, .mv (.c (.int .i64 0)), none⟩] [] [4]) (.seq (.seq (.reg [⟨some 6, .mv (.t 0), none⟩, ⟨some 7, .lenl (.t 6), none⟩, ⟨some 8, .mv (.c (.int .i64 0)), none⟩] [] [6]) (.block 0
 (.loop (.seq (.reg [⟨some 9, .bin .lss false false none (.t 8) (.t 7), none⟩] [] []) (.seq (.cond (.t 9) .skip (.exit 0)) (.seq (.block 1 (.seq (.reg [⟨some 10, .mv (.t 8), none⟩, ⟨some 5, .mv (.t 10), none⟩] [] [9, 10])
 (.seq (.reg [⟨some 11, .mv (.t 1), none⟩, ⟨some 12, .mv (.t 0), none⟩, ⟨some 13, .mv (.t 5), none⟩, ⟨some 14, .iad 3 (.t 12) (.t 13), none⟩, ⟨some 15, .ld true 3 (.t 14), none⟩, ⟨some 16, .call (.t 11) [(.t 15)], none⟩]
 [] [11, 12, 13, 14, 15]) (.cond (.t 16) (.seq (.reg [⟨some 17, .mv (.t 5), none⟩, ⟨some 4, .mv (.t 17), none⟩] [] [0, 1, 5, 7, 8, 16, 17]) .ret) .skip)))) (.reg [⟨some 18, .bin .add true false none (.t 8) (.c (.int .i64
 1)), none⟩, ⟨some 8, .mv (.t 18), none⟩] [] [5, 16, 18]))))))) (.seq (.reg [⟨some 4, .mv (.c (.int .i64 (-1))), none⟩] [] [0, 1, 7, 8, 9]) .ret))), [.t 4], false⟩
/- underpin/watch.at$1 -/
def sf87 : SFun := ⟨8, (.seq (.reg [⟨some 2, .box true (.t 0), none⟩, ⟨some 3, .mv (.c (.bool false)), none⟩] [] [0, 3]) (.seq (.reg [⟨some 4, .fad 0 (.t 2), none⟩, ⟨some 5, .ld false 1 (.t 4), none⟩, ⟨some 6, .ld false 1
 (.t 1), none⟩, ⟨some 7, .bin .eql false true (some .int) (.t 5) (.t 6), none⟩, ⟨some 3, .mv (.t 7), none⟩] [] [1, 2, 4, 5, 6, 7]) .ret)), [.t 3], false⟩
/- slices.pdqsortCmpFunc[underpin/api.Span] -/
def sf88 : SFun := ⟨148, (.seq (.reg [⟨some 10, .mv (.c (.bool true)), none⟩] [] []) (.seq (.reg [⟨some 11, .mv (.c (.bool true)), none⟩] [] []) (.block 0 (.loop (.block 1 (.seq (.reg [⟨some 21, .mv (.t 2), none⟩, ⟨some
 22, .mv (.t 1), none⟩, ⟨some 23, .bin .sub false false none (.t 21) (.t 22), none⟩, ⟨some 12, .mv (.t 23), none⟩] [] [21, 22, 23]) (.seq (.seq (.reg [⟨some 24, .mv (.t 12), none⟩, ⟨some 25, .bin .leq true false none (.t
 24) (.c (.int .i64 12)), none⟩] [] [24]) (.cond (.t 25) (.seq (.reg [⟨some 26, .mv (.t 0), none⟩, ⟨some 27, .mv (.t 1), none⟩, ⟨some 28, .mv (.t 2), none⟩, ⟨some 29, .mv (.t 4), none⟩, ⟨some 30, .call (.c (.fn 98 []))
 [(.t 26), (.t 27), (.t 28), (.t 29)], none⟩] [] [0, 1, 2, 3, 4, 10, 11, 12, 25, 26, 27, 28, 29, 30]) .ret) .skip)) (.seq (.seq (.reg [⟨some 31, .mv (.t 3), none⟩, ⟨some 32, .bin .eql true true (some .int) (.t 31) (.c
 (.int .i64 0)), none⟩] [] [25, 31]) (.cond (.t 32) (.seq (.reg [⟨some 33, .mv (.t 0), none⟩, ⟨some 34, .mv (.t 1), none⟩, ⟨some 35, .mv (.t 2), none⟩, ⟨some 36, .mv (.t 4), none⟩, ⟨some 37, .call (.c (.fn 99 [])) [(.t
 33), (.t 34), (.t 35), (.t 36)], none⟩] [] [0, 1, 2, 3, 4, 10, 11, 12, 32, 33, 34, 35, 36, 37]) .ret) .skip)) (.seq (.seq (.reg [⟨some 38, .mv (.t 10), none⟩, ⟨some 39, .un .not (.t 38), none⟩] [] [32, 38]) (.cond (.t
 39) (.seq (.reg [⟨some 40, .mv (.t 0), none⟩, ⟨some 41, .mv (.t 1), none⟩, ⟨some 42, .mv (.t 2), none⟩, ⟨some 43, .mv (.t 4), none⟩, ⟨some 44, .call (.c (.fn 100 [])) [(.t 40), (.t 41), (.t 42), (.t 43)], none⟩] [] [39,
 40, 41, 42, 43, 44]) (.reg [⟨some 45, .mv (.t 3), none⟩, ⟨some 46, .bin .sub true false none (.t 45) (.c (.int .i64 1)), none⟩, ⟨some 3, .mv (.t 46), none⟩] [] [45, 46])) .skip)) (.seq (.reg [⟨some 48, .mv (.t 0), none⟩,
 ⟨some 49, .mv (.t 1), none⟩, ⟨some 50, .mv (.t 2), none⟩, ⟨some 51, .mv (.t 4), none⟩, ⟨some 52, .call (.c (.fn 101 [])) [(.t 48), (.t 49), (.t 50), (.t 51)], none⟩, ⟨some 47, .mv (.t 52), none⟩, ⟨some 53, .ext (.t 47)
 0, none⟩, ⟨some 54, .ext (.t 47) 1, none⟩, ⟨some 13, .mv (.t 53), none⟩, ⟨some 14, .mv (.t 54), none⟩] [] [39, 47, 48, 49, 50, 51, 52, 53, 54]) (.seq (.seq (.reg [⟨some 55, .mv (.t 14), none⟩, ⟨some 56, .bin .eql true
 true (some .int) (.t 55) (.c (.int .i64 2)), none⟩] [] [55]) (.cond (.t 56) (.seq (.reg [⟨some 57, .mv (.t 0), none⟩, ⟨some 58, .mv (.t 1), none⟩, ⟨some 59, .mv (.t 2), none⟩, ⟨some 60, .mv (.t 4), none⟩, ⟨some 61, .call
 (.c (.fn 102 [])) [(.t 57), (.t 58), (.t 59), (.t 60)], none⟩] [] [14, 56, 57, 58, 59, 60, 61]) (.seq (.reg [⟨some 62, .mv (.t 2), none⟩, ⟨some 63, .bin .sub true false none (.t 62) (.c (.int .i64 1)), none⟩, ⟨some 64,
 .mv (.t 13), none⟩, ⟨some 65, .mv (.t 1), none⟩, ⟨some 66, .bin .sub false false none (.t 64) (.t 65), none⟩, ⟨some 67, .bin .sub false false none (.t 63) (.t 66), none⟩, ⟨some 13, .mv (.t 67), none⟩] [] [62, 63, 64, 65,
 66, 67]) (.reg [⟨some 14, .mv (.c (.int .i64 1)), none⟩] [] []))) .skip)) (.seq (.seq (.reg [⟨some 68, .mv (.t 10), none⟩, ⟨some 69, .mv (.t 68), none⟩, ⟨some 70, .mv (.t 11), (some (some 69, true))⟩, ⟨some 71, .pick (.t
 69) (.t 70) (.c (.bool false)), none⟩, ⟨some 72, .mv (.t 71), none⟩, ⟨some 73, .mv (.t 14), (some (some 72, true))⟩, ⟨some 74, .bin .eql true true (some .int) (.t 73) (.c (.int .i64 1)), (some (some 72, true))⟩, ⟨some
 75, .pick (.t 72) (.t 74) (.c (.bool false)), none⟩] [] [14, 56, 68, 69, 70, 71, 72, 73, 74]) (.cond (.t 75) (.seq (.reg [⟨some 76, .mv (.t 0), none⟩, ⟨some 77, .mv (.t 1), none⟩, ⟨some 78, .mv (.t 2), none⟩, ⟨some 79,
 .mv (.t 4), none⟩, ⟨some 80, .call (.c (.fn 103 [])) [(.t 76), (.t 77), (.t 78), (.t 79)], none⟩] [] [75, 76, 77, 78, 79]) (.cond (.t 80) .ret .skip)) .skip)) (.seq (.seq (.draw [⟨some 81, .mv (.t 1), none⟩, ⟨some 82,
 .bin .gtr true false none (.t 81) (.c (.int .i64 0)), none⟩, ⟨some 83, .mv (.t 82), none⟩, ⟨some 84, .mv (.t 4), (some (some 83, true))⟩, ⟨some 85, .mv (.t 0), (some (some 83, true))⟩, ⟨some 86, .mv (.t 1), (some (some
 83, true))⟩, ⟨some 87, .bin .sub true false none (.t 86) (.c (.int .i64 1)), (some (some 83, true))⟩, ⟨some 88, .iad 2 (.t 85) (.t 87), (some (some 83, true))⟩, ⟨some 89, .ld true 2 (.t 88), (some (some 83, true))⟩,
 ⟨some 90, .mv (.t 0), (some (some 83, true))⟩, ⟨some 91, .mv (.t 13), (some (some 83, true))⟩, ⟨some 92, .iad 2 (.t 90) (.t 91), (some (some 83, true))⟩, ⟨some 93, .ld true 2 (.t 92), (some (some 83, true))⟩, ⟨some 94,
 .call (.t 84) [(.t 89), (.t 93)], (some (some 83, true))⟩, ⟨some 95, .bin .lss true false none (.t 94) (.c (.int .i64 0)), (some (some 83, true))⟩, ⟨some 96, .un .not (.t 95), (some (some 83, true))⟩, ⟨some 97, .pick (.t
 83) (.t 96) (.c (.bool false)), none⟩] [(7, 0), (8, 0), (11, 0), (12, 0)] [] [75, 80, 81, 82, 83, 84, 85, 86, 87, 88, 89, 90, 91, 92, 93, 94, 95, 96]) (.cond (.t 97) (.seq (.reg [⟨some 98, .mv (.t 0), none⟩, ⟨some 99,
 .mv (.t 1), none⟩, ⟨some 100, .mv (.t 2), none⟩, ⟨some 101, .mv (.t 13), none⟩, ⟨some 102, .mv (.t 4), none⟩, ⟨some 103, .call (.c (.fn 104 [])) [(.t 98), (.t 99), (.t 100), (.t 101), (.t 102)], none⟩, ⟨some 15, .mv (.t
 103), none⟩] [] [1, 12, 13, 97, 98, 99, 100, 101, 102, 103]) (.seq (.reg [⟨some 104, .mv (.t 15), none⟩, ⟨some 1, .mv (.t 104), none⟩] [] [15, 104]) (.exit 1))) .skip)) (.seq (.reg [⟨some 106, .mv (.t 0), none⟩, ⟨some
 107, .mv (.t 1), none⟩, ⟨some 108, .mv (.t 2), none⟩, ⟨some 109, .mv (.t 13), none⟩, ⟨some 110, .mv (.t 4), none⟩, ⟨some 111, .call (.c (.fn 105 [])) [(.t 106), (.t 107), (.t 108), (.t 109), (.t 110)], none⟩, ⟨some 105,
 .mv (.t 111), none⟩, ⟨some 112, .ext (.t 105) 0, none⟩, ⟨some 113, .ext (.t 105) 1, none⟩, ⟨some 16, .mv (.t 112), none⟩, ⟨some 17, .mv (.t 113), none⟩] [] [10, 11, 13, 97, 105, 106, 107, 108, 109, 110, 111, 112, 113])
 (.seq (.reg [⟨some 114, .mv (.t 17), none⟩, ⟨some 11, .mv (.t 114), none⟩] [] [17, 114]) (.seq (.reg [⟨some 115, .mv (.t 16), none⟩, ⟨some 116, .mv (.t 1), none⟩, ⟨some 117, .bin .sub false false none (.t 115) (.t 116),
 none⟩, ⟨some 118, .mv (.t 2), none⟩, ⟨some 119, .mv (.t 16), none⟩, ⟨some 120, .bin .sub false false none (.t 118) (.t 119), none⟩, ⟨some 18, .mv (.t 117), none⟩, ⟨some 19, .mv (.t 120), none⟩] [] [115, 116, 117, 118,
 119, 120]) (.seq (.reg [⟨some 121, .mv (.t 12), none⟩, ⟨some 122, .bin .quo true false none (.t 121) (.c (.int .i64 8)), none⟩, ⟨some 20, .mv (.t 122), none⟩] [] [12, 121, 122]) (.seq (.reg [⟨some 123, .mv (.t 18),
 none⟩, ⟨some 124, .mv (.t 19), none⟩, ⟨some 125, .bin .lss false false none (.t 123) (.t 124), none⟩] [] [123, 124]) (.cond (.t 125) (.seq (.reg [⟨some 126, .mv (.t 18), none⟩, ⟨some 127, .mv (.t 20), none⟩, ⟨some 128,
 .bin .geq false false none (.t 126) (.t 127), none⟩, ⟨some 10, .mv (.t 128), none⟩] [] [18, 19, 20, 125, 126, 127, 128]) (.seq (.reg [⟨some 129, .mv (.t 0), none⟩, ⟨some 130, .mv (.t 1), none⟩, ⟨some 131, .mv (.t 16),
 none⟩, ⟨some 132, .mv (.t 3), none⟩, ⟨some 133, .mv (.t 4), none⟩, ⟨some 134, .call (.c (.fn 88 [])) [(.t 129), (.t 130), (.t 131), (.t 132), (.t 133)], none⟩] [] [1, 129, 130, 131, 132, 133, 134]) (.reg [⟨some 135, .mv
 (.t 16), none⟩, ⟨some 136, .bin .add true false none (.t 135) (.c (.int .i64 1)), none⟩, ⟨some 1, .mv (.t 136), none⟩] [] [16, 135, 136]))) (.seq (.reg [⟨some 137, .mv (.t 19), none⟩, ⟨some 138, .mv (.t 20), none⟩, ⟨some
 139, .bin .geq false false none (.t 137) (.t 138), none⟩, ⟨some 10, .mv (.t 139), none⟩] [] [18, 19, 20, 125, 137, 138, 139]) (.seq (.reg [⟨some 140, .mv (.t 0), none⟩, ⟨some 141, .mv (.t 16), none⟩, ⟨some 142, .bin .add
 true false none (.t 141) (.c (.int .i64 1)), none⟩, ⟨some 143, .mv (.t 2), none⟩, ⟨some 144, .mv (.t 3), none⟩, ⟨some 145, .mv (.t 4), none⟩, ⟨some 146, .call (.c (.fn 88 [])) [(.t 140), (.t 142), (.t 143), (.t 144), (.t
 145)], none⟩] [] [2, 140, 141, 142, 143, 144, 145, 146]) (.reg [⟨some 147, .mv (.t 16), none⟩, ⟨some 2, .mv (.t 147), none⟩] [] [16, 147])))))))))))))))))))))), [], true⟩
/- math/bits.Len -/
def sf89 : SFun := ⟨8, (.seq (.reg [⟨some 2, .mv (.c (.int .i64 0)), none⟩] [] [2]) (.seq (.cond (.c (.bool false)) (.seq (.reg [⟨some 3, .mv (.t 0), none⟩, ⟨some 4, .cvi .u32 (.t 3), none⟩, ⟨some 5, .call (.c (.fn 106
 [])) [(.t 4)], none⟩, ⟨some 2, .mv (.t 5), none⟩] [] [0, 3, 4, 5]) .ret) .skip) (.seq (.reg [⟨some 6, .mv (.t 0), none⟩, ⟨some 7, .call (.c (.fn 107 [])) [(.t 6)], none⟩, ⟨some 2, .mv (.t 7), none⟩] [] [0, 6, 7])
 .ret))), [.t 2], false⟩
/- slices.Index[[]int,int] -/
def sf90 : SFun := ⟨19, (.seq (.reg [⟨some 4, .mv (.c (.int .i64 0)), none⟩] [] [4]) (.seq (.seq (.reg [⟨some 6, .mv (.t 0), none⟩, ⟨some 7, .lenl (.t 6), none⟩, ⟨some 8, .mv (.c (.int .i64 0)), none⟩] [] [6]) (.block 0
 (.loop (.seq (.reg [⟨some 9, .bin .lss false false none (.t 8) (.t 7), none⟩] [] []) (.seq (.cond (.t 9) .skip (.exit 0)) (.seq (.block 1 (.seq (.reg [⟨some 10, .mv (.t 8), none⟩, ⟨some 5, .mv (.t 10), none⟩] [] [9, 10])
 (.seq (.reg [⟨some 11, .mv (.t 1), none⟩, ⟨some 12, .mv (.t 0), none⟩, ⟨some 13, .mv (.t 5), none⟩, ⟨some 14, .iad 1 (.t 12) (.t 13), none⟩, ⟨some 15, .ld false 1 (.t 14), none⟩, ⟨some 16, .bin .eql false true (some
 .int) (.t 11) (.t 15), none⟩] [] [11, 12, 13, 14, 15]) (.cond (.t 16) (.seq (.reg [⟨some 17, .mv (.t 5), none⟩, ⟨some 4, .mv (.t 17), none⟩] [] [0, 1, 5, 7, 8, 16, 17]) .ret) .skip)))) (.reg [⟨some 18, .bin .add true
 false none (.t 8) (.c (.int .i64 1)), none⟩, ⟨some 8, .mv (.t 18), none⟩] [] [5, 16, 18]))))))) (.seq (.reg [⟨some 4, .mv (.c (.int .i64 (-1))), none⟩] [] [0, 1, 7, 8, 9]) .ret))), [.t 4], false⟩
/- slices.stableCmpFunc[underpin/watch.node] -/
def sf91 : SFun := ⟨63, (.seq (.reg [⟨some 6, .mv (.c (.int .i64 20)), none⟩] [] []) (.seq (.reg [⟨some 10, .mv (.t 6), none⟩, ⟨some 7, .mv (.c (.int .i64 0)), none⟩, ⟨some 8, .mv (.t 10), none⟩] [] [10]) (.seq (.block 0
 (.loop (.seq (.seq (.reg [⟨some 11, .mv (.t 8), none⟩, ⟨some 12, .mv (.t 1), none⟩, ⟨some 13, .bin .leq false false none (.t 11) (.t 12), none⟩] [] [11, 12]) (.cond (.t 13) .skip (.exit 0))) (.block 1 (.seq (.reg [⟨some
 14, .mv (.t 0), none⟩, ⟨some 15, .mv (.t 7), none⟩, ⟨some 16, .mv (.t 8), none⟩, ⟨some 17, .mv (.t 2), none⟩, ⟨some 18, .call (.c (.fn 108 [])) [(.t 14), (.t 15), (.t 16), (.t 17)], none⟩] [] [7, 13, 14, 15, 16, 17, 18])
 (.seq (.reg [⟨some 19, .mv (.t 8), none⟩, ⟨some 7, .mv (.t 19), none⟩] [] [19]) (.reg [⟨some 20, .mv (.t 8), none⟩, ⟨some 21, .mv (.t 6), none⟩, ⟨some 22, .bin .add false false none (.t 20) (.t 21), none⟩, ⟨some 8, .mv
 (.t 22), none⟩] [] [20, 21, 22]))))))) (.seq (.reg [⟨some 23, .mv (.t 0), none⟩, ⟨some 24, .mv (.t 7), none⟩, ⟨some 25, .mv (.t 1), none⟩, ⟨some 26, .mv (.t 2), none⟩, ⟨some 27, .call (.c (.fn 108 [])) [(.t 23), (.t 24),
 (.t 25), (.t 26)], none⟩] [] [7, 8, 13, 23, 24, 25, 26, 27]) (.block 2 (.loop (.seq (.seq (.reg [⟨some 28, .mv (.t 6), none⟩, ⟨some 29, .mv (.t 1), none⟩, ⟨some 30, .bin .lss false false none (.t 28) (.t 29), none⟩] []
 [28, 29]) (.cond (.t 30) .skip (.exit 2))) (.block 3 (.seq (.reg [⟨some 31, .mv (.t 6), none⟩, ⟨some 32, .bin .mul true false none (.c (.int .i64 2)) (.t 31), none⟩, ⟨some 7, .mv (.c (.int .i64 0)), none⟩, ⟨some 8, .mv
 (.t 32), none⟩] [] [30, 31, 32]) (.seq (.block 4 (.loop (.seq (.seq (.reg [⟨some 33, .mv (.t 8), none⟩, ⟨some 34, .mv (.t 1), none⟩, ⟨some 35, .bin .leq false false none (.t 33) (.t 34), none⟩] [] [33, 34]) (.cond (.t
 35) .skip (.exit 4))) (.block 5 (.seq (.reg [⟨some 36, .mv (.t 0), none⟩, ⟨some 37, .mv (.t 7), none⟩, ⟨some 38, .mv (.t 7), none⟩, ⟨some 39, .mv (.t 6), none⟩, ⟨some 40, .bin .add false false none (.t 38) (.t 39),
 none⟩, ⟨some 41, .mv (.t 8), none⟩, ⟨some 42, .mv (.t 2), none⟩, ⟨some 43, .call (.c (.fn 109 [])) [(.t 36), (.t 37), (.t 40), (.t 41), (.t 42)], none⟩] [] [7, 35, 36, 37, 38, 39, 40, 41, 42, 43]) (.seq (.reg [⟨some 44,
 .mv (.t 8), none⟩, ⟨some 7, .mv (.t 44), none⟩] [] [44]) (.reg [⟨some 45, .mv (.t 8), none⟩, ⟨some 46, .mv (.t 6), none⟩, ⟨some 47, .bin .mul true false none (.c (.int .i64 2)) (.t 46), none⟩, ⟨some 48, .bin .add false
 false none (.t 45) (.t 47), none⟩, ⟨some 8, .mv (.t 48), none⟩] [] [45, 46, 47, 48]))))))) (.seq (.seq (.reg [⟨some 49, .mv (.t 7), none⟩, ⟨some 50, .mv (.t 6), none⟩, ⟨some 51, .bin .add false false none (.t 49) (.t
 50), none⟩, ⟨some 9, .mv (.t 51), none⟩] [] [8, 35, 49, 50, 51]) (.seq (.reg [⟨some 52, .mv (.t 9), none⟩, ⟨some 53, .mv (.t 1), none⟩, ⟨some 54, .bin .lss false false none (.t 52) (.t 53), none⟩] [] [52, 53]) (.cond (.t
 54) (.reg [⟨some 55, .mv (.t 0), none⟩, ⟨some 56, .mv (.t 7), none⟩, ⟨some 57, .mv (.t 9), none⟩, ⟨some 58, .mv (.t 1), none⟩, ⟨some 59, .mv (.t 2), none⟩, ⟨some 60, .call (.c (.fn 109 [])) [(.t 55), (.t 56), (.t 57),
 (.t 58), (.t 59)], none⟩] [] [7, 9, 54, 55, 56, 57, 58, 59, 60]) .skip))) (.reg [⟨some 61, .mv (.t 6), none⟩, ⟨some 62, .bin .mul true false none (.t 61) (.c (.int .i64 2)), none⟩, ⟨some 6, .mv (.t 62), none⟩] [] [7, 9,
 54, 61, 62])))))))))))), [], false⟩
/- slices.IndexFunc[[]underpin/api.Gauge,underpin/api.Gauge] -/
def sf97 : SFun := ⟨19, (.seq (.reg [⟨some 4, .mv (.c (.int .i64 0)), none⟩] [] [4]) (.seq (.seq (.reg [⟨some 6, .mv (.t 0), none⟩, ⟨some 7, .lenl (.t 6), none⟩, ⟨some 8, .mv (.c (.int .i64 0)), none⟩] [] [6]) (.block 0
 (.loop (.seq (.reg [⟨some 9, .bin .lss false false none (.t 8) (.t 7), none⟩] [] []) (.seq (.cond (.t 9) .skip (.exit 0)) (.seq (.block 1 (.seq (.reg [⟨some 10, .mv (.t 8), none⟩, ⟨some 5, .mv (.t 10), none⟩] [] [9, 10])
 (.seq (.reg [⟨some 11, .mv (.t 1), none⟩, ⟨some 12, .mv (.t 0), none⟩, ⟨some 13, .mv (.t 5), none⟩, ⟨some 14, .iad 4 (.t 12) (.t 13), none⟩, ⟨some 15, .ld true 4 (.t 14), none⟩, ⟨some 16, .call (.t 11) [(.t 15)], none⟩]
 [] [11, 12, 13, 14, 15]) (.cond (.t 16) (.seq (.reg [⟨some 17, .mv (.t 5), none⟩, ⟨some 4, .mv (.t 17), none⟩] [] [0, 1, 5, 7, 8, 16, 17]) .ret) .skip)))) (.reg [⟨some 18, .bin .add true false none (.t 8) (.c (.int .i64
 1)), none⟩, ⟨some 8, .mv (.t 18), none⟩] [] [5, 16, 18]))))))) (.seq (.reg [⟨some 4, .mv (.c (.int .i64 (-1))), none⟩] [] [0, 1, 7, 8, 9]) .ret))), [.t 4], false⟩
/- slices.insertionSortCmpFunc[underpin/api.Span] -/
def sf98 : SFun := ⟨53, (.seq (.reg [⟨some 10, .mv (.t 1), none⟩, ⟨some 11, .bin .add true false none (.t 10) (.c (.int .i64 1)), none⟩, ⟨some 8, .mv (.t 11), none⟩] [] [10, 11]) (.block 0 (.loop (.seq (.seq (.reg [⟨some
 12, .mv (.t 8), none⟩, ⟨some 13, .mv (.t 2), none⟩, ⟨some 14, .bin .lss false false none (.t 12) (.t 13), none⟩] [] [12, 13]) (.cond (.t 14) .skip (.exit 0))) (.seq (.block 1 (.seq (.reg [⟨some 17, .mv (.t 8), none⟩,
 ⟨some 9, .mv (.t 17), none⟩] [] [14, 17]) (.block 2 (.loop (.seq (.seq (.draw [⟨some 18, .mv (.t 9), none⟩, ⟨some 19, .mv (.t 1), none⟩, ⟨some 20, .bin .gtr false false none (.t 18) (.t 19), none⟩, ⟨some 21, .mv (.t 20),
 none⟩, ⟨some 22, .mv (.t 3), (some (some 21, true))⟩, ⟨some 23, .mv (.t 0), (some (some 21, true))⟩, ⟨some 24, .mv (.t 9), (some (some 21, true))⟩, ⟨some 25, .iad 2 (.t 23) (.t 24), (some (some 21, true))⟩, ⟨some 26, .ld
 true 2 (.t 25), (some (some 21, true))⟩, ⟨some 27, .mv (.t 0), (some (some 21, true))⟩, ⟨some 28, .mv (.t 9), (some (some 21, true))⟩, ⟨some 29, .bin .sub true false none (.t 28) (.c (.int .i64 1)), (some (some 21,
 true))⟩, ⟨some 30, .iad 2 (.t 27) (.t 29), (some (some 21, true))⟩, ⟨some 31, .ld true 2 (.t 30), (some (some 21, true))⟩, ⟨some 32, .call (.t 22) [(.t 26), (.t 31)], (some (some 21, true))⟩, ⟨some 33, .bin .lss true
 false none (.t 32) (.c (.int .i64 0)), (some (some 21, true))⟩, ⟨some 34, .pick (.t 21) (.t 33) (.c (.bool false)), none⟩] [(7, 0), (8, 0), (12, 0), (13, 0)] [] [18, 19, 20, 21, 22, 23, 24, 25, 26, 27, 28, 29, 30, 31,
 32, 33]) (.cond (.t 34) .skip (.exit 2))) (.seq (.block 3 (.draw [⟨some 37, .mv (.t 0), none⟩, ⟨some 38, .mv (.t 9), none⟩, ⟨some 39, .mv (.t 0), none⟩, ⟨some 40, .mv (.t 9), none⟩, ⟨some 41, .bin .sub true false none
 (.t 40) (.c (.int .i64 1)), none⟩, ⟨some 42, .mv (.t 0), none⟩, ⟨some 43, .mv (.t 9), none⟩, ⟨some 44, .bin .sub true false none (.t 43) (.c (.int .i64 1)), none⟩, ⟨some 45, .iad 2 (.t 42) (.t 44), none⟩, ⟨some 46, .ld
 true 2 (.t 45), none⟩, ⟨some 47, .mv (.t 0), none⟩, ⟨some 48, .mv (.t 9), none⟩, ⟨some 49, .iad 2 (.t 47) (.t 48), none⟩, ⟨some 50, .ld true 2 (.t 49), none⟩, ⟨some 51, .iad 2 (.t 37) (.t 38), none⟩, ⟨none, .st 2 (.t 51)
 (.t 46), none⟩, ⟨some 52, .iad 2 (.t 39) (.t 41), none⟩, ⟨none, .st 2 (.t 52) (.t 50), none⟩] [(8, 0), (9, 0), (12, 0), (13, 0), (14, 0), (16, 16)] [] [34, 37, 38, 39, 40, 41, 42, 43, 44, 45, 46, 47, 48, 49, 50, 51,
 52])) (.reg [⟨some 35, .mv (.t 9), none⟩, ⟨some 36, .bin .sub true false none (.t 35) (.c (.int .i64 1)), none⟩, ⟨some 9, .mv (.t 36), none⟩] [] [35, 36]))))))) (.reg [⟨some 15, .mv (.t 8), none⟩, ⟨some 16, .bin .add
 true false none (.t 15) (.c (.int .i64 1)), none⟩, ⟨some 8, .mv (.t 16), none⟩] [] [9, 15, 16, 34])))))), [], false⟩
/- math/bits.Len32 -/
def sf106 : SFun := ⟨19, (.seq (.reg [⟨some 2, .mv (.c (.int .i64 0)), none⟩] [] []) (.seq (.seq (.reg [⟨some 3, .mv (.t 0), none⟩, ⟨some 4, .bin .geq true false none (.t 3) (.c (.int .u32 65536)), none⟩] [] [3]) (.cond
 (.t 4) (.seq (.reg [⟨some 5, .mv (.t 0), none⟩, ⟨some 6, .bin .shr true false none (.t 5) (.c (.int .u64 16)), none⟩, ⟨some 0, .mv (.t 6), none⟩] [] [2, 4, 5, 6]) (.reg [⟨some 2, .mv (.c (.int .i64 16)), none⟩] [] []))
 .skip)) (.seq (.seq (.reg [⟨some 7, .mv (.t 0), none⟩, ⟨some 8, .bin .geq true false none (.t 7) (.c (.int .u32 256)), none⟩] [] [4, 7]) (.cond (.t 8) (.seq (.reg [⟨some 9, .mv (.t 0), none⟩, ⟨some 10, .bin .shr true
 false none (.t 9) (.c (.int .u64 8)), none⟩, ⟨some 0, .mv (.t 10), none⟩] [] [8, 9, 10]) (.reg [⟨some 11, .mv (.t 2), none⟩, ⟨some 12, .bin .add true false none (.t 11) (.c (.int .i64 8)), none⟩, ⟨some 2, .mv (.t 12),
 none⟩] [] [11, 12])) .skip)) (.seq (.reg [⟨some 13, .mv (.t 2), none⟩, ⟨some 14, .mv (.t 0), none⟩, ⟨some 15, .cvi .u8 (.t 14), none⟩, ⟨some 16, .ixs (.c (.str
 [0,1,2,2,3,3,3,3,4,4,4,4,4,4,4,4,5,5,5,5,5,5,5,5,5,5,5,5,5,5,5,5,6,6,6,6,6,6,6,6,6,6,6,6,6,6,6,6,6,6,6,6,6,6,6,6,6,6,6,6,6,6,6,6,7,7,7,7,7,7,7,7,7,7,7,7,7,7,7,7,7,7,7,7,7,7,7,7,7,7,7,7,7,7,7,7,7,7,7,7,7,7,7,7,7,7,7,7,7,7,7,7,7,7,7,7,7,7,7,7,7,7,7,7,7,7,7,7,8,8,8,8,8,8,8,8,8,8,8,8,8,8,8,8,8,8,8,8,8,8,8,8,8,8,8,8,8,8,8,8,8,8,8,8,8,8,8,8,8,8,8,8,8,8,8,8,8,8,8,8,8,8,8,8,8,8,8,8,8,8,8,8,8,8,8,8,8,8,8,8,8,8,8,8,8,8,8,8,8,8,8,8,8,8,8,8,8,8,8,8,8,8,8,8,8,8,8,8,8,8,8,8,8,8,8,8,8,8,8,8,8,8,8,8,8,8,8,8,8,8,8,8,8,8,8,8]))
 (.t 15), none⟩, ⟨some 17, .cvi .i64 (.t 16), none⟩, ⟨some 18, .bin .add false false none (.t 13) (.t 17), none⟩, ⟨some 2, .mv (.t 18), none⟩] [] [0, 8, 13, 14, 15, 16, 17, 18]) .ret)))), [.t 2], false⟩
/- math/bits.Len64 -/
def sf107 : SFun := ⟨25, (.seq (.reg [⟨some 2, .mv (.c (.int .i64 0)), none⟩] [] []) (.seq (.seq (.reg [⟨some 3, .mv (.t 0), none⟩, ⟨some 4, .bin .geq true false none (.t 3) (.c (.int .u64 4294967296)), none⟩] [] [3])
 (.cond (.t 4) (.seq (.reg [⟨some 5, .mv (.t 0), none⟩, ⟨some 6, .bin .shr true false none (.t 5) (.c (.int .u64 32)), none⟩, ⟨some 0, .mv (.t 6), none⟩] [] [2, 4, 5, 6]) (.reg [⟨some 2, .mv (.c (.int .i64 32)), none⟩] []
 [])) .skip)) (.seq (.seq (.reg [⟨some 7, .mv (.t 0), none⟩, ⟨some 8, .bin .geq true false none (.t 7) (.c (.int .u64 65536)), none⟩] [] [4, 7]) (.cond (.t 8) (.seq (.reg [⟨some 9, .mv (.t 0), none⟩, ⟨some 10, .bin .shr
 true false none (.t 9) (.c (.int .u64 16)), none⟩, ⟨some 0, .mv (.t 10), none⟩] [] [8, 9, 10]) (.reg [⟨some 11, .mv (.t 2), none⟩, ⟨some 12, .bin .add true false none (.t 11) (.c (.int .i64 16)), none⟩, ⟨some 2, .mv (.t
 12), none⟩] [] [11, 12])) .skip)) (.seq (.seq (.reg [⟨some 13, .mv (.t 0), none⟩, ⟨some 14, .bin .geq true false none (.t 13) (.c (.int .u64 256)), none⟩] [] [8, 13]) (.cond (.t 14) (.seq (.reg [⟨some 15, .mv (.t 0),
 none⟩, ⟨some 16, .bin .shr true false none (.t 15) (.c (.int .u64 8)), none⟩, ⟨some 0, .mv (.t 16), none⟩] [] [14, 15, 16]) (.reg [⟨some 17, .mv (.t 2), none⟩, ⟨some 18, .bin .add true false none (.t 17) (.c (.int .i64
 8)), none⟩, ⟨some 2, .mv (.t 18), none⟩] [] [17, 18])) .skip)) (.seq (.reg [⟨some 19, .mv (.t 2), none⟩, ⟨some 20, .mv (.t 0), none⟩, ⟨some 21, .cvi .u8 (.t 20), none⟩, ⟨some 22, .ixs (.c (.str
 [0,1,2,2,3,3,3,3,4,4,4,4,4,4,4,4,5,5,5,5,5,5,5,5,5,5,5,5,5,5,5,5,6,6,6,6,6,6,6,6,6,6,6,6,6,6,6,6,6,6,6,6,6,6,6,6,6,6,6,6,6,6,6,6,7,7,7,7,7,7,7,7,7,7,7,7,7,7,7,7,7,7,7,7,7,7,7,7,7,7,7,7,7,7,7,7,7,7,7,7,7,7,7,7,7,7,7,7,7,7,7,7,7,7,7,7,7,7,7,7,7,7,7,7,7,7,7,7,8,8,8,8,8,8,8,8,8,8,8,8,8,8,8,8,8,8,8,8,8,8,8,8,8,8,8,8,8,8,8,8,8,8,8,8,8,8,8,8,8,8,8,8,8,8,8,8,8,8,8,8,8,8,8,8,8,8,8,8,8,8,8,8,8,8,8,8,8,8,8,8,8,8,8,8,8,8,8,8,8,8,8,8,8,8,8,8,8,8,8,8,8,8,8,8,8,8,8,8,8,8,8,8,8,8,8,8,8,8,8,8,8,8,8,8,8,8,8,8,8,8,8,8,8,8,8,8]))
 (.t 21), none⟩, ⟨some 23, .cvi .i64 (.t 22), none⟩, ⟨some 24, .bin .add false false none (.t 19) (.t 23), none⟩, ⟨some 2, .mv (.t 24), none⟩] [] [0, 14, 19, 20, 21, 22, 23, 24]) .ret))))), [.t 2], false⟩
/- slices.insertionSortCmpFunc[underpin/watch.node] -/
def sf108 : SFun := ⟨53, (.seq (.reg [⟨some 10, .mv (.t 1), none⟩, ⟨some 11, .bin .add true false none (.t 10) (.c (.int .i64 1)), none⟩, ⟨some 8, .mv (.t 11), none⟩] [] [10, 11]) (.block 0 (.loop (.seq (.seq (.reg [⟨some
 12, .mv (.t 8), none⟩, ⟨some 13, .mv (.t 2), none⟩, ⟨some 14, .bin .lss false false none (.t 12) (.t 13), none⟩] [] [12, 13]) (.cond (.t 14) .skip (.exit 0))) (.seq (.block 1 (.seq (.reg [⟨some 17, .mv (.t 8), none⟩,
 ⟨some 9, .mv (.t 17), none⟩] [] [14, 17]) (.block 2 (.loop (.seq (.seq (.draw [⟨some 18, .mv (.t 9), none⟩, ⟨some 19, .mv (.t 1), none⟩, ⟨some 20, .bin .gtr false false none (.t 18) (.t 19), none⟩, ⟨some 21, .mv (.t 20),
 none⟩, ⟨some 22, .mv (.t 3), (some (some 21, true))⟩, ⟨some 23, .mv (.t 0), (some (some 21, true))⟩, ⟨some 24, .mv (.t 9), (some (some 21, true))⟩, ⟨some 25, .iad 3 (.t 23) (.t 24), (some (some 21, true))⟩, ⟨some 26, .ld
 true 3 (.t 25), (some (some 21, true))⟩, ⟨some 27, .mv (.t 0), (some (some 21, true))⟩, ⟨some 28, .mv (.t 9), (some (some 21, true))⟩, ⟨some 29, .bin .sub true false none (.t 28) (.c (.int .i64 1)), (some (some 21,
 true))⟩, ⟨some 30, .iad 3 (.t 27) (.t 29), (some (some 21, true))⟩, ⟨some 31, .ld true 3 (.t 30), (some (some 21, true))⟩, ⟨some 32, .call (.t 22) [(.t 26), (.t 31)], (some (some 21, true))⟩, ⟨some 33, .bin .lss true
 false none (.t 32) (.c (.int .i64 0)), (some (some 21, true))⟩, ⟨some 34, .pick (.t 21) (.t 33) (.c (.bool false)), none⟩] [(7, 0), (8, 0), (12, 0), (13, 0)] [] [18, 19, 20, 21, 22, 23, 24, 25, 26, 27, 28, 29, 30, 31,
 32, 33]) (.cond (.t 34) .skip (.exit 2))) (.seq (.block 3 (.draw [⟨some 37, .mv (.t 0), none⟩, ⟨some 38, .mv (.t 9), none⟩, ⟨some 39, .mv (.t 0), none⟩, ⟨some 40, .mv (.t 9), none⟩, ⟨some 41, .bin .sub true false none
 (.t 40) (.c (.int .i64 1)), none⟩, ⟨some 42, .mv (.t 0), none⟩, ⟨some 43, .mv (.t 9), none⟩, ⟨some 44, .bin .sub true false none (.t 43) (.c (.int .i64 1)), none⟩, ⟨some 45, .iad 3 (.t 42) (.t 44), none⟩, ⟨some 46, .ld
 true 3 (.t 45), none⟩, ⟨some 47, .mv (.t 0), none⟩, ⟨some 48, .mv (.t 9), none⟩, ⟨some 49, .iad 3 (.t 47) (.t 48), none⟩, ⟨some 50, .ld true 3 (.t 49), none⟩, ⟨some 51, .iad 3 (.t 37) (.t 38), none⟩, ⟨none, .st 3 (.t 51)
 (.t 46), none⟩, ⟨some 52, .iad 3 (.t 39) (.t 41), none⟩, ⟨none, .st 3 (.t 52) (.t 50), none⟩] [(8, 0), (9, 0), (12, 0), (13, 0), (14, 0), (16, 16)] [] [34, 37, 38, 39, 40, 41, 42, 43, 44, 45, 46, 47, 48, 49, 50, 51,
 52])) (.reg [⟨some 35, .mv (.t 9), none⟩, ⟨some 36, .bin .sub true false none (.t 35) (.c (.int .i64 1)), none⟩, ⟨some 9, .mv (.t 36), none⟩] [] [35, 36]))))))) (.reg [⟨some 15, .mv (.t 8), none⟩, ⟨some 16, .bin .add
 true false none (.t 15) (.c (.int .i64 1)), none⟩, ⟨some 8, .mv (.t 16), none⟩] [] [9, 15, 16, 34])))))), [], false⟩
def funT : BT SFun := (.node (.node (.node (.node (.node (.node (.node .leaf 3 sf3 .leaf) 4 sf4 .leaf) 5 sf5 (.node (.node .leaf 6 sf6 .leaf) 7 sf7 .leaf)) 8 sf8 (.node (.node (.node .leaf 9 sf9 .leaf) 10 sf10 .leaf) 11 sf11 (.node .leaf 12 sf12 .leaf))) 13 sf13 (.node (.node (.node (.node .leaf 14 sf14 .leaf) 15 sf15 .leaf) 16 sf16 (.node .leaf 17 sf17 .leaf)) 18 sf18 (.node (.node (.node .leaf 19 sf19 .leaf) 25 sf25 .leaf) 26 sf26 (.node .leaf 27 sf27 .leaf)))) 28 sf28 (.node (.node (.node (.node (.node .leaf 29 sf29 .leaf) 30 sf30 .leaf) 31 sf31 (.node (.node .leaf 32 sf32 .leaf) 33 sf33 .leaf)) 34 sf34 (.node (.node (.node .leaf 35 sf35 .leaf) 36 sf36 .leaf) 37 sf37 (.node .leaf 38 sf38 .leaf))) 39 sf39 (.node (.node (.node (.node .leaf 40 sf40 .leaf) 41 sf41 .leaf) 42 sf42 (.node .leaf 43 sf43 .leaf)) 44 sf44 (.node (.node (.node .leaf 45 sf45 .leaf) 46 sf46 .leaf) 47 sf47 (.node .leaf 48 sf48 .leaf))))) 49 sf49 (.node (.node (.node (.node (.node (.node .leaf 50 sf50 .leaf) 51 sf51 .leaf) 52 sf52 (.node (.node .leaf 56 sf56 .leaf) 57 sf57 .leaf)) 58 sf58 (.node (.node (.node .leaf 59 sf59 .leaf) 60 sf60 .leaf) 61 sf61 (.node .leaf 62 sf62 .leaf))) 63 sf63 (.node (.node (.node (.node .leaf 64 sf64 .leaf) 65 sf65 .leaf) 66 sf66 (.node .leaf 67 sf67 .leaf)) 68 sf68 (.node (.node (.node .leaf 69 sf69 .leaf) 70 sf70 .leaf) 71 sf71 (.node .leaf 72 sf72 .leaf)))) 73 sf73 (.node (.node (.node (.node (.node .leaf 74 sf74 .leaf) 75 sf75 .leaf) 76 sf76 (.node (.node .leaf 77 sf77 .leaf) 78 sf78 .leaf)) 82 sf82 (.node (.node (.node .leaf 83 sf83 .leaf) 84 sf84 .leaf) 85 sf85 (.node .leaf 86 sf86 .leaf))) 87 sf87 (.node (.node (.node (.node .leaf 88 sf88 .leaf) 89 sf89 .leaf) 90 sf90 (.node .leaf 91 sf91 .leaf)) 97 sf97 (.node (.node (.node .leaf 98 sf98 .leaf) 106 sf106 .leaf) 107 sf107 (.node .leaf 108 sf108 .leaf))))))
end Go.AM.Wc
