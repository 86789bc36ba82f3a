/- Closures for the kernel: printed by a program (slim.py), each checked. -/
import Derived.Test.YtgmmalddlpmjdaaGreatDoorWcSlim
import Derived.Test.YtgmmalddlpmjdaaGreatDoorAmKer
import Derived.KernelRfl
set_option maxRecDepth 100000
namespace Go.AM.Wc
open Go Go.AM
noncomputable def kf5 : KFun := ⟨111, (bSeq (bReg [kMv (.c (.bool false)) (some 0)] [0]) (bSeq (bRegF [kCall (.c (.fn 14 [])) [] (some 16), kX (.new [.str [], .int .i64 0, .int .i64 0, .int .i64 0, .int .i64 0, .int .i64
 0, .nilsl]) (some 1), kSt 7 (.t 1) (.t 16) none] [1] [16]) (bSeq (bReg [kLdN 7 (.t 1) (some 18), kCall (.c (.fn 15 [])) [(.t 18), (.c (.nilsl)), (.c (.int .i64 5))] (some 19), kMv (.t 19) (some 17), kXv (.ext (.t 17) 0)
 (some 20), kXv (.ext (.t 17) 1) (some 21), kMv (.t 20) (some 2), kMv (.t 21) (some 3)] [17, 18, 19, 20, 21]) (bSeq (bReg [kLdN 7 (.t 1) (some 23), kXv (.bst [.int .i64 0, .int .i64 0, .int .i64 0] [(0, 1), (1, 1), (2,
 1)] [(0, (.c (.int .i64 0))), (1, (.c (.int .i64 5))), (2, (.c (.int .i64 4)))]) (some 24), kX (.bsl false 3 [.int .i64 0, .int .i64 0, .int .i64 0] 1 [(0, (.t 24))]) (some 25), kCall (.c (.fn 15 [])) [(.t 23), (.t 25),
 (.c (.int .i64 5))] (some 26), kMv (.t 26) (some 22), kXv (.ext (.t 22) 0) (some 27), kXv (.ext (.t 22) 1) (some 28), kMv (.t 27) (some 4), kMv (.t 28) (some 5)] [22, 23, 24, 25, 26, 27, 28]) (bSeq (bReg [kLdN 7 (.t 1)
 (some 30), kXv (.bst [.int .i64 0, .int .i64 0, .int .i64 0] [(0, 1), (1, 1), (2, 1)] [(0, (.c (.int .i64 0))), (1, (.c (.int .i64 5))), (2, (.c (.int .i64 4)))]) (some 31), kXv (.bst [.int .i64 0, .int .i64 0, .int .i64
 0] [(0, 1), (1, 1), (2, 1)] [(0, (.c (.int .i64 1))), (1, (.c (.int .i64 5))), (2, (.c (.int .i64 5)))]) (some 32), kX (.bsl false 3 [.int .i64 0, .int .i64 0, .int .i64 0] 2 [(0, (.t 31)), (1, (.t 32))]) (some 33),
 kCall (.c (.fn 15 [])) [(.t 30), (.t 33), (.c (.int .i64 5))] (some 34), kMv (.t 34) (some 29), kXv (.ext (.t 29) 0) (some 35), kXv (.ext (.t 29) 1) (some 36), kMv (.t 35) (some 6), kMv (.t 36) (some 7)] [29, 30, 31, 32,
 33, 34, 35, 36]) (bSeq (bReg [kXv (.bst [.int .i64 0, .int .i64 0, .int .i64 0] [(0, 1), (1, 1), (2, 1)] [(0, (.c (.int .i64 0))), (1, (.c (.int .i64 5))), (2, (.c (.int .i64 9)))]) (some 37), kXv (.bst [.int .i64 0,
 .int .i64 0, .int .i64 0] [(0, 1), (1, 1), (2, 1)] [(0, (.c (.int .i64 1))), (1, (.c (.int .i64 5)))]) (some 38), kXv (.bst [.int .i64 0, .int .i64 0, .int .i64 0] [(0, 1), (1, 1), (2, 1)] [(0, (.c (.int .i64 2))), (1,
 (.c (.int .i64 5)))]) (some 39), kX (.bsl false 3 [.int .i64 0, .int .i64 0, .int .i64 0] 3 [(0, (.t 37)), (1, (.t 38)), (2, (.t 39))]) (some 40), kMv (.t 40) (some 8)] [37, 38, 39, 40]) (bSeq (bReg [kLdN 7 (.t 1) (some
 42), kMv (.t 8) (some 43), kCall (.c (.fn 15 [])) [(.t 42), (.t 43), (.c (.int .i64 5))] (some 44), kMv (.t 44) (some 41), kXv (.ext (.t 41) 0) (some 45), kXv (.ext (.t 41) 1) (some 46), kMv (.t 45) (some 9), kMv (.t 46)
 (some 10)] [41, 42, 43, 44, 45, 46]) (bSeq (bReg [kLdN 7 (.t 1) (some 48), kMv (.t 8) (some 49), kCall (.c (.fn 16 [])) [(.t 48), (.t 49)] (some 50), kMv (.t 50) (some 47), kXv (.ext (.t 47) 0) (some 51), kXv (.ext (.t
 47) 1) (some 52), kXv (.ext (.t 47) 2) (some 53), kMv (.t 51) (some 11), kMv (.t 52) (some 12), kMv (.t 53) (some 13)] [8, 47, 48, 49, 50, 51, 52, 53]) (bSeq (bReg [kLdN 7 (.t 1) (some 55), kCall (.c (.fn 17 [])) [(.t
 55), (.c (.int .i64 10)), (.c (.int .i64 100))] (some 56), kMv (.t 56) (some 54), kXv (.ext (.t 54) 0) (some 57), kXv (.ext (.t 54) 1) (some 58), kMv (.t 57) (some 14), kMv (.t 58) (some 15)] [1, 54, 55, 56, 57, 58])
 (bSeq (bReg [kMv (.t 2) (some 59), kMv (.t 3) (some 60), kCall (.c (.fn 18 [])) [(.t 59), (.t 60), (.c (.int .i64 (-5))), (.c (.int .i64 10))] (some 61), kMv (.t 61) (some 62), kG 62 true (some 63) (kMv (.t 4) (some
 63)), kG 62 true (some 64) (kMv (.t 5) (some 64)), kG 62 true (some 65) (kCall (.c (.fn 18 [])) [(.t 63), (.t 64), (.c (.int .i64 (-5))), (.c (.int .i64 10))] (some 65)), kPick (.t 62) (.t 65) (.c (.bool false)) (some
 66), kMv (.t 66) (some 67), kG 67 true (some 68) (kMv (.t 6) (some 68)), kG 67 true (some 69) (kMv (.t 7) (some 69)), kG 67 true (some 70) (kCall (.c (.fn 18 [])) [(.t 68), (.t 69), (.c (.int .i64 3)), (.c (.int .i64
 6))] (some 70)), kPick (.t 67) (.t 70) (.c (.bool false)) (some 71), kMv (.t 71) (some 72), kG 72 true (some 73) (kMv (.t 9) (some 73)), kG 72 true (some 74) (kMv (.t 10) (some 74)), kG 72 true (some 75) (kCall (.c (.fn
 18 [])) [(.t 73), (.t 74), (.c (.int .i64 (-1))), (.c (.int .i64 1))] (some 75)), kPick (.t 72) (.t 75) (.c (.bool false)) (some 76), kMv (.t 76) (some 77), kG 77 true (some 78) (kMv (.t 13) (some 78)), kG 77 true (some
 79) (kBin true true (some .int) .eql (.t 78) (.c (.int .i64 0)) (some 79)), kPick (.t 77) (.t 79) (.c (.bool false)) (some 80), kMv (.t 80) (some 81), kG 81 true (some 82) (kMv (.t 11) (some 82)), kG 81 true (some 83)
 (kLenl (.t 82) (some 83)), kG 81 true (some 84) (kBin true true (some .int) .eql (.t 83) (.c (.int .i64 1)) (some 84)), kPick (.t 81) (.t 84) (.c (.bool false)) (some 85), kMv (.t 85) (some 86), kG 86 true (some 87) (kMv
 (.t 11) (some 87)), kG 86 true (some 88) (kIad 1 (.t 87) (.c (.int .i64 0)) (some 88)), kG 86 true (some 89) (kLd1 1 (.t 88) (some 89)), kG 86 true (some 90) (kBin true true (some .int) .eql (.t 89) (.c (.int .i64 0))
 (some 90)), kPick (.t 86) (.t 90) (.c (.bool false)) (some 91), kMv (.t 91) (some 92), kG 92 true (some 93) (kMv (.t 12) (some 93)), kG 92 true (some 94) (kLenl (.t 93) (some 94)), kG 92 true (some 95) (kBin true true
 (some .int) .eql (.t 94) (.c (.int .i64 1)) (some 95)), kPick (.t 92) (.t 95) (.c (.bool false)) (some 96), kMv (.t 96) (some 97), kG 97 true (some 98) (kMv (.t 12) (some 98)), kG 97 true (some 99) (kIad 1 (.t 98) (.c
 (.int .i64 0)) (some 99)), kG 97 true (some 100) (kLd1 1 (.t 99) (some 100)), kG 97 true (some 101) (kBin true true (some .int) .eql (.t 100) (.c (.int .i64 0)) (some 101)), kPick (.t 97) (.t 101) (.c (.bool false))
 (some 102), kMv (.t 102) (some 103), kG 103 true (some 104) (kMv (.t 14) (some 104)), kG 103 true (some 105) (kBin true true (some .int) .eql (.t 104) (.c (.int .i64 32)) (some 105)), kPick (.t 103) (.t 105) (.c (.bool
 false)) (some 106), kMv (.t 106) (some 107), kG 107 true (some 108) (kMv (.t 15) (some 108)), kG 107 true (some 109) (kBin true true (some .int) .eql (.t 108) (.c (.int .i64 0)) (some 109)), kPick (.t 107) (.t 109) (.c
 (.bool false)) (some 110), kMv (.t 110) (some 0)] [2, 3, 4, 5, 6, 7, 9, 10, 11, 12, 13, 14, 15, 59, 60, 61, 62, 63, 64, 65, 66, 67, 68, 69, 70, 71, 72, 73, 74, 75, 76, 77, 78, 79, 80, 81, 82, 83, 84, 85, 86, 87, 88, 89,
 90, 91, 92, 93, 94, 95, 96, 97, 98, 99, 100, 101, 102, 103, 104, 105, 106, 107, 108, 109, 110]) bRet)))))))))), sf5.res, sf5.dr⟩
theorem kf5_eq : kf5 = compF 5 sf5 := by kernel_rfl
noncomputable def kf14 : KFun := ⟨6, (bSeq (bReg [kX (.new [.str [], .int .i64 0, .int .i64 0, .int .i64 0, .int .i64 0, .int .i64 0, .nilsl]) (some 0)] []) (bSeq (bReg [kXv (.bst [.str [], .int .i64 0, .int .i64 0, .int
 .i64 0] [(0, 1), (1, 1), (2, 1), (3, 1)] [(0, (.c (.str [97]))), (1, (.c (.int .i64 1)))]) (some 1), kXv (.bst [.str [], .int .i64 0, .int .i64 0, .int .i64 0] [(0, 1), (1, 1), (2, 1), (3, 1)] [(0, (.c (.str [98]))), (1,
 (.c (.int .i64 1)))]) (some 2), kXv (.bst [.str [], .int .i64 0, .int .i64 0, .int .i64 0] [(0, 1), (1, 1), (2, 1), (3, 1)] [(0, (.c (.str [99]))), (1, (.c (.int .i64 1)))]) (some 3), kX (.bsl false 4 [.str [], .int .i64
 0, .int .i64 0, .int .i64 0] 3 [(0, (.t 1)), (1, (.t 2)), (2, (.t 3))]) (some 4), kXv (.bst [.str [], .int .i64 0, .int .i64 0, .int .i64 0, .int .i64 0, .int .i64 0, .nilsl] [(0, 1), (1, 2), (3, 1), (4, 1), (5, 1), (6,
 1)] [(0, (.c (.str [113]))), (2, (.c (.int .i64 2))), (3, (.c (.int .i64 1))), (4, (.c (.int .i64 1))), (5, (.t 4))]) (some 5), kSt 7 (.t 0) (.t 5) none] [1, 2, 3, 4, 5]) bRet)), sf14.res, sf14.dr⟩
theorem kf14_eq : kf14 = compF 14 sf14 := by kernel_rfl
noncomputable def kf15 : KFun := ⟨22, (bSeq (bReg [kXv (.box true (.t 0)) (some 3), kMv (.c (.nilsl)) (some 6), kMv (.c (.int .i64 0)) (some 7)] [0, 6, 7]) (bSeq (bSeq (bReg [kLdN 7 (.t 3) (some 9), kMv (.t 1) (some 10),
 kCall (.c (.fn 48 [])) [(.t 9), (.t 10)] (some 11), kMv (.t 11) (some 8)] [9, 10, 11]) (bSeq (bReg [kMv (.t 8) (some 12), kBin true true (some .int) .neq (.t 12) (.c (.int .i64 0)) (some 13)] [12]) (bIf (.t 13) (bSeq
 (bReg [kMv (.t 8) (some 14), kMv (.c (.nilsl)) (some 6), kMv (.t 14) (some 7)] [1, 2, 3, 8, 13, 14]) bRet) bSkip))) (bSeq (bSeq (bReg [kMv (.t 2) (some 15), kCall (.c (.fn 43 [])) [(.t 15)] (some 16), kUn .not (.t 16)
 (some 17)] [8, 13, 15, 16]) (bIf (.t 17) (bSeq (bReg [kMv (.c (.nilsl)) (some 6), kMv (.c (.int .i64 1)) (some 7)] [1, 2, 3, 17]) bRet) bSkip)) (bSeq (bReg [kLdN 7 (.t 3) (some 18), kMv (.t 1) (some 19), kMv (.t 2) (some
 20), kCall (.c (.fn 49 [])) [(.t 18), (.t 19), (.t 20)] (some 21), kMv (.t 21) (some 6), kMv (.c (.int .i64 0)) (some 7)] [1, 2, 3, 17, 18, 19, 20, 21]) bRet)))), sf15.res, sf15.dr⟩
theorem kf15_eq : kf15 = compF 15 sf15 := by kernel_rfl
noncomputable def kf16 : KFun := ⟨84, (bSeq (bReg [kXv (.box true (.t 0)) (some 2), kXv (.box true (.t 1)) (some 3), kMv (.c (.nilsl)) (some 4), kMv (.c (.nilsl)) (some 5), kMv (.c (.int .i64 0)) (some 6)] [0, 1, 6])
 (bSeq (bSeq (bReg [kLdN 7 (.t 2) (some 16), kLd1 1 (.t 3) (some 17), kCall (.c (.fn 48 [])) [(.t 16), (.t 17)] (some 18), kMv (.t 18) (some 7)] [16, 17, 18]) (bSeq (bReg [kMv (.t 7) (some 19), kBin true true (some .int)
 .neq (.t 19) (.c (.int .i64 0)) (some 20)] [19]) (bIf (.t 20) (bSeq (bReg [kMv (.t 7) (some 21), kMv (.c (.nilsl)) (some 4), kMv (.c (.nilsl)) (some 5), kMv (.t 21) (some 6)] [2, 3, 7, 20, 21]) bRet) bSkip))) (bSeq (bSeq
 (bReg [kMv (.c (.int .i64 0)) (some 8)] [7, 20]) (bBlk 0 (bLoop (bSeq (bSeq (bReg [kMv (.t 8) (some 22), kFad 5 (.t 2) (some 23), kLd1 1 (.t 23) (some 24), kBin false false none .leq (.t 22) (.t 24) (some 25)] [22, 23,
 24]) (bIf (.t 25) bSkip (bExit 0))) (bSeq (bBlk 1 (bSeq (bRegF [kFad 6 (.t 2) (some 28), kLd1 1 (.t 28) (some 29), kLenl (.t 29) (some 30), kX (.mks 1 8 [.int .i64 0] (.t 30) (.t 30)) (some 31), kX (.new [.nilsl]) (some
 9), kSt 1 (.t 9) (.t 31) none] [9] [25, 28, 29, 30, 31]) (bSeq (bReg [kX (.new [.int .i64 0]) (some 10), kSt 1 (.t 10) (.c (.int .i64 0)) none] []) (bSeq (bSeq (bReg [kFad 6 (.t 2) (some 32), kLd1 1 (.t 32) (some 33),
 kLenl (.t 33) (some 34), kMv (.t 8) (some 35), kCall (.c (.fn 50 [])) [(.t 34), (.t 35)] (some 36)] [32, 33, 34, 35]) (bBlk 2 (bRange 16 84 false (.t 36) [37] (.reg [⟨some 11, .mv (.t 37), none⟩] [] [36]) (.block 3 (.seq
 (.draw [⟨some 38, .ld true 7 (.t 2), none⟩, ⟨some 39, .ld true 7 (.t 2), none⟩, ⟨some 40, .ld false 1 (.t 3), none⟩, ⟨some 41, .mv (.t 11), none⟩, ⟨some 42, .call (.c (.fn 52 [])) [(.t 39), (.t 40), (.t 41), (.c
 (.nilsl))], none⟩, ⟨some 43, .call (.c (.fn 51 [])) [(.t 38), (.t 42)], none⟩] [(0, 0), (0, 5), (1, 0), (2, 0)] [] [38, 39, 40, 41, 42]) (.cond (.t 43) (.seq (.reg [⟨some 44, .ld false 1 (.t 10), none⟩, ⟨some 45, .bin
 .add true false none (.t 44) (.c (.int .i64 1)), none⟩, ⟨none, .st 1 (.t 10) (.t 45), none⟩] [] [43, 44, 45]) (.seq (.reg [⟨some 46, .mv (.t 11), none⟩, ⟨some 47, .lenl (.t 46), none⟩, ⟨some 48, .mv (.c (.int .i64 0)),
 none⟩] [] [11]) (.block 4 (.loop (.seq (.reg [⟨some 49, .bin .lss false false none (.t 48) (.t 47), none⟩] [] []) (.seq (.cond (.t 49) .skip (.exit 4)) (.seq (.block 5 (.seq (.reg [⟨some 50, .iad 1 (.t 46) (.t 48),
 none⟩, ⟨some 51, .ld false 1 (.t 50), none⟩, ⟨some 13, .mv (.t 51), none⟩] [] [49, 50, 51]) (.reg [⟨some 52, .ld false 1 (.t 9), none⟩, ⟨some 53, .mv (.t 13), none⟩, ⟨some 54, .iad 1 (.t 52) (.t 53), none⟩, ⟨some 55, .ld
 false 1 (.t 54), none⟩, ⟨some 56, .bin .add true false none (.t 55) (.c (.int .i64 1)), none⟩, ⟨some 57, .iad 1 (.t 52) (.t 53), none⟩, ⟨none, .st 1 (.t 57) (.t 56), none⟩] [] [13, 52, 53, 54, 55, 56, 57]))) (.reg [⟨some
 58, .bin .add true false none (.t 48) (.c (.int .i64 1)), none⟩, ⟨some 48, .mv (.t 58), none⟩] [] [58])))))))) .skip)))))) (bSeq (bSeq (bReg [kLd1 1 (.t 10) (some 59), kBin true true (some .int) .eql (.t 59) (.c (.int
 .i64 0)) (some 60)] [36, 59]) (bIf (.t 60) (bExit 1) bSkip)) (bSeq (bSeq (bReg [kLd1 1 (.t 9) (some 61), kLenl (.t 61) (some 62), kMv (.c (.int .i64 0)) (some 63)] [2, 3, 8, 9, 60]) (bBlk 6 (bLoop (bSeq (bReg [kBin false
 false none .lss (.t 63) (.t 62) (some 64)] []) (bSeq (bIf (.t 64) bSkip (bExit 6)) (bSeq (bBlk 7 (bSeq (bReg [kMv (.t 63) (some 65), kIad 1 (.t 61) (.t 63) (some 66), kLd1 1 (.t 66) (some 67), kMv (.t 65) (some 14), kMv
 (.t 67) (some 15)] [64, 65, 66, 67]) (bSeq (bSeq (bReg [kMv (.t 15) (some 68), kLd1 1 (.t 10) (some 69), kBin false true (some .int) .eql (.t 68) (.t 69) (some 70)] [68, 69]) (bIf (.t 70) (bReg [kMv (.t 4) (some 71), kMv
 (.t 14) (some 72), kXv (.bsl true 1 [.int .i64 0] 1 [(0, (.t 72))]) (some 73), kX (.app 1 8 (.t 71) (.t 73)) (some 74), kMv (.t 74) (some 4)] [70, 71, 72, 73, 74]) bSkip)) (bSeq (bReg [kMv (.t 15) (some 75), kBin true
 false none .gtr (.t 75) (.c (.int .i64 0)) (some 76)] [15, 70, 75]) (bIf (.t 76) (bReg [kMv (.t 5) (some 77), kMv (.t 14) (some 78), kXv (.bsl true 1 [.int .i64 0] 1 [(0, (.t 78))]) (some 79), kX (.app 1 8 (.t 77) (.t
 79)) (some 80), kMv (.t 80) (some 5)] [14, 76, 77, 78, 79, 80]) bSkip))))) (bReg [kBin true false none .add (.t 63) (.c (.int .i64 1)) (some 81), kMv (.t 81) (some 63)] [14, 76, 81]))))))) (bExit 0))))))) (bReg [kMv (.t
 8) (some 26), kBin true false none .add (.t 26) (.c (.int .i64 1)) (some 27), kMv (.t 27) (some 8)] [9, 10, 26, 27, 60])))))) (bSeq (bRegF [kMv (.t 4) (some 82), kMv (.t 5) (some 83), kMv (.t 82) (some 4), kMv (.t 83)
 (some 5), kMv (.c (.int .i64 0)) (some 6)] [4, 5] [2, 3, 8, 10, 25, 61, 62, 63, 64, 82, 83]) bRet)))), sf16.res, sf16.dr⟩
theorem kf16_eq : kf16 = compF 16 sf16 := by kernel_rfl
noncomputable def kf17 : KFun := ⟨58, (bSeq (bReg [kXv (.box true (.t 0)) (some 3), kMv (.c (.int .i64 0)) (some 6), kMv (.c (.int .i64 0)) (some 7)] [0, 6, 7]) (bSeq (bSeq (bReg [kLdN 7 (.t 3) (some 12), kXv (.bsl true 7
 [.str [], .int .i64 0, .int .i64 0, .int .i64 0, .int .i64 0, .int .i64 0, .nilsl] 1 [(0, (.t 12))]) (some 13), kCall (.c (.fn 26 [])) [(.t 13)] (some 14), kMv (.t 14) (some 8)] [12, 13, 14]) (bSeq (bReg [kMv (.t 8)
 (some 15), kBin true true (some .int) .neq (.t 15) (.c (.int .i64 0)) (some 16)] [15]) (bIf (.t 16) (bSeq (bReg [kMv (.t 8) (some 17), kMv (.c (.int .i64 0)) (some 6), kMv (.t 17) (some 7)] [1, 2, 3, 8, 16, 17]) bRet)
 bSkip))) (bSeq (bBlk 0 (bSeq (bReg [kMv (.t 1) (some 19), kCall (.c (.fn 28 [])) [(.t 19), (.c (.int .i64 1)), (.c (.int .i64 100000))] (some 20), kUn .not (.t 20) (some 21), kMv (.t 21) (some 22), kG 22 false (some 23)
 (kMv (.t 2) (some 23)), kG 22 false (some 24) (kCall (.c (.fn 43 [])) [(.t 23)] (some 24)), kG 22 false (some 25) (kUn .not (.t 24) (some 25)), kPick (.t 22) (.c (.bool true)) (.t 25) (some 26), kMv (.t 26) (some 18)]
 [8, 16, 19, 20, 21, 22, 23, 24, 25, 26]) (bIf (.t 18) (bSeq (bReg [kMv (.c (.int .i64 0)) (some 6), kMv (.c (.int .i64 1)) (some 7)] [1, 2, 3, 18]) bRet) (bSeq (bReg [kFad 6 (.t 3) (some 28), kLd1 1 (.t 28) (some 29),
 kLenl (.t 29) (some 30), kFad 5 (.t 3) (some 31), kLd1 1 (.t 31) (some 32), kBin true false none .mul (.c (.int .i64 2)) (.t 32) (some 33), kBin false false none .leq (.t 30) (.t 33) (some 34), kMv (.t 34) (some 27)]
 [18, 28, 29, 30, 31, 32, 33, 34]) (bIf (.t 27) (bSeq (bReg [kMv (.c (.int .i64 0)) (some 6), kMv (.c (.int .i64 9)) (some 7)] [1, 2, 3, 27]) bRet) bSkip))))) (bSeq (bReg [kMv (.c (.int .i64 0)) (some 9)] [27]) (bSeq
 (bSeq (bReg [kFad 6 (.t 3) (some 35), kLd1 1 (.t 35) (some 36), kLenl (.t 36) (some 37), kMv (.c (.int .i64 0)) (some 38)] [35]) (bBlk 1 (bLoop (bSeq (bReg [kBin false false none .lss (.t 38) (.t 37) (some 39)] []) (bSeq
 (bIf (.t 39) bSkip (bExit 1)) (bSeq (bBlk 2 (bSeq (bRegF [kIad 4 (.t 36) (.t 38) (some 40), kLdN 4 (.t 40) (some 41), kX (.new [.str [], .int .i64 0, .int .i64 0, .int .i64 0]) (some 11), kSt 4 (.t 11) (.t 41) none] [11]
 [39, 40, 41]) (bReg [kMv (.t 9) (some 42), kLdN 4 (.t 11) (some 43), kMv (.t 2) (some 44), kCall (.c (.fn 44 [])) [(.t 43), (.t 44)] (some 45), kXv (.mnx true (.t 42) [(.t 45)]) (some 46), kMv (.t 46) (some 9)] [11, 42,
 43, 44, 45, 46]))) (bReg [kBin true false none .add (.t 38) (.c (.int .i64 1)) (some 47), kMv (.t 47) (some 38)] [47]))))))) (bSeq (bReg [kMv (.t 9) (some 48), kBin true false none .mul (.c (.int .i64 2)) (.t 48) (some
 49), kFad 3 (.t 3) (some 50), kLd1 1 (.t 50) (some 51), kFad 4 (.t 3) (some 52), kLd1 1 (.t 52) (some 53), kBin false false none .add (.t 51) (.t 53) (some 54), kMv (.t 1) (some 55), kBin false false none .mul (.t 54)
 (.t 55) (some 56), kBin false false none .add (.t 49) (.t 56) (some 57), kMv (.t 57) (some 6), kMv (.c (.int .i64 0)) (some 7)] [1, 2, 3, 9, 36, 37, 38, 39, 48, 49, 50, 51, 52, 53, 54, 55, 56, 57]) bRet)))))), sf17.res,
 sf17.dr⟩
theorem kf17_eq : kf17 = compF 17 sf17 := by kernel_rfl
noncomputable def kf18 : KFun := ⟨25, (bSeq (bReg [kMv (.c (.bool false)) (some 8)] [8]) (bSeq (bReg [kMv (.t 1) (some 9), kBin true true (some .int) .eql (.t 9) (.c (.int .i64 0)) (some 10), kMv (.t 10) (some 11), kG 11
 true (some 12) (kMv (.t 0) (some 12)), kG 11 true (some 13) (kLenl (.t 12) (some 13)), kG 11 true (some 14) (kBin true true (some .int) .eql (.t 13) (.c (.int .i64 1)) (some 14)), kPick (.t 11) (.t 14) (.c (.bool false))
 (some 15), kMv (.t 15) (some 16), kG 16 true (some 17) (kMv (.t 0) (some 17)), kG 16 true (some 18) (kIad 2 (.t 17) (.c (.int .i64 0)) (some 18)), kG 16 true (some 19) (kLdN 2 (.t 18) (some 19)), kG 16 true (some 20)
 (kMv (.t 2) (some 20)), kG 16 true (some 21) (kMv (.t 3) (some 21)), kG 16 true (some 22) (kXv (.bst [.int .i64 0, .int .i64 0] [(0, 1), (1, 1)] [(0, (.t 20)), (1, (.t 21))]) (some 22)), kG 16 true (some 23) (kBin false
 true (some (.fld 0 1 false .int (.fld 1 1 false .int .fin))) .eql (.t 19) (.t 22) (some 23)), kPick (.t 16) (.t 23) (.c (.bool false)) (some 24), kMv (.t 24) (some 8)] [0, 1, 2, 3, 9, 10, 11, 12, 13, 14, 15, 16, 17, 18,
 19, 20, 21, 22, 23, 24]) bRet)), sf18.res, sf18.dr⟩
theorem kf18_eq : kf18 = compF 18 sf18 := by kernel_rfl
noncomputable def kf26 : KFun := ⟨31, (bSeq (bReg [kMv (.c (.int .i64 0)) (some 2)] [2]) (bSeq (bSeq (bReg [kMv (.t 0) (some 6), kLenl (.t 6) (some 7), kBin true false none .gtr (.t 7) (.c (.int .i64 16)) (some 8)] [6,
 7]) (bIf (.t 8) (bSeq (bReg [kMv (.c (.int .i64 3)) (some 2)] [0, 8]) bRet) bSkip)) (bSeq (bSeq (bReg [kMv (.t 0) (some 9), kLenl (.t 9) (some 10), kMv (.c (.int .i64 0)) (some 11)] [8]) (bBlk 0 (bLoop (bSeq (bReg [kBin
 false false none .lss (.t 11) (.t 10) (some 12)] []) (bSeq (bIf (.t 12) bSkip (bExit 0)) (bSeq (bBlk 1 (bSeq (bRegF [kMv (.t 11) (some 13), kIad 7 (.t 9) (.t 11) (some 14), kLdN 7 (.t 14) (some 15), kX (.new [.str [],
 .int .i64 0, .int .i64 0, .int .i64 0, .int .i64 0, .int .i64 0, .nilsl]) (some 4), kMv (.t 13) (some 3), kSt 7 (.t 4) (.t 15) none] [4] [12, 13, 14, 15]) (bSeq (bSeq (bReg [kFad 0 (.t 4) (some 16), kLd1 1 (.t 16) (some
 17), kCall (.c (.fn 57 [])) [(.t 17)] (some 18), kUn .not (.t 18) (some 19)] [16, 17, 18]) (bIf (.t 19) (bSeq (bReg [kMv (.c (.int .i64 5)) (some 2)] [0, 3, 4, 9, 10, 11, 19]) bRet) bSkip)) (bSeq (bSeq (bReg [kMv (.t 0)
 (some 20), kMv (.t 3) (some 21), kXv (.slc 7 (.t 20) none (some (.t 21)) none) (some 22), kXv (.mkf 59 [(.t 4)]) (some 23), kCall (.c (.fn 58 [])) [(.t 22), (.t 23)] (some 24)] [3, 19, 20, 21, 22, 23]) (bIf (.t 24) (bSeq
 (bReg [kMv (.c (.int .i64 6)) (some 2)] [0, 4, 9, 10, 11, 24]) bRet) bSkip)) (bSeq (bReg [kLdN 7 (.t 4) (some 25), kCall (.c (.fn 60 [])) [(.t 25)] (some 26), kMv (.t 26) (some 5)] [4, 24, 25, 26]) (bSeq (bReg [kMv (.t
 5) (some 27), kBin true true (some .int) .neq (.t 27) (.c (.int .i64 0)) (some 28)] [27]) (bIf (.t 28) (bSeq (bReg [kMv (.t 5) (some 29), kMv (.t 29) (some 2)] [0, 5, 9, 10, 11, 28, 29]) bRet) bSkip))))))) (bReg [kBin
 true false none .add (.t 11) (.c (.int .i64 1)) (some 30), kMv (.t 30) (some 11)] [5, 28, 30]))))))) (bSeq (bReg [kMv (.c (.int .i64 0)) (some 2)] [0, 9, 10, 11, 12]) bRet)))), sf26.res, sf26.dr⟩
theorem kf26_eq : kf26 = compF 26 sf26 := by kernel_rfl
noncomputable def kf28 : KFun := ⟨15, (bSeq (bReg [kMv (.c (.bool false)) (some 6)] [6]) (bSeq (bReg [kMv (.t 0) (some 7), kMv (.t 1) (some 8), kBin false false none .geq (.t 7) (.t 8) (some 9), kMv (.t 9) (some 10), kG
 10 true (some 11) (kMv (.t 0) (some 11)), kG 10 true (some 12) (kMv (.t 2) (some 12)), kG 10 true (some 13) (kBin false false none .leq (.t 11) (.t 12) (some 13)), kPick (.t 10) (.t 13) (.c (.bool false)) (some 14), kMv
 (.t 14) (some 6)] [0, 1, 2, 7, 8, 9, 10, 11, 12, 13, 14]) bRet)), sf28.res, sf28.dr⟩
theorem kf28_eq : kf28 = compF 28 sf28 := by kernel_rfl
noncomputable def kf29 : KFun := ⟨5, (bSeq (bReg [kMv (.c (.bool false)) (some 2)] [2]) (bSeq (bReg [kMv (.t 0) (some 3), kCall (.c (.fn 28 [])) [(.t 3), (.c (.int .i64 (-1000000000))), (.c (.int .i64 1000000000))] (some
 4), kMv (.t 4) (some 2)] [0, 3, 4]) bRet)), sf29.res, sf29.dr⟩
theorem kf29_eq : kf29 = compF 29 sf29 := by kernel_rfl
noncomputable def kf42 : KFun := ⟨19, (bSeq (bReg [kXv (.box true (.t 0)) (some 1), kMv (.c (.int .i64 0)) (some 2)] [0, 2]) (bSeq (bSeq (bReg [kFad 1 (.t 1) (some 3), kLd1 1 (.t 3) (some 4), kCall (.c (.fn 28 [])) [(.t
 4), (.c (.int .i64 0)), (.c (.int .i64 1000000000))] (some 5), kUn .not (.t 5) (some 6), kMv (.t 6) (some 7), kG 7 false (some 8) (kFad 2 (.t 1) (some 8)), kG 7 false (some 9) (kLd1 1 (.t 8) (some 9)), kG 7 false (some
 10) (kCall (.c (.fn 28 [])) [(.t 9), (.c (.int .i64 0)), (.c (.int .i64 1000000000))] (some 10)), kG 7 false (some 11) (kUn .not (.t 10) (some 11)), kPick (.t 7) (.c (.bool true)) (.t 11) (some 12), kMv (.t 12) (some
 13), kG 13 false (some 14) (kFad 3 (.t 1) (some 14)), kG 13 false (some 15) (kLd1 1 (.t 14) (some 15)), kG 13 false (some 16) (kCall (.c (.fn 43 [])) [(.t 15)] (some 16)), kG 13 false (some 17) (kUn .not (.t 16) (some
 17)), kPick (.t 13) (.c (.bool true)) (.t 17) (some 18)] [1, 3, 4, 5, 6, 7, 8, 9, 10, 11, 12, 13, 14, 15, 16, 17]) (bIf (.t 18) (bSeq (bReg [kMv (.c (.int .i64 1)) (some 2)] [18]) bRet) bSkip)) (bSeq (bReg [kMv (.c (.int
 .i64 0)) (some 2)] [18]) bRet))), sf42.res, sf42.dr⟩
theorem kf42_eq : kf42 = compF 42 sf42 := by kernel_rfl
noncomputable def kf43 : KFun := ⟨5, (bSeq (bReg [kMv (.c (.bool false)) (some 2)] [2]) (bSeq (bReg [kMv (.t 0) (some 3), kCall (.c (.fn 28 [])) [(.t 3), (.c (.int .i64 0)), (.c (.int .i64 100000))] (some 4), kMv (.t 4)
 (some 2)] [0, 3, 4]) bRet)), sf43.res, sf43.dr⟩
theorem kf43_eq : kf43 = compF 43 sf43 := by kernel_rfl
noncomputable def kf44 : KFun := ⟨23, (bSeq (bReg [kXv (.box true (.t 0)) (some 2), kMv (.c (.int .i64 0)) (some 4)] [0, 4]) (bSeq (bSeq (bReg [kMv (.t 1) (some 5), kFad 3 (.t 2) (some 6), kLd1 1 (.t 6) (some 7), kBin
 false false none .leq (.t 5) (.t 7) (some 8)] [5, 6, 7]) (bIf (.t 8) (bSeq (bReg [kFad 1 (.t 2) (some 9), kLd1 1 (.t 9) (some 10), kMv (.t 10) (some 4)] [1, 2, 8, 9, 10]) bRet) bSkip)) (bSeq (bReg [kFad 1 (.t 2) (some
 11), kLd1 1 (.t 11) (some 12), kMv (.t 1) (some 13), kFad 3 (.t 2) (some 14), kLd1 1 (.t 14) (some 15), kBin false false none .sub (.t 13) (.t 15) (some 16), kBin true false none .add (.t 16) (.c (.int .i64 999)) (some
 17), kBin true false none .quo (.t 17) (.c (.int .i64 1000)) (some 18), kFad 2 (.t 2) (some 19), kLd1 1 (.t 19) (some 20), kBin false false none .mul (.t 18) (.t 20) (some 21), kBin false false none .add (.t 12) (.t 21)
 (some 22), kMv (.t 22) (some 4)] [1, 2, 8, 11, 12, 13, 14, 15, 16, 17, 18, 19, 20, 21, 22]) bRet))), sf44.res, sf44.dr⟩
theorem kf44_eq : kf44 = compF 44 sf44 := by kernel_rfl
noncomputable def kf48 : KFun := ⟨31, (bSeq (bReg [kXv (.box true (.t 0)) (some 2), kMv (.c (.int .i64 0)) (some 4)] [0, 4]) (bSeq (bSeq (bReg [kLdN 7 (.t 2) (some 9), kXv (.bsl true 7 [.str [], .int .i64 0, .int .i64 0,
 .int .i64 0, .int .i64 0, .int .i64 0, .nilsl] 1 [(0, (.t 9))]) (some 10), kCall (.c (.fn 26 [])) [(.t 10)] (some 11), kMv (.t 11) (some 5)] [9, 10, 11]) (bSeq (bReg [kMv (.t 5) (some 12), kBin true true (some .int) .neq
 (.t 12) (.c (.int .i64 0)) (some 13)] [12]) (bIf (.t 13) (bSeq (bReg [kMv (.t 5) (some 14), kMv (.t 14) (some 4)] [1, 2, 5, 13, 14]) bRet) bSkip))) (bSeq (bSeq (bReg [kMv (.t 1) (some 15), kLenl (.t 15) (some 16), kBin
 true false none .gtr (.t 16) (.c (.int .i64 64)) (some 17)] [5, 13, 15, 16]) (bIf (.t 17) (bSeq (bReg [kMv (.c (.int .i64 3)) (some 4)] [1, 2, 17]) bRet) bSkip)) (bSeq (bSeq (bReg [kMv (.t 1) (some 18), kLenl (.t 18)
 (some 19), kMv (.c (.int .i64 0)) (some 20)] [1, 17]) (bBlk 0 (bLoop (bSeq (bReg [kBin false false none .lss (.t 20) (.t 19) (some 21)] []) (bSeq (bIf (.t 21) bSkip (bExit 0)) (bSeq (bBlk 1 (bSeq (bRegF [kIad 3 (.t 18)
 (.t 20) (some 22), kLdN 3 (.t 22) (some 23), kX (.new [.int .i64 0, .int .i64 0, .int .i64 0]) (some 7), kSt 3 (.t 7) (.t 23) none] [7] [21, 22, 23]) (bSeq (bReg [kLdN 7 (.t 2) (some 24), kLdN 3 (.t 7) (some 25), kCall
 (.c (.fn 66 [])) [(.t 24), (.t 25)] (some 26), kMv (.t 26) (some 8)] [7, 24, 25, 26]) (bSeq (bReg [kMv (.t 8) (some 27), kBin true true (some .int) .neq (.t 27) (.c (.int .i64 0)) (some 28)] [27]) (bIf (.t 28) (bSeq
 (bReg [kMv (.t 8) (some 29), kMv (.t 29) (some 4)] [2, 8, 18, 19, 20, 28, 29]) bRet) bSkip))))) (bReg [kBin true false none .add (.t 20) (.c (.int .i64 1)) (some 30), kMv (.t 30) (some 20)] [8, 28, 30]))))))) (bSeq (bReg
 [kMv (.c (.int .i64 0)) (some 4)] [2, 18, 19, 20, 21]) bRet))))), sf48.res, sf48.dr⟩
theorem kf48_eq : kf48 = compF 48 sf48 := by kernel_rfl
noncomputable def kf49 : KFun := ⟨82, (bSeq (bReg [kXv (.box true (.t 0)) (some 3), kXv (.box true (.t 1)) (some 4), kXv (.box true (.t 2)) (some 5), kMv (.c (.nilsl)) (some 6)] [0, 1, 2, 6]) (bSeq (bReg [kX (.new
 [.nilsl]) (some 7)] []) (bSeq (bSeq (bReg [kFad 6 (.t 3) (some 14), kLd1 1 (.t 14) (some 15), kLenl (.t 15) (some 16), kFad 5 (.t 3) (some 17), kLd1 1 (.t 17) (some 18), kCall (.c (.fn 50 [])) [(.t 16), (.t 18)] (some
 19)] [14, 15, 16, 17, 18]) (bBlk 0 (bRange 49 82 false (.t 19) [20] (.reg [⟨some 8, .mv (.t 20), none⟩] [] [19, 20]) (.block 1 (.seq (.draw [⟨some 21, .ld true 7 (.t 3), none⟩, ⟨some 22, .ld false 1 (.t 4), none⟩, ⟨some
 23, .mv (.t 8), none⟩, ⟨some 24, .ld false 1 (.t 5), none⟩, ⟨some 25, .call (.c (.fn 67 [])) [], none⟩, ⟨some 26, .bst [.int .i64 0, .int .i64 0, .int .i64 0] [(0, 1), (1, 2)] [(0, (.t 24)), (1, (.t 25))], none⟩, ⟨some
 27, .bsl true 3 [.int .i64 0, .int .i64 0, .int .i64 0] 1 [(0, (.t 26))], none⟩, ⟨some 28, .call (.c (.fn 52 [])) [(.t 21), (.t 22), (.t 23), (.t 27)], none⟩, ⟨some 9, .mv (.t 28), none⟩] [(0, 0), (0, 5), (1, 0), (1, 5),
 (3, 0), (3, 5)] [] [4, 8, 21, 22, 23, 24, 25, 26, 27, 28]) (.seq (.reg [⟨some 29, .ld true 7 (.t 3), none⟩, ⟨some 30, .mv (.t 9), none⟩, ⟨some 31, .call (.c (.fn 51 [])) [(.t 29), (.t 30)], none⟩] [] [3, 29, 30]) (.cond
 (.t 31) (.draw [⟨some 32, .ld false 1 (.t 7), none⟩, ⟨some 33, .mv (.t 9), none⟩, ⟨some 34, .ld false 1 (.t 5), none⟩, ⟨some 35, .call (.c (.fn 68 [])) [(.t 33), (.t 34)], none⟩, ⟨some 36, .bsl true 2 [.int .i64 0, .int
 .i64 0] 1 [(0, (.t 35))], none⟩, ⟨some 37, .app 2 16 (.t 32) (.t 36), none⟩, ⟨none, .st 1 (.t 7) (.t 37), none⟩] [(0, 0), (0, 4), (2, 0)] [] [5, 9, 31, 32, 33, 34, 35, 36, 37]) .skip))))))) (bSeq (bReg [kLd1 1 (.t 7)
 (some 38), kCall (.c (.fn 69 [])) [(.t 38), (.c (.fn 70 []))] (some 39)] [3, 4, 5, 19, 38, 39]) (bSeq (bReg [kMv (.c (.nilsl)) (some 10)] []) (bSeq (bSeq (bReg [kLd1 1 (.t 7) (some 40), kLenl (.t 40) (some 41), kMv (.c
 (.int .i64 0)) (some 42)] [7]) (bBlk 2 (bLoop (bSeq (bReg [kBin false false none .lss (.t 42) (.t 41) (some 43)] []) (bSeq (bIf (.t 43) bSkip (bExit 2)) (bSeq (bBlk 3 (bSeq (bRegF [kIad 2 (.t 40) (.t 42) (some 44), kLdN
 2 (.t 44) (some 45), kX (.new [.int .i64 0, .int .i64 0]) (some 12), kSt 2 (.t 12) (.t 45) none] [12] [43, 44, 45]) (bSeq (bSeq (bReg [kMv (.t 10) (some 46), kLenl (.t 46) (some 47), kMv (.t 47) (some 13)] [46, 47])
 (bSeq (bDraw [kMv (.t 13) (some 48), kBin true false none .gtr (.t 48) (.c (.int .i64 0)) (some 49), kMv (.t 49) (some 50), kG 50 true (some 51) (kFad 0 (.t 12) (some 51)), kG 50 true (some 52) (kLd1 1 (.t 51) (some
 52)), kG 50 true (some 53) (kMv (.t 10) (some 53)), kG 50 true (some 54) (kMv (.t 13) (some 54)), kG 50 true (some 55) (kBin true false none .sub (.t 54) (.c (.int .i64 1)) (some 55)), kG 50 true (some 56) (kIad 2 (.t
 53) (.t 55) (some 56)), kG 50 true (some 57) (kFad 1 (.t 56) (some 57)), kG 50 true (some 58) (kLd1 1 (.t 57) (some 58)), kG 50 true (some 59) (kBin true false none .add (.t 58) (.c (.int .i64 1)) (some 59)), kG 50 true
 (some 60) (kBin false false none .leq (.t 52) (.t 59) (some 60)), kPick (.t 50) (.t 60) (.c (.bool false)) (some 61)] [⟨some 48, .mv (.t 13), none⟩, ⟨some 49, .bin .gtr true false none (.t 48) (.c (.int .i64 0)), none⟩,
 ⟨some 50, .mv (.t 49), none⟩, ⟨some 51, .fad 0 (.t 12), (some (some 50, true))⟩, ⟨some 52, .ld false 1 (.t 51), (some (some 50, true))⟩, ⟨some 53, .mv (.t 10), (some (some 50, true))⟩, ⟨some 54, .mv (.t 13), (some (some
 50, true))⟩, ⟨some 55, .bin .sub true false none (.t 54) (.c (.int .i64 1)), (some (some 50, true))⟩, ⟨some 56, .iad 2 (.t 53) (.t 55), (some (some 50, true))⟩, ⟨some 57, .fad 1 (.t 56), (some (some 50, true))⟩, ⟨some
 58, .ld false 1 (.t 57), (some (some 50, true))⟩, ⟨some 59, .bin .add true false none (.t 58) (.c (.int .i64 1)), (some (some 50, true))⟩, ⟨some 60, .bin .leq false false none (.t 52) (.t 59), (some (some 50, true))⟩,
 ⟨some 61, .pick (.t 50) (.t 60) (.c (.bool false)), none⟩] [(4, 0), (8, 0), (10, 0)] [] [48, 49, 50, 51, 52, 53, 54, 55, 56, 57, 58, 59, 60]) (bIf (.t 61) (bSeq (bDraw [kMv (.t 10) (some 62), kMv (.t 13) (some 63), kBin
 true false none .sub (.t 63) (.c (.int .i64 1)) (some 64), kMv (.t 10) (some 65), kMv (.t 13) (some 66), kBin true false none .sub (.t 66) (.c (.int .i64 1)) (some 67), kIad 2 (.t 65) (.t 67) (some 68), kFad 1 (.t 68)
 (some 69), kLd1 1 (.t 69) (some 70), kFad 1 (.t 12) (some 71), kLd1 1 (.t 71) (some 72), kXv (.mnx true (.t 70) [(.t 72)]) (some 73), kIad 2 (.t 62) (.t 64) (some 74), kFad 1 (.t 74) (some 75), kSt 1 (.t 75) (.t 73)
 none] [⟨some 62, .mv (.t 10), none⟩, ⟨some 63, .mv (.t 13), none⟩, ⟨some 64, .bin .sub true false none (.t 63) (.c (.int .i64 1)), none⟩, ⟨some 65, .mv (.t 10), none⟩, ⟨some 66, .mv (.t 13), none⟩, ⟨some 67, .bin .sub
 true false none (.t 66) (.c (.int .i64 1)), none⟩, ⟨some 68, .iad 2 (.t 65) (.t 67), none⟩, ⟨some 69, .fad 1 (.t 68), none⟩, ⟨some 70, .ld false 1 (.t 69), none⟩, ⟨some 71, .fad 1 (.t 12), none⟩, ⟨some 72, .ld false 1
 (.t 71), none⟩, ⟨some 73, .mnx true (.t 70) [(.t 72)], none⟩, ⟨some 74, .iad 2 (.t 62) (.t 64), none⟩, ⟨some 75, .fad 1 (.t 74), none⟩, ⟨none, .st 1 (.t 75) (.t 73), none⟩] [(6, 0), (8, 0), (10, 0), (12, 0)] [] [12, 13,
 61, 62, 63, 64, 65, 66, 67, 68, 69, 70, 71, 72, 73, 74, 75]) (bExit 3)) bSkip))) (bReg [kMv (.t 10) (some 76), kLdN 2 (.t 12) (some 77), kXv (.bsl true 2 [.int .i64 0, .int .i64 0] 1 [(0, (.t 77))]) (some 78), kX (.app 2
 16 (.t 76) (.t 78)) (some 79), kMv (.t 79) (some 10)] [12, 13, 61, 76, 77, 78, 79])))) (bReg [kBin true false none .add (.t 42) (.c (.int .i64 1)) (some 80), kMv (.t 80) (some 42)] [80]))))))) (bSeq (bRegF [kMv (.t 10)
 (some 81), kMv (.t 81) (some 6)] [6] [10, 40, 41, 42, 43, 81]) bRet))))))), sf49.res, sf49.dr⟩
theorem kf49_eq : kf49 = compF 49 sf49 := by kernel_rfl
noncomputable def kf50 : KFun := ⟨6, (bSeq (bReg [kXv (.box true (.t 0)) (some 2), kXv (.box true (.t 1)) (some 3), kMv (.c (.nilfn)) (some 4)] [0, 1, 4]) (bSeq (bReg [kXv (.mkf 71 [(.t 3), (.t 2)]) (some 5), kMv (.t 5)
 (some 4)] [2, 3, 5]) bRet)), sf50.res, sf50.dr⟩
theorem kf50_eq : kf50 = compF 50 sf50 := by kernel_rfl
noncomputable def kf51 : KFun := ⟨124, (bSeq (bReg [kXv (.box true (.t 0)) (some 2), kMv (.c (.bool false)) (some 4)] [0, 4]) (bSeq (bSeq (bReg [kMv (.t 1) (some 9), kLenl (.t 9) (some 10), kMv (.c (.int .i64 0)) (some
 11)] [9]) (bBlk 0 (bLoop (bSeq (bReg [kBin false false none .lss (.t 11) (.t 10) (some 12)] []) (bSeq (bIf (.t 12) bSkip (bExit 0)) (bSeq (bBlk 1 (bSeq (bReg [kMv (.t 11) (some 13), kMv (.t 13) (some 5)] [12, 13]) (bSeq
 (bSeq (bReg [kMv (.t 5) (some 14), kBin true false none .gtr (.t 14) (.c (.int .i64 0)) (some 15)] [14]) (bIf (.t 15) (bSeq (bDraw [kMv (.t 1) (some 16), kMv (.t 5) (some 17), kIad 3 (.t 16) (.t 17) (some 18), kFad 0 (.t
 18) (some 19), kLd1 1 (.t 19) (some 20), kMv (.t 1) (some 21), kMv (.t 5) (some 22), kBin true false none .sub (.t 22) (.c (.int .i64 1)) (some 23), kIad 3 (.t 21) (.t 23) (some 24), kFad 0 (.t 24) (some 25), kLd1 1 (.t
 25) (some 26), kBin false false none .sub (.t 20) (.t 26) (some 27), kMv (.t 27) (some 6)] [⟨some 16, .mv (.t 1), none⟩, ⟨some 17, .mv (.t 5), none⟩, ⟨some 18, .iad 3 (.t 16) (.t 17), none⟩, ⟨some 19, .fad 0 (.t 18),
 none⟩, ⟨some 20, .ld false 1 (.t 19), none⟩, ⟨some 21, .mv (.t 1), none⟩, ⟨some 22, .mv (.t 5), none⟩, ⟨some 23, .bin .sub true false none (.t 22) (.c (.int .i64 1)), none⟩, ⟨some 24, .iad 3 (.t 21) (.t 23), none⟩, ⟨some
 25, .fad 0 (.t 24), none⟩, ⟨some 26, .ld false 1 (.t 25), none⟩, ⟨some 27, .bin .sub false false none (.t 20) (.t 26), none⟩, ⟨some 6, .mv (.t 27), none⟩] [(2, 0), (4, 0), (8, 0), (10, 0)] [] [15, 16, 17, 18, 19, 20, 21,
 22, 23, 24, 25, 26, 27]) (bDraw [kMv (.t 1) (some 28), kMv (.t 5) (some 29), kMv (.t 1) (some 30), kMv (.t 5) (some 31), kIad 3 (.t 30) (.t 31) (some 32), kFad 1 (.t 32) (some 33), kLdN 2 (.t 33) (some 34), kMv (.t 1)
 (some 35), kMv (.t 5) (some 36), kBin true false none .sub (.t 36) (.c (.int .i64 1)) (some 37), kIad 3 (.t 35) (.t 37) (some 38), kFad 1 (.t 38) (some 39), kFad 0 (.t 39) (some 40), kLd1 1 (.t 40) (some 41), kFad 4 (.t
 2) (some 42), kLd1 1 (.t 42) (some 43), kMv (.t 6) (some 44), kBin false false none .mul (.t 43) (.t 44) (some 45), kBin false false none .sub (.t 41) (.t 45) (some 46), kMv (.t 1) (some 47), kMv (.t 5) (some 48), kBin
 true false none .sub (.t 48) (.c (.int .i64 1)) (some 49), kIad 3 (.t 47) (.t 49) (some 50), kFad 1 (.t 50) (some 51), kFad 1 (.t 51) (some 52), kLd1 1 (.t 52) (some 53), kFad 3 (.t 2) (some 54), kLd1 1 (.t 54) (some
 55), kMv (.t 6) (some 56), kBin false false none .mul (.t 55) (.t 56) (some 57), kBin false false none .add (.t 53) (.t 57) (some 58), kXv (.bst [.int .i64 0, .int .i64 0] [(0, 1), (1, 1)] [(0, (.t 46)), (1, (.t 58))])
 (some 59), kCall (.c (.fn 74 [])) [(.t 34), (.t 59)] (some 60), kIad 3 (.t 28) (.t 29) (some 61), kFad 1 (.t 61) (some 62), kSt 2 (.t 62) (.t 60) none] [⟨some 28, .mv (.t 1), none⟩, ⟨some 29, .mv (.t 5), none⟩, ⟨some 30,
 .mv (.t 1), none⟩, ⟨some 31, .mv (.t 5), none⟩, ⟨some 32, .iad 3 (.t 30) (.t 31), none⟩, ⟨some 33, .fad 1 (.t 32), none⟩, ⟨some 34, .ld true 2 (.t 33), none⟩, ⟨some 35, .mv (.t 1), none⟩, ⟨some 36, .mv (.t 5), none⟩,
 ⟨some 37, .bin .sub true false none (.t 36) (.c (.int .i64 1)), none⟩, ⟨some 38, .iad 3 (.t 35) (.t 37), none⟩, ⟨some 39, .fad 1 (.t 38), none⟩, ⟨some 40, .fad 0 (.t 39), none⟩, ⟨some 41, .ld false 1 (.t 40), none⟩,
 ⟨some 42, .fad 4 (.t 2), none⟩, ⟨some 43, .ld false 1 (.t 42), none⟩, ⟨some 44, .mv (.t 6), none⟩, ⟨some 45, .bin .mul false false none (.t 43) (.t 44), none⟩, ⟨some 46, .bin .sub false false none (.t 41) (.t 45), none⟩,
 ⟨some 47, .mv (.t 1), none⟩, ⟨some 48, .mv (.t 5), none⟩, ⟨some 49, .bin .sub true false none (.t 48) (.c (.int .i64 1)), none⟩, ⟨some 50, .iad 3 (.t 47) (.t 49), none⟩, ⟨some 51, .fad 1 (.t 50), none⟩, ⟨some 52, .fad 1
 (.t 51), none⟩, ⟨some 53, .ld false 1 (.t 52), none⟩, ⟨some 54, .fad 3 (.t 2), none⟩, ⟨some 55, .ld false 1 (.t 54), none⟩, ⟨some 56, .mv (.t 6), none⟩, ⟨some 57, .bin .mul false false none (.t 55) (.t 56), none⟩, ⟨some
 58, .bin .add false false none (.t 53) (.t 57), none⟩, ⟨some 59, .bst [.int .i64 0, .int .i64 0] [(0, 1), (1, 1)] [(0, (.t 46)), (1, (.t 58))], none⟩, ⟨some 60, .call (.c (.fn 74 [])) [(.t 34), (.t 59)], none⟩, ⟨some 61,
 .iad 3 (.t 28) (.t 29), none⟩, ⟨some 62, .fad 1 (.t 61), none⟩, ⟨none, .st 2 (.t 62) (.t 60), none⟩] [(4, 0), (6, 0), (10, 0), (13, 0), (15, 0), (22, 0), (25, 0), (27, 0), (33, 33)] [] [6, 28, 29, 30, 31, 32, 33, 34, 35,
 36, 37, 38, 39, 40, 41, 42, 43, 44, 45, 46, 47, 48, 49, 50, 51, 52, 53, 54, 55, 56, 57, 58, 59, 60, 61, 62])) bSkip)) (bSeq (bReg [kMv (.t 1) (some 63), kMv (.t 5) (some 64), kIad 3 (.t 63) (.t 64) (some 65), kFad 1 (.t
 65) (some 66), kLdN 2 (.t 66) (some 67), kCall (.c (.fn 75 [])) [(.t 67)] (some 68)] [5, 15, 63, 64, 65, 66, 67]) (bIf (.t 68) (bSeq (bReg [kMv (.c (.bool false)) (some 4)] [1, 2, 10, 11, 68]) bRet) bSkip))))) (bReg
 [kBin true false none .add (.t 11) (.c (.int .i64 1)) (some 69), kMv (.t 69) (some 11)] [68, 69]))))))) (bSeq (bSeq (bReg [kMv (.t 1) (some 70), kLenl (.t 70) (some 71), kBin true false none .sub (.t 71) (.c (.int .i64
 2)) (some 72), kMv (.t 72) (some 7)] [10, 11, 12, 70, 71, 72]) (bBlk 2 (bLoop (bSeq (bSeq (bReg [kMv (.t 7) (some 73), kBin true false none .geq (.t 73) (.c (.int .i64 0)) (some 74)] [73]) (bIf (.t 74) bSkip (bExit 2)))
 (bSeq (bBlk 3 (bSeq (bDraw [kMv (.t 1) (some 77), kMv (.t 7) (some 78), kBin true false none .add (.t 78) (.c (.int .i64 1)) (some 79), kIad 3 (.t 77) (.t 79) (some 80), kFad 0 (.t 80) (some 81), kLd1 1 (.t 81) (some
 82), kMv (.t 1) (some 83), kMv (.t 7) (some 84), kIad 3 (.t 83) (.t 84) (some 85), kFad 0 (.t 85) (some 86), kLd1 1 (.t 86) (some 87), kBin false false none .sub (.t 82) (.t 87) (some 88), kMv (.t 88) (some 8)] [⟨some
 77, .mv (.t 1), none⟩, ⟨some 78, .mv (.t 7), none⟩, ⟨some 79, .bin .add true false none (.t 78) (.c (.int .i64 1)), none⟩, ⟨some 80, .iad 3 (.t 77) (.t 79), none⟩, ⟨some 81, .fad 0 (.t 80), none⟩, ⟨some 82, .ld false 1
 (.t 81), none⟩, ⟨some 83, .mv (.t 1), none⟩, ⟨some 84, .mv (.t 7), none⟩, ⟨some 85, .iad 3 (.t 83) (.t 84), none⟩, ⟨some 86, .fad 0 (.t 85), none⟩, ⟨some 87, .ld false 1 (.t 86), none⟩, ⟨some 88, .bin .sub false false
 none (.t 82) (.t 87), none⟩, ⟨some 8, .mv (.t 88), none⟩] [(3, 0), (5, 0), (8, 0), (10, 0)] [] [74, 77, 78, 79, 80, 81, 82, 83, 84, 85, 86, 87, 88]) (bDraw [kMv (.t 1) (some 89), kMv (.t 7) (some 90), kMv (.t 1) (some
 91), kMv (.t 7) (some 92), kIad 3 (.t 91) (.t 92) (some 93), kFad 1 (.t 93) (some 94), kLdN 2 (.t 94) (some 95), kMv (.t 1) (some 96), kMv (.t 7) (some 97), kBin true false none .add (.t 97) (.c (.int .i64 1)) (some 98),
 kIad 3 (.t 96) (.t 98) (some 99), kFad 1 (.t 99) (some 100), kFad 0 (.t 100) (some 101), kLd1 1 (.t 101) (some 102), kFad 3 (.t 2) (some 103), kLd1 1 (.t 103) (some 104), kMv (.t 8) (some 105), kBin false false none .mul
 (.t 104) (.t 105) (some 106), kBin false false none .sub (.t 102) (.t 106) (some 107), kMv (.t 1) (some 108), kMv (.t 7) (some 109), kBin true false none .add (.t 109) (.c (.int .i64 1)) (some 110), kIad 3 (.t 108) (.t
 110) (some 111), kFad 1 (.t 111) (some 112), kFad 1 (.t 112) (some 113), kLd1 1 (.t 113) (some 114), kFad 4 (.t 2) (some 115), kLd1 1 (.t 115) (some 116), kMv (.t 8) (some 117), kBin false false none .mul (.t 116) (.t
 117) (some 118), kBin false false none .add (.t 114) (.t 118) (some 119), kXv (.bst [.int .i64 0, .int .i64 0] [(0, 1), (1, 1)] [(0, (.t 107)), (1, (.t 119))]) (some 120), kCall (.c (.fn 74 [])) [(.t 95), (.t 120)] (some
 121), kIad 3 (.t 89) (.t 90) (some 122), kFad 1 (.t 122) (some 123), kSt 2 (.t 123) (.t 121) none] [⟨some 89, .mv (.t 1), none⟩, ⟨some 90, .mv (.t 7), none⟩, ⟨some 91, .mv (.t 1), none⟩, ⟨some 92, .mv (.t 7), none⟩,
 ⟨some 93, .iad 3 (.t 91) (.t 92), none⟩, ⟨some 94, .fad 1 (.t 93), none⟩, ⟨some 95, .ld true 2 (.t 94), none⟩, ⟨some 96, .mv (.t 1), none⟩, ⟨some 97, .mv (.t 7), none⟩, ⟨some 98, .bin .add true false none (.t 97) (.c
 (.int .i64 1)), none⟩, ⟨some 99, .iad 3 (.t 96) (.t 98), none⟩, ⟨some 100, .fad 1 (.t 99), none⟩, ⟨some 101, .fad 0 (.t 100), none⟩, ⟨some 102, .ld false 1 (.t 101), none⟩, ⟨some 103, .fad 3 (.t 2), none⟩, ⟨some 104, .ld
 false 1 (.t 103), none⟩, ⟨some 105, .mv (.t 8), none⟩, ⟨some 106, .bin .mul false false none (.t 104) (.t 105), none⟩, ⟨some 107, .bin .sub false false none (.t 102) (.t 106), none⟩, ⟨some 108, .mv (.t 1), none⟩, ⟨some
 109, .mv (.t 7), none⟩, ⟨some 110, .bin .add true false none (.t 109) (.c (.int .i64 1)), none⟩, ⟨some 111, .iad 3 (.t 108) (.t 110), none⟩, ⟨some 112, .fad 1 (.t 111), none⟩, ⟨some 113, .fad 1 (.t 112), none⟩, ⟨some
 114, .ld false 1 (.t 113), none⟩, ⟨some 115, .fad 4 (.t 2), none⟩, ⟨some 116, .ld false 1 (.t 115), none⟩, ⟨some 117, .mv (.t 8), none⟩, ⟨some 118, .bin .mul false false none (.t 116) (.t 117), none⟩, ⟨some 119, .bin
 .add false false none (.t 114) (.t 118), none⟩, ⟨some 120, .bst [.int .i64 0, .int .i64 0] [(0, 1), (1, 1)] [(0, (.t 107)), (1, (.t 119))], none⟩, ⟨some 121, .call (.c (.fn 74 [])) [(.t 95), (.t 120)], none⟩, ⟨some 122,
 .iad 3 (.t 89) (.t 90), none⟩, ⟨some 123, .fad 1 (.t 122), none⟩, ⟨none, .st 2 (.t 123) (.t 121), none⟩] [(4, 0), (6, 0), (10, 0), (13, 0), (15, 0), (22, 0), (25, 0), (27, 0), (33, 33)] [] [8, 89, 90, 91, 92, 93, 94, 95,
 96, 97, 98, 99, 100, 101, 102, 103, 104, 105, 106, 107, 108, 109, 110, 111, 112, 113, 114, 115, 116, 117, 118, 119, 120, 121, 122, 123]))) (bReg [kMv (.t 7) (some 75), kBin true false none .sub (.t 75) (.c (.int .i64 1))
 (some 76), kMv (.t 76) (some 7)] [75, 76])))))) (bSeq (bReg [kMv (.c (.bool true)) (some 4)] [1, 2, 7, 74]) bRet)))), sf51.res, sf51.dr⟩
theorem kf51_eq : kf51 = compF 51 sf51 := by kernel_rfl
noncomputable def kf52 : KFun := ⟨105, (bSeq (bReg [kXv (.box true (.t 0)) (some 4), kMv (.c (.nilsl)) (some 8)] [0, 8]) (bSeq (bReg [kFad 1 (.t 4) (some 18), kLdN 2 (.t 18) (some 19), kXv (.bst [.int .i64 0, .int .i64 0,
 .int .i64 0] [(0, 1), (1, 2)] [(0, (.c (.int .i64 0))), (1, (.t 19))]) (some 20), kX (.bsl false 3 [.int .i64 0, .int .i64 0, .int .i64 0] 1 [(0, (.t 20))]) (some 21), kMv (.t 3) (some 22), kX (.app 3 24 (.t 21) (.t 22))
 (some 23), kMv (.t 23) (some 9)] [3, 18, 19, 20, 21, 22, 23]) (bSeq (bSeq (bReg [kMv (.t 1) (some 24), kLenl (.t 24) (some 25), kMv (.c (.int .i64 0)) (some 26)] [1]) (bBlk 0 (bLoop (bSeq (bReg [kBin false false none
 .lss (.t 26) (.t 25) (some 27)] []) (bSeq (bIf (.t 27) bSkip (bExit 0)) (bSeq (bBlk 1 (bSeq (bRegF [kIad 3 (.t 24) (.t 26) (some 28), kLdN 3 (.t 28) (some 29), kX (.new [.int .i64 0, .int .i64 0, .int .i64 0]) (some 11),
 kSt 3 (.t 11) (.t 29) none] [11] [27, 28, 29]) (bSeq (bReg [kCall (.c (.fn 67 [])) [] (some 30), kX (.new [.int .i64 0, .int .i64 0]) (some 12), kSt 2 (.t 12) (.t 30) none] [30]) (bSeq (bSeq (bReg [kMv (.t 2) (some 31),
 kFad 0 (.t 11) (some 32), kLd1 1 (.t 32) (some 33), kCall (.c (.fn 76 [])) [(.t 31), (.t 33)] (some 34), kUn .not (.t 34) (some 35)] [31, 32, 33, 34]) (bIf (.t 35) (bSeq (bDraw [kFad 6 (.t 4) (some 36), kLd1 1 (.t 36)
 (some 37), kFad 0 (.t 11) (some 38), kLd1 1 (.t 38) (some 39), kIad 4 (.t 37) (.t 39) (some 40), kLdN 4 (.t 40) (some 41), kFad 1 (.t 11) (some 42), kLd1 1 (.t 42) (some 43), kCall (.c (.fn 44 [])) [(.t 41), (.t 43)]
 (some 44), kMv (.t 44) (some 13)] [⟨some 36, .fad 6 (.t 4), none⟩, ⟨some 37, .ld false 1 (.t 36), none⟩, ⟨some 38, .fad 0 (.t 11), none⟩, ⟨some 39, .ld false 1 (.t 38), none⟩, ⟨some 40, .iad 4 (.t 37) (.t 39), none⟩,
 ⟨some 41, .ld true 4 (.t 40), none⟩, ⟨some 42, .fad 1 (.t 11), none⟩, ⟨some 43, .ld false 1 (.t 42), none⟩, ⟨some 44, .call (.c (.fn 44 [])) [(.t 41), (.t 43)], none⟩, ⟨some 13, .mv (.t 44), none⟩] [(1, 0), (3, 0), (4,
 0), (5, 0), (7, 0)] [] [35, 36, 37, 38, 39, 40, 41, 42, 43, 44]) (bReg [kFad 2 (.t 11) (some 45), kLd1 1 (.t 45) (some 46), kMv (.t 13) (some 47), kBin false false none .sub (.t 46) (.t 47) (some 48), kFad 2 (.t 11)
 (some 49), kLd1 1 (.t 49) (some 50), kMv (.t 13) (some 51), kBin false false none .add (.t 50) (.t 51) (some 52), kXv (.bst [.int .i64 0, .int .i64 0] [(0, 1), (1, 1)] [(0, (.t 48)), (1, (.t 52))]) (some 53), kSt 2 (.t
 12) (.t 53) none] [13, 45, 46, 47, 48, 49, 50, 51, 52, 53])) bSkip)) (bReg [kMv (.t 9) (some 54), kFad 1 (.t 11) (some 55), kLd1 1 (.t 55) (some 56), kLdN 2 (.t 12) (some 57), kXv (.bst [.int .i64 0, .int .i64 0, .int
 .i64 0] [(0, 1), (1, 2)] [(0, (.t 56)), (1, (.t 57))]) (some 58), kXv (.bsl true 3 [.int .i64 0, .int .i64 0, .int .i64 0] 1 [(0, (.t 58))]) (some 59), kX (.app 3 24 (.t 54) (.t 59)) (some 60), kMv (.t 60) (some 9)] [11,
 12, 35, 54, 55, 56, 57, 58, 59, 60]))))) (bReg [kBin true false none .add (.t 26) (.c (.int .i64 1)) (some 61), kMv (.t 61) (some 26)] [61]))))))) (bSeq (bReg [kMv (.t 9) (some 62), kCall (.c (.fn 77 [])) [(.t 62), (.c
 (.fn 78 []))] (some 63)] [2, 4, 24, 25, 26, 27, 62, 63]) (bSeq (bReg [kMv (.c (.nilsl)) (some 14)] []) (bSeq (bSeq (bReg [kMv (.t 9) (some 64), kLenl (.t 64) (some 65), kMv (.c (.int .i64 0)) (some 66)] [9]) (bBlk 2
 (bLoop (bSeq (bReg [kBin false false none .lss (.t 66) (.t 65) (some 67)] []) (bSeq (bIf (.t 67) bSkip (bExit 2)) (bSeq (bBlk 3 (bSeq (bRegF [kIad 3 (.t 64) (.t 66) (some 68), kLdN 3 (.t 68) (some 69), kX (.new [.int
 .i64 0, .int .i64 0, .int .i64 0]) (some 16), kSt 3 (.t 16) (.t 69) none] [16] [67, 68, 69]) (bSeq (bSeq (bReg [kMv (.t 14) (some 70), kLenl (.t 70) (some 71), kMv (.t 71) (some 17)] [70, 71]) (bSeq (bDraw [kMv (.t 17)
 (some 72), kBin true false none .gtr (.t 72) (.c (.int .i64 0)) (some 73), kMv (.t 73) (some 74), kG 74 true (some 75) (kMv (.t 14) (some 75)), kG 74 true (some 76) (kMv (.t 17) (some 76)), kG 74 true (some 77) (kBin
 true false none .sub (.t 76) (.c (.int .i64 1)) (some 77)), kG 74 true (some 78) (kIad 3 (.t 75) (.t 77) (some 78)), kG 74 true (some 79) (kFad 0 (.t 78) (some 79)), kG 74 true (some 80) (kLd1 1 (.t 79) (some 80)), kG 74
 true (some 81) (kFad 0 (.t 16) (some 81)), kG 74 true (some 82) (kLd1 1 (.t 81) (some 82)), kG 74 true (some 83) (kBin false true (some .int) .eql (.t 80) (.t 82) (some 83)), kPick (.t 74) (.t 83) (.c (.bool false))
 (some 84)] [⟨some 72, .mv (.t 17), none⟩, ⟨some 73, .bin .gtr true false none (.t 72) (.c (.int .i64 0)), none⟩, ⟨some 74, .mv (.t 73), none⟩, ⟨some 75, .mv (.t 14), (some (some 74, true))⟩, ⟨some 76, .mv (.t 17), (some
 (some 74, true))⟩, ⟨some 77, .bin .sub true false none (.t 76) (.c (.int .i64 1)), (some (some 74, true))⟩, ⟨some 78, .iad 3 (.t 75) (.t 77), (some (some 74, true))⟩, ⟨some 79, .fad 0 (.t 78), (some (some 74, true))⟩,
 ⟨some 80, .ld false 1 (.t 79), (some (some 74, true))⟩, ⟨some 81, .fad 0 (.t 16), (some (some 74, true))⟩, ⟨some 82, .ld false 1 (.t 81), (some (some 74, true))⟩, ⟨some 83, .bin .eql false true (some .int) (.t 80) (.t
 82), (some (some 74, true))⟩, ⟨some 84, .pick (.t 74) (.t 83) (.c (.bool false)), none⟩] [(6, 0), (8, 0), (10, 0)] [] [72, 73, 74, 75, 76, 77, 78, 79, 80, 81, 82, 83]) (bIf (.t 84) (bSeq (bDraw [kMv (.t 14) (some 85),
 kMv (.t 17) (some 86), kBin true false none .sub (.t 86) (.c (.int .i64 1)) (some 87), kMv (.t 14) (some 88), kMv (.t 17) (some 89), kBin true false none .sub (.t 89) (.c (.int .i64 1)) (some 90), kIad 3 (.t 88) (.t 90)
 (some 91), kFad 1 (.t 91) (some 92), kLdN 2 (.t 92) (some 93), kFad 1 (.t 16) (some 94), kLdN 2 (.t 94) (some 95), kCall (.c (.fn 74 [])) [(.t 93), (.t 95)] (some 96), kIad 3 (.t 85) (.t 87) (some 97), kFad 1 (.t 97)
 (some 98), kSt 2 (.t 98) (.t 96) none] [⟨some 85, .mv (.t 14), none⟩, ⟨some 86, .mv (.t 17), none⟩, ⟨some 87, .bin .sub true false none (.t 86) (.c (.int .i64 1)), none⟩, ⟨some 88, .mv (.t 14), none⟩, ⟨some 89, .mv (.t
 17), none⟩, ⟨some 90, .bin .sub true false none (.t 89) (.c (.int .i64 1)), none⟩, ⟨some 91, .iad 3 (.t 88) (.t 90), none⟩, ⟨some 92, .fad 1 (.t 91), none⟩, ⟨some 93, .ld true 2 (.t 92), none⟩, ⟨some 94, .fad 1 (.t 16),
 none⟩, ⟨some 95, .ld true 2 (.t 94), none⟩, ⟨some 96, .call (.c (.fn 74 [])) [(.t 93), (.t 95)], none⟩, ⟨some 97, .iad 3 (.t 85) (.t 87), none⟩, ⟨some 98, .fad 1 (.t 97), none⟩, ⟨none, .st 2 (.t 98) (.t 96), none⟩] [(6,
 0), (8, 0), (10, 0), (12, 12)] [] [16, 17, 84, 85, 86, 87, 88, 89, 90, 91, 92, 93, 94, 95, 96, 97, 98]) (bExit 3)) bSkip))) (bReg [kMv (.t 14) (some 99), kLdN 3 (.t 16) (some 100), kXv (.bsl true 3 [.int .i64 0, .int
 .i64 0, .int .i64 0] 1 [(0, (.t 100))]) (some 101), kX (.app 3 24 (.t 99) (.t 101)) (some 102), kMv (.t 102) (some 14)] [16, 17, 84, 99, 100, 101, 102])))) (bReg [kBin true false none .add (.t 66) (.c (.int .i64 1))
 (some 103), kMv (.t 103) (some 66)] [103]))))))) (bSeq (bReg [kMv (.t 14) (some 104), kMv (.t 104) (some 8)] [14, 64, 65, 66, 67, 104]) bRet))))))), sf52.res, sf52.dr⟩
theorem kf52_eq : kf52 = compF 52 sf52 := by kernel_rfl
noncomputable def kf57 : KFun := ⟨50, (bSeq (bReg [kMv (.c (.bool false)) (some 2)] [2]) (bSeq (bSeq (bReg [kMv (.t 0) (some 5), kBin true true (some .str) .eql (.t 5) (.c (.str [])) (some 6), kMv (.t 6) (some 7), kG 7
 false (some 8) (kMv (.t 0) (some 8)), kG 7 false (some 9) (kLens (.t 8) (some 9)), kG 7 false (some 10) (kBin true false none .gtr (.t 9) (.c (.int .i64 16)) (some 10)), kPick (.t 7) (.c (.bool true)) (.t 10) (some 11),
 kMv (.t 11) (some 12), kG 12 false (some 13) (kMv (.t 0) (some 13)), kG 12 false (some 14) (kIxs (.t 13) (.c (.int .i64 0)) (some 14)), kG 12 false (some 15) (kBin true false none .lss (.t 14) (.c (.int .u8 97)) (some
 15)), kPick (.t 12) (.c (.bool true)) (.t 15) (some 16), kMv (.t 16) (some 17), kG 17 false (some 18) (kMv (.t 0) (some 18)), kG 17 false (some 19) (kIxs (.t 18) (.c (.int .i64 0)) (some 19)), kG 17 false (some 20) (kBin
 true false none .gtr (.t 19) (.c (.int .u8 122)) (some 20)), kPick (.t 17) (.c (.bool true)) (.t 20) (some 21)] [5, 6, 7, 8, 9, 10, 11, 12, 13, 14, 15, 16, 17, 18, 19, 20]) (bIf (.t 21) (bSeq (bReg [kMv (.c (.bool
 false)) (some 2)] [0, 21]) bRet) bSkip)) (bSeq (bSeq (bReg [kMv (.t 0) (some 22), kLens (.t 22) (some 23), kMv (.c (.int .i64 0)) (some 24)] [21, 22]) (bBlk 0 (bLoop (bSeq (bReg [kBin false false none .lss (.t 24) (.t
 23) (some 25)] []) (bSeq (bIf (.t 25) bSkip (bExit 0)) (bSeq (bBlk 1 (bSeq (bReg [kMv (.t 24) (some 26), kMv (.t 26) (some 3)] [25, 26]) (bSeq (bReg [kMv (.t 0) (some 27), kMv (.t 3) (some 28), kIxs (.t 27) (.t 28) (some
 29), kMv (.t 29) (some 4)] [3, 27, 28, 29]) (bSeq (bReg [kMv (.t 4) (some 30), kBin true false none .geq (.t 30) (.c (.int .u8 97)) (some 31), kMv (.t 31) (some 32), kG 32 true (some 33) (kMv (.t 4) (some 33)), kG 32
 true (some 34) (kBin true false none .leq (.t 33) (.c (.int .u8 122)) (some 34)), kPick (.t 32) (.t 34) (.c (.bool false)) (some 35), kMv (.t 35) (some 36), kG 36 false (some 37) (kMv (.t 4) (some 37)), kG 36 false (some
 38) (kBin true false none .geq (.t 37) (.c (.int .u8 48)) (some 38)), kG 36 false (some 39) (kMv (.t 38) (some 39)), kG 39 true (some 40) (kMv (.t 4) (some 40)), kG 39 true (some 41) (kBin true false none .leq (.t 40)
 (.c (.int .u8 57)) (some 41)), kG 36 false (some 42) (kPick (.t 39) (.t 41) (.c (.bool false)) (some 42)), kPick (.t 36) (.c (.bool true)) (.t 42) (some 43), kMv (.t 43) (some 44), kG 44 false (some 45) (kMv (.t 4) (some
 45)), kG 44 false (some 46) (kBin true true (some .int) .eql (.t 45) (.c (.int .u8 45)) (some 46)), kPick (.t 44) (.c (.bool true)) (.t 46) (some 47), kUn .not (.t 47) (some 48)] [4, 30, 31, 32, 33, 34, 35, 36, 37, 38,
 39, 40, 41, 42, 43, 44, 45, 46, 47]) (bIf (.t 48) (bSeq (bReg [kMv (.c (.bool false)) (some 2)] [0, 23, 24, 48]) bRet) bSkip))))) (bReg [kBin true false none .add (.t 24) (.c (.int .i64 1)) (some 49), kMv (.t 49) (some
 24)] [48, 49]))))))) (bSeq (bReg [kMv (.c (.bool true)) (some 2)] [0, 23, 24, 25]) bRet)))), sf57.res, sf57.dr⟩
theorem kf57_eq : kf57 = compF 57 sf57 := by kernel_rfl
noncomputable def kf58 : KFun := ⟨9, (bSeq (bReg [kMv (.c (.bool false)) (some 4)] [4]) (bSeq (bReg [kMv (.t 0) (some 5), kMv (.t 1) (some 6), kCall (.c (.fn 82 [])) [(.t 5), (.t 6)] (some 7), kBin true false none .geq
 (.t 7) (.c (.int .i64 0)) (some 8), kMv (.t 8) (some 4)] [0, 1, 5, 6, 7, 8]) bRet)), sf58.res, sf58.dr⟩
theorem kf58_eq : kf58 = compF 58 sf58 := by kernel_rfl
noncomputable def kf59 : KFun := ⟨9, (bSeq (bReg [kXv (.box true (.t 0)) (some 2), kMv (.c (.bool false)) (some 3)] [0, 3]) (bSeq (bReg [kFad 0 (.t 2) (some 4), kLd1 1 (.t 4) (some 5), kFad 0 (.t 1) (some 6), kLd1 1 (.t
 6) (some 7), kBin false true (some .str) .eql (.t 5) (.t 7) (some 8), kMv (.t 8) (some 3)] [1, 2, 4, 5, 6, 7, 8]) bRet)), sf59.res, sf59.dr⟩
theorem kf59_eq : kf59 = compF 59 sf59 := by kernel_rfl
noncomputable def kf60 : KFun := ⟨76, (bSeq (bReg [kXv (.box true (.t 0)) (some 1), kMv (.c (.int .i64 0)) (some 2)] [0, 2]) (bSeq (bBlk 0 (bSeq (bReg [kFad 1 (.t 1) (some 7), kFad 0 (.t 7) (some 8), kLd1 1 (.t 8) (some
 9), kCall (.c (.fn 29 [])) [(.t 9)] (some 10), kUn .not (.t 10) (some 11), kMv (.t 11) (some 12), kG 12 false (some 13) (kFad 1 (.t 1) (some 13)), kG 12 false (some 14) (kFad 1 (.t 13) (some 14)), kG 12 false (some 15)
 (kLd1 1 (.t 14) (some 15)), kG 12 false (some 16) (kCall (.c (.fn 29 [])) [(.t 15)] (some 16)), kG 12 false (some 17) (kUn .not (.t 16) (some 17)), kPick (.t 12) (.c (.bool true)) (.t 17) (some 18), kMv (.t 18) (some
 19), kG 19 false (some 20) (kFad 1 (.t 1) (some 20)), kG 19 false (some 21) (kFad 0 (.t 20) (some 21)), kG 19 false (some 22) (kLd1 1 (.t 21) (some 22)), kG 19 false (some 23) (kFad 1 (.t 1) (some 23)), kG 19 false (some
 24) (kFad 1 (.t 23) (some 24)), kG 19 false (some 25) (kLd1 1 (.t 24) (some 25)), kG 19 false (some 26) (kBin false false none .gtr (.t 22) (.t 25) (some 26)), kPick (.t 19) (.c (.bool true)) (.t 26) (some 27), kMv (.t
 27) (some 6)] [7, 8, 9, 10, 11, 12, 13, 14, 15, 16, 17, 18, 19, 20, 21, 22, 23, 24, 25, 26, 27]) (bIf (.t 6) (bSeq (bReg [kMv (.c (.int .i64 1)) (some 2)] [1, 6]) bRet) (bSeq (bReg [kFad 3 (.t 1) (some 29), kLd1 1 (.t
 29) (some 30), kCall (.c (.fn 28 [])) [(.t 30), (.c (.int .i64 0)), (.c (.int .i64 10000))] (some 31), kUn .not (.t 31) (some 32), kMv (.t 32) (some 33), kG 33 false (some 34) (kFad 4 (.t 1) (some 34)), kG 33 false (some
 35) (kLd1 1 (.t 34) (some 35)), kG 33 false (some 36) (kCall (.c (.fn 28 [])) [(.t 35), (.c (.int .i64 0)), (.c (.int .i64 10000))] (some 36)), kG 33 false (some 37) (kUn .not (.t 36) (some 37)), kPick (.t 33) (.c (.bool
 true)) (.t 37) (some 38), kMv (.t 38) (some 28)] [6, 29, 30, 31, 32, 33, 34, 35, 36, 37, 38]) (bIf (.t 28) (bSeq (bReg [kMv (.c (.int .i64 1)) (some 2)] [1, 28]) bRet) (bSeq (bReg [kFad 6 (.t 1) (some 40), kLd1 1 (.t 40)
 (some 41), kLenl (.t 41) (some 42), kBin true false none .gtr (.t 42) (.c (.int .i64 8)) (some 43), kMv (.t 43) (some 39)] [28, 40, 41, 42, 43]) (bIf (.t 39) (bSeq (bReg [kMv (.c (.int .i64 3)) (some 2)] [1, 39]) bRet)
 (bSeq (bReg [kFad 5 (.t 1) (some 45), kLd1 1 (.t 45) (some 46), kFad 6 (.t 1) (some 47), kLd1 1 (.t 47) (some 48), kLenl (.t 48) (some 49), kCall (.c (.fn 28 [])) [(.t 46), (.c (.int .i64 0)), (.t 49)] (some 50), kUn
 .not (.t 50) (some 51), kMv (.t 51) (some 44)] [39, 45, 46, 47, 48, 49, 50, 51]) (bIf (.t 44) (bSeq (bReg [kMv (.c (.int .i64 1)) (some 2)] [1, 44]) bRet) bSkip))))))))) (bSeq (bSeq (bReg [kFad 6 (.t 1) (some 52), kLd1 1
 (.t 52) (some 53), kLenl (.t 53) (some 54), kMv (.c (.int .i64 0)) (some 55)] [44, 52]) (bBlk 1 (bLoop (bSeq (bReg [kBin false false none .lss (.t 55) (.t 54) (some 56)] []) (bSeq (bIf (.t 56) bSkip (bExit 1)) (bSeq
 (bBlk 2 (bSeq (bRegF [kMv (.t 55) (some 57), kIad 4 (.t 53) (.t 55) (some 58), kLdN 4 (.t 58) (some 59), kX (.new [.str [], .int .i64 0, .int .i64 0, .int .i64 0]) (some 4), kMv (.t 57) (some 3), kSt 4 (.t 4) (.t 59)
 none] [4] [56, 57, 58, 59]) (bSeq (bSeq (bReg [kFad 0 (.t 4) (some 60), kLd1 1 (.t 60) (some 61), kCall (.c (.fn 57 [])) [(.t 61)] (some 62), kUn .not (.t 62) (some 63)] [60, 61, 62]) (bIf (.t 63) (bSeq (bReg [kMv (.c
 (.int .i64 5)) (some 2)] [1, 3, 4, 53, 54, 55, 63]) bRet) bSkip)) (bSeq (bSeq (bReg [kFad 6 (.t 1) (some 64), kLd1 1 (.t 64) (some 65), kMv (.t 3) (some 66), kXv (.slc 4 (.t 65) none (some (.t 66)) none) (some 67), kXv
 (.mkf 84 [(.t 4)]) (some 68), kCall (.c (.fn 83 [])) [(.t 67), (.t 68)] (some 69)] [3, 63, 64, 65, 66, 67, 68]) (bIf (.t 69) (bSeq (bReg [kMv (.c (.int .i64 6)) (some 2)] [1, 4, 53, 54, 55, 69]) bRet) bSkip)) (bSeq (bReg
 [kLdN 4 (.t 4) (some 70), kCall (.c (.fn 42 [])) [(.t 70)] (some 71), kMv (.t 71) (some 5)] [4, 69, 70, 71]) (bSeq (bReg [kMv (.t 5) (some 72), kBin true true (some .int) .neq (.t 72) (.c (.int .i64 0)) (some 73)] [72])
 (bIf (.t 73) (bSeq (bReg [kMv (.t 5) (some 74), kMv (.t 74) (some 2)] [1, 5, 53, 54, 55, 73, 74]) bRet) bSkip))))))) (bReg [kBin true false none .add (.t 55) (.c (.int .i64 1)) (some 75), kMv (.t 75) (some 55)] [5, 73,
 75]))))))) (bSeq (bReg [kMv (.c (.int .i64 0)) (some 2)] [1, 53, 54, 55, 56]) bRet)))), sf60.res, sf60.dr⟩
theorem kf60_eq : kf60 = compF 60 sf60 := by kernel_rfl
noncomputable def kf66 : KFun := ⟨25, (bSeq (bReg [kXv (.box true (.t 0)) (some 2), kXv (.box true (.t 1)) (some 3), kMv (.c (.int .i64 0)) (some 4)] [0, 1, 4]) (bSeq (bBlk 0 (bSeq (bReg [kFad 0 (.t 3) (some 6), kLd1 1
 (.t 6) (some 7), kFad 6 (.t 2) (some 8), kLd1 1 (.t 8) (some 9), kLenl (.t 9) (some 10), kBin true false none .sub (.t 10) (.c (.int .i64 1)) (some 11), kCall (.c (.fn 28 [])) [(.t 7), (.c (.int .i64 0)), (.t 11)] (some
 12), kUn .not (.t 12) (some 13), kMv (.t 13) (some 5)] [2, 6, 7, 8, 9, 10, 11, 12, 13]) (bIf (.t 5) (bSeq (bReg [kMv (.c (.int .i64 7)) (some 4)] [3, 5]) bRet) (bSeq (bReg [kFad 1 (.t 3) (some 15), kLd1 1 (.t 15) (some
 16), kCall (.c (.fn 43 [])) [(.t 16)] (some 17), kUn .not (.t 17) (some 18), kMv (.t 18) (some 19), kG 19 false (some 20) (kFad 2 (.t 3) (some 20)), kG 19 false (some 21) (kLd1 1 (.t 20) (some 21)), kG 19 false (some 22)
 (kCall (.c (.fn 29 [])) [(.t 21)] (some 22)), kG 19 false (some 23) (kUn .not (.t 22) (some 23)), kPick (.t 19) (.c (.bool true)) (.t 23) (some 24), kMv (.t 24) (some 14)] [3, 5, 15, 16, 17, 18, 19, 20, 21, 22, 23, 24])
 (bIf (.t 14) (bSeq (bReg [kMv (.c (.int .i64 1)) (some 4)] [14]) bRet) bSkip))))) (bSeq (bReg [kMv (.c (.int .i64 0)) (some 4)] [14]) bRet))), sf66.res, sf66.dr⟩
theorem kf66_eq : kf66 = compF 66 sf66 := by kernel_rfl
noncomputable def kf67 : KFun := ⟨2, (bSeq (bReg [kX (.new [.int .i64 0, .int .i64 0]) (some 0)] []) (bSeq (bReg [kXv (.bst [.int .i64 0, .int .i64 0] [(0, 1), (1, 1)] [(0, (.c (.int .i64 (-4000000000)))), (1, (.c (.int
 .i64 4000000000)))]) (some 1), kSt 2 (.t 0) (.t 1) none] [1]) bRet)), sf67.res, sf67.dr⟩
theorem kf67_eq : kf67 = compF 67 sf67 := by kernel_rfl
noncomputable def kf68 : KFun := ⟨14, (bSeq (bReg [kXv (.box true (.t 1)) (some 3), kX (.new [.int .i64 0, .int .i64 0]) (some 4)] [1]) (bSeq (bReg [kMv (.t 0) (some 6), kXv (.mkf 87 [(.t 3)]) (some 7), kCall (.c (.fn 86
 [])) [(.t 6), (.t 7)] (some 8), kMv (.t 8) (some 5)] [3, 6, 7, 8]) (bSeq (bReg [kMv (.t 0) (some 9), kMv (.t 5) (some 10), kIad 3 (.t 9) (.t 10) (some 11), kFad 1 (.t 11) (some 12), kLdN 2 (.t 12) (some 13), kSt 2 (.t 4)
 (.t 13) none] [0, 5, 9, 10, 11, 12, 13]) bRet))), sf68.res, sf68.dr⟩
theorem kf68_eq : kf68 = compF 68 sf68 := by kernel_rfl
noncomputable def kf69 : KFun := ⟨14, (bSeq (bReg [kMv (.t 0) (some 5), kLenl (.t 5) (some 6), kMv (.t 6) (some 4)] [5, 6]) (bReg [kMv (.t 0) (some 7), kMv (.t 4) (some 8), kMv (.t 4) (some 9), kXv (.cvi .u64 (.t 9))
 (some 10), kCall (.c (.fn 89 [])) [(.t 10)] (some 11), kMv (.t 1) (some 12), kCall (.c (.fn 88 [])) [(.t 7), (.c (.int .i64 0)), (.t 8), (.t 11), (.t 12)] (some 13)] [0, 1, 4, 7, 8, 9, 10, 11, 12, 13])), sf69.res,
 sf69.dr⟩
theorem kf69_eq : kf69 = compF 69 sf69 := by kernel_rfl
noncomputable def kf70 : KFun := ⟨10, (bSeq (bReg [kXv (.box true (.t 0)) (some 2), kXv (.box true (.t 1)) (some 3), kMv (.c (.int .i64 0)) (some 4)] [0, 1, 4]) (bSeq (bReg [kFad 0 (.t 2) (some 5), kLd1 1 (.t 5) (some 6),
 kFad 0 (.t 3) (some 7), kLd1 1 (.t 7) (some 8), kBin false false none .sub (.t 6) (.t 8) (some 9), kMv (.t 9) (some 4)] [2, 3, 5, 6, 7, 8, 9]) bRet)), sf70.res, sf70.dr⟩
theorem kf70_eq : kf70 = compF 70 sf70 := by kernel_rfl
noncomputable def kf71 : KFun := ⟨8, (bSeq (bReg [kXv (.box true (.t 0)) (some 3)] [0]) (bSeq (bReg [kX (.new [.nilfn]) (some 4)] []) (bSeq (bReg [kXv (.mkf 72 [(.t 1), (.t 3), (.t 2), (.t 4)]) (some 5), kSt 1 (.t 4) (.t
 5) none] [1, 2, 3, 5]) (bReg [kLd1 1 (.t 4) (some 6), kCall (.t 6) [(.c (.int .i64 0)), (.c (.nilsl))] (some 7)] [4, 6, 7])))), sf71.res, sf71.dr⟩
theorem kf71_eq : kf71 = compF 71 sf71 := by kernel_rfl
noncomputable def kf72 : KFun := ⟨33, (bSeq (bReg [kMv (.c (.bool false)) (some 8)] [8]) (bSeq (bSeq (bReg [kMv (.t 1) (some 10), kLenl (.t 10) (some 11), kLd1 1 (.t 2) (some 12), kBin false true (some .int) .eql (.t 11)
 (.t 12) (some 13)] [2, 10, 11, 12]) (bIf (.t 13) (bSeq (bReg [kLd1 1 (.t 3) (some 14), kMv (.t 1) (some 15), kCall (.t 14) [(.t 15)] (some 16), kMv (.t 16) (some 8)] [0, 1, 3, 4, 5, 13, 14, 15, 16]) bRet) bSkip)) (bSeq
 (bSeq (bReg [kMv (.t 0) (some 17), kMv (.t 17) (some 9)] [0, 3, 13, 17]) (bBlk 0 (bLoop (bSeq (bSeq (bReg [kMv (.t 9) (some 18), kLd1 1 (.t 4) (some 19), kBin false false none .lss (.t 18) (.t 19) (some 20)] [18, 19])
 (bIf (.t 20) bSkip (bExit 0))) (bSeq (bBlk 1 (bSeq (bDraw [kLd1 1 (.t 5) (some 23), kMv (.t 9) (some 24), kBin true false none .add (.t 24) (.c (.int .i64 1)) (some 25), kMv (.t 1) (some 26), kCall (.c (.fn 73 [])) [(.t
 26)] (some 27), kMv (.t 9) (some 28), kXv (.bsl true 1 [.int .i64 0] 1 [(0, (.t 28))]) (some 29), kX (.app 1 8 (.t 27) (.t 29)) (some 30), kCall (.t 23) [(.t 25), (.t 30)] (some 31), kUn .not (.t 31) (some 32)] [⟨some
 23, .ld false 1 (.t 5), none⟩, ⟨some 24, .mv (.t 9), none⟩, ⟨some 25, .bin .add true false none (.t 24) (.c (.int .i64 1)), none⟩, ⟨some 26, .mv (.t 1), none⟩, ⟨some 27, .call (.c (.fn 73 [])) [(.t 26)], none⟩, ⟨some 28,
 .mv (.t 9), none⟩, ⟨some 29, .bsl true 1 [.int .i64 0] 1 [(0, (.t 28))], none⟩, ⟨some 30, .app 1 8 (.t 27) (.t 29), none⟩, ⟨some 31, .call (.t 23) [(.t 25), (.t 30)], none⟩, ⟨some 32, .un .not (.t 31), none⟩] [(0, 0),
 (0, 5), (0, 8)] [] [20, 23, 24, 25, 26, 27, 28, 29, 30, 31]) (bIf (.t 32) (bSeq (bReg [kMv (.c (.bool false)) (some 8)] [1, 4, 5, 9, 32]) bRet) bSkip))) (bReg [kMv (.t 9) (some 21), kBin true false none .add (.t 21) (.c
 (.int .i64 1)) (some 22), kMv (.t 22) (some 9)] [21, 22, 32])))))) (bSeq (bReg [kMv (.c (.bool true)) (some 8)] [1, 4, 5, 9, 20]) bRet)))), sf72.res, sf72.dr⟩
theorem kf72_eq : kf72 = compF 72 sf72 := by kernel_rfl
noncomputable def kf73 : KFun := ⟨8, (bSeq (bReg [kMv (.c (.nilsl)) (some 2)] [2]) (bSeq (bSeq (bReg [kMv (.t 0) (some 3), kBin true true (some .sl) .eql (.t 3) (.c (.nilsl)) (some 4)] [3]) (bIf (.t 4) (bSeq (bReg [kMv
 (.c (.nilsl)) (some 2)] [0, 4]) bRet) bSkip)) (bSeq (bReg [kX (.bsl false 1 [.int .i64 0] 0 []) (some 5), kMv (.t 0) (some 6), kX (.app 1 8 (.t 5) (.t 6)) (some 7), kMv (.t 7) (some 2)] [0, 4, 5, 6, 7]) bRet))),
 sf73.res, sf73.dr⟩
theorem kf73_eq : kf73 = compF 73 sf73 := by kernel_rfl
noncomputable def kf74 : KFun := ⟨16, (bSeq (bReg [kXv (.box true (.t 0)) (some 2), kXv (.box true (.t 1)) (some 3), kX (.new [.int .i64 0, .int .i64 0]) (some 4)] [0, 1]) (bSeq (bReg [kFad 0 (.t 2) (some 5), kLd1 1 (.t
 5) (some 6), kFad 0 (.t 3) (some 7), kLd1 1 (.t 7) (some 8), kXv (.mnx true (.t 6) [(.t 8)]) (some 9), kFad 1 (.t 2) (some 10), kLd1 1 (.t 10) (some 11), kFad 1 (.t 3) (some 12), kLd1 1 (.t 12) (some 13), kXv (.mnx false
 (.t 11) [(.t 13)]) (some 14), kXv (.bst [.int .i64 0, .int .i64 0] [(0, 1), (1, 1)] [(0, (.t 9)), (1, (.t 14))]) (some 15), kSt 2 (.t 4) (.t 15) none] [2, 3, 5, 6, 7, 8, 9, 10, 11, 12, 13, 14, 15]) bRet)), sf74.res,
 sf74.dr⟩
theorem kf74_eq : kf74 = compF 74 sf74 := by kernel_rfl
noncomputable def kf75 : KFun := ⟨8, (bSeq (bReg [kXv (.box true (.t 0)) (some 1), kMv (.c (.bool false)) (some 2)] [0, 2]) (bSeq (bReg [kFad 0 (.t 1) (some 3), kLd1 1 (.t 3) (some 4), kFad 1 (.t 1) (some 5), kLd1 1 (.t
 5) (some 6), kBin false false none .gtr (.t 4) (.t 6) (some 7), kMv (.t 7) (some 2)] [1, 3, 4, 5, 6, 7]) bRet)), sf75.res, sf75.dr⟩
theorem kf75_eq : kf75 = compF 75 sf75 := by kernel_rfl
noncomputable def kf76 : KFun := ⟨9, (bSeq (bReg [kMv (.c (.bool false)) (some 4)] [4]) (bSeq (bReg [kMv (.t 0) (some 5), kMv (.t 1) (some 6), kCall (.c (.fn 90 [])) [(.t 5), (.t 6)] (some 7), kBin true false none .geq
 (.t 7) (.c (.int .i64 0)) (some 8), kMv (.t 8) (some 4)] [0, 1, 5, 6, 7, 8]) bRet)), sf76.res, sf76.dr⟩
theorem kf76_eq : kf76 = compF 76 sf76 := by kernel_rfl
noncomputable def kf77 : KFun := ⟨9, (bReg [kMv (.t 0) (some 4), kMv (.t 0) (some 5), kLenl (.t 5) (some 6), kMv (.t 1) (some 7), kCall (.c (.fn 91 [])) [(.t 4), (.t 6), (.t 7)] (some 8)] [0, 1, 4, 5, 6, 7, 8]), sf77.res,
 sf77.dr⟩
theorem kf77_eq : kf77 = compF 77 sf77 := by kernel_rfl
noncomputable def kf78 : KFun := ⟨10, (bSeq (bReg [kXv (.box true (.t 0)) (some 2), kXv (.box true (.t 1)) (some 3), kMv (.c (.int .i64 0)) (some 4)] [0, 1, 4]) (bSeq (bReg [kFad 0 (.t 2) (some 5), kLd1 1 (.t 5) (some 6),
 kFad 0 (.t 3) (some 7), kLd1 1 (.t 7) (some 8), kBin false false none .sub (.t 6) (.t 8) (some 9), kMv (.t 9) (some 4)] [2, 3, 5, 6, 7, 8, 9]) bRet)), sf78.res, sf78.dr⟩
theorem kf78_eq : kf78 = compF 78 sf78 := by kernel_rfl
noncomputable def kf82 : KFun := ⟨19, (bSeq (bReg [kMv (.c (.int .i64 0)) (some 4)] [4]) (bSeq (bSeq (bReg [kMv (.t 0) (some 6), kLenl (.t 6) (some 7), kMv (.c (.int .i64 0)) (some 8)] [6]) (bBlk 0 (bLoop (bSeq (bReg
 [kBin false false none .lss (.t 8) (.t 7) (some 9)] []) (bSeq (bIf (.t 9) bSkip (bExit 0)) (bSeq (bBlk 1 (bSeq (bReg [kMv (.t 8) (some 10), kMv (.t 10) (some 5)] [9, 10]) (bSeq (bReg [kMv (.t 1) (some 11), kMv (.t 0)
 (some 12), kMv (.t 5) (some 13), kIad 7 (.t 12) (.t 13) (some 14), kLdN 7 (.t 14) (some 15), kCall (.t 11) [(.t 15)] (some 16)] [11, 12, 13, 14, 15]) (bIf (.t 16) (bSeq (bReg [kMv (.t 5) (some 17), kMv (.t 17) (some 4)]
 [0, 1, 5, 7, 8, 16, 17]) bRet) bSkip)))) (bReg [kBin true false none .add (.t 8) (.c (.int .i64 1)) (some 18), kMv (.t 18) (some 8)] [5, 16, 18]))))))) (bSeq (bReg [kMv (.c (.int .i64 (-1))) (some 4)] [0, 1, 7, 8, 9])
 bRet))), sf82.res, sf82.dr⟩
theorem kf82_eq : kf82 = compF 82 sf82 := by kernel_rfl
noncomputable def kf83 : KFun := ⟨9, (bSeq (bReg [kMv (.c (.bool false)) (some 4)] [4]) (bSeq (bReg [kMv (.t 0) (some 5), kMv (.t 1) (some 6), kCall (.c (.fn 97 [])) [(.t 5), (.t 6)] (some 7), kBin true false none .geq
 (.t 7) (.c (.int .i64 0)) (some 8), kMv (.t 8) (some 4)] [0, 1, 5, 6, 7, 8]) bRet)), sf83.res, sf83.dr⟩
theorem kf83_eq : kf83 = compF 83 sf83 := by kernel_rfl
noncomputable def kf84 : KFun := ⟨9, (bSeq (bReg [kXv (.box true (.t 0)) (some 2), kMv (.c (.bool false)) (some 3)] [0, 3]) (bSeq (bReg [kFad 0 (.t 2) (some 4), kLd1 1 (.t 4) (some 5), kFad 0 (.t 1) (some 6), kLd1 1 (.t
 6) (some 7), kBin false true (some .str) .eql (.t 5) (.t 7) (some 8), kMv (.t 8) (some 3)] [1, 2, 4, 5, 6, 7, 8]) bRet)), sf84.res, sf84.dr⟩
theorem kf84_eq : kf84 = compF 84 sf84 := by kernel_rfl
noncomputable def kf86 : KFun := ⟨19, (bSeq (bReg [kMv (.c (.int .i64 0)) (some 4)] [4]) (bSeq (bSeq (bReg [kMv (.t 0) (some 6), kLenl (.t 6) (some 7), kMv (.c (.int .i64 0)) (some 8)] [6]) (bBlk 0 (bLoop (bSeq (bReg
 [kBin false false none .lss (.t 8) (.t 7) (some 9)] []) (bSeq (bIf (.t 9) bSkip (bExit 0)) (bSeq (bBlk 1 (bSeq (bReg [kMv (.t 8) (some 10), kMv (.t 10) (some 5)] [9, 10]) (bSeq (bReg [kMv (.t 1) (some 11), kMv (.t 0)
 (some 12), kMv (.t 5) (some 13), kIad 3 (.t 12) (.t 13) (some 14), kLdN 3 (.t 14) (some 15), kCall (.t 11) [(.t 15)] (some 16)] [11, 12, 13, 14, 15]) (bIf (.t 16) (bSeq (bReg [kMv (.t 5) (some 17), kMv (.t 17) (some 4)]
 [0, 1, 5, 7, 8, 16, 17]) bRet) bSkip)))) (bReg [kBin true false none .add (.t 8) (.c (.int .i64 1)) (some 18), kMv (.t 18) (some 8)] [5, 16, 18]))))))) (bSeq (bReg [kMv (.c (.int .i64 (-1))) (some 4)] [0, 1, 7, 8, 9])
 bRet))), sf86.res, sf86.dr⟩
theorem kf86_eq : kf86 = compF 86 sf86 := by kernel_rfl
noncomputable def kf87 : KFun := ⟨8, (bSeq (bReg [kXv (.box true (.t 0)) (some 2), kMv (.c (.bool false)) (some 3)] [0, 3]) (bSeq (bReg [kFad 0 (.t 2) (some 4), kLd1 1 (.t 4) (some 5), kLd1 1 (.t 1) (some 6), kBin false
 true (some .int) .eql (.t 5) (.t 6) (some 7), kMv (.t 7) (some 3)] [1, 2, 4, 5, 6, 7]) bRet)), sf87.res, sf87.dr⟩
theorem kf87_eq : kf87 = compF 87 sf87 := by kernel_rfl
noncomputable def kf88 : KFun := ⟨148, (bSeq (bReg [kMv (.c (.bool true)) (some 10)] []) (bSeq (bReg [kMv (.c (.bool true)) (some 11)] []) (bBlk 0 (bLoop (bBlk 1 (bSeq (bReg [kMv (.t 2) (some 21), kMv (.t 1) (some 22),
 kBin false false none .sub (.t 21) (.t 22) (some 23), kMv (.t 23) (some 12)] [21, 22, 23]) (bSeq (bSeq (bReg [kMv (.t 12) (some 24), kBin true false none .leq (.t 24) (.c (.int .i64 12)) (some 25)] [24]) (bIf (.t 25)
 (bSeq (bReg [kMv (.t 0) (some 26), kMv (.t 1) (some 27), kMv (.t 2) (some 28), kMv (.t 4) (some 29), kCall (.c (.fn 98 [])) [(.t 26), (.t 27), (.t 28), (.t 29)] (some 30)] [0, 1, 2, 3, 4, 10, 11, 12, 25, 26, 27, 28, 29,
 30]) bRet) bSkip)) (bSeq (bSeq (bReg [kMv (.t 3) (some 31), kBin true true (some .int) .eql (.t 31) (.c (.int .i64 0)) (some 32)] [25, 31]) (bIf (.t 32) (bSeq (bReg [kMv (.t 0) (some 33), kMv (.t 1) (some 34), kMv (.t 2)
 (some 35), kMv (.t 4) (some 36), kCall (.c (.fn 99 [])) [(.t 33), (.t 34), (.t 35), (.t 36)] (some 37)] [0, 1, 2, 3, 4, 10, 11, 12, 32, 33, 34, 35, 36, 37]) bRet) bSkip)) (bSeq (bSeq (bReg [kMv (.t 10) (some 38), kUn
 .not (.t 38) (some 39)] [32, 38]) (bIf (.t 39) (bSeq (bReg [kMv (.t 0) (some 40), kMv (.t 1) (some 41), kMv (.t 2) (some 42), kMv (.t 4) (some 43), kCall (.c (.fn 100 [])) [(.t 40), (.t 41), (.t 42), (.t 43)] (some 44)]
 [39, 40, 41, 42, 43, 44]) (bReg [kMv (.t 3) (some 45), kBin true false none .sub (.t 45) (.c (.int .i64 1)) (some 46), kMv (.t 46) (some 3)] [45, 46])) bSkip)) (bSeq (bReg [kMv (.t 0) (some 48), kMv (.t 1) (some 49), kMv
 (.t 2) (some 50), kMv (.t 4) (some 51), kCall (.c (.fn 101 [])) [(.t 48), (.t 49), (.t 50), (.t 51)] (some 52), kMv (.t 52) (some 47), kXv (.ext (.t 47) 0) (some 53), kXv (.ext (.t 47) 1) (some 54), kMv (.t 53) (some
 13), kMv (.t 54) (some 14)] [39, 47, 48, 49, 50, 51, 52, 53, 54]) (bSeq (bSeq (bReg [kMv (.t 14) (some 55), kBin true true (some .int) .eql (.t 55) (.c (.int .i64 2)) (some 56)] [55]) (bIf (.t 56) (bSeq (bReg [kMv (.t 0)
 (some 57), kMv (.t 1) (some 58), kMv (.t 2) (some 59), kMv (.t 4) (some 60), kCall (.c (.fn 102 [])) [(.t 57), (.t 58), (.t 59), (.t 60)] (some 61)] [14, 56, 57, 58, 59, 60, 61]) (bSeq (bReg [kMv (.t 2) (some 62), kBin
 true false none .sub (.t 62) (.c (.int .i64 1)) (some 63), kMv (.t 13) (some 64), kMv (.t 1) (some 65), kBin false false none .sub (.t 64) (.t 65) (some 66), kBin false false none .sub (.t 63) (.t 66) (some 67), kMv (.t
 67) (some 13)] [62, 63, 64, 65, 66, 67]) (bReg [kMv (.c (.int .i64 1)) (some 14)] []))) bSkip)) (bSeq (bSeq (bReg [kMv (.t 10) (some 68), kMv (.t 68) (some 69), kG 69 true (some 70) (kMv (.t 11) (some 70)), kPick (.t 69)
 (.t 70) (.c (.bool false)) (some 71), kMv (.t 71) (some 72), kG 72 true (some 73) (kMv (.t 14) (some 73)), kG 72 true (some 74) (kBin true true (some .int) .eql (.t 73) (.c (.int .i64 1)) (some 74)), kPick (.t 72) (.t
 74) (.c (.bool false)) (some 75)] [14, 56, 68, 69, 70, 71, 72, 73, 74]) (bIf (.t 75) (bSeq (bReg [kMv (.t 0) (some 76), kMv (.t 1) (some 77), kMv (.t 2) (some 78), kMv (.t 4) (some 79), kCall (.c (.fn 103 [])) [(.t 76),
 (.t 77), (.t 78), (.t 79)] (some 80)] [75, 76, 77, 78, 79]) (bIf (.t 80) bRet bSkip)) bSkip)) (bSeq (bSeq (bDraw [kMv (.t 1) (some 81), kBin true false none .gtr (.t 81) (.c (.int .i64 0)) (some 82), kMv (.t 82) (some
 83), kG 83 true (some 84) (kMv (.t 4) (some 84)), kG 83 true (some 85) (kMv (.t 0) (some 85)), kG 83 true (some 86) (kMv (.t 1) (some 86)), kG 83 true (some 87) (kBin true false none .sub (.t 86) (.c (.int .i64 1)) (some
 87)), kG 83 true (some 88) (kIad 2 (.t 85) (.t 87) (some 88)), kG 83 true (some 89) (kLdN 2 (.t 88) (some 89)), kG 83 true (some 90) (kMv (.t 0) (some 90)), kG 83 true (some 91) (kMv (.t 13) (some 91)), kG 83 true (some
 92) (kIad 2 (.t 90) (.t 91) (some 92)), kG 83 true (some 93) (kLdN 2 (.t 92) (some 93)), kG 83 true (some 94) (kCall (.t 84) [(.t 89), (.t 93)] (some 94)), kG 83 true (some 95) (kBin true false none .lss (.t 94) (.c
 (.int .i64 0)) (some 95)), kG 83 true (some 96) (kUn .not (.t 95) (some 96)), kPick (.t 83) (.t 96) (.c (.bool false)) (some 97)] [⟨some 81, .mv (.t 1), none⟩, ⟨some 82, .bin .gtr true false none (.t 81) (.c (.int .i64
 0)), none⟩, ⟨some 83, .mv (.t 82), none⟩, ⟨some 84, .mv (.t 4), (some (some 83, true))⟩, ⟨some 85, .mv (.t 0), (some (some 83, true))⟩, ⟨some 86, .mv (.t 1), (some (some 83, true))⟩, ⟨some 87, .bin .sub true false none
 (.t 86) (.c (.int .i64 1)), (some (some 83, true))⟩, ⟨some 88, .iad 2 (.t 85) (.t 87), (some (some 83, true))⟩, ⟨some 89, .ld true 2 (.t 88), (some (some 83, true))⟩, ⟨some 90, .mv (.t 0), (some (some 83, true))⟩, ⟨some
 91, .mv (.t 13), (some (some 83, true))⟩, ⟨some 92, .iad 2 (.t 90) (.t 91), (some (some 83, true))⟩, ⟨some 93, .ld true 2 (.t 92), (some (some 83, true))⟩, ⟨some 94, .call (.t 84) [(.t 89), (.t 93)], (some (some 83,
 true))⟩, ⟨some 95, .bin .lss true false none (.t 94) (.c (.int .i64 0)), (some (some 83, true))⟩, ⟨some 96, .un .not (.t 95), (some (some 83, true))⟩, ⟨some 97, .pick (.t 83) (.t 96) (.c (.bool false)), none⟩] [(7, 0),
 (8, 0), (11, 0), (12, 0)] [] [75, 80, 81, 82, 83, 84, 85, 86, 87, 88, 89, 90, 91, 92, 93, 94, 95, 96]) (bIf (.t 97) (bSeq (bReg [kMv (.t 0) (some 98), kMv (.t 1) (some 99), kMv (.t 2) (some 100), kMv (.t 13) (some 101),
 kMv (.t 4) (some 102), kCall (.c (.fn 104 [])) [(.t 98), (.t 99), (.t 100), (.t 101), (.t 102)] (some 103), kMv (.t 103) (some 15)] [1, 12, 13, 97, 98, 99, 100, 101, 102, 103]) (bSeq (bReg [kMv (.t 15) (some 104), kMv
 (.t 104) (some 1)] [15, 104]) (bExit 1))) bSkip)) (bSeq (bReg [kMv (.t 0) (some 106), kMv (.t 1) (some 107), kMv (.t 2) (some 108), kMv (.t 13) (some 109), kMv (.t 4) (some 110), kCall (.c (.fn 105 [])) [(.t 106), (.t
 107), (.t 108), (.t 109), (.t 110)] (some 111), kMv (.t 111) (some 105), kXv (.ext (.t 105) 0) (some 112), kXv (.ext (.t 105) 1) (some 113), kMv (.t 112) (some 16), kMv (.t 113) (some 17)] [10, 11, 13, 97, 105, 106, 107,
 108, 109, 110, 111, 112, 113]) (bSeq (bReg [kMv (.t 17) (some 114), kMv (.t 114) (some 11)] [17, 114]) (bSeq (bReg [kMv (.t 16) (some 115), kMv (.t 1) (some 116), kBin false false none .sub (.t 115) (.t 116) (some 117),
 kMv (.t 2) (some 118), kMv (.t 16) (some 119), kBin false false none .sub (.t 118) (.t 119) (some 120), kMv (.t 117) (some 18), kMv (.t 120) (some 19)] [115, 116, 117, 118, 119, 120]) (bSeq (bReg [kMv (.t 12) (some 121),
 kBin true false none .quo (.t 121) (.c (.int .i64 8)) (some 122), kMv (.t 122) (some 20)] [12, 121, 122]) (bSeq (bReg [kMv (.t 18) (some 123), kMv (.t 19) (some 124), kBin false false none .lss (.t 123) (.t 124) (some
 125)] [123, 124]) (bIf (.t 125) (bSeq (bReg [kMv (.t 18) (some 126), kMv (.t 20) (some 127), kBin false false none .geq (.t 126) (.t 127) (some 128), kMv (.t 128) (some 10)] [18, 19, 20, 125, 126, 127, 128]) (bSeq (bReg
 [kMv (.t 0) (some 129), kMv (.t 1) (some 130), kMv (.t 16) (some 131), kMv (.t 3) (some 132), kMv (.t 4) (some 133), kCall (.c (.fn 88 [])) [(.t 129), (.t 130), (.t 131), (.t 132), (.t 133)] (some 134)] [1, 129, 130,
 131, 132, 133, 134]) (bReg [kMv (.t 16) (some 135), kBin true false none .add (.t 135) (.c (.int .i64 1)) (some 136), kMv (.t 136) (some 1)] [16, 135, 136]))) (bSeq (bReg [kMv (.t 19) (some 137), kMv (.t 20) (some 138),
 kBin false false none .geq (.t 137) (.t 138) (some 139), kMv (.t 139) (some 10)] [18, 19, 20, 125, 137, 138, 139]) (bSeq (bReg [kMv (.t 0) (some 140), kMv (.t 16) (some 141), kBin true false none .add (.t 141) (.c (.int
 .i64 1)) (some 142), kMv (.t 2) (some 143), kMv (.t 3) (some 144), kMv (.t 4) (some 145), kCall (.c (.fn 88 [])) [(.t 140), (.t 142), (.t 143), (.t 144), (.t 145)] (some 146)] [2, 140, 141, 142, 143, 144, 145, 146])
 (bReg [kMv (.t 16) (some 147), kMv (.t 147) (some 2)] [16, 147])))))))))))))))))))))), sf88.res, sf88.dr⟩
theorem kf88_eq : kf88 = compF 88 sf88 := by kernel_rfl
noncomputable def kf89 : KFun := ⟨8, (bSeq (bReg [kMv (.c (.int .i64 0)) (some 2)] [2]) (bSeq (bIf (.c (.bool false)) (bSeq (bReg [kMv (.t 0) (some 3), kXv (.cvi .u32 (.t 3)) (some 4), kCall (.c (.fn 106 [])) [(.t 4)]
 (some 5), kMv (.t 5) (some 2)] [0, 3, 4, 5]) bRet) bSkip) (bSeq (bReg [kMv (.t 0) (some 6), kCall (.c (.fn 107 [])) [(.t 6)] (some 7), kMv (.t 7) (some 2)] [0, 6, 7]) bRet))), sf89.res, sf89.dr⟩
theorem kf89_eq : kf89 = compF 89 sf89 := by kernel_rfl
noncomputable def kf90 : KFun := ⟨19, (bSeq (bReg [kMv (.c (.int .i64 0)) (some 4)] [4]) (bSeq (bSeq (bReg [kMv (.t 0) (some 6), kLenl (.t 6) (some 7), kMv (.c (.int .i64 0)) (some 8)] [6]) (bBlk 0 (bLoop (bSeq (bReg
 [kBin false false none .lss (.t 8) (.t 7) (some 9)] []) (bSeq (bIf (.t 9) bSkip (bExit 0)) (bSeq (bBlk 1 (bSeq (bReg [kMv (.t 8) (some 10), kMv (.t 10) (some 5)] [9, 10]) (bSeq (bReg [kMv (.t 1) (some 11), kMv (.t 0)
 (some 12), kMv (.t 5) (some 13), kIad 1 (.t 12) (.t 13) (some 14), kLd1 1 (.t 14) (some 15), kBin false true (some .int) .eql (.t 11) (.t 15) (some 16)] [11, 12, 13, 14, 15]) (bIf (.t 16) (bSeq (bReg [kMv (.t 5) (some
 17), kMv (.t 17) (some 4)] [0, 1, 5, 7, 8, 16, 17]) bRet) bSkip)))) (bReg [kBin true false none .add (.t 8) (.c (.int .i64 1)) (some 18), kMv (.t 18) (some 8)] [5, 16, 18]))))))) (bSeq (bReg [kMv (.c (.int .i64 (-1)))
 (some 4)] [0, 1, 7, 8, 9]) bRet))), sf90.res, sf90.dr⟩
theorem kf90_eq : kf90 = compF 90 sf90 := by kernel_rfl
noncomputable def kf91 : KFun := ⟨63, (bSeq (bReg [kMv (.c (.int .i64 20)) (some 6)] []) (bSeq (bReg [kMv (.t 6) (some 10), kMv (.c (.int .i64 0)) (some 7), kMv (.t 10) (some 8)] [10]) (bSeq (bBlk 0 (bLoop (bSeq (bSeq
 (bReg [kMv (.t 8) (some 11), kMv (.t 1) (some 12), kBin false false none .leq (.t 11) (.t 12) (some 13)] [11, 12]) (bIf (.t 13) bSkip (bExit 0))) (bBlk 1 (bSeq (bReg [kMv (.t 0) (some 14), kMv (.t 7) (some 15), kMv (.t
 8) (some 16), kMv (.t 2) (some 17), kCall (.c (.fn 108 [])) [(.t 14), (.t 15), (.t 16), (.t 17)] (some 18)] [7, 13, 14, 15, 16, 17, 18]) (bSeq (bReg [kMv (.t 8) (some 19), kMv (.t 19) (some 7)] [19]) (bReg [kMv (.t 8)
 (some 20), kMv (.t 6) (some 21), kBin false false none .add (.t 20) (.t 21) (some 22), kMv (.t 22) (some 8)] [20, 21, 22]))))))) (bSeq (bReg [kMv (.t 0) (some 23), kMv (.t 7) (some 24), kMv (.t 1) (some 25), kMv (.t 2)
 (some 26), kCall (.c (.fn 108 [])) [(.t 23), (.t 24), (.t 25), (.t 26)] (some 27)] [7, 8, 13, 23, 24, 25, 26, 27]) (bBlk 2 (bLoop (bSeq (bSeq (bReg [kMv (.t 6) (some 28), kMv (.t 1) (some 29), kBin false false none .lss
 (.t 28) (.t 29) (some 30)] [28, 29]) (bIf (.t 30) bSkip (bExit 2))) (bBlk 3 (bSeq (bReg [kMv (.t 6) (some 31), kBin true false none .mul (.c (.int .i64 2)) (.t 31) (some 32), kMv (.c (.int .i64 0)) (some 7), kMv (.t 32)
 (some 8)] [30, 31, 32]) (bSeq (bBlk 4 (bLoop (bSeq (bSeq (bReg [kMv (.t 8) (some 33), kMv (.t 1) (some 34), kBin false false none .leq (.t 33) (.t 34) (some 35)] [33, 34]) (bIf (.t 35) bSkip (bExit 4))) (bBlk 5 (bSeq
 (bReg [kMv (.t 0) (some 36), kMv (.t 7) (some 37), kMv (.t 7) (some 38), kMv (.t 6) (some 39), kBin false false none .add (.t 38) (.t 39) (some 40), kMv (.t 8) (some 41), kMv (.t 2) (some 42), kCall (.c (.fn 109 []))
 [(.t 36), (.t 37), (.t 40), (.t 41), (.t 42)] (some 43)] [7, 35, 36, 37, 38, 39, 40, 41, 42, 43]) (bSeq (bReg [kMv (.t 8) (some 44), kMv (.t 44) (some 7)] [44]) (bReg [kMv (.t 8) (some 45), kMv (.t 6) (some 46), kBin
 true false none .mul (.c (.int .i64 2)) (.t 46) (some 47), kBin false false none .add (.t 45) (.t 47) (some 48), kMv (.t 48) (some 8)] [45, 46, 47, 48]))))))) (bSeq (bSeq (bReg [kMv (.t 7) (some 49), kMv (.t 6) (some
 50), kBin false false none .add (.t 49) (.t 50) (some 51), kMv (.t 51) (some 9)] [8, 35, 49, 50, 51]) (bSeq (bReg [kMv (.t 9) (some 52), kMv (.t 1) (some 53), kBin false false none .lss (.t 52) (.t 53) (some 54)] [52,
 53]) (bIf (.t 54) (bReg [kMv (.t 0) (some 55), kMv (.t 7) (some 56), kMv (.t 9) (some 57), kMv (.t 1) (some 58), kMv (.t 2) (some 59), kCall (.c (.fn 109 [])) [(.t 55), (.t 56), (.t 57), (.t 58), (.t 59)] (some 60)] [7,
 9, 54, 55, 56, 57, 58, 59, 60]) bSkip))) (bReg [kMv (.t 6) (some 61), kBin true false none .mul (.t 61) (.c (.int .i64 2)) (some 62), kMv (.t 62) (some 6)] [7, 9, 54, 61, 62])))))))))))), sf91.res, sf91.dr⟩
theorem kf91_eq : kf91 = compF 91 sf91 := by kernel_rfl
noncomputable def kf97 : KFun := ⟨19, (bSeq (bReg [kMv (.c (.int .i64 0)) (some 4)] [4]) (bSeq (bSeq (bReg [kMv (.t 0) (some 6), kLenl (.t 6) (some 7), kMv (.c (.int .i64 0)) (some 8)] [6]) (bBlk 0 (bLoop (bSeq (bReg
 [kBin false false none .lss (.t 8) (.t 7) (some 9)] []) (bSeq (bIf (.t 9) bSkip (bExit 0)) (bSeq (bBlk 1 (bSeq (bReg [kMv (.t 8) (some 10), kMv (.t 10) (some 5)] [9, 10]) (bSeq (bReg [kMv (.t 1) (some 11), kMv (.t 0)
 (some 12), kMv (.t 5) (some 13), kIad 4 (.t 12) (.t 13) (some 14), kLdN 4 (.t 14) (some 15), kCall (.t 11) [(.t 15)] (some 16)] [11, 12, 13, 14, 15]) (bIf (.t 16) (bSeq (bReg [kMv (.t 5) (some 17), kMv (.t 17) (some 4)]
 [0, 1, 5, 7, 8, 16, 17]) bRet) bSkip)))) (bReg [kBin true false none .add (.t 8) (.c (.int .i64 1)) (some 18), kMv (.t 18) (some 8)] [5, 16, 18]))))))) (bSeq (bReg [kMv (.c (.int .i64 (-1))) (some 4)] [0, 1, 7, 8, 9])
 bRet))), sf97.res, sf97.dr⟩
theorem kf97_eq : kf97 = compF 97 sf97 := by kernel_rfl
noncomputable def kf98 : KFun := ⟨53, (bSeq (bReg [kMv (.t 1) (some 10), kBin true false none .add (.t 10) (.c (.int .i64 1)) (some 11), kMv (.t 11) (some 8)] [10, 11]) (bBlk 0 (bLoop (bSeq (bSeq (bReg [kMv (.t 8) (some
 12), kMv (.t 2) (some 13), kBin false false none .lss (.t 12) (.t 13) (some 14)] [12, 13]) (bIf (.t 14) bSkip (bExit 0))) (bSeq (bBlk 1 (bSeq (bReg [kMv (.t 8) (some 17), kMv (.t 17) (some 9)] [14, 17]) (bBlk 2 (bLoop
 (bSeq (bSeq (bDraw [kMv (.t 9) (some 18), kMv (.t 1) (some 19), kBin false false none .gtr (.t 18) (.t 19) (some 20), kMv (.t 20) (some 21), kG 21 true (some 22) (kMv (.t 3) (some 22)), kG 21 true (some 23) (kMv (.t 0)
 (some 23)), kG 21 true (some 24) (kMv (.t 9) (some 24)), kG 21 true (some 25) (kIad 2 (.t 23) (.t 24) (some 25)), kG 21 true (some 26) (kLdN 2 (.t 25) (some 26)), kG 21 true (some 27) (kMv (.t 0) (some 27)), kG 21 true
 (some 28) (kMv (.t 9) (some 28)), kG 21 true (some 29) (kBin true false none .sub (.t 28) (.c (.int .i64 1)) (some 29)), kG 21 true (some 30) (kIad 2 (.t 27) (.t 29) (some 30)), kG 21 true (some 31) (kLdN 2 (.t 30) (some
 31)), kG 21 true (some 32) (kCall (.t 22) [(.t 26), (.t 31)] (some 32)), kG 21 true (some 33) (kBin true false none .lss (.t 32) (.c (.int .i64 0)) (some 33)), kPick (.t 21) (.t 33) (.c (.bool false)) (some 34)] [⟨some
 18, .mv (.t 9), none⟩, ⟨some 19, .mv (.t 1), none⟩, ⟨some 20, .bin .gtr false false none (.t 18) (.t 19), none⟩, ⟨some 21, .mv (.t 20), none⟩, ⟨some 22, .mv (.t 3), (some (some 21, true))⟩, ⟨some 23, .mv (.t 0), (some
 (some 21, true))⟩, ⟨some 24, .mv (.t 9), (some (some 21, true))⟩, ⟨some 25, .iad 2 (.t 23) (.t 24), (some (some 21, true))⟩, ⟨some 26, .ld true 2 (.t 25), (some (some 21, true))⟩, ⟨some 27, .mv (.t 0), (some (some 21,
 true))⟩, ⟨some 28, .mv (.t 9), (some (some 21, true))⟩, ⟨some 29, .bin .sub true false none (.t 28) (.c (.int .i64 1)), (some (some 21, true))⟩, ⟨some 30, .iad 2 (.t 27) (.t 29), (some (some 21, true))⟩, ⟨some 31, .ld
 true 2 (.t 30), (some (some 21, true))⟩, ⟨some 32, .call (.t 22) [(.t 26), (.t 31)], (some (some 21, true))⟩, ⟨some 33, .bin .lss true false none (.t 32) (.c (.int .i64 0)), (some (some 21, true))⟩, ⟨some 34, .pick (.t
 21) (.t 33) (.c (.bool false)), none⟩] [(7, 0), (8, 0), (12, 0), (13, 0)] [] [18, 19, 20, 21, 22, 23, 24, 25, 26, 27, 28, 29, 30, 31, 32, 33]) (bIf (.t 34) bSkip (bExit 2))) (bSeq (bBlk 3 (bDraw [kMv (.t 0) (some 37),
 kMv (.t 9) (some 38), kMv (.t 0) (some 39), kMv (.t 9) (some 40), kBin true false none .sub (.t 40) (.c (.int .i64 1)) (some 41), kMv (.t 0) (some 42), kMv (.t 9) (some 43), kBin true false none .sub (.t 43) (.c (.int
 .i64 1)) (some 44), kIad 2 (.t 42) (.t 44) (some 45), kLdN 2 (.t 45) (some 46), kMv (.t 0) (some 47), kMv (.t 9) (some 48), kIad 2 (.t 47) (.t 48) (some 49), kLdN 2 (.t 49) (some 50), kIad 2 (.t 37) (.t 38) (some 51),
 kSt 2 (.t 51) (.t 46) none, kIad 2 (.t 39) (.t 41) (some 52), kSt 2 (.t 52) (.t 50) none] [⟨some 37, .mv (.t 0), none⟩, ⟨some 38, .mv (.t 9), none⟩, ⟨some 39, .mv (.t 0), none⟩, ⟨some 40, .mv (.t 9), none⟩, ⟨some 41,
 .bin .sub true false none (.t 40) (.c (.int .i64 1)), none⟩, ⟨some 42, .mv (.t 0), none⟩, ⟨some 43, .mv (.t 9), none⟩, ⟨some 44, .bin .sub true false none (.t 43) (.c (.int .i64 1)), none⟩, ⟨some 45, .iad 2 (.t 42) (.t
 44), none⟩, ⟨some 46, .ld true 2 (.t 45), none⟩, ⟨some 47, .mv (.t 0), none⟩, ⟨some 48, .mv (.t 9), none⟩, ⟨some 49, .iad 2 (.t 47) (.t 48), none⟩, ⟨some 50, .ld true 2 (.t 49), none⟩, ⟨some 51, .iad 2 (.t 37) (.t 38),
 none⟩, ⟨none, .st 2 (.t 51) (.t 46), none⟩, ⟨some 52, .iad 2 (.t 39) (.t 41), none⟩, ⟨none, .st 2 (.t 52) (.t 50), none⟩] [(8, 0), (9, 0), (12, 0), (13, 0), (14, 0), (16, 16)] [] [34, 37, 38, 39, 40, 41, 42, 43, 44, 45,
 46, 47, 48, 49, 50, 51, 52])) (bReg [kMv (.t 9) (some 35), kBin true false none .sub (.t 35) (.c (.int .i64 1)) (some 36), kMv (.t 36) (some 9)] [35, 36]))))))) (bReg [kMv (.t 8) (some 15), kBin true false none .add (.t
 15) (.c (.int .i64 1)) (some 16), kMv (.t 16) (some 8)] [9, 15, 16, 34])))))), sf98.res, sf98.dr⟩
theorem kf98_eq : kf98 = compF 98 sf98 := by kernel_rfl
noncomputable def kf106 : KFun := ⟨19, (bSeq (bReg [kMv (.c (.int .i64 0)) (some 2)] []) (bSeq (bSeq (bReg [kMv (.t 0) (some 3), kBin true false none .geq (.t 3) (.c (.int .u32 65536)) (some 4)] [3]) (bIf (.t 4) (bSeq
 (bReg [kMv (.t 0) (some 5), kBin true false none .shr (.t 5) (.c (.int .u64 16)) (some 6), kMv (.t 6) (some 0)] [2, 4, 5, 6]) (bReg [kMv (.c (.int .i64 16)) (some 2)] [])) bSkip)) (bSeq (bSeq (bReg [kMv (.t 0) (some 7),
 kBin true false none .geq (.t 7) (.c (.int .u32 256)) (some 8)] [4, 7]) (bIf (.t 8) (bSeq (bReg [kMv (.t 0) (some 9), kBin true false none .shr (.t 9) (.c (.int .u64 8)) (some 10), kMv (.t 10) (some 0)] [8, 9, 10]) (bReg
 [kMv (.t 2) (some 11), kBin true false none .add (.t 11) (.c (.int .i64 8)) (some 12), kMv (.t 12) (some 2)] [11, 12])) bSkip)) (bSeq (bReg [kMv (.t 2) (some 13), kMv (.t 0) (some 14), kXv (.cvi .u8 (.t 14)) (some 15),
 kIxs (.c (.str
 [0,1,2,2,3,3,3,3,4,4,4,4,4,4,4,4,5,5,5,5,5,5,5,5,5,5,5,5,5,5,5,5,6,6,6,6,6,6,6,6,6,6,6,6,6,6,6,6,6,6,6,6,6,6,6,6,6,6,6,6,6,6,6,6,7,7,7,7,7,7,7,7,7,7,7,7,7,7,7,7,7,7,7,7,7,7,7,7,7,7,7,7,7,7,7,7,7,7,7,7,7,7,7,7,7,7,7,7,7,7,7,7,7,7,7,7,7,7,7,7,7,7,7,7,7,7,7,7,8,8,8,8,8,8,8,8,8,8,8,8,8,8,8,8,8,8,8,8,8,8,8,8,8,8,8,8,8,8,8,8,8,8,8,8,8,8,8,8,8,8,8,8,8,8,8,8,8,8,8,8,8,8,8,8,8,8,8,8,8,8,8,8,8,8,8,8,8,8,8,8,8,8,8,8,8,8,8,8,8,8,8,8,8,8,8,8,8,8,8,8,8,8,8,8,8,8,8,8,8,8,8,8,8,8,8,8,8,8,8,8,8,8,8,8,8,8,8,8,8,8,8,8,8,8,8,8]))
 (.t 15) (some 16), kXv (.cvi .i64 (.t 16)) (some 17), kBin false false none .add (.t 13) (.t 17) (some 18), kMv (.t 18) (some 2)] [0, 8, 13, 14, 15, 16, 17, 18]) bRet)))), sf106.res, sf106.dr⟩
theorem kf106_eq : kf106 = compF 106 sf106 := by kernel_rfl
noncomputable def kf107 : KFun := ⟨25, (bSeq (bReg [kMv (.c (.int .i64 0)) (some 2)] []) (bSeq (bSeq (bReg [kMv (.t 0) (some 3), kBin true false none .geq (.t 3) (.c (.int .u64 4294967296)) (some 4)] [3]) (bIf (.t 4)
 (bSeq (bReg [kMv (.t 0) (some 5), kBin true false none .shr (.t 5) (.c (.int .u64 32)) (some 6), kMv (.t 6) (some 0)] [2, 4, 5, 6]) (bReg [kMv (.c (.int .i64 32)) (some 2)] [])) bSkip)) (bSeq (bSeq (bReg [kMv (.t 0)
 (some 7), kBin true false none .geq (.t 7) (.c (.int .u64 65536)) (some 8)] [4, 7]) (bIf (.t 8) (bSeq (bReg [kMv (.t 0) (some 9), kBin true false none .shr (.t 9) (.c (.int .u64 16)) (some 10), kMv (.t 10) (some 0)] [8,
 9, 10]) (bReg [kMv (.t 2) (some 11), kBin true false none .add (.t 11) (.c (.int .i64 16)) (some 12), kMv (.t 12) (some 2)] [11, 12])) bSkip)) (bSeq (bSeq (bReg [kMv (.t 0) (some 13), kBin true false none .geq (.t 13)
 (.c (.int .u64 256)) (some 14)] [8, 13]) (bIf (.t 14) (bSeq (bReg [kMv (.t 0) (some 15), kBin true false none .shr (.t 15) (.c (.int .u64 8)) (some 16), kMv (.t 16) (some 0)] [14, 15, 16]) (bReg [kMv (.t 2) (some 17),
 kBin true false none .add (.t 17) (.c (.int .i64 8)) (some 18), kMv (.t 18) (some 2)] [17, 18])) bSkip)) (bSeq (bReg [kMv (.t 2) (some 19), kMv (.t 0) (some 20), kXv (.cvi .u8 (.t 20)) (some 21), kIxs (.c (.str
 [0,1,2,2,3,3,3,3,4,4,4,4,4,4,4,4,5,5,5,5,5,5,5,5,5,5,5,5,5,5,5,5,6,6,6,6,6,6,6,6,6,6,6,6,6,6,6,6,6,6,6,6,6,6,6,6,6,6,6,6,6,6,6,6,7,7,7,7,7,7,7,7,7,7,7,7,7,7,7,7,7,7,7,7,7,7,7,7,7,7,7,7,7,7,7,7,7,7,7,7,7,7,7,7,7,7,7,7,7,7,7,7,7,7,7,7,7,7,7,7,7,7,7,7,7,7,7,7,8,8,8,8,8,8,8,8,8,8,8,8,8,8,8,8,8,8,8,8,8,8,8,8,8,8,8,8,8,8,8,8,8,8,8,8,8,8,8,8,8,8,8,8,8,8,8,8,8,8,8,8,8,8,8,8,8,8,8,8,8,8,8,8,8,8,8,8,8,8,8,8,8,8,8,8,8,8,8,8,8,8,8,8,8,8,8,8,8,8,8,8,8,8,8,8,8,8,8,8,8,8,8,8,8,8,8,8,8,8,8,8,8,8,8,8,8,8,8,8,8,8,8,8,8,8,8,8]))
 (.t 21) (some 22), kXv (.cvi .i64 (.t 22)) (some 23), kBin false false none .add (.t 19) (.t 23) (some 24), kMv (.t 24) (some 2)] [0, 14, 19, 20, 21, 22, 23, 24]) bRet))))), sf107.res, sf107.dr⟩
theorem kf107_eq : kf107 = compF 107 sf107 := by kernel_rfl
noncomputable def kf108 : KFun := ⟨53, (bSeq (bReg [kMv (.t 1) (some 10), kBin true false none .add (.t 10) (.c (.int .i64 1)) (some 11), kMv (.t 11) (some 8)] [10, 11]) (bBlk 0 (bLoop (bSeq (bSeq (bReg [kMv (.t 8) (some
 12), kMv (.t 2) (some 13), kBin false false none .lss (.t 12) (.t 13) (some 14)] [12, 13]) (bIf (.t 14) bSkip (bExit 0))) (bSeq (bBlk 1 (bSeq (bReg [kMv (.t 8) (some 17), kMv (.t 17) (some 9)] [14, 17]) (bBlk 2 (bLoop
 (bSeq (bSeq (bDraw [kMv (.t 9) (some 18), kMv (.t 1) (some 19), kBin false false none .gtr (.t 18) (.t 19) (some 20), kMv (.t 20) (some 21), kG 21 true (some 22) (kMv (.t 3) (some 22)), kG 21 true (some 23) (kMv (.t 0)
 (some 23)), kG 21 true (some 24) (kMv (.t 9) (some 24)), kG 21 true (some 25) (kIad 3 (.t 23) (.t 24) (some 25)), kG 21 true (some 26) (kLdN 3 (.t 25) (some 26)), kG 21 true (some 27) (kMv (.t 0) (some 27)), kG 21 true
 (some 28) (kMv (.t 9) (some 28)), kG 21 true (some 29) (kBin true false none .sub (.t 28) (.c (.int .i64 1)) (some 29)), kG 21 true (some 30) (kIad 3 (.t 27) (.t 29) (some 30)), kG 21 true (some 31) (kLdN 3 (.t 30) (some
 31)), kG 21 true (some 32) (kCall (.t 22) [(.t 26), (.t 31)] (some 32)), kG 21 true (some 33) (kBin true false none .lss (.t 32) (.c (.int .i64 0)) (some 33)), kPick (.t 21) (.t 33) (.c (.bool false)) (some 34)] [⟨some
 18, .mv (.t 9), none⟩, ⟨some 19, .mv (.t 1), none⟩, ⟨some 20, .bin .gtr false false none (.t 18) (.t 19), none⟩, ⟨some 21, .mv (.t 20), none⟩, ⟨some 22, .mv (.t 3), (some (some 21, true))⟩, ⟨some 23, .mv (.t 0), (some
 (some 21, true))⟩, ⟨some 24, .mv (.t 9), (some (some 21, true))⟩, ⟨some 25, .iad 3 (.t 23) (.t 24), (some (some 21, true))⟩, ⟨some 26, .ld true 3 (.t 25), (some (some 21, true))⟩, ⟨some 27, .mv (.t 0), (some (some 21,
 true))⟩, ⟨some 28, .mv (.t 9), (some (some 21, true))⟩, ⟨some 29, .bin .sub true false none (.t 28) (.c (.int .i64 1)), (some (some 21, true))⟩, ⟨some 30, .iad 3 (.t 27) (.t 29), (some (some 21, true))⟩, ⟨some 31, .ld
 true 3 (.t 30), (some (some 21, true))⟩, ⟨some 32, .call (.t 22) [(.t 26), (.t 31)], (some (some 21, true))⟩, ⟨some 33, .bin .lss true false none (.t 32) (.c (.int .i64 0)), (some (some 21, true))⟩, ⟨some 34, .pick (.t
 21) (.t 33) (.c (.bool false)), none⟩] [(7, 0), (8, 0), (12, 0), (13, 0)] [] [18, 19, 20, 21, 22, 23, 24, 25, 26, 27, 28, 29, 30, 31, 32, 33]) (bIf (.t 34) bSkip (bExit 2))) (bSeq (bBlk 3 (bDraw [kMv (.t 0) (some 37),
 kMv (.t 9) (some 38), kMv (.t 0) (some 39), kMv (.t 9) (some 40), kBin true false none .sub (.t 40) (.c (.int .i64 1)) (some 41), kMv (.t 0) (some 42), kMv (.t 9) (some 43), kBin true false none .sub (.t 43) (.c (.int
 .i64 1)) (some 44), kIad 3 (.t 42) (.t 44) (some 45), kLdN 3 (.t 45) (some 46), kMv (.t 0) (some 47), kMv (.t 9) (some 48), kIad 3 (.t 47) (.t 48) (some 49), kLdN 3 (.t 49) (some 50), kIad 3 (.t 37) (.t 38) (some 51),
 kSt 3 (.t 51) (.t 46) none, kIad 3 (.t 39) (.t 41) (some 52), kSt 3 (.t 52) (.t 50) none] [⟨some 37, .mv (.t 0), none⟩, ⟨some 38, .mv (.t 9), none⟩, ⟨some 39, .mv (.t 0), none⟩, ⟨some 40, .mv (.t 9), none⟩, ⟨some 41,
 .bin .sub true false none (.t 40) (.c (.int .i64 1)), none⟩, ⟨some 42, .mv (.t 0), none⟩, ⟨some 43, .mv (.t 9), none⟩, ⟨some 44, .bin .sub true false none (.t 43) (.c (.int .i64 1)), none⟩, ⟨some 45, .iad 3 (.t 42) (.t
 44), none⟩, ⟨some 46, .ld true 3 (.t 45), none⟩, ⟨some 47, .mv (.t 0), none⟩, ⟨some 48, .mv (.t 9), none⟩, ⟨some 49, .iad 3 (.t 47) (.t 48), none⟩, ⟨some 50, .ld true 3 (.t 49), none⟩, ⟨some 51, .iad 3 (.t 37) (.t 38),
 none⟩, ⟨none, .st 3 (.t 51) (.t 46), none⟩, ⟨some 52, .iad 3 (.t 39) (.t 41), none⟩, ⟨none, .st 3 (.t 52) (.t 50), none⟩] [(8, 0), (9, 0), (12, 0), (13, 0), (14, 0), (16, 16)] [] [34, 37, 38, 39, 40, 41, 42, 43, 44, 45,
 46, 47, 48, 49, 50, 51, 52])) (bReg [kMv (.t 9) (some 35), kBin true false none .sub (.t 35) (.c (.int .i64 1)) (some 36), kMv (.t 36) (some 9)] [35, 36]))))))) (bReg [kMv (.t 8) (some 15), kBin true false none .add (.t
 15) (.c (.int .i64 1)) (some 16), kMv (.t 16) (some 8)] [9, 15, 16, 34])))))), sf108.res, sf108.dr⟩
theorem kf108_eq : kf108 = compF 108 sf108 := by kernel_rfl
noncomputable def kfT : BT KFun := (.node (.node (.node (.node (.node (.node .leaf 5 kf5 .leaf) 14 kf14 (.node .leaf 15 kf15 .leaf)) 16 kf16 (.node (.node .leaf 17 kf17 .leaf) 18 kf18 .leaf)) 26 kf26 (.node (.node (.node .leaf 28 kf28 .leaf) 29 kf29 .leaf) 42 kf42 (.node (.node .leaf 43 kf43 .leaf) 44 kf44 .leaf))) 48 kf48 (.node (.node (.node (.node .leaf 49 kf49 .leaf) 50 kf50 .leaf) 51 kf51 (.node (.node .leaf 52 kf52 .leaf) 57 kf57 .leaf)) 58 kf58 (.node (.node (.node .leaf 59 kf59 .leaf) 60 kf60 .leaf) 66 kf66 (.node (.node .leaf 67 kf67 .leaf) 68 kf68 .leaf)))) 69 kf69 (.node (.node (.node (.node (.node .leaf 70 kf70 .leaf) 71 kf71 .leaf) 72 kf72 (.node (.node .leaf 73 kf73 .leaf) 74 kf74 .leaf)) 75 kf75 (.node (.node (.node .leaf 76 kf76 .leaf) 77 kf77 .leaf) 78 kf78 (.node (.node .leaf 82 kf82 .leaf) 83 kf83 .leaf))) 84 kf84 (.node (.node (.node (.node .leaf 86 kf86 .leaf) 87 kf87 .leaf) 88 kf88 (.node (.node .leaf 89 kf89 .leaf) 90 kf90 .leaf)) 91 kf91 (.node (.node (.node .leaf 97 kf97 .leaf) 98 kf98 .leaf) 106 kf106 (.node (.node .leaf 107 kf107 .leaf) 108 kf108 .leaf)))))
end Go.AM.Wc
