/-
  The code of chapter 16 that the law of what ends by itself reaches; elements in new memory.
-/
import Derived.Test.YtchffnfhfojkeaaChecked
import Derived.Test.YtchffnfhfojkeaaShelf
import Derived.Test.YtchffnfhfojkeaaDgS36
set_option linter.unusedVariables false
set_option linter.unusedSimpArgs false
namespace Go.Proofs.Ytchffnfhfojkeaa.Dg
open Go Go.RowKit
set_option maxRecDepth 20000
def k_dddtlioptgroupoptionprbr : List UInt8 := [32, 100, 100, 32, 100, 116, 32, 108, 105, 32, 111, 112, 116, 103, 114, 111, 117, 112, 32, 111, 112, 116, 105, 111, 110, 32, 112, 32, 114, 98, 32, 114, 112, 32, 114, 116, 32, 114, 116, 99, 32]
def k_dddtlioptgroupoptionprbr' : List UInt8 := [100, 100, 32, 100, 116, 32, 108, 105, 32, 111, 112, 116, 103, 114, 111, 117, 112, 32, 111, 112, 116, 105, 111, 110, 32, 112, 32, 114, 98, 32, 114, 112, 32, 114, 116, 32, 114, 116, 99]
def p4_1_0 : RO := ⟨none, some 4, .assign (.const (.bool false))⟩
def o4_1 : List RO := [p4_1_0]
def x4_1 : RC := .ops o4_1
def p4_3_0 : RO := ⟨none, some 12, .call ⟨.value (.func 8), #[], #[]⟩⟩
def p4_3_1 : RO := ⟨none, some 5, .assign (.tmp 12)⟩
def o4_3 : List RO := [p4_3_0, p4_3_1]
def x4_3 : RC := .ops o4_3
def p4_6_0 : RO := ⟨none, some 13, .move (.tmp 5)⟩
def p4_6_1 : RO := ⟨none, some 14, .binOp .eql 23 (.tmp 13) (.const (.pointer none)) 23⟩
def p4_6_2 : RO := ⟨none, some 15, .move (.tmp 14)⟩
def p4_6_3 : RO := ⟨some (some 15, false), some 16, .move (.tmp 0)⟩
def p4_6_4 : RO := ⟨some (some 15, false), some 17, .call ⟨.builtin .len, #[(.tmp 16)], #[22]⟩⟩
def p4_6_5 : RO := ⟨some (some 15, false), some 18, .binOp .gtr 3 (.tmp 17) (.const (.int .i64 (300))) 3⟩
def p4_6_6 : RO := ⟨none, some 19, .pick (.tmp 15) (.const (.bool true)) (.tmp 18)⟩
def p4_6_7 : RO := ⟨none, some 20, .move (.tmp 19)⟩
def p4_6_8 : RO := ⟨some (some 20, false), some 21, .move (.tmp 1)⟩
def p4_6_9 : RO := ⟨some (some 20, false), some 22, .call ⟨.builtin .len, #[(.tmp 21)], #[9]⟩⟩
def p4_6_10 : RO := ⟨some (some 20, false), some 23, .binOp .gtr 3 (.tmp 22) (.const (.int .i64 (1000))) 3⟩
def p4_6_11 : RO := ⟨none, some 24, .pick (.tmp 20) (.const (.bool true)) (.tmp 23)⟩
def o4_6 : List RO := [p4_6_0, p4_6_1, p4_6_2, p4_6_3, p4_6_4, p4_6_5, p4_6_6, p4_6_7, p4_6_8, p4_6_9, p4_6_10, p4_6_11]
def x4_6 : RC := .ops o4_6
def p4_9_0 : RO := ⟨none, some 25, .move (.tmp 5)⟩
def p4_9_1 : RO := ⟨none, some 26, .binOp .neq 23 (.tmp 25) (.const (.pointer none)) 23⟩
def p4_9_2 : RO := ⟨none, some 27, .move (.tmp 26)⟩
def p4_9_3 : RO := ⟨some (some 27, true), some 28, .call ⟨.value (.func 9), #[], #[]⟩⟩
def p4_9_4 : RO := ⟨none, some 29, .pick (.tmp 27) (.tmp 28) (.const (.bool false))⟩
def p4_9_5 : RO := ⟨none, some 4, .assign (.tmp 29)⟩
def o4_9 : List RO := [p4_9_0, p4_9_1, p4_9_2, p4_9_3, p4_9_4, p4_9_5]
def x4_9 : RC := .ops o4_9
def x4_8 : RC := .seq x4_9 .ret
def x4_7 : RC := .cond (.tmp 24) x4_8 .skip
def x4_5 : RC := .seq x4_6 x4_7
def p4_12_0 : RO := ⟨none, some 6, .assign (.const (.int .i64 (0)))⟩
def o4_12 : List RO := [p4_12_0]
def x4_12 : RC := .ops o4_12
def p4_17_0 : RO := ⟨none, some 30, .move (.tmp 6)⟩
def p4_17_1 : RO := ⟨none, some 31, .move (.tmp 0)⟩
def p4_17_2 : RO := ⟨none, some 32, .call ⟨.builtin .len, #[(.tmp 31)], #[22]⟩⟩
def p4_17_3 : RO := ⟨none, some 33, .binOp .lss 3 (.tmp 30) (.tmp 32) 3⟩
def o4_17 : List RO := [p4_17_0, p4_17_1, p4_17_2, p4_17_3]
def x4_17 : RC := .ops o4_17
def x4_18 : RC := .cond (.tmp 33) .skip (.exit 0)
def x4_16 : RC := .seq x4_17 x4_18
def p4_21_0 : RO := ⟨none, some 36, .move (.tmp 5)⟩
def p4_21_1 : RO := ⟨none, some 37, .move (.tmp 0)⟩
def p4_21_2 : RO := ⟨none, some 38, .move (.tmp 6)⟩
def p4_21_3 : RO := ⟨none, some 39, .indexAddr 22 (.tmp 37) (.tmp 38)⟩
def p4_21_4 : RO := ⟨none, some 40, .load 29 (.tmp 39)⟩
def p4_21_5 : RO := ⟨none, some 41, .call ⟨.value (.func 10), #[(.tmp 36), (.tmp 40)], #[23, 29]⟩⟩
def o4_21 : List RO := [p4_21_0, p4_21_1, p4_21_2, p4_21_3, p4_21_4, p4_21_5]
def x4_21 : RC := .ops o4_21
def x4_20 : RC := .block 1 x4_21
def p4_22_0 : RO := ⟨none, some 34, .move (.tmp 6)⟩
def p4_22_1 : RO := ⟨none, some 35, .binOp .add 3 (.tmp 34) (.const (.int .i64 (1))) 3⟩
def p4_22_2 : RO := ⟨none, some 6, .assign (.tmp 35)⟩
def o4_22 : List RO := [p4_22_0, p4_22_1, p4_22_2]
def x4_22 : RC := .ops o4_22
def x4_19 : RC := .seq x4_20 x4_22
def x4_15 : RC := .seq x4_16 x4_19
def x4_14 : RC := .loop x4_15
def x4_13 : RC := .block 0 x4_14
def x4_11 : RC := .seq x4_12 x4_13
def p4_24_0 : RO := ⟨none, some 42, .move (.tmp 5)⟩
def p4_24_1 : RO := ⟨none, some 43, .move (.tmp 1)⟩
def p4_24_2 : RO := ⟨none, some 44, .call ⟨.value (.func 12), #[(.tmp 42), (.tmp 43)], #[23, 9]⟩⟩
def p4_24_3 : RO := ⟨none, some 7, .assign (.tmp 44)⟩
def o4_24 : List RO := [p4_24_0, p4_24_1, p4_24_2, p4_24_3]
def x4_24 : RC := .ops o4_24
def p4_26_0 : RO := ⟨none, some 45, .move (.tmp 5)⟩
def p4_26_1 : RO := ⟨none, some 46, .call ⟨.value (.func 13), #[(.tmp 45)], #[23]⟩⟩
def p4_26_2 : RO := ⟨none, some 8, .assign (.tmp 46)⟩
def o4_26 : List RO := [p4_26_0, p4_26_1, p4_26_2]
def x4_26 : RC := .ops o4_26
def p4_29_0 : RO := ⟨none, some 47, .move (.tmp 7)⟩
def p4_29_1 : RO := ⟨none, some 48, .call ⟨.builtin .len, #[(.tmp 47)], #[22]⟩⟩
def p4_29_2 : RO := ⟨none, some 49, .move (.tmp 8)⟩
def p4_29_3 : RO := ⟨none, some 50, .call ⟨.builtin .len, #[(.tmp 49)], #[22]⟩⟩
def p4_29_4 : RO := ⟨none, some 51, .binOp .add 3 (.tmp 48) (.tmp 50) 3⟩
def p4_29_5 : RO := ⟨none, some 52, .move (.tmp 0)⟩
def p4_29_6 : RO := ⟨none, some 53, .call ⟨.builtin .len, #[(.tmp 52)], #[22]⟩⟩
def p4_29_7 : RO := ⟨none, some 54, .binOp .neq 3 (.tmp 51) (.tmp 53) 3⟩
def o4_29 : List RO := [p4_29_0, p4_29_1, p4_29_2, p4_29_3, p4_29_4, p4_29_5, p4_29_6, p4_29_7]
def x4_29 : RC := .ops o4_29
def p4_32_0 : RO := ⟨none, some 4, .assign (.const (.bool false))⟩
def o4_32 : List RO := [p4_32_0]
def x4_32 : RC := .ops o4_32
def x4_31 : RC := .seq x4_32 .ret
def x4_30 : RC := .cond (.tmp 54) x4_31 .skip
def x4_28 : RC := .seq x4_29 x4_30
def p4_35_0 : RO := ⟨none, some 9, .assign (.const (.int .i64 (0)))⟩
def o4_35 : List RO := [p4_35_0]
def x4_35 : RC := .ops o4_35
def p4_40_0 : RO := ⟨none, some 55, .move (.tmp 9)⟩
def p4_40_1 : RO := ⟨none, some 56, .move (.tmp 7)⟩
def p4_40_2 : RO := ⟨none, some 57, .call ⟨.builtin .len, #[(.tmp 56)], #[22]⟩⟩
def p4_40_3 : RO := ⟨none, some 58, .binOp .lss 3 (.tmp 55) (.tmp 57) 3⟩
def o4_40 : List RO := [p4_40_0, p4_40_1, p4_40_2, p4_40_3]
def x4_40 : RC := .ops o4_40
def x4_41 : RC := .cond (.tmp 58) .skip (.exit 2)
def x4_39 : RC := .seq x4_40 x4_41
def p4_45_0 : RO := ⟨none, some 61, .move (.tmp 7)⟩
def p4_45_1 : RO := ⟨none, some 62, .move (.tmp 9)⟩
def p4_45_2 : RO := ⟨none, some 63, .indexAddr 22 (.tmp 61) (.tmp 62)⟩
def p4_45_3 : RO := ⟨none, some 64, .load 29 (.tmp 63)⟩
def p4_45_4 : RO := ⟨none, some 65, .move (.tmp 0)⟩
def p4_45_5 : RO := ⟨none, some 66, .move (.tmp 0)⟩
def p4_45_6 : RO := ⟨none, some 67, .call ⟨.builtin .len, #[(.tmp 66)], #[22]⟩⟩
def p4_45_7 : RO := ⟨none, some 68, .binOp .sub 3 (.tmp 67) (.const (.int .i64 (1))) 3⟩
def p4_45_8 : RO := ⟨none, some 69, .move (.tmp 9)⟩
def p4_45_9 : RO := ⟨none, some 70, .binOp .sub 3 (.tmp 68) (.tmp 69) 3⟩
def p4_45_10 : RO := ⟨none, some 71, .indexAddr 22 (.tmp 65) (.tmp 70)⟩
def p4_45_11 : RO := ⟨none, some 72, .load 29 (.tmp 71)⟩
def p4_45_12 : RO := ⟨none, some 73, .call ⟨.value (.func 14), #[(.tmp 64), (.tmp 72)], #[29, 29]⟩⟩
def p4_45_13 : RO := ⟨none, some 74, .unOp .not 4 (.tmp 73)⟩
def p4_45_14 : RO := ⟨none, some 75, .move (.tmp 74)⟩
def p4_45_15 : RO := ⟨some (some 75, false), some 76, .move (.tmp 7)⟩
def p4_45_16 : RO := ⟨some (some 75, false), some 77, .move (.tmp 9)⟩
def p4_45_17 : RO := ⟨some (some 75, false), some 78, .indexAddr 22 (.tmp 76) (.tmp 77)⟩
def p4_45_18 : RO := ⟨some (some 75, false), some 79, .fieldAddr 29 (.tmp 78) 2⟩
def p4_45_19 : RO := ⟨some (some 75, false), some 80, .load 9 (.tmp 79)⟩
def p4_45_20 : RO := ⟨some (some 75, false), some 81, .move (.tmp 1)⟩
def p4_45_21 : RO := ⟨some (some 75, false), some 82, .binOp .eql 9 (.tmp 80) (.tmp 81) 9⟩
def p4_45_22 : RO := ⟨none, some 83, .pick (.tmp 75) (.const (.bool true)) (.tmp 82)⟩
def p4_45_23 : RO := ⟨none, some 84, .move (.tmp 83)⟩
def p4_45_24 : RO := ⟨some (some 84, false), some 85, .move (.tmp 7)⟩
def p4_45_25 : RO := ⟨some (some 84, false), some 86, .move (.tmp 9)⟩
def p4_45_26 : RO := ⟨some (some 84, false), some 87, .indexAddr 22 (.tmp 85) (.tmp 86)⟩
def p4_45_27 : RO := ⟨some (some 84, false), some 88, .fieldAddr 29 (.tmp 87) 2⟩
def p4_45_28 : RO := ⟨some (some 84, false), some 89, .load 9 (.tmp 88)⟩
def p4_45_29 : RO := ⟨some (some 84, false), some 90, .call ⟨.value (.func 15), #[(.tmp 89)], #[9]⟩⟩
def p4_45_30 : RO := ⟨some (some 84, false), some 91, .unOp .not 4 (.tmp 90)⟩
def p4_45_31 : RO := ⟨none, some 92, .pick (.tmp 84) (.const (.bool true)) (.tmp 91)⟩
def o4_45 : List (Nat × RO) := [(0, p4_45_0), (1, p4_45_1), (2, p4_45_2), (3, p4_45_3), (4, p4_45_4), (5, p4_45_5), (6, p4_45_6), (7, p4_45_7), (8, p4_45_8), (9, p4_45_9), (10, p4_45_10), (11, p4_45_11), (12, p4_45_12), (13, p4_45_13), (14, p4_45_14), (15, p4_45_15), (16, p4_45_16), (17, p4_45_17), (18, p4_45_18), (19, p4_45_19), (20, p4_45_20), (21, p4_45_21), (22, p4_45_22), (23, p4_45_23), (24, p4_45_24), (25, p4_45_25), (26, p4_45_26), (27, p4_45_27), (28, p4_45_28), (29, p4_45_29), (30, p4_45_30), (31, p4_45_31)]
def m4_45 : List Nat := [0, 0, 3, 7, 0, 0, 32, 96, 0, 480, 1008, 2032, 4095, 8191, 16383, 32767, 32767, 131071, 262143, 524287, 32767, 2097151, 4194303, 8388607, 16777215, 16777215, 67108863, 134217727, 268435455, 536870911, 1073741823, 2147483647]
def x4_45 : RC := .draw o4_45 m4_45
def p4_48_0 : RO := ⟨none, some 4, .assign (.const (.bool false))⟩
def o4_48 : List RO := [p4_48_0]
def x4_48 : RC := .ops o4_48
def x4_47 : RC := .seq x4_48 .ret
def x4_46 : RC := .cond (.tmp 92) x4_47 .skip
def x4_44 : RC := .seq x4_45 x4_46
def x4_43 : RC := .block 3 x4_44
def p4_49_0 : RO := ⟨none, some 59, .move (.tmp 9)⟩
def p4_49_1 : RO := ⟨none, some 60, .binOp .add 3 (.tmp 59) (.const (.int .i64 (1))) 3⟩
def p4_49_2 : RO := ⟨none, some 9, .assign (.tmp 60)⟩
def o4_49 : List RO := [p4_49_0, p4_49_1, p4_49_2]
def x4_49 : RC := .ops o4_49
def x4_42 : RC := .seq x4_43 x4_49
def x4_38 : RC := .seq x4_39 x4_42
def x4_37 : RC := .loop x4_38
def x4_36 : RC := .block 2 x4_37
def x4_34 : RC := .seq x4_35 x4_36
def p4_51_0 : RO := ⟨none, some 94, .move (.tmp 5)⟩
def p4_51_1 : RO := ⟨none, some 95, .call ⟨.value (.func 16), #[(.tmp 94)], #[23]⟩⟩
def p4_51_2 : RO := ⟨none, some 93, .move (.tmp 95)⟩
def p4_51_3 : RO := ⟨none, some 96, .extract (.tmp 93) 0⟩
def p4_51_4 : RO := ⟨none, some 97, .extract (.tmp 93) 1⟩
def p4_51_5 : RO := ⟨none, some 10, .alloc 29⟩
def p4_51_6 : RO := ⟨none, none, .store 29 (.tmp 10) (.tmp 96)⟩
def p4_51_7 : RO := ⟨none, some 11, .assign (.tmp 97)⟩
def o4_51 : List RO := [p4_51_0, p4_51_1, p4_51_2, p4_51_3, p4_51_4, p4_51_5, p4_51_6, p4_51_7]
def x4_51 : RC := .ops o4_51
def p4_53_0 : RO := ⟨none, some 98, .move (.tmp 11)⟩
def p4_53_1 : RO := ⟨none, some 99, .unOp .not 4 (.tmp 98)⟩
def p4_53_2 : RO := ⟨none, some 100, .move (.tmp 99)⟩
def p4_53_3 : RO := ⟨some (some 100, false), some 101, .fieldAddr 29 (.tmp 10) 1⟩
def p4_53_4 : RO := ⟨some (some 100, false), some 102, .load 3 (.tmp 101)⟩
def p4_53_5 : RO := ⟨some (some 100, false), some 103, .binOp .neq 3 (.tmp 102) (.const (.int .i64 (0))) 3⟩
def p4_53_6 : RO := ⟨none, some 104, .pick (.tmp 100) (.const (.bool true)) (.tmp 103)⟩
def p4_53_7 : RO := ⟨none, some 105, .move (.tmp 104)⟩
def p4_53_8 : RO := ⟨some (some 105, false), some 106, .fieldAddr 29 (.tmp 10) 2⟩
def p4_53_9 : RO := ⟨some (some 105, false), some 107, .load 9 (.tmp 106)⟩
def p4_53_10 : RO := ⟨some (some 105, false), some 108, .move (.tmp 1)⟩
def p4_53_11 : RO := ⟨some (some 105, false), some 109, .binOp .eql 9 (.tmp 107) (.tmp 108) 9⟩
def p4_53_12 : RO := ⟨none, some 110, .pick (.tmp 105) (.const (.bool true)) (.tmp 109)⟩
def p4_53_13 : RO := ⟨none, some 111, .move (.tmp 110)⟩
def p4_53_14 : RO := ⟨some (some 111, false), some 112, .fieldAddr 29 (.tmp 10) 2⟩
def p4_53_15 : RO := ⟨some (some 111, false), some 113, .load 9 (.tmp 112)⟩
def p4_53_16 : RO := ⟨some (some 111, false), some 114, .call ⟨.value (.func 15), #[(.tmp 113)], #[9]⟩⟩
def p4_53_17 : RO := ⟨some (some 111, false), some 115, .unOp .not 4 (.tmp 114)⟩
def p4_53_18 : RO := ⟨none, some 116, .pick (.tmp 111) (.const (.bool true)) (.tmp 115)⟩
def p4_53_19 : RO := ⟨none, some 117, .move (.tmp 116)⟩
def p4_53_20 : RO := ⟨some (some 117, true), some 118, .call ⟨.value (.func 9), #[], #[]⟩⟩
def p4_53_21 : RO := ⟨none, some 119, .pick (.tmp 117) (.tmp 118) (.const (.bool false))⟩
def p4_53_22 : RO := ⟨none, some 4, .assign (.tmp 119)⟩
def o4_53 : List RO := [p4_53_0, p4_53_1, p4_53_2, p4_53_3, p4_53_4, p4_53_5, p4_53_6, p4_53_7, p4_53_8, p4_53_9, p4_53_10, p4_53_11, p4_53_12, p4_53_13, p4_53_14, p4_53_15, p4_53_16, p4_53_17, p4_53_18, p4_53_19, p4_53_20, p4_53_21, p4_53_22]
def x4_53 : RC := .ops o4_53
def x4_52 : RC := .seq x4_53 .ret
def x4_50 : RC := .seq x4_51 x4_52
def x4_33 : RC := .seq x4_34 x4_50
def x4_27 : RC := .seq x4_28 x4_33
def x4_25 : RC := .seq x4_26 x4_27
def x4_23 : RC := .seq x4_24 x4_25
def x4_10 : RC := .seq x4_11 x4_23
def x4_4 : RC := .seq x4_5 x4_10
def x4_2 : RC := .seq x4_3 x4_4
def x4_0 : RC := .seq x4_1 x4_2
theorem x4_eq : Try.f4.body.map rc = some x4_0 := by kernel_rfl
def p8_1_0 : RO := ⟨none, some 0, .assign (.const (.pointer none))⟩
def o8_1 : List RO := [p8_1_0]
def x8_1 : RC := .ops o8_1
def p8_3_0 : RO := ⟨none, some 1, .build 55 #[]⟩
def p8_3_1 : RO := ⟨none, some 2, .box 55 (.tmp 1)⟩
def p8_3_2 : RO := ⟨none, some 0, .assign (.tmp 2)⟩
def o8_3 : List RO := [p8_3_0, p8_3_1, p8_3_2]
def x8_3 : RC := .ops o8_3
def x8_2 : RC := .seq x8_3 .ret
def x8_0 : RC := .seq x8_1 x8_2
theorem x8_eq : Try.f8.body.map rc = some x8_0 := by kernel_rfl
def p10_1_0 : RO := ⟨none, some 3, .box 29 (.tmp 1)⟩
def o10_1 : List RO := [p10_1_0]
def x10_1 : RC := .ops o10_1
def p10_3_0 : RO := ⟨none, some 4, .move (.tmp 0)⟩
def p10_3_1 : RO := ⟨none, some 5, .binOp .neq 23 (.tmp 4) (.const (.pointer none)) 23⟩
def o10_3 : List RO := [p10_3_0, p10_3_1]
def x10_3 : RC := .ops o10_3
def p10_5_0 : RO := ⟨none, some 11, .load 29 (.tmp 3)⟩
def p10_5_1 : RO := ⟨none, some 12, .call ⟨.value (.func 28), #[(.tmp 11)], #[29]⟩⟩
def p10_5_2 : RO := ⟨none, some 7, .move (.tmp 0)⟩
def p10_5_3 : RO := ⟨none, some 8, .nilCheck (.tmp 7)⟩
def p10_5_4 : RO := ⟨none, some 9, .fieldAddr 55 (.tmp 8) 0⟩
def p10_5_5 : RO := ⟨none, some 10, .load 22 (.tmp 9)⟩
def p10_5_6 : RO := ⟨none, some 13, .buildSlice 22 1 #[(0, (.tmp 12))]⟩
def p10_5_7 : RO := ⟨none, some 14, .call ⟨.builtin .append, #[(.tmp 10), (.tmp 13)], #[22, 22]⟩⟩
def p10_5_8 : RO := ⟨none, some 6, .move (.tmp 0)⟩
def p10_5_9 : RO := ⟨none, some 15, .nilCheck (.tmp 6)⟩
def p10_5_10 : RO := ⟨none, some 16, .fieldAddr 55 (.tmp 15) 0⟩
def p10_5_11 : RO := ⟨none, none, .store 22 (.tmp 16) (.tmp 14)⟩
def o10_5 : List (Nat × RO) := [(5, p10_5_0), (6, p10_5_1), (1, p10_5_2), (2, p10_5_3), (3, p10_5_4), (4, p10_5_5), (7, p10_5_6), (8, p10_5_7), (0, p10_5_8), (9, p10_5_9), (10, p10_5_10), (11, p10_5_11)]
def m10_5 : List Nat := [0, 0, 2, 6, 14, 0, 32, 96, 254, 511, 1023, 2047]
def x10_5 : RC := .draw o10_5 m10_5
def x10_4 : RC := .cond (.tmp 5) x10_5 .skip
def x10_2 : RC := .seq x10_3 x10_4
def x10_0 : RC := .seq x10_1 x10_2
theorem x10_eq : Try.f10.body.map rc = some x10_0 := by kernel_rfl
def p12_1_0 : RO := ⟨none, some 3, .box 9 (.tmp 1)⟩
def p12_1_1 : RO := ⟨none, some 4, .assign (.const (.slice none 0 0))⟩
def o12_1 : List RO := [p12_1_0, p12_1_1]
def x12_1 : RC := .ops o12_1
def p12_3_0 : RO := ⟨none, some 5, .move (.tmp 0)⟩
def p12_3_1 : RO := ⟨none, some 6, .makeFunc (.func 33) #[] #[(.tmp 3)]⟩
def p12_3_2 : RO := ⟨none, some 7, .call ⟨.value (.func 32), #[(.tmp 5), (.tmp 6)], #[23, 63]⟩⟩
def p12_3_3 : RO := ⟨none, some 4, .assign (.tmp 7)⟩
def o12_3 : List RO := [p12_3_0, p12_3_1, p12_3_2, p12_3_3]
def x12_3 : RC := .ops o12_3
def x12_2 : RC := .seq x12_3 .ret
def x12_0 : RC := .seq x12_1 x12_2
theorem x12_eq : Try.f12.body.map rc = some x12_0 := by kernel_rfl
def p13_1_0 : RO := ⟨none, some 2, .assign (.const (.slice none 0 0))⟩
def o13_1 : List RO := [p13_1_0]
def x13_1 : RC := .ops o13_1
def p13_4_0 : RO := ⟨none, some 6, .move (.tmp 0)⟩
def p13_4_1 : RO := ⟨none, some 7, .binOp .eql 23 (.tmp 6) (.const (.pointer none)) 23⟩
def o13_4 : List RO := [p13_4_0, p13_4_1]
def x13_4 : RC := .ops o13_4
def p13_7_0 : RO := ⟨none, some 2, .assign (.const (.slice none 0 0))⟩
def o13_7 : List RO := [p13_7_0]
def x13_7 : RC := .ops o13_7
def x13_6 : RC := .seq x13_7 .ret
def x13_5 : RC := .cond (.tmp 7) x13_6 .skip
def x13_3 : RC := .seq x13_4 x13_5
def p13_9_0 : RO := ⟨none, some 8, .move (.tmp 0)⟩
def p13_9_1 : RO := ⟨none, some 9, .nilCheck (.tmp 8)⟩
def p13_9_2 : RO := ⟨none, some 10, .fieldAddr 55 (.tmp 9) 0⟩
def p13_9_3 : RO := ⟨none, some 11, .load 22 (.tmp 10)⟩
def p13_9_4 : RO := ⟨none, some 12, .call ⟨.builtin .len, #[(.tmp 11)], #[22]⟩⟩
def p13_9_5 : RO := ⟨none, some 13, .makeSlice 22 (.tmp 12) (.tmp 12)⟩
def p13_9_6 : RO := ⟨none, some 3, .assign (.tmp 13)⟩
def o13_9 : List RO := [p13_9_0, p13_9_1, p13_9_2, p13_9_3, p13_9_4, p13_9_5, p13_9_6]
def x13_9 : RC := .ops o13_9
def p13_12_0 : RO := ⟨none, some 14, .move (.tmp 0)⟩
def p13_12_1 : RO := ⟨none, some 15, .nilCheck (.tmp 14)⟩
def p13_12_2 : RO := ⟨none, some 16, .fieldAddr 55 (.tmp 15) 0⟩
def p13_12_3 : RO := ⟨none, some 17, .load 22 (.tmp 16)⟩
def p13_12_4 : RO := ⟨none, some 18, .call ⟨.builtin .len, #[(.tmp 17)], #[22]⟩⟩
def p13_12_5 : RO := ⟨none, some 19, .move (.const (.int .i64 (0)))⟩
def o13_12 : List RO := [p13_12_0, p13_12_1, p13_12_2, p13_12_3, p13_12_4, p13_12_5]
def x13_12 : RC := .ops o13_12
def p13_16_0 : RO := ⟨none, some 20, .binOp .lss 3 (.tmp 19) (.tmp 18) 3⟩
def o13_16 : List RO := [p13_16_0]
def x13_16 : RC := .ops o13_16
def x13_18 : RC := .cond (.tmp 20) .skip (.exit 0)
def p13_22_0 : RO := ⟨none, some 21, .move (.tmp 19)⟩
def p13_22_1 : RO := ⟨none, some 22, .indexAddr 22 (.tmp 17) (.tmp 19)⟩
def p13_22_2 : RO := ⟨none, some 23, .load 29 (.tmp 22)⟩
def p13_22_3 : RO := ⟨none, some 5, .alloc 29⟩
def p13_22_4 : RO := ⟨none, some 4, .assign (.tmp 21)⟩
def p13_22_5 : RO := ⟨none, none, .store 29 (.tmp 5) (.tmp 23)⟩
def o13_22 : List RO := [p13_22_0, p13_22_1, p13_22_2, p13_22_3, p13_22_4, p13_22_5]
def x13_22 : RC := .ops o13_22
def p13_23_0 : RO := ⟨none, some 24, .move (.tmp 3)⟩
def p13_23_1 : RO := ⟨none, some 25, .move (.tmp 4)⟩
def p13_23_2 : RO := ⟨none, some 26, .load 29 (.tmp 5)⟩
def p13_23_3 : RO := ⟨none, some 27, .call ⟨.value (.func 28), #[(.tmp 26)], #[29]⟩⟩
def p13_23_4 : RO := ⟨none, some 28, .indexAddr 22 (.tmp 24) (.tmp 25)⟩
def p13_23_5 : RO := ⟨none, none, .store 29 (.tmp 28) (.tmp 27)⟩
def o13_23 : List RO := [p13_23_0, p13_23_1, p13_23_2, p13_23_3, p13_23_4, p13_23_5]
def x13_23 : RC := .ops o13_23
def x13_21 : RC := .seq x13_22 x13_23
def x13_20 : RC := .block 1 x13_21
def p13_24_0 : RO := ⟨none, some 29, .binOp .add 3 (.tmp 19) (.const (.int .i64 (1))) 3⟩
def p13_24_1 : RO := ⟨none, some 19, .move (.tmp 29)⟩
def o13_24 : List RO := [p13_24_0, p13_24_1]
def x13_24 : RC := .ops o13_24
def x13_19 : RC := .seq x13_20 x13_24
def x13_17 : RC := .seq x13_18 x13_19
def x13_15 : RC := .seq x13_16 x13_17
def x13_14 : RC := .loop x13_15
def x13_13 : RC := .block 0 x13_14
def x13_11 : RC := .seq x13_12 x13_13
def p13_26_0 : RO := ⟨none, some 30, .move (.tmp 3)⟩
def p13_26_1 : RO := ⟨none, some 2, .assign (.tmp 30)⟩
def o13_26 : List RO := [p13_26_0, p13_26_1]
def x13_26 : RC := .ops o13_26
def x13_25 : RC := .seq x13_26 .ret
def x13_10 : RC := .seq x13_11 x13_25
def x13_8 : RC := .seq x13_9 x13_10
def x13_2 : RC := .seq x13_3 x13_8
def x13_0 : RC := .seq x13_1 x13_2
theorem x13_eq : Try.f13.body.map rc = some x13_0 := by kernel_rfl
def p14_1_0 : RO := ⟨none, some 2, .box 29 (.tmp 0)⟩
def p14_1_1 : RO := ⟨none, some 3, .box 29 (.tmp 1)⟩
def p14_1_2 : RO := ⟨none, some 4, .assign (.const (.bool false))⟩
def o14_1 : List RO := [p14_1_0, p14_1_1, p14_1_2]
def x14_1 : RC := .ops o14_1
def p14_3_0 : RO := ⟨none, some 5, .fieldAddr 29 (.tmp 2) 0⟩
def p14_3_1 : RO := ⟨none, some 6, .load 3 (.tmp 5)⟩
def p14_3_2 : RO := ⟨none, some 7, .fieldAddr 29 (.tmp 3) 0⟩
def p14_3_3 : RO := ⟨none, some 8, .load 3 (.tmp 7)⟩
def p14_3_4 : RO := ⟨none, some 9, .binOp .eql 3 (.tmp 6) (.tmp 8) 3⟩
def p14_3_5 : RO := ⟨none, some 10, .move (.tmp 9)⟩
def p14_3_6 : RO := ⟨some (some 10, true), some 11, .fieldAddr 29 (.tmp 2) 1⟩
def p14_3_7 : RO := ⟨some (some 10, true), some 12, .load 3 (.tmp 11)⟩
def p14_3_8 : RO := ⟨some (some 10, true), some 13, .fieldAddr 29 (.tmp 3) 1⟩
def p14_3_9 : RO := ⟨some (some 10, true), some 14, .load 3 (.tmp 13)⟩
def p14_3_10 : RO := ⟨some (some 10, true), some 15, .binOp .eql 3 (.tmp 12) (.tmp 14) 3⟩
def p14_3_11 : RO := ⟨none, some 16, .pick (.tmp 10) (.tmp 15) (.const (.bool false))⟩
def p14_3_12 : RO := ⟨none, some 17, .move (.tmp 16)⟩
def p14_3_13 : RO := ⟨some (some 17, true), some 18, .fieldAddr 29 (.tmp 2) 2⟩
def p14_3_14 : RO := ⟨some (some 17, true), some 19, .load 9 (.tmp 18)⟩
def p14_3_15 : RO := ⟨some (some 17, true), some 20, .fieldAddr 29 (.tmp 3) 2⟩
def p14_3_16 : RO := ⟨some (some 17, true), some 21, .load 9 (.tmp 20)⟩
def p14_3_17 : RO := ⟨some (some 17, true), some 22, .binOp .eql 9 (.tmp 19) (.tmp 21) 9⟩
def p14_3_18 : RO := ⟨none, some 23, .pick (.tmp 17) (.tmp 22) (.const (.bool false))⟩
def p14_3_19 : RO := ⟨none, some 24, .move (.tmp 23)⟩
def p14_3_20 : RO := ⟨some (some 24, true), some 25, .fieldAddr 29 (.tmp 2) 3⟩
def p14_3_21 : RO := ⟨some (some 24, true), some 26, .load 27 (.tmp 25)⟩
def p14_3_22 : RO := ⟨some (some 24, true), some 27, .fieldAddr 29 (.tmp 3) 3⟩
def p14_3_23 : RO := ⟨some (some 24, true), some 28, .load 27 (.tmp 27)⟩
def p14_3_24 : RO := ⟨some (some 24, true), some 29, .call ⟨.value (.func 35), #[(.tmp 26), (.tmp 28)], #[27, 27]⟩⟩
def p14_3_25 : RO := ⟨none, some 30, .pick (.tmp 24) (.tmp 29) (.const (.bool false))⟩
def p14_3_26 : RO := ⟨none, some 4, .assign (.tmp 30)⟩
def o14_3 : List RO := [p14_3_0, p14_3_1, p14_3_2, p14_3_3, p14_3_4, p14_3_5, p14_3_6, p14_3_7, p14_3_8, p14_3_9, p14_3_10, p14_3_11, p14_3_12, p14_3_13, p14_3_14, p14_3_15, p14_3_16, p14_3_17, p14_3_18, p14_3_19, p14_3_20, p14_3_21, p14_3_22, p14_3_23, p14_3_24, p14_3_25, p14_3_26]
def x14_3 : RC := .ops o14_3
def x14_2 : RC := .seq x14_3 .ret
def x14_0 : RC := .seq x14_1 x14_2
theorem x14_eq : Try.f14.body.map rc = some x14_0 := by kernel_rfl
def p15_1_0 : RO := ⟨none, some 2, .assign (.const (.bool false))⟩
def o15_1 : List RO := [p15_1_0]
def x15_1 : RC := .ops o15_1
def p15_3_0 : RO := ⟨none, some 3, .move (.tmp 0)⟩
def p15_3_1 : RO := ⟨none, some 4, .call ⟨.value (.func 36), #[(.tmp 3), (.const (.string ⟨#[100, 100, 32, 100, 116, 32, 108, 105, 32, 111, 112, 116, 103, 114, 111, 117, 112, 32, 111, 112, 116, 105, 111, 110, 32, 112, 32, 114, 98, 32, 114, 112, 32, 114, 116, 32, 114, 116, 99]⟩))], #[9, 9]⟩⟩
def p15_3_2 : RO := ⟨none, some 2, .assign (.tmp 4)⟩
def o15_3 : List RO := [p15_3_0, p15_3_1, p15_3_2]
def x15_3 : RC := .ops o15_3
def x15_2 : RC := .seq x15_3 .ret
def x15_0 : RC := .seq x15_1 x15_2
theorem x15_eq : Try.f15.body.map rc = some x15_0 := by kernel_rfl
def p16_1_0 : RO := ⟨none, some 2, .alloc 29⟩
def p16_1_1 : RO := ⟨none, some 3, .assign (.const (.bool false))⟩
def o16_1 : List RO := [p16_1_0, p16_1_1]
def x16_1 : RC := .ops o16_1
def p16_4_0 : RO := ⟨none, some 4, .move (.tmp 0)⟩
def p16_4_1 : RO := ⟨none, some 5, .binOp .eql 23 (.tmp 4) (.const (.pointer none)) 23⟩
def p16_4_2 : RO := ⟨none, some 6, .move (.tmp 5)⟩
def p16_4_3 : RO := ⟨some (some 6, false), some 7, .move (.tmp 0)⟩
def p16_4_4 : RO := ⟨some (some 6, false), some 8, .nilCheck (.tmp 7)⟩
def p16_4_5 : RO := ⟨some (some 6, false), some 9, .fieldAddr 55 (.tmp 8) 0⟩
def p16_4_6 : RO := ⟨some (some 6, false), some 10, .load 22 (.tmp 9)⟩
def p16_4_7 : RO := ⟨some (some 6, false), some 11, .call ⟨.builtin .len, #[(.tmp 10)], #[22]⟩⟩
def p16_4_8 : RO := ⟨some (some 6, false), some 12, .binOp .eql 3 (.tmp 11) (.const (.int .i64 (0))) 3⟩
def p16_4_9 : RO := ⟨none, some 13, .pick (.tmp 6) (.const (.bool true)) (.tmp 12)⟩
def o16_4 : List RO := [p16_4_0, p16_4_1, p16_4_2, p16_4_3, p16_4_4, p16_4_5, p16_4_6, p16_4_7, p16_4_8, p16_4_9]
def x16_4 : RC := .ops o16_4
def p16_7_0 : RO := ⟨none, some 14, .build 29 #[]⟩
def p16_7_1 : RO := ⟨none, none, .store 29 (.tmp 2) (.tmp 14)⟩
def p16_7_2 : RO := ⟨none, some 3, .assign (.const (.bool false))⟩
def o16_7 : List RO := [p16_7_0, p16_7_1, p16_7_2]
def x16_7 : RC := .ops o16_7
def x16_6 : RC := .seq x16_7 .ret
def x16_5 : RC := .cond (.tmp 13) x16_6 .skip
def x16_3 : RC := .seq x16_4 x16_5
def p16_9_0 : RO := ⟨none, some 15, .move (.tmp 0)⟩
def p16_9_1 : RO := ⟨none, some 16, .nilCheck (.tmp 15)⟩
def p16_9_2 : RO := ⟨none, some 17, .fieldAddr 55 (.tmp 16) 0⟩
def p16_9_3 : RO := ⟨none, some 18, .load 22 (.tmp 17)⟩
def p16_9_4 : RO := ⟨none, some 19, .move (.tmp 0)⟩
def p16_9_5 : RO := ⟨none, some 20, .nilCheck (.tmp 19)⟩
def p16_9_6 : RO := ⟨none, some 21, .fieldAddr 55 (.tmp 20) 0⟩
def p16_9_7 : RO := ⟨none, some 22, .load 22 (.tmp 21)⟩
def p16_9_8 : RO := ⟨none, some 23, .call ⟨.builtin .len, #[(.tmp 22)], #[22]⟩⟩
def p16_9_9 : RO := ⟨none, some 24, .binOp .sub 3 (.tmp 23) (.const (.int .i64 (1))) 3⟩
def p16_9_10 : RO := ⟨none, some 25, .indexAddr 22 (.tmp 18) (.tmp 24)⟩
def p16_9_11 : RO := ⟨none, some 26, .load 29 (.tmp 25)⟩
def p16_9_12 : RO := ⟨none, some 27, .call ⟨.value (.func 28), #[(.tmp 26)], #[29]⟩⟩
def p16_9_13 : RO := ⟨none, none, .store 29 (.tmp 2) (.tmp 27)⟩
def p16_9_14 : RO := ⟨none, some 3, .assign (.const (.bool true))⟩
def o16_9 : List (Nat × RO) := [(0, p16_9_0), (1, p16_9_1), (2, p16_9_2), (3, p16_9_3), (4, p16_9_4), (5, p16_9_5), (6, p16_9_6), (7, p16_9_7), (8, p16_9_8), (9, p16_9_9), (10, p16_9_10), (11, p16_9_11), (12, p16_9_12), (13, p16_9_13), (14, p16_9_14)]
def m16_9 : List Nat := [0, 1, 3, 7, 0, 16, 48, 112, 240, 496, 1023, 2047, 4095, 8191, 16383]
def x16_9 : RC := .draw o16_9 m16_9
def x16_8 : RC := .seq x16_9 .ret
def x16_2 : RC := .seq x16_3 x16_8
def x16_0 : RC := .seq x16_1 x16_2
theorem x16_eq : Try.f16.body.map rc = some x16_0 := by kernel_rfl
def p22_1_0 : RO := ⟨none, some 2, .alloc 29⟩
def p22_1_1 : RO := ⟨none, some 3, .assign (.const (.bool false))⟩
def o22_1 : List RO := [p22_1_0, p22_1_1]
def x22_1 : RC := .ops o22_1
def p22_3_0 : RO := ⟨none, some 7, .move (.tmp 0)⟩
def p22_3_1 : RO := ⟨none, some 8, .call ⟨.value (.func 16), #[(.tmp 7)], #[23]⟩⟩
def p22_3_2 : RO := ⟨none, some 6, .move (.tmp 8)⟩
def p22_3_3 : RO := ⟨none, some 9, .extract (.tmp 6) 0⟩
def p22_3_4 : RO := ⟨none, some 10, .extract (.tmp 6) 1⟩
def p22_3_5 : RO := ⟨none, some 4, .alloc 29⟩
def p22_3_6 : RO := ⟨none, none, .store 29 (.tmp 4) (.tmp 9)⟩
def p22_3_7 : RO := ⟨none, some 5, .assign (.tmp 10)⟩
def o22_3 : List RO := [p22_3_0, p22_3_1, p22_3_2, p22_3_3, p22_3_4, p22_3_5, p22_3_6, p22_3_7]
def x22_3 : RC := .ops o22_3
def p22_6_0 : RO := ⟨none, some 11, .move (.tmp 5)⟩
def o22_6 : List RO := [p22_6_0]
def x22_6 : RC := .ops o22_6
def p22_8_0 : RO := ⟨none, some 13, .move (.tmp 0)⟩
def p22_8_1 : RO := ⟨none, some 14, .nilCheck (.tmp 13)⟩
def p22_8_2 : RO := ⟨none, some 15, .fieldAddr 55 (.tmp 14) 0⟩
def p22_8_3 : RO := ⟨none, some 16, .load 22 (.tmp 15)⟩
def p22_8_4 : RO := ⟨none, some 17, .move (.tmp 0)⟩
def p22_8_5 : RO := ⟨none, some 18, .nilCheck (.tmp 17)⟩
def p22_8_6 : RO := ⟨none, some 19, .fieldAddr 55 (.tmp 18) 0⟩
def p22_8_7 : RO := ⟨none, some 20, .load 22 (.tmp 19)⟩
def p22_8_8 : RO := ⟨none, some 21, .call ⟨.builtin .len, #[(.tmp 20)], #[22]⟩⟩
def p22_8_9 : RO := ⟨none, some 22, .binOp .sub 3 (.tmp 21) (.const (.int .i64 (1))) 3⟩
def p22_8_10 : RO := ⟨none, some 23, .move (.tmp 0)⟩
def p22_8_11 : RO := ⟨none, some 24, .nilCheck (.tmp 23)⟩
def p22_8_12 : RO := ⟨none, some 25, .fieldAddr 55 (.tmp 24) 0⟩
def p22_8_13 : RO := ⟨none, some 26, .load 22 (.tmp 25)⟩
def p22_8_14 : RO := ⟨none, some 27, .call ⟨.builtin .len, #[(.tmp 26)], #[22]⟩⟩
def p22_8_15 : RO := ⟨none, some 28, .call ⟨.value (.func 46), #[(.tmp 16), (.tmp 22), (.tmp 27)], #[22, 3, 3]⟩⟩
def p22_8_16 : RO := ⟨none, some 12, .move (.tmp 0)⟩
def p22_8_17 : RO := ⟨none, some 29, .nilCheck (.tmp 12)⟩
def p22_8_18 : RO := ⟨none, some 30, .fieldAddr 55 (.tmp 29) 0⟩
def p22_8_19 : RO := ⟨none, none, .store 22 (.tmp 30) (.tmp 28)⟩
def o22_8 : List (Nat × RO) := [(1, p22_8_0), (2, p22_8_1), (3, p22_8_2), (4, p22_8_3), (5, p22_8_4), (6, p22_8_5), (7, p22_8_6), (8, p22_8_7), (9, p22_8_8), (10, p22_8_9), (11, p22_8_10), (12, p22_8_11), (13, p22_8_12), (14, p22_8_13), (15, p22_8_14), (16, p22_8_15), (0, p22_8_16), (17, p22_8_17), (18, p22_8_18), (19, p22_8_19)]
def m22_8 : List Nat := [0, 0, 2, 6, 14, 0, 32, 96, 224, 480, 992, 0, 2048, 6144, 14336, 30720, 65534, 131071, 262143, 524287]
def x22_8 : RC := .draw o22_8 m22_8
def x22_7 : RC := .cond (.tmp 11) x22_8 .skip
def x22_5 : RC := .seq x22_6 x22_7
def p22_10_0 : RO := ⟨none, some 31, .load 29 (.tmp 4)⟩
def p22_10_1 : RO := ⟨none, some 32, .move (.tmp 5)⟩
def p22_10_2 : RO := ⟨none, none, .store 29 (.tmp 2) (.tmp 31)⟩
def p22_10_3 : RO := ⟨none, some 3, .assign (.tmp 32)⟩
def o22_10 : List RO := [p22_10_0, p22_10_1, p22_10_2, p22_10_3]
def x22_10 : RC := .ops o22_10
def x22_9 : RC := .seq x22_10 .ret
def x22_4 : RC := .seq x22_5 x22_9
def x22_2 : RC := .seq x22_3 x22_4
def x22_0 : RC := .seq x22_1 x22_2
theorem x22_eq : Try.f22.body.map rc = some x22_0 := by kernel_rfl
def p28_1_0 : RO := ⟨none, some 1, .box 29 (.tmp 0)⟩
def p28_1_1 : RO := ⟨none, some 2, .alloc 29⟩
def o28_1 : List RO := [p28_1_0, p28_1_1]
def x28_1 : RC := .ops o28_1
def p28_3_0 : RO := ⟨none, some 3, .fieldAddr 29 (.tmp 1) 3⟩
def p28_3_1 : RO := ⟨none, some 4, .load 27 (.tmp 3)⟩
def p28_3_2 : RO := ⟨none, some 5, .call ⟨.value (.func 49), #[(.tmp 4)], #[27]⟩⟩
def p28_3_3 : RO := ⟨none, some 6, .fieldAddr 29 (.tmp 1) 3⟩
def p28_3_4 : RO := ⟨none, none, .store 27 (.tmp 6) (.tmp 5)⟩
def o28_3 : List RO := [p28_3_0, p28_3_1, p28_3_2, p28_3_3, p28_3_4]
def x28_3 : RC := .ops o28_3
def p28_5_0 : RO := ⟨none, some 7, .load 29 (.tmp 1)⟩
def p28_5_1 : RO := ⟨none, none, .store 29 (.tmp 2) (.tmp 7)⟩
def o28_5 : List RO := [p28_5_0, p28_5_1]
def x28_5 : RC := .ops o28_5
def x28_4 : RC := .seq x28_5 .ret
def x28_2 : RC := .seq x28_3 x28_4
def x28_0 : RC := .seq x28_1 x28_2
theorem x28_eq : Try.f28.body.map rc = some x28_0 := by kernel_rfl
def p32_1_0 : RO := ⟨none, some 4, .assign (.const (.slice none 0 0))⟩
def o32_1 : List RO := [p32_1_0]
def x32_1 : RC := .ops o32_1
def p32_3_0 : RO := ⟨none, some 5, .assign (.const (.slice none 0 0))⟩
def o32_3 : List RO := [p32_3_0]
def x32_3 : RC := .ops o32_3
def p32_8_0 : RO := ⟨none, some 9, .move (.tmp 0)⟩
def p32_8_1 : RO := ⟨none, some 10, .call ⟨.value (.func 16), #[(.tmp 9)], #[23]⟩⟩
def p32_8_2 : RO := ⟨none, some 8, .move (.tmp 10)⟩
def p32_8_3 : RO := ⟨none, some 11, .extract (.tmp 8) 0⟩
def p32_8_4 : RO := ⟨none, some 12, .extract (.tmp 8) 1⟩
def p32_8_5 : RO := ⟨none, some 6, .alloc 29⟩
def p32_8_6 : RO := ⟨none, none, .store 29 (.tmp 6) (.tmp 11)⟩
def p32_8_7 : RO := ⟨none, some 7, .assign (.tmp 12)⟩
def o32_8 : List RO := [p32_8_0, p32_8_1, p32_8_2, p32_8_3, p32_8_4, p32_8_5, p32_8_6, p32_8_7]
def x32_8 : RC := .ops o32_8
def p32_11_0 : RO := ⟨none, some 13, .move (.tmp 7)⟩
def p32_11_1 : RO := ⟨none, some 14, .unOp .not 4 (.tmp 13)⟩
def p32_11_2 : RO := ⟨none, some 15, .move (.tmp 14)⟩
def p32_11_3 : RO := ⟨some (some 15, false), some 16, .move (.tmp 1)⟩
def p32_11_4 : RO := ⟨some (some 15, false), some 17, .load 29 (.tmp 6)⟩
def p32_11_5 : RO := ⟨some (some 15, false), some 18, .call ⟨.value (.tmp 16), #[(.tmp 17)], #[29]⟩⟩
def p32_11_6 : RO := ⟨some (some 15, false), some 19, .unOp .not 4 (.tmp 18)⟩
def p32_11_7 : RO := ⟨none, some 20, .pick (.tmp 15) (.const (.bool true)) (.tmp 19)⟩
def o32_11 : List RO := [p32_11_0, p32_11_1, p32_11_2, p32_11_3, p32_11_4, p32_11_5, p32_11_6, p32_11_7]
def x32_11 : RC := .ops o32_11
def p32_14_0 : RO := ⟨none, some 21, .move (.tmp 5)⟩
def p32_14_1 : RO := ⟨none, some 4, .assign (.tmp 21)⟩
def o32_14 : List RO := [p32_14_0, p32_14_1]
def x32_14 : RC := .ops o32_14
def x32_13 : RC := .seq x32_14 .ret
def x32_12 : RC := .cond (.tmp 20) x32_13 .skip
def x32_10 : RC := .seq x32_11 x32_12
def p32_16_0 : RO := ⟨none, some 22, .move (.tmp 0)⟩
def p32_16_1 : RO := ⟨none, some 23, .call ⟨.value (.func 22), #[(.tmp 22)], #[23]⟩⟩
def o32_16 : List RO := [p32_16_0, p32_16_1]
def x32_16 : RC := .ops o32_16
def p32_17_0 : RO := ⟨none, some 24, .move (.tmp 5)⟩
def p32_17_1 : RO := ⟨none, some 25, .load 29 (.tmp 6)⟩
def p32_17_2 : RO := ⟨none, some 26, .buildSlice 22 1 #[(0, (.tmp 25))]⟩
def p32_17_3 : RO := ⟨none, some 27, .call ⟨.builtin .append, #[(.tmp 24), (.tmp 26)], #[22, 22]⟩⟩
def p32_17_4 : RO := ⟨none, some 5, .assign (.tmp 27)⟩
def o32_17 : List RO := [p32_17_0, p32_17_1, p32_17_2, p32_17_3, p32_17_4]
def x32_17 : RC := .ops o32_17
def x32_15 : RC := .seq x32_16 x32_17
def x32_9 : RC := .seq x32_10 x32_15
def x32_7 : RC := .seq x32_8 x32_9
def x32_6 : RC := .block 1 x32_7
def x32_5 : RC := .loop x32_6
def x32_4 : RC := .block 0 x32_5
def x32_2 : RC := .seq x32_3 x32_4
def x32_0 : RC := .seq x32_1 x32_2
theorem x32_eq : Try.f32.body.map rc = some x32_0 := by kernel_rfl
def p33_1_0 : RO := ⟨none, some 2, .box 29 (.tmp 0)⟩
def p33_1_1 : RO := ⟨none, some 3, .assign (.const (.bool false))⟩
def o33_1 : List RO := [p33_1_0, p33_1_1]
def x33_1 : RC := .ops o33_1
def p33_3_0 : RO := ⟨none, some 4, .fieldAddr 29 (.tmp 2) 1⟩
def p33_3_1 : RO := ⟨none, some 5, .load 3 (.tmp 4)⟩
def p33_3_2 : RO := ⟨none, some 6, .binOp .eql 3 (.tmp 5) (.const (.int .i64 (0))) 3⟩
def p33_3_3 : RO := ⟨none, some 7, .move (.tmp 6)⟩
def p33_3_4 : RO := ⟨some (some 7, true), some 8, .fieldAddr 29 (.tmp 2) 2⟩
def p33_3_5 : RO := ⟨some (some 7, true), some 9, .load 9 (.tmp 8)⟩
def p33_3_6 : RO := ⟨some (some 7, true), some 10, .load 9 (.tmp 1)⟩
def p33_3_7 : RO := ⟨some (some 7, true), some 11, .binOp .neq 9 (.tmp 9) (.tmp 10) 9⟩
def p33_3_8 : RO := ⟨none, some 12, .pick (.tmp 7) (.tmp 11) (.const (.bool false))⟩
def p33_3_9 : RO := ⟨none, some 13, .move (.tmp 12)⟩
def p33_3_10 : RO := ⟨some (some 13, true), some 14, .fieldAddr 29 (.tmp 2) 2⟩
def p33_3_11 : RO := ⟨some (some 13, true), some 15, .load 9 (.tmp 14)⟩
def p33_3_12 : RO := ⟨some (some 13, true), some 16, .call ⟨.value (.func 34), #[(.tmp 15)], #[9]⟩⟩
def p33_3_13 : RO := ⟨none, some 17, .pick (.tmp 13) (.tmp 16) (.const (.bool false))⟩
def p33_3_14 : RO := ⟨none, some 3, .assign (.tmp 17)⟩
def o33_3 : List RO := [p33_3_0, p33_3_1, p33_3_2, p33_3_3, p33_3_4, p33_3_5, p33_3_6, p33_3_7, p33_3_8, p33_3_9, p33_3_10, p33_3_11, p33_3_12, p33_3_13, p33_3_14]
def x33_3 : RC := .ops o33_3
def x33_2 : RC := .seq x33_3 .ret
def x33_0 : RC := .seq x33_1 x33_2
theorem x33_eq : Try.f33.body.map rc = some x33_0 := by kernel_rfl
def p34_1_0 : RO := ⟨none, some 2, .assign (.const (.bool false))⟩
def o34_1 : List RO := [p34_1_0]
def x34_1 : RC := .ops o34_1
def p34_3_0 : RO := ⟨none, some 3, .move (.tmp 0)⟩
def p34_3_1 : RO := ⟨none, some 4, .call ⟨.value (.func 53), #[(.const (.string ⟨#[32, 100, 100, 32, 100, 116, 32, 108, 105, 32, 111, 112, 116, 103, 114, 111, 117, 112, 32, 111, 112, 116, 105, 111, 110, 32, 112, 32, 114, 98, 32, 114, 112, 32, 114, 116, 32, 114, 116, 99, 32]⟩)), (.tmp 3)], #[9, 9]⟩⟩
def p34_3_2 : RO := ⟨none, some 2, .assign (.tmp 4)⟩
def o34_3 : List RO := [p34_3_0, p34_3_1, p34_3_2]
def x34_3 : RC := .ops o34_3
def x34_2 : RC := .seq x34_3 .ret
def x34_0 : RC := .seq x34_1 x34_2
theorem x34_eq : Try.f34.body.map rc = some x34_0 := by kernel_rfl
def p35_1_0 : RO := ⟨none, some 4, .assign (.const (.bool false))⟩
def o35_1 : List RO := [p35_1_0]
def x35_1 : RC := .ops o35_1
def p35_4_0 : RO := ⟨none, some 6, .move (.tmp 0)⟩
def p35_4_1 : RO := ⟨none, some 7, .call ⟨.builtin .len, #[(.tmp 6)], #[27]⟩⟩
def p35_4_2 : RO := ⟨none, some 8, .move (.tmp 1)⟩
def p35_4_3 : RO := ⟨none, some 9, .call ⟨.builtin .len, #[(.tmp 8)], #[27]⟩⟩
def p35_4_4 : RO := ⟨none, some 10, .binOp .neq 3 (.tmp 7) (.tmp 9) 3⟩
def o35_4 : List RO := [p35_4_0, p35_4_1, p35_4_2, p35_4_3, p35_4_4]
def x35_4 : RC := .ops o35_4
def p35_7_0 : RO := ⟨none, some 4, .assign (.const (.bool false))⟩
def o35_7 : List RO := [p35_7_0]
def x35_7 : RC := .ops o35_7
def x35_6 : RC := .seq x35_7 .ret
def x35_5 : RC := .cond (.tmp 10) x35_6 .skip
def x35_3 : RC := .seq x35_4 x35_5
def p35_10_0 : RO := ⟨none, some 5, .assign (.const (.int .i64 (0)))⟩
def o35_10 : List RO := [p35_10_0]
def x35_10 : RC := .ops o35_10
def p35_15_0 : RO := ⟨none, some 11, .move (.tmp 5)⟩
def p35_15_1 : RO := ⟨none, some 12, .move (.tmp 0)⟩
def p35_15_2 : RO := ⟨none, some 13, .call ⟨.builtin .len, #[(.tmp 12)], #[27]⟩⟩
def p35_15_3 : RO := ⟨none, some 14, .binOp .lss 3 (.tmp 11) (.tmp 13) 3⟩
def o35_15 : List RO := [p35_15_0, p35_15_1, p35_15_2, p35_15_3]
def x35_15 : RC := .ops o35_15
def x35_16 : RC := .cond (.tmp 14) .skip (.exit 0)
def x35_14 : RC := .seq x35_15 x35_16
def p35_20_0 : RO := ⟨none, some 17, .move (.tmp 0)⟩
def p35_20_1 : RO := ⟨none, some 18, .move (.tmp 5)⟩
def p35_20_2 : RO := ⟨none, some 19, .indexAddr 27 (.tmp 17) (.tmp 18)⟩
def p35_20_3 : RO := ⟨none, some 20, .load 71 (.tmp 19)⟩
def p35_20_4 : RO := ⟨none, some 21, .move (.tmp 1)⟩
def p35_20_5 : RO := ⟨none, some 22, .move (.tmp 5)⟩
def p35_20_6 : RO := ⟨none, some 23, .indexAddr 27 (.tmp 21) (.tmp 22)⟩
def p35_20_7 : RO := ⟨none, some 24, .load 71 (.tmp 23)⟩
def p35_20_8 : RO := ⟨none, some 25, .binOp .neq 71 (.tmp 20) (.tmp 24) 71⟩
def o35_20 : List (Nat × RO) := [(0, p35_20_0), (1, p35_20_1), (2, p35_20_2), (3, p35_20_3), (4, p35_20_4), (5, p35_20_5), (6, p35_20_6), (7, p35_20_7), (8, p35_20_8)]
def m35_20 : List Nat := [0, 0, 3, 7, 0, 0, 48, 112, 255]
def x35_20 : RC := .draw o35_20 m35_20
def p35_23_0 : RO := ⟨none, some 4, .assign (.const (.bool false))⟩
def o35_23 : List RO := [p35_23_0]
def x35_23 : RC := .ops o35_23
def x35_22 : RC := .seq x35_23 .ret
def x35_21 : RC := .cond (.tmp 25) x35_22 .skip
def x35_19 : RC := .seq x35_20 x35_21
def x35_18 : RC := .block 1 x35_19
def p35_24_0 : RO := ⟨none, some 15, .move (.tmp 5)⟩
def p35_24_1 : RO := ⟨none, some 16, .binOp .add 3 (.tmp 15) (.const (.int .i64 (1))) 3⟩
def p35_24_2 : RO := ⟨none, some 5, .assign (.tmp 16)⟩
def o35_24 : List RO := [p35_24_0, p35_24_1, p35_24_2]
def x35_24 : RC := .ops o35_24
def x35_17 : RC := .seq x35_18 x35_24
def x35_13 : RC := .seq x35_14 x35_17
def x35_12 : RC := .loop x35_13
def x35_11 : RC := .block 0 x35_12
def x35_9 : RC := .seq x35_10 x35_11
def p35_26_0 : RO := ⟨none, some 4, .assign (.const (.bool true))⟩
def o35_26 : List RO := [p35_26_0]
def x35_26 : RC := .ops o35_26
def x35_25 : RC := .seq x35_26 .ret
def x35_8 : RC := .seq x35_9 x35_25
def x35_2 : RC := .seq x35_3 x35_8
def x35_0 : RC := .seq x35_1 x35_2
theorem x35_eq : Try.f35.body.map rc = some x35_0 := by kernel_rfl
def p36_1_0 : RO := ⟨none, some 4, .assign (.const (.bool false))⟩
def o36_1 : List RO := [p36_1_0]
def x36_1 : RC := .ops o36_1
def p36_3_0 : RO := ⟨none, some 5, .assign (.const (.int .i64 (0)))⟩
def o36_3 : List RO := [p36_3_0]
def x36_3 : RC := .ops o36_3
def p36_6_0 : RO := ⟨none, some 6, .assign (.const (.int .i64 (0)))⟩
def o36_6 : List RO := [p36_6_0]
def x36_6 : RC := .ops o36_6
def p36_11_0 : RO := ⟨none, some 7, .move (.tmp 6)⟩
def p36_11_1 : RO := ⟨none, some 8, .move (.tmp 1)⟩
def p36_11_2 : RO := ⟨none, some 9, .call ⟨.builtin .len, #[(.tmp 8)], #[9]⟩⟩
def p36_11_3 : RO := ⟨none, some 10, .binOp .leq 3 (.tmp 7) (.tmp 9) 3⟩
def o36_11 : List RO := [p36_11_0, p36_11_1, p36_11_2, p36_11_3]
def x36_11 : RC := .ops o36_11
def x36_12 : RC := .cond (.tmp 10) .skip (.exit 0)
def x36_10 : RC := .seq x36_11 x36_12
def p36_16_0 : RO := ⟨none, some 13, .move (.tmp 6)⟩
def p36_16_1 : RO := ⟨none, some 14, .move (.tmp 1)⟩
def p36_16_2 : RO := ⟨none, some 15, .call ⟨.builtin .len, #[(.tmp 14)], #[9]⟩⟩
def p36_16_3 : RO := ⟨none, some 16, .binOp .eql 3 (.tmp 13) (.tmp 15) 3⟩
def p36_16_4 : RO := ⟨none, some 17, .move (.tmp 16)⟩
def p36_16_5 : RO := ⟨some (some 17, false), some 18, .move (.tmp 1)⟩
def p36_16_6 : RO := ⟨some (some 17, false), some 19, .move (.tmp 6)⟩
def p36_16_7 : RO := ⟨some (some 17, false), some 20, .index 9 (.tmp 18) (.tmp 19)⟩
def p36_16_8 : RO := ⟨some (some 17, false), some 21, .binOp .eql 5 (.tmp 20) (.const (.int .u8 (32))) 5⟩
def p36_16_9 : RO := ⟨none, some 22, .pick (.tmp 17) (.const (.bool true)) (.tmp 21)⟩
def o36_16 : List RO := [p36_16_0, p36_16_1, p36_16_2, p36_16_3, p36_16_4, p36_16_5, p36_16_6, p36_16_7, p36_16_8, p36_16_9]
def x36_16 : RC := .ops o36_16
def p36_20_0 : RO := ⟨none, some 23, .move (.tmp 1)⟩
def p36_20_1 : RO := ⟨none, some 24, .move (.tmp 5)⟩
def p36_20_2 : RO := ⟨none, some 25, .move (.tmp 6)⟩
def p36_20_3 : RO := ⟨none, some 26, .slice 9 (.tmp 23) (some (.tmp 24)) (some (.tmp 25)) none⟩
def p36_20_4 : RO := ⟨none, some 27, .move (.tmp 0)⟩
def p36_20_5 : RO := ⟨none, some 28, .binOp .eql 9 (.tmp 26) (.tmp 27) 9⟩
def p36_20_6 : RO := ⟨none, some 29, .move (.tmp 28)⟩
def p36_20_7 : RO := ⟨some (some 29, true), some 30, .move (.tmp 6)⟩
def p36_20_8 : RO := ⟨some (some 29, true), some 31, .move (.tmp 5)⟩
def p36_20_9 : RO := ⟨some (some 29, true), some 32, .binOp .gtr 3 (.tmp 30) (.tmp 31) 3⟩
def p36_20_10 : RO := ⟨none, some 33, .pick (.tmp 29) (.tmp 32) (.const (.bool false))⟩
def o36_20 : List RO := [p36_20_0, p36_20_1, p36_20_2, p36_20_3, p36_20_4, p36_20_5, p36_20_6, p36_20_7, p36_20_8, p36_20_9, p36_20_10]
def x36_20 : RC := .ops o36_20
def p36_23_0 : RO := ⟨none, some 4, .assign (.const (.bool true))⟩
def o36_23 : List RO := [p36_23_0]
def x36_23 : RC := .ops o36_23
def x36_22 : RC := .seq x36_23 .ret
def x36_21 : RC := .cond (.tmp 33) x36_22 .skip
def x36_19 : RC := .seq x36_20 x36_21
def p36_24_0 : RO := ⟨none, some 34, .move (.tmp 6)⟩
def p36_24_1 : RO := ⟨none, some 35, .binOp .add 3 (.tmp 34) (.const (.int .i64 (1))) 3⟩
def p36_24_2 : RO := ⟨none, some 5, .assign (.tmp 35)⟩
def o36_24 : List RO := [p36_24_0, p36_24_1, p36_24_2]
def x36_24 : RC := .ops o36_24
def x36_18 : RC := .seq x36_19 x36_24
def x36_17 : RC := .cond (.tmp 22) x36_18 .skip
def x36_15 : RC := .seq x36_16 x36_17
def x36_14 : RC := .block 1 x36_15
def p36_25_0 : RO := ⟨none, some 11, .move (.tmp 6)⟩
def p36_25_1 : RO := ⟨none, some 12, .binOp .add 3 (.tmp 11) (.const (.int .i64 (1))) 3⟩
def p36_25_2 : RO := ⟨none, some 6, .assign (.tmp 12)⟩
def o36_25 : List RO := [p36_25_0, p36_25_1, p36_25_2]
def x36_25 : RC := .ops o36_25
def x36_13 : RC := .seq x36_14 x36_25
def x36_9 : RC := .seq x36_10 x36_13
def x36_8 : RC := .loop x36_9
def x36_7 : RC := .block 0 x36_8
def x36_5 : RC := .seq x36_6 x36_7
def p36_27_0 : RO := ⟨none, some 4, .assign (.const (.bool false))⟩
def o36_27 : List RO := [p36_27_0]
def x36_27 : RC := .ops o36_27
def x36_26 : RC := .seq x36_27 .ret
def x36_4 : RC := .seq x36_5 x36_26
def x36_2 : RC := .seq x36_3 x36_4
def x36_0 : RC := .seq x36_1 x36_2
theorem x36_eq : Try.f36.body.map rc = some x36_0 := by kernel_rfl
def p46_1_0 : RO := ⟨none, some 6, .assign (.const (.slice none 0 0))⟩
def o46_1 : List RO := [p46_1_0]
def x46_1 : RC := .ops o46_1
def p46_3_0 : RO := ⟨none, some 8, .move (.tmp 0)⟩
def p46_3_1 : RO := ⟨none, some 9, .move (.tmp 1)⟩
def p46_3_2 : RO := ⟨none, some 10, .move (.tmp 2)⟩
def p46_3_3 : RO := ⟨none, some 11, .move (.tmp 0)⟩
def p46_3_4 : RO := ⟨none, some 12, .call ⟨.builtin .len, #[(.tmp 11)], #[22]⟩⟩
def p46_3_5 : RO := ⟨none, some 13, .slice 22 (.tmp 8) (some (.tmp 9)) (some (.tmp 10)) (some (.tmp 12))⟩
def o46_3 : List RO := [p46_3_0, p46_3_1, p46_3_2, p46_3_3, p46_3_4, p46_3_5]
def x46_3 : RC := .ops o46_3
def p46_6_0 : RO := ⟨none, some 14, .move (.tmp 1)⟩
def p46_6_1 : RO := ⟨none, some 15, .move (.tmp 2)⟩
def p46_6_2 : RO := ⟨none, some 16, .binOp .eql 3 (.tmp 14) (.tmp 15) 3⟩
def o46_6 : List RO := [p46_6_0, p46_6_1, p46_6_2]
def x46_6 : RC := .ops o46_6
def p46_9_0 : RO := ⟨none, some 17, .move (.tmp 0)⟩
def p46_9_1 : RO := ⟨none, some 6, .assign (.tmp 17)⟩
def o46_9 : List RO := [p46_9_0, p46_9_1]
def x46_9 : RC := .ops o46_9
def x46_8 : RC := .seq x46_9 .ret
def x46_7 : RC := .cond (.tmp 16) x46_8 .skip
def x46_5 : RC := .seq x46_6 x46_7
def p46_11_0 : RO := ⟨none, some 18, .move (.tmp 0)⟩
def p46_11_1 : RO := ⟨none, some 19, .call ⟨.builtin .len, #[(.tmp 18)], #[22]⟩⟩
def p46_11_2 : RO := ⟨none, some 7, .assign (.tmp 19)⟩
def o46_11 : List RO := [p46_11_0, p46_11_1, p46_11_2]
def x46_11 : RC := .ops o46_11
def p46_13_0 : RO := ⟨none, some 20, .move (.tmp 0)⟩
def p46_13_1 : RO := ⟨none, some 21, .move (.tmp 1)⟩
def p46_13_2 : RO := ⟨none, some 22, .slice 22 (.tmp 20) none (some (.tmp 21)) none⟩
def p46_13_3 : RO := ⟨none, some 23, .move (.tmp 0)⟩
def p46_13_4 : RO := ⟨none, some 24, .move (.tmp 2)⟩
def p46_13_5 : RO := ⟨none, some 25, .slice 22 (.tmp 23) (some (.tmp 24)) none none⟩
def p46_13_6 : RO := ⟨none, some 26, .call ⟨.builtin .append, #[(.tmp 22), (.tmp 25)], #[22, 22]⟩⟩
def p46_13_7 : RO := ⟨none, some 0, .assign (.tmp 26)⟩
def o46_13 : List (Nat × RO) := [(0, p46_13_0), (1, p46_13_1), (2, p46_13_2), (3, p46_13_3), (4, p46_13_4), (5, p46_13_5), (6, p46_13_6), (7, p46_13_7)]
def m46_13 : List Nat := [0, 0, 3, 0, 0, 24, 63, 127]
def x46_13 : RC := .draw o46_13 m46_13
def p46_15_0 : RO := ⟨none, some 27, .move (.tmp 0)⟩
def p46_15_1 : RO := ⟨none, some 28, .move (.tmp 0)⟩
def p46_15_2 : RO := ⟨none, some 29, .call ⟨.builtin .len, #[(.tmp 28)], #[22]⟩⟩
def p46_15_3 : RO := ⟨none, some 30, .move (.tmp 7)⟩
def p46_15_4 : RO := ⟨none, some 31, .slice 22 (.tmp 27) (some (.tmp 29)) (some (.tmp 30)) none⟩
def p46_15_5 : RO := ⟨none, none, .call ⟨.builtin .clear, #[(.tmp 31)], #[22]⟩⟩
def o46_15 : List RO := [p46_15_0, p46_15_1, p46_15_2, p46_15_3, p46_15_4, p46_15_5]
def x46_15 : RC := .ops o46_15
def p46_17_0 : RO := ⟨none, some 32, .move (.tmp 0)⟩
def p46_17_1 : RO := ⟨none, some 6, .assign (.tmp 32)⟩
def o46_17 : List RO := [p46_17_0, p46_17_1]
def x46_17 : RC := .ops o46_17
def x46_16 : RC := .seq x46_17 .ret
def x46_14 : RC := .seq x46_15 x46_16
def x46_12 : RC := .seq x46_13 x46_14
def x46_10 : RC := .seq x46_11 x46_12
def x46_4 : RC := .seq x46_5 x46_10
def x46_2 : RC := .seq x46_3 x46_4
def x46_0 : RC := .seq x46_1 x46_2
theorem x46_eq : Try.f46.body.map rc = some x46_0 := by kernel_rfl
def p49_1_0 : RO := ⟨none, some 2, .assign (.const (.slice none 0 0))⟩
def o49_1 : List RO := [p49_1_0]
def x49_1 : RC := .ops o49_1
def p49_4_0 : RO := ⟨none, some 3, .move (.tmp 0)⟩
def p49_4_1 : RO := ⟨none, some 4, .binOp .eql 27 (.tmp 3) (.const (.slice none 0 0)) 27⟩
def o49_4 : List RO := [p49_4_0, p49_4_1]
def x49_4 : RC := .ops o49_4
def p49_7_0 : RO := ⟨none, some 2, .assign (.const (.slice none 0 0))⟩
def o49_7 : List RO := [p49_7_0]
def x49_7 : RC := .ops o49_7
def x49_6 : RC := .seq x49_7 .ret
def x49_5 : RC := .cond (.tmp 4) x49_6 .skip
def x49_3 : RC := .seq x49_4 x49_5
def p49_9_0 : RO := ⟨none, some 5, .buildSlice 27 0 #[]⟩
def p49_9_1 : RO := ⟨none, some 6, .move (.tmp 0)⟩
def p49_9_2 : RO := ⟨none, some 7, .call ⟨.builtin .append, #[(.tmp 5), (.tmp 6)], #[27, 27]⟩⟩
def p49_9_3 : RO := ⟨none, some 2, .assign (.tmp 7)⟩
def o49_9 : List RO := [p49_9_0, p49_9_1, p49_9_2, p49_9_3]
def x49_9 : RC := .ops o49_9
def x49_8 : RC := .seq x49_9 .ret
def x49_2 : RC := .seq x49_3 x49_8
def x49_0 : RC := .seq x49_1 x49_2
theorem x49_eq : Try.f49.body.map rc = some x49_0 := by kernel_rfl
def p53_1_0 : RO := ⟨none, some 4, .assign (.const (.bool false))⟩
def o53_1 : List RO := [p53_1_0]
def x53_1 : RC := .ops o53_1
def p53_3_0 : RO := ⟨none, some 5, .move (.tmp 1)⟩
def p53_3_1 : RO := ⟨none, some 6, .binOp .neq 9 (.tmp 5) (.const (.string ⟨#[]⟩)) 9⟩
def p53_3_2 : RO := ⟨none, some 7, .move (.tmp 6)⟩
def p53_3_3 : RO := ⟨some (some 7, true), some 8, .move (.tmp 1)⟩
def p53_3_4 : RO := ⟨some (some 7, true), some 9, .call ⟨.value (.func 52), #[(.tmp 8), (.const (.string ⟨#[32]⟩))], #[9, 9]⟩⟩
def p53_3_5 : RO := ⟨some (some 7, true), some 10, .unOp .not 4 (.tmp 9)⟩
def p53_3_6 : RO := ⟨none, some 11, .pick (.tmp 7) (.tmp 10) (.const (.bool false))⟩
def p53_3_7 : RO := ⟨none, some 12, .move (.tmp 11)⟩
def p53_3_8 : RO := ⟨some (some 12, true), some 13, .move (.tmp 0)⟩
def p53_3_9 : RO := ⟨some (some 12, true), some 14, .move (.tmp 1)⟩
def p53_3_10 : RO := ⟨some (some 12, true), some 15, .binOp .add 9 (.const (.string ⟨#[32]⟩)) (.tmp 14) 9⟩
def p53_3_11 : RO := ⟨some (some 12, true), some 16, .binOp .add 9 (.tmp 15) (.const (.string ⟨#[32]⟩)) 9⟩
def p53_3_12 : RO := ⟨some (some 12, true), some 17, .call ⟨.value (.func 52), #[(.tmp 13), (.tmp 16)], #[9, 9]⟩⟩
def p53_3_13 : RO := ⟨none, some 18, .pick (.tmp 12) (.tmp 17) (.const (.bool false))⟩
def p53_3_14 : RO := ⟨none, some 4, .assign (.tmp 18)⟩
def o53_3 : List RO := [p53_3_0, p53_3_1, p53_3_2, p53_3_3, p53_3_4, p53_3_5, p53_3_6, p53_3_7, p53_3_8, p53_3_9, p53_3_10, p53_3_11, p53_3_12, p53_3_13, p53_3_14]
def x53_3 : RC := .ops o53_3
def x53_2 : RC := .seq x53_3 .ret
def x53_0 : RC := .seq x53_1 x53_2
theorem x53_eq : Try.f53.body.map rc = some x53_0 := by kernel_rfl
def tab : FuncId → Option (RC × List ResultVar × Nat)
  | 4 => some (x4_0, [.tmp 4], 120)
  | 8 => some (x8_0, [.tmp 0], 3)
  | 10 => some (x10_0, [], 17)
  | 12 => some (x12_0, [.tmp 4], 8)
  | 13 => some (x13_0, [.tmp 2], 31)
  | 14 => some (x14_0, [.tmp 4], 31)
  | 15 => some (x15_0, [.tmp 2], 5)
  | 16 => some (x16_0, [.cell 2 29, .tmp 3], 28)
  | 22 => some (x22_0, [.cell 2 29, .tmp 3], 33)
  | 28 => some (x28_0, [.cell 2 29], 8)
  | 32 => some (x32_0, [.tmp 4], 28)
  | 33 => some (x33_0, [.tmp 3], 18)
  | 34 => some (x34_0, [.tmp 2], 5)
  | 35 => some (x35_0, [.tmp 4], 26)
  | 36 => some (x36_0, [.tmp 4], 36)
  | 46 => some (x46_0, [.tmp 6], 33)
  | 49 => some (x49_0, [.tmp 2], 8)
  | 53 => some (x53_0, [.tmp 4], 19)
  | _ => none
theorem tab_ok : TabOK Try.prog tab := by
  intro f x rs n h
  unfold tab at h
  split at h
  · injection h with h; injection h with h1 h; injection h with h2 h3; subst h1; subst h2; subst h3; exact ⟨_, Try.func4, rfl, rfl, x4_eq⟩
  · injection h with h; injection h with h1 h; injection h with h2 h3; subst h1; subst h2; subst h3; exact ⟨_, Try.func8, rfl, rfl, x8_eq⟩
  · injection h with h; injection h with h1 h; injection h with h2 h3; subst h1; subst h2; subst h3; exact ⟨_, Try.func10, rfl, rfl, x10_eq⟩
  · injection h with h; injection h with h1 h; injection h with h2 h3; subst h1; subst h2; subst h3; exact ⟨_, Try.func12, rfl, rfl, x12_eq⟩
  · injection h with h; injection h with h1 h; injection h with h2 h3; subst h1; subst h2; subst h3; exact ⟨_, Try.func13, rfl, rfl, x13_eq⟩
  · injection h with h; injection h with h1 h; injection h with h2 h3; subst h1; subst h2; subst h3; exact ⟨_, Try.func14, rfl, rfl, x14_eq⟩
  · injection h with h; injection h with h1 h; injection h with h2 h3; subst h1; subst h2; subst h3; exact ⟨_, Try.func15, rfl, rfl, x15_eq⟩
  · injection h with h; injection h with h1 h; injection h with h2 h3; subst h1; subst h2; subst h3; exact ⟨_, Try.func16, rfl, rfl, x16_eq⟩
  · injection h with h; injection h with h1 h; injection h with h2 h3; subst h1; subst h2; subst h3; exact ⟨_, Try.func22, rfl, rfl, x22_eq⟩
  · injection h with h; injection h with h1 h; injection h with h2 h3; subst h1; subst h2; subst h3; exact ⟨_, Try.func28, rfl, rfl, x28_eq⟩
  · injection h with h; injection h with h1 h; injection h with h2 h3; subst h1; subst h2; subst h3; exact ⟨_, Try.func32, rfl, rfl, x32_eq⟩
  · injection h with h; injection h with h1 h; injection h with h2 h3; subst h1; subst h2; subst h3; exact ⟨_, Try.func33, rfl, rfl, x33_eq⟩
  · injection h with h; injection h with h1 h; injection h with h2 h3; subst h1; subst h2; subst h3; exact ⟨_, Try.func34, rfl, rfl, x34_eq⟩
  · injection h with h; injection h with h1 h; injection h with h2 h3; subst h1; subst h2; subst h3; exact ⟨_, Try.func35, rfl, rfl, x35_eq⟩
  · injection h with h; injection h with h1 h; injection h with h2 h3; subst h1; subst h2; subst h3; exact ⟨_, Try.func36, rfl, rfl, x36_eq⟩
  · injection h with h; injection h with h1 h; injection h with h2 h3; subst h1; subst h2; subst h3; exact ⟨_, Try.func46, rfl, rfl, x46_eq⟩
  · injection h with h; injection h with h1 h; injection h with h2 h3; subst h1; subst h2; subst h3; exact ⟨_, Try.func49, rfl, rfl, x49_eq⟩
  · injection h with h; injection h with h1 h; injection h with h2 h3; subst h1; subst h2; subst h3; exact ⟨_, Try.func53, rfl, rfl, x53_eq⟩
  · cases h
def WOK (W : World) : Prop := SomeInt W 0
theorem wok_of {W : World} (h : W.ShapedOpen Try.prog) : WOK W := Try.laysM144.s1_3 W h
theorem base : Base Try.prog := ⟨by kernel_rfl, by kernel_rfl⟩
def prim0 : FuncId → Option (List V → H → Option (V × H)) := fun _ => none
theorem prim0s (W : World) (hW : WOK W) : Prims Try.prog W prim0 := fun _ _ => PrimOK.none
structure T71 where
  fName : (List UInt8)
  fValue : (List UInt8)
instance : Inhabited T71 := ⟨⟨default, default⟩⟩
def T71.cells (x : T71) : List V := [.str x.fName, .str x.fValue]
structure T71.ok (W : World) (x : T71) : Prop where
  fName : (fun x : List UInt8 => x.length ≤ 140737488351232) x.fName
  fValue : (fun x : List UInt8 => x.length ≤ 140737488351232) x.fValue
theorem T71_form {W : World} {n : Nat} {cs : List V} (h : Wf Try.prog W n 71 cs) : ∃ x : T71, cs = x.cells ∧ x.ok W := by
  have e9 : Try.prog.cellsOf 9 = 1 := by kernel_rfl
  have e71 : Try.prog.cellsOf 71 = 2 := by kernel_rfl
  cases n with
  | zero => exact h.elim
  | succ n =>
    simp only [Wf, Try.underlying71, e71] at h
    obtain ⟨hl, hf⟩ := h
    match cs, hl with
    | [c0, c1], _ =>
      simp only [List.mem_cons, forall_eq_or_imp, List.not_mem_nil, false_implies, implies_true, and_true, e9, e71, List.drop_zero, List.drop_succ_cons, List.take_succ_cons, List.take_zero] at hf
      obtain ⟨h0, h1⟩ := hf
      obtain ⟨v0, rfl, r0⟩ := wf_strR Try.underlying9 h0
      obtain ⟨v1, rfl, r1⟩ := wf_strR Try.underlying9 h1
      exact ⟨⟨v0, v1⟩, rfl, ⟨r0, r1⟩⟩
structure T29 where
  fId : Int
  fSpace : Int
  fName : (List UInt8)
  fAttrs : (SlV T71)
instance : Inhabited T29 := ⟨⟨default, default, default, default⟩⟩
def T29.cells (x : T29) : List V := [.int .i64 x.fId, .int .i64 x.fSpace, .str x.fName, .slice x.fAttrs.a x.fAttrs.l.length x.fAttrs.cap true]
structure T29.ok (W : World) (x : T29) : Prop where
  fId : (fun x => -9223372036854775808 ≤ x ∧ x ≤ 9223372036854775807) x.fId
  fSpace : (fun x => -9223372036854775808 ≤ x ∧ x ≤ 9223372036854775807) x.fSpace
  fName : (fun x : List UInt8 => x.length ≤ 140737488351232) x.fName
  fAttrs : (SlV.ok W 2 32 T71.cells (T71.ok W)) x.fAttrs
theorem T29_form {W : World} {n : Nat} {cs : List V} (h : Wf Try.prog W n 29 cs) : ∃ x : T29, cs = x.cells ∧ x.ok W := by
  have e3 : Try.prog.cellsOf 3 = 1 := by kernel_rfl
  have e9 : Try.prog.cellsOf 9 = 1 := by kernel_rfl
  have e27 : Try.prog.cellsOf 27 = 1 := by kernel_rfl
  have e29 : Try.prog.cellsOf 29 = 4 := by kernel_rfl
  cases n with
  | zero => exact h.elim
  | succ n =>
    simp only [Wf, Try.underlying29, e29] at h
    obtain ⟨hl, hf⟩ := h
    match cs, hl with
    | [c0, c1, c2, c3], _ =>
      simp only [List.mem_cons, forall_eq_or_imp, List.not_mem_nil, false_implies, implies_true, and_true, e3, e9, e27, e29, List.drop_zero, List.drop_succ_cons, List.take_succ_cons, List.take_zero] at hf
      obtain ⟨h0, h1, h2, h3⟩ := hf
      obtain ⟨v0, rfl, r0⟩ := wf_i64 Try.underlying3 h0
      obtain ⟨v1, rfl, r1⟩ := wf_i64 Try.underlying3 h1
      obtain ⟨v2, rfl, r2⟩ := wf_strR Try.underlying9 h2
      obtain ⟨v3, rfl, r3⟩ := wf_sl (f := T71.cells) (G := (T71.ok W)) (z := 2) (B := 32) Try.underlying27 (by kernel_rfl) (by kernel_rfl) (fun _ _ h => T71_form h) h3
      exact ⟨⟨v0, v1, v2, v3⟩, rfl, ⟨r0, r1, r2, r3⟩⟩
def E0 (s : List UInt8) (t : List UInt8) (d4 : V) (f : Int) (i : Int) (d11 : V) (d12 : V) (d13 : V) (d14 : V) (d15 : V) (d16 : V) (d17 : V) (d18 : V) (d19 : V) (d20 : V) (d21 : V) (d22 : V) (d23 : V) (d24 : V) (d25 : V) (d26 : V) (d27 : V) (d28 : V) (d29 : V) (d30 : V) (d31 : V) (d32 : V) (d33 : V) (d34 : V) (d35 : V) : List V := (.str s :: .str t :: U :: U :: d4 :: .int .i64 f :: .int .i64 i :: .int .i64 i :: .str t :: .int .i64 ((t.length : Int)) :: .bool (decide (i ≤ ((t.length : Int)))) :: d11 :: d12 :: d13 :: d14 :: d15 :: d16 :: d17 :: d18 :: d19 :: d20 :: d21 :: d22 :: d23 :: d24 :: d25 :: d26 :: d27 :: d28 :: d29 :: d30 :: d31 :: d32 :: d33 :: d34 :: d35 :: [])
def E1 (s : List UInt8) (t : List UInt8) (d4 : V) (f : Int) (i : Int) (d11 : V) (d12 : V) (d18 : V) (d19 : V) (d20 : V) (d21 : V) (d22 : V) (d23 : V) (d24 : V) (d25 : V) (d26 : V) (d27 : V) (d28 : V) (d29 : V) (d30 : V) (d31 : V) (d32 : V) (d33 : V) (d34 : V) (d35 : V) : List V := (.str s :: .str t :: U :: U :: d4 :: .int .i64 f :: .int .i64 i :: .int .i64 i :: .str t :: .int .i64 ((t.length : Int)) :: .bool (decide (i ≤ ((t.length : Int)))) :: d11 :: d12 :: .int .i64 i :: .str t :: .int .i64 ((t.length : Int)) :: .bool (i == ((t.length : Int))) :: .bool (i == ((t.length : Int))) :: d18 :: d19 :: d20 :: d21 :: d22 :: d23 :: d24 :: d25 :: d26 :: d27 :: d28 :: d29 :: d30 :: d31 :: d32 :: d33 :: d34 :: d35 :: [])
def E2 (s : List UInt8) (t : List UInt8) (d4 : V) (f : Int) (i : Int) (d11 : V) (d12 : V) (d30 : V) (d31 : V) (d32 : V) (d33 : V) (d34 : V) (d35 : V) : List V := (.str s :: .str t :: U :: U :: d4 :: .int .i64 f :: .int .i64 i :: .int .i64 i :: .str t :: .int .i64 ((t.length : Int)) :: .bool (decide (i ≤ ((t.length : Int)))) :: d11 :: d12 :: .int .i64 i :: .str t :: .int .i64 ((t.length : Int)) :: .bool (i == ((t.length : Int))) :: .bool true :: U :: U :: U :: U :: .bool true :: .str t :: .int .i64 f :: .int .i64 i :: .str ((t.take (i.toNat)).drop (f.toNat)) :: .str s :: .bool (((t.take (i.toNat)).drop (f.toNat)) == s) :: .bool (((t.take (i.toNat)).drop (f.toNat)) == s) :: d30 :: d31 :: d32 :: d33 :: d34 :: d35 :: [])
def E3 (s : List UInt8) (t : List UInt8) (d4 : V) (f : Int) (i : Int) (d11 : V) (d12 : V) (d26 : V) (d27 : V) (d28 : V) (d29 : V) (d30 : V) (d31 : V) (d32 : V) (d33 : V) (d34 : V) (d35 : V) : List V := (.str s :: .str t :: U :: U :: d4 :: .int .i64 f :: .int .i64 i :: .int .i64 i :: .str t :: .int .i64 ((t.length : Int)) :: .bool (decide (i ≤ ((t.length : Int)))) :: d11 :: d12 :: .int .i64 i :: .str t :: .int .i64 ((t.length : Int)) :: .bool (i == ((t.length : Int))) :: .bool false :: .str t :: .int .i64 i :: .int .u8 (bt t i) :: .bool ((bt t i) == 32) :: .bool ((bt t i) == 32) :: .str t :: .int .i64 f :: .int .i64 i :: d26 :: d27 :: d28 :: d29 :: d30 :: d31 :: d32 :: d33 :: d34 :: d35 :: [])
def E4 (s : List UInt8) (t : List UInt8) (d4 : V) (i : Int) (d12 : V) (f : Int) : List V := (.str s :: .str t :: U :: U :: d4 :: .int .i64 (i + 1) :: .int .i64 i :: .int .i64 i :: .str t :: .int .i64 ((t.length : Int)) :: .bool (decide (i ≤ ((t.length : Int)))) :: .int .i64 i :: d12 :: .int .i64 i :: .str t :: .int .i64 ((t.length : Int)) :: .bool (i == ((t.length : Int))) :: .bool false :: .str t :: .int .i64 i :: .int .u8 (bt t i) :: .bool ((bt t i) == 32) :: .bool ((bt t i) == 32) :: .str t :: .int .i64 f :: .int .i64 i :: .str ((t.take (i.toNat)).drop (f.toNat)) :: .str s :: .bool (((t.take (i.toNat)).drop (f.toNat)) == s) :: .bool true :: .int .i64 i :: .int .i64 f :: .bool (decide (i > f)) :: .bool (decide (i > f)) :: .int .i64 i :: .int .i64 (i + 1) :: [])
theorem among_loop {W : World} {s t : List UInt8} (ht : t.length ≤ 140737488355328) {ans : Bool} (n : Nat) : ∀ (f : Int) (i : Int) (d4 d7 d8 d9 d10 d11 d12 d13 d14 d15 d16 d17 d18 d19 d20 d21 d22 d23 d24 d25 d26 d27 d28 d29 d30 d31 d32 d33 d34 d35 : V), n = ((t.length : Int) + 1 - i).toNat → (0 ≤ f) → (f ≤ i) → (i ≤ (t.length : Int) + 1) → (i = (t.length : Int) + 1 → f = i) → (ans = amongAt s t f i) → WpM Try.prog W prim0 ⟨.code x36_9, [.loop x36_9, .blk 0, .seq x36_26], (.str s :: .str t :: U :: U :: d4 :: .int .i64 f :: .int .i64 i :: d7 :: d8 :: d9 :: d10 :: d11 :: d12 :: d13 :: d14 :: d15 :: d16 :: d17 :: d18 :: d19 :: d20 :: d21 :: d22 :: d23 :: d24 :: d25 :: d26 :: d27 :: d28 :: d29 :: d30 :: d31 :: d32 :: d33 :: d34 :: d35 :: []), [], H.empty, none⟩ (retQ Try.prog W [.tmp 4] (fun v _ => v = .bool ans)) := by
  induction n using Nat.strongRecOn with
  | _ n ih =>
    intro f i  d4 d7 d8 d9 d10 d11 d12 d13 d14 d15 d16 d17 d18 d19 d20 d21 d22 d23 d24 d25 d26 d27 d28 d29 d30 d31 d32 d33 d34 d35 hn h0 h1 h2 h3 hA
    refine WpM.run tab_ok 9 ⟨.code x36_12, [.seq x36_13, .loop x36_9, .blk 0, .seq x36_26], (E0 s t d4 f i d11 d12 d13 d14 d15 d16 d17 d18 d19 d20 d21 d22 d23 d24 d25 d26 d27 d28 d29 d30 d31 d32 d33 d34 d35), [], H.empty, none⟩ (by kernel_rfl) ?_
    refine WpM.cond (t := (decide (i ≤ ((t.length : Int))))) (by kernel_rfl) (fun c101 => ?_) (fun c101 => ?_)
    · have c101p := dec_t c101
      refine WpM.run tab_ok 11 ⟨.ops (p36_16_5 :: o36_16.drop 6), [.seq x36_17, .blk 1, .seq x36_25, .loop x36_9, .blk 0, .seq x36_26], (E1 s t d4 f i d11 d12 d18 d19 d20 d21 d22 d23 d24 d25 d26 d27 d28 d29 d30 d31 d32 d33 d34 d35), [], H.empty, none⟩ (by kernel_rfl) ?_
      refine WpM.guard (b := (i == ((t.length : Int)))) (by kernel_rfl) (fun c102 => ?_) (fun c102 => ?_)
      · have c102p := beq_t c102
        refine WpM.run tab_ok 14 ⟨.ops (p36_20_3 :: o36_20.drop 4), [.seq x36_21, .seq x36_24, .blk 1, .seq x36_25, .loop x36_9, .blk 0, .seq x36_26], ((((((((((E1 s t d4 f i d11 d12 d18 d19 d20 d21 d22 d23 d24 d25 d26 d27 d28 d29 d30 d31 d32 d33 d34 d35).set 17 (.bool true)).set 18 U).set 19 U).set 20 U).set 21 U).set 22 (.bool true)).set 23 (.str t)).set 24 (.int .i64 f)).set 25 (.int .i64 i)), [], H.empty, none⟩ (by kernel_rfl) ?_
        refine WpM.op (.str ((t.take (i.toNat)).drop (f.toNat))) _ (by kernel_rfl) (slice_str (by kernel_rfl) (by kernel_rfl) (by kernel_rfl) (by kernel_rfl) (optNat_some (k := .i64) (n := f) (by omega)) (optNat_some (k := .i64) (n := i) (by omega)) (by simp only [Option.getD_some, Option.getD_none]; omega)) ?_
        refine WpM.run tab_ok 3 ⟨.ops (p36_20_7 :: o36_20.drop 8), [.seq x36_21, .seq x36_24, .blk 1, .seq x36_25, .loop x36_9, .blk 0, .seq x36_26], (E2 s t d4 f i d11 d12 d30 d31 d32 d33 d34 d35), [], H.empty, none⟩ (by kernel_rfl) ?_
        refine WpM.guard (b := (((t.take (i.toNat)).drop (f.toNat)) == s)) (by kernel_rfl) (fun c103 => ?_) (fun c103 => ?_)
        · have c103p := beq_t c103
          refine WpM.run tab_ok 6 ⟨.code x36_21, [.seq x36_24, .blk 1, .seq x36_25, .loop x36_9, .blk 0, .seq x36_26], ((((((E2 s t d4 f i d11 d12 d30 d31 d32 d33 d34 d35).set 29 (.bool true)).set 30 (.int .i64 i)).set 31 (.int .i64 f)).set 32 (.bool (decide (i > f)))).set 33 (.bool (decide (i > f)))), [], H.empty, none⟩ (by kernel_rfl) ?_
          refine WpM.cond (t := (decide (i > f))) (by kernel_rfl) (fun c104 => ?_) (fun c104 => ?_)
          · have c104p := dec_t c104
            refine WpM.run tab_ok 12 ⟨.done .ret, [], (((((((E2 s t d4 f i d11 d12 d30 d31 d32 d33 d34 d35).set 4 (.bool true)).set 29 (.bool true)).set 30 (.int .i64 i)).set 31 (.int .i64 f)).set 32 (.bool (decide (i > f)))).set 33 (.bool (decide (i > f)))), [], H.empty, none⟩ (by kernel_rfl) ?_
            refine WpM.ret (.bool true) H.empty (by kernel_rfl) (by kernel_rfl) ?_
            first
              | (rw [hA, among_end h0 h1 (by assumption)]; simp only [c101, c102, c103, c104, Bool.true_and, Bool.false_and, Bool.and_true, Bool.and_false, Bool.or_false, Bool.false_or, Bool.true_or, Bool.or_true]; done)
              | (rw [hA, among_blank h0 h1 (by omega) (by assumption)]; simp only [c101, c102, c103, c104, Bool.true_and, Bool.false_and, Bool.and_true, Bool.and_false, Bool.or_false, Bool.false_or, Bool.true_or, Bool.or_true]; done)
              | (rw [hA, h3 (by omega), among_past (by omega)])
          · have c104p := dec_f c104
            refine WpM.run tab_ok 4 ⟨.ops (p36_24_1 :: o36_24.drop 2), [.blk 1, .seq x36_25, .loop x36_9, .blk 0, .seq x36_26], (((((((E2 s t d4 f i d11 d12 d30 d31 d32 d33 d34 d35).set 29 (.bool true)).set 30 (.int .i64 i)).set 31 (.int .i64 f)).set 32 (.bool (decide (i > f)))).set 33 (.bool (decide (i > f)))).set 34 (.int .i64 i)), [], H.empty, none⟩ (by kernel_rfl) ?_
            refine WpM.op (.int .i64 (i + 1)) _ (by kernel_rfl) (arith_add (by kernel_rfl) (by kernel_rfl) (by omega)) ?_
            refine WpM.run tab_ok 6 ⟨.ops (p36_25_1 :: o36_25.drop 2), [.loop x36_9, .blk 0, .seq x36_26], ((((((((((E2 s t d4 f i d11 d12 d30 d31 d32 d33 d34 d35).set 5 (.int .i64 (i + 1))).set 11 (.int .i64 i)).set 29 (.bool true)).set 30 (.int .i64 i)).set 31 (.int .i64 f)).set 32 (.bool (decide (i > f)))).set 33 (.bool (decide (i > f)))).set 34 (.int .i64 i)).set 35 (.int .i64 (i + 1))), [], H.empty, none⟩ (by kernel_rfl) ?_
            refine WpM.op (.int .i64 (i + 1)) _ (by kernel_rfl) (arith_add (by kernel_rfl) (by kernel_rfl) (by omega)) ?_
            refine WpM.run tab_ok 3 ⟨.code x36_9, [.loop x36_9, .blk 0, .seq x36_26], (.str s :: .str t :: U :: U :: d4 :: .int .i64 (i + 1) :: .int .i64 (i + 1) :: .int .i64 i :: .str t :: .int .i64 ((t.length : Int)) :: .bool (decide (i ≤ ((t.length : Int)))) :: .int .i64 i :: .int .i64 (i + 1) :: .int .i64 i :: .str t :: .int .i64 ((t.length : Int)) :: .bool (i == ((t.length : Int))) :: .bool true :: U :: U :: U :: U :: .bool true :: .str t :: .int .i64 f :: .int .i64 i :: .str ((t.take (i.toNat)).drop (f.toNat)) :: .str s :: .bool (((t.take (i.toNat)).drop (f.toNat)) == s) :: .bool true :: .int .i64 i :: .int .i64 f :: .bool (decide (i > f)) :: .bool (decide (i > f)) :: .int .i64 i :: .int .i64 (i + 1) :: []), [], H.empty, none⟩ (by kernel_rfl) ?_
            refine ih _ ?_ _ _  _ _ _ _ _ _ _ _ _ _ _ _ _ _ _ _ _ _ _ _ _ _ _ _ _ _ _ _ _ _ rfl ?_ ?_ ?_ ?_ ?_
            · omega
            · omega
            · omega
            · omega
            · omega
            · first
              | (rw [hA]; exact among_step h0 h1 (by omega) (by assumption))
              | (rw [hA, among_blank h0 h1 (by omega) (by assumption)]; simp only [c101, c102, c103, c104, Bool.true_and, Bool.false_and, Bool.and_true, Bool.and_false, Bool.or_false, Bool.false_or, Bool.true_or, Bool.or_true]; done)
              | (rw [hA, among_end h0 h1 (by assumption), among_past (by omega)]; simp only [c101, c102, c103, c104, Bool.true_and, Bool.false_and, Bool.and_true, Bool.and_false, Bool.or_false, Bool.false_or, Bool.true_or, Bool.or_true]; done)
        · have c103p := beq_f c103
          refine WpM.run tab_ok 11 ⟨.ops (p36_24_1 :: o36_24.drop 2), [.blk 1, .seq x36_25, .loop x36_9, .blk 0, .seq x36_26], (((((((E2 s t d4 f i d11 d12 d30 d31 d32 d33 d34 d35).set 29 (.bool false)).set 30 U).set 31 U).set 32 U).set 33 (.bool false)).set 34 (.int .i64 i)), [], H.empty, none⟩ (by kernel_rfl) ?_
          refine WpM.op (.int .i64 (i + 1)) _ (by kernel_rfl) (arith_add (by kernel_rfl) (by kernel_rfl) (by omega)) ?_
          refine WpM.run tab_ok 6 ⟨.ops (p36_25_1 :: o36_25.drop 2), [.loop x36_9, .blk 0, .seq x36_26], ((((((((((E2 s t d4 f i d11 d12 d30 d31 d32 d33 d34 d35).set 5 (.int .i64 (i + 1))).set 11 (.int .i64 i)).set 29 (.bool false)).set 30 U).set 31 U).set 32 U).set 33 (.bool false)).set 34 (.int .i64 i)).set 35 (.int .i64 (i + 1))), [], H.empty, none⟩ (by kernel_rfl) ?_
          refine WpM.op (.int .i64 (i + 1)) _ (by kernel_rfl) (arith_add (by kernel_rfl) (by kernel_rfl) (by omega)) ?_
          refine WpM.run tab_ok 3 ⟨.code x36_9, [.loop x36_9, .blk 0, .seq x36_26], (.str s :: .str t :: U :: U :: d4 :: .int .i64 (i + 1) :: .int .i64 (i + 1) :: .int .i64 i :: .str t :: .int .i64 ((t.length : Int)) :: .bool (decide (i ≤ ((t.length : Int)))) :: .int .i64 i :: .int .i64 (i + 1) :: .int .i64 i :: .str t :: .int .i64 ((t.length : Int)) :: .bool (i == ((t.length : Int))) :: .bool true :: U :: U :: U :: U :: .bool true :: .str t :: .int .i64 f :: .int .i64 i :: .str ((t.take (i.toNat)).drop (f.toNat)) :: .str s :: .bool (((t.take (i.toNat)).drop (f.toNat)) == s) :: .bool false :: U :: U :: U :: .bool false :: .int .i64 i :: .int .i64 (i + 1) :: []), [], H.empty, none⟩ (by kernel_rfl) ?_
          refine ih _ ?_ _ _  _ _ _ _ _ _ _ _ _ _ _ _ _ _ _ _ _ _ _ _ _ _ _ _ _ _ _ _ _ _ rfl ?_ ?_ ?_ ?_ ?_
          · omega
          · omega
          · omega
          · omega
          · omega
          · first
            | (rw [hA]; exact among_step h0 h1 (by omega) (by assumption))
            | (rw [hA, among_blank h0 h1 (by omega) (by assumption)]; simp only [c101, c102, c103, Bool.true_and, Bool.false_and, Bool.and_true, Bool.and_false, Bool.or_false, Bool.false_or, Bool.true_or, Bool.or_true]; done)
            | (rw [hA, among_end h0 h1 (by assumption), among_past (by omega)]; simp only [c101, c102, c103, Bool.true_and, Bool.false_and, Bool.and_true, Bool.and_false, Bool.or_false, Bool.false_or, Bool.true_or, Bool.or_true]; done)
      · have c102p := beq_f c102
        refine WpM.run tab_ok 2 ⟨.ops (p36_16_7 :: o36_16.drop 8), [.seq x36_17, .blk 1, .seq x36_25, .loop x36_9, .blk 0, .seq x36_26], ((((E1 s t d4 f i d11 d12 d18 d19 d20 d21 d22 d23 d24 d25 d26 d27 d28 d29 d30 d31 d32 d33 d34 d35).set 17 (.bool false)).set 18 (.str t)).set 19 (.int .i64 i)), [], H.empty, none⟩ (by kernel_rfl) ?_
        refine WpM.op (.int .u8 (bt t i)) _ (by kernel_rfl) (index_str (k := .i64) (by kernel_rfl) (by kernel_rfl) (by kernel_rfl) (by omega)) ?_
        refine WpM.run tab_ok 4 ⟨.code x36_17, [.blk 1, .seq x36_25, .loop x36_9, .blk 0, .seq x36_26], (((((((E1 s t d4 f i d11 d12 d18 d19 d20 d21 d22 d23 d24 d25 d26 d27 d28 d29 d30 d31 d32 d33 d34 d35).set 17 (.bool false)).set 18 (.str t)).set 19 (.int .i64 i)).set 20 (.int .u8 (bt t i))).set 21 (.bool ((bt t i) == 32))).set 22 (.bool ((bt t i) == 32))), [], H.empty, none⟩ (by kernel_rfl) ?_
        refine WpM.cond (t := ((bt t i) == 32)) (by kernel_rfl) (fun c105 => ?_) (fun c105 => ?_)
        · have c105p := beq_t c105
          refine WpM.run tab_ok 6 ⟨.ops (p36_20_3 :: o36_20.drop 4), [.seq x36_21, .seq x36_24, .blk 1, .seq x36_25, .loop x36_9, .blk 0, .seq x36_26], (E3 s t d4 f i d11 d12 d26 d27 d28 d29 d30 d31 d32 d33 d34 d35), [], H.empty, none⟩ (by kernel_rfl) ?_
          refine WpM.op (.str ((t.take (i.toNat)).drop (f.toNat))) _ (by kernel_rfl) (slice_str (by kernel_rfl) (by kernel_rfl) (by kernel_rfl) (by kernel_rfl) (optNat_some (k := .i64) (n := f) (by omega)) (optNat_some (k := .i64) (n := i) (by omega)) (by simp only [Option.getD_some, Option.getD_none]; omega)) ?_
          refine WpM.run tab_ok 3 ⟨.ops (p36_20_7 :: o36_20.drop 8), [.seq x36_21, .seq x36_24, .blk 1, .seq x36_25, .loop x36_9, .blk 0, .seq x36_26], (((((E3 s t d4 f i d11 d12 d26 d27 d28 d29 d30 d31 d32 d33 d34 d35).set 26 (.str ((t.take (i.toNat)).drop (f.toNat)))).set 27 (.str s)).set 28 (.bool (((t.take (i.toNat)).drop (f.toNat)) == s))).set 29 (.bool (((t.take (i.toNat)).drop (f.toNat)) == s))), [], H.empty, none⟩ (by kernel_rfl) ?_
          refine WpM.guard (b := (((t.take (i.toNat)).drop (f.toNat)) == s)) (by kernel_rfl) (fun c106 => ?_) (fun c106 => ?_)
          · have c106p := beq_t c106
            refine WpM.run tab_ok 6 ⟨.code x36_21, [.seq x36_24, .blk 1, .seq x36_25, .loop x36_9, .blk 0, .seq x36_26], (((((((((E3 s t d4 f i d11 d12 d26 d27 d28 d29 d30 d31 d32 d33 d34 d35).set 26 (.str ((t.take (i.toNat)).drop (f.toNat)))).set 27 (.str s)).set 28 (.bool (((t.take (i.toNat)).drop (f.toNat)) == s))).set 29 (.bool true)).set 30 (.int .i64 i)).set 31 (.int .i64 f)).set 32 (.bool (decide (i > f)))).set 33 (.bool (decide (i > f)))), [], H.empty, none⟩ (by kernel_rfl) ?_
            refine WpM.cond (t := (decide (i > f))) (by kernel_rfl) (fun c107 => ?_) (fun c107 => ?_)
            · have c107p := dec_t c107
              refine WpM.run tab_ok 12 ⟨.done .ret, [], ((((((((((E3 s t d4 f i d11 d12 d26 d27 d28 d29 d30 d31 d32 d33 d34 d35).set 4 (.bool true)).set 26 (.str ((t.take (i.toNat)).drop (f.toNat)))).set 27 (.str s)).set 28 (.bool (((t.take (i.toNat)).drop (f.toNat)) == s))).set 29 (.bool true)).set 30 (.int .i64 i)).set 31 (.int .i64 f)).set 32 (.bool (decide (i > f)))).set 33 (.bool (decide (i > f)))), [], H.empty, none⟩ (by kernel_rfl) ?_
              refine WpM.ret (.bool true) H.empty (by kernel_rfl) (by kernel_rfl) ?_
              first
                | (rw [hA, among_end h0 h1 (by assumption)]; simp only [c101, c102, c105, c106, c107, Bool.true_and, Bool.false_and, Bool.and_true, Bool.and_false, Bool.or_false, Bool.false_or, Bool.true_or, Bool.or_true]; done)
                | (rw [hA, among_blank h0 h1 (by omega) (by assumption)]; simp only [c101, c102, c105, c106, c107, Bool.true_and, Bool.false_and, Bool.and_true, Bool.and_false, Bool.or_false, Bool.false_or, Bool.true_or, Bool.or_true]; done)
                | (rw [hA, h3 (by omega), among_past (by omega)])
            · have c107p := dec_f c107
              refine WpM.run tab_ok 4 ⟨.ops (p36_24_1 :: o36_24.drop 2), [.blk 1, .seq x36_25, .loop x36_9, .blk 0, .seq x36_26], ((((((((((E3 s t d4 f i d11 d12 d26 d27 d28 d29 d30 d31 d32 d33 d34 d35).set 26 (.str ((t.take (i.toNat)).drop (f.toNat)))).set 27 (.str s)).set 28 (.bool (((t.take (i.toNat)).drop (f.toNat)) == s))).set 29 (.bool true)).set 30 (.int .i64 i)).set 31 (.int .i64 f)).set 32 (.bool (decide (i > f)))).set 33 (.bool (decide (i > f)))).set 34 (.int .i64 i)), [], H.empty, none⟩ (by kernel_rfl) ?_
              refine WpM.op (.int .i64 (i + 1)) _ (by kernel_rfl) (arith_add (by kernel_rfl) (by kernel_rfl) (by omega)) ?_
              refine WpM.run tab_ok 6 ⟨.ops (p36_25_1 :: o36_25.drop 2), [.loop x36_9, .blk 0, .seq x36_26], (E4 s t d4 i d12 f), [], H.empty, none⟩ (by kernel_rfl) ?_
              refine WpM.op (.int .i64 (i + 1)) _ (by kernel_rfl) (arith_add (by kernel_rfl) (by kernel_rfl) (by omega)) ?_
              refine WpM.run tab_ok 3 ⟨.code x36_9, [.loop x36_9, .blk 0, .seq x36_26], (.str s :: .str t :: U :: U :: d4 :: .int .i64 (i + 1) :: .int .i64 (i + 1) :: .int .i64 i :: .str t :: .int .i64 ((t.length : Int)) :: .bool (decide (i ≤ ((t.length : Int)))) :: .int .i64 i :: .int .i64 (i + 1) :: .int .i64 i :: .str t :: .int .i64 ((t.length : Int)) :: .bool (i == ((t.length : Int))) :: .bool false :: .str t :: .int .i64 i :: .int .u8 (bt t i) :: .bool ((bt t i) == 32) :: .bool ((bt t i) == 32) :: .str t :: .int .i64 f :: .int .i64 i :: .str ((t.take (i.toNat)).drop (f.toNat)) :: .str s :: .bool (((t.take (i.toNat)).drop (f.toNat)) == s) :: .bool true :: .int .i64 i :: .int .i64 f :: .bool (decide (i > f)) :: .bool (decide (i > f)) :: .int .i64 i :: .int .i64 (i + 1) :: []), [], H.empty, none⟩ (by kernel_rfl) ?_
              refine ih _ ?_ _ _  _ _ _ _ _ _ _ _ _ _ _ _ _ _ _ _ _ _ _ _ _ _ _ _ _ _ _ _ _ _ rfl ?_ ?_ ?_ ?_ ?_
              · omega
              · omega
              · omega
              · omega
              · omega
              · first
                | (rw [hA]; exact among_step h0 h1 (by omega) (by assumption))
                | (rw [hA, among_blank h0 h1 (by omega) (by assumption)]; simp only [c101, c102, c105, c106, c107, Bool.true_and, Bool.false_and, Bool.and_true, Bool.and_false, Bool.or_false, Bool.false_or, Bool.true_or, Bool.or_true]; done)
                | (rw [hA, among_end h0 h1 (by assumption), among_past (by omega)]; simp only [c101, c102, c105, c106, c107, Bool.true_and, Bool.false_and, Bool.and_true, Bool.and_false, Bool.or_false, Bool.false_or, Bool.true_or, Bool.or_true]; done)
          · have c106p := beq_f c106
            refine WpM.run tab_ok 11 ⟨.ops (p36_24_1 :: o36_24.drop 2), [.blk 1, .seq x36_25, .loop x36_9, .blk 0, .seq x36_26], (((((((((E4 s t d4 i d12 f).set 5 (.int .i64 f)).set 11 d11).set 29 (.bool false)).set 30 U).set 31 U).set 32 U).set 33 (.bool false)).set 35 d35), [], H.empty, none⟩ (by kernel_rfl) ?_
            refine WpM.op (.int .i64 (i + 1)) _ (by kernel_rfl) (arith_add (by kernel_rfl) (by kernel_rfl) (by omega)) ?_
            refine WpM.run tab_ok 6 ⟨.ops (p36_25_1 :: o36_25.drop 2), [.loop x36_9, .blk 0, .seq x36_26], ((((((E4 s t d4 i d12 f).set 29 (.bool false)).set 30 U).set 31 U).set 32 U).set 33 (.bool false)), [], H.empty, none⟩ (by kernel_rfl) ?_
            refine WpM.op (.int .i64 (i + 1)) _ (by kernel_rfl) (arith_add (by kernel_rfl) (by kernel_rfl) (by omega)) ?_
            refine WpM.run tab_ok 3 ⟨.code x36_9, [.loop x36_9, .blk 0, .seq x36_26], (.str s :: .str t :: U :: U :: d4 :: .int .i64 (i + 1) :: .int .i64 (i + 1) :: .int .i64 i :: .str t :: .int .i64 ((t.length : Int)) :: .bool (decide (i ≤ ((t.length : Int)))) :: .int .i64 i :: .int .i64 (i + 1) :: .int .i64 i :: .str t :: .int .i64 ((t.length : Int)) :: .bool (i == ((t.length : Int))) :: .bool false :: .str t :: .int .i64 i :: .int .u8 (bt t i) :: .bool ((bt t i) == 32) :: .bool ((bt t i) == 32) :: .str t :: .int .i64 f :: .int .i64 i :: .str ((t.take (i.toNat)).drop (f.toNat)) :: .str s :: .bool (((t.take (i.toNat)).drop (f.toNat)) == s) :: .bool false :: U :: U :: U :: .bool false :: .int .i64 i :: .int .i64 (i + 1) :: []), [], H.empty, none⟩ (by kernel_rfl) ?_
            refine ih _ ?_ _ _  _ _ _ _ _ _ _ _ _ _ _ _ _ _ _ _ _ _ _ _ _ _ _ _ _ _ _ _ _ _ rfl ?_ ?_ ?_ ?_ ?_
            · omega
            · omega
            · omega
            · omega
            · omega
            · first
              | (rw [hA]; exact among_step h0 h1 (by omega) (by assumption))
              | (rw [hA, among_blank h0 h1 (by omega) (by assumption)]; simp only [c101, c102, c105, c106, Bool.true_and, Bool.false_and, Bool.and_true, Bool.and_false, Bool.or_false, Bool.false_or, Bool.true_or, Bool.or_true]; done)
              | (rw [hA, among_end h0 h1 (by assumption), among_past (by omega)]; simp only [c101, c102, c105, c106, Bool.true_and, Bool.false_and, Bool.and_true, Bool.and_false, Bool.or_false, Bool.false_or, Bool.true_or, Bool.or_true]; done)
        · have c105p := beq_f c105
          refine WpM.run tab_ok 5 ⟨.ops (p36_25_1 :: o36_25.drop 2), [.loop x36_9, .blk 0, .seq x36_26], (((((E3 s t d4 f i d11 d12 d26 d27 d28 d29 d30 d31 d32 d33 d34 d35).set 11 (.int .i64 i)).set 23 d23).set 24 d24).set 25 d25), [], H.empty, none⟩ (by kernel_rfl) ?_
          refine WpM.op (.int .i64 (i + 1)) _ (by kernel_rfl) (arith_add (by kernel_rfl) (by kernel_rfl) (by omega)) ?_
          refine WpM.run tab_ok 3 ⟨.code x36_9, [.loop x36_9, .blk 0, .seq x36_26], (.str s :: .str t :: U :: U :: d4 :: .int .i64 f :: .int .i64 (i + 1) :: .int .i64 i :: .str t :: .int .i64 ((t.length : Int)) :: .bool (decide (i ≤ ((t.length : Int)))) :: .int .i64 i :: .int .i64 (i + 1) :: .int .i64 i :: .str t :: .int .i64 ((t.length : Int)) :: .bool (i == ((t.length : Int))) :: .bool false :: .str t :: .int .i64 i :: .int .u8 (bt t i) :: .bool ((bt t i) == 32) :: .bool ((bt t i) == 32) :: d23 :: d24 :: d25 :: d26 :: d27 :: d28 :: d29 :: d30 :: d31 :: d32 :: d33 :: d34 :: d35 :: []), [], H.empty, none⟩ (by kernel_rfl) ?_
          refine ih _ ?_ _ _  _ _ _ _ _ _ _ _ _ _ _ _ _ _ _ _ _ _ _ _ _ _ _ _ _ _ _ _ _ _ rfl ?_ ?_ ?_ ?_ ?_
          · omega
          · omega
          · omega
          · omega
          · omega
          · first
            | (rw [hA]; exact among_step h0 h1 (by omega) (by assumption))
            | (rw [hA, among_blank h0 h1 (by omega) (by assumption)]; simp only [c101, c102, c105, Bool.true_and, Bool.false_and, Bool.and_true, Bool.and_false, Bool.or_false, Bool.false_or, Bool.true_or, Bool.or_true]; done)
            | (rw [hA, among_end h0 h1 (by assumption), among_past (by omega)]; simp only [c101, c102, c105, Bool.true_and, Bool.false_and, Bool.and_true, Bool.and_false, Bool.or_false, Bool.false_or, Bool.true_or, Bool.or_true]; done)
    · have c101p := dec_f c101
      refine WpM.run tab_ok 11 ⟨.done .ret, [], (((((((E1 s t d4 f i d11 d12 d18 d19 d20 d21 d22 d23 d24 d25 d26 d27 d28 d29 d30 d31 d32 d33 d34 d35).set 4 (.bool false)).set 13 d13).set 14 d14).set 15 d15).set 16 d16).set 17 d17), [], H.empty, none⟩ (by kernel_rfl) ?_
      refine WpM.ret (.bool false) H.empty (by kernel_rfl) (by kernel_rfl) ?_
      first
        | (rw [hA, among_end h0 h1 (by assumption)]; simp only [c101, Bool.true_and, Bool.false_and, Bool.and_true, Bool.and_false, Bool.or_false, Bool.false_or, Bool.true_or, Bool.or_true]; done)
        | (rw [hA, among_blank h0 h1 (by omega) (by assumption)]; simp only [c101, Bool.true_and, Bool.false_and, Bool.and_true, Bool.and_false, Bool.or_false, Bool.false_or, Bool.true_or, Bool.or_true]; done)
        | (rw [hA, h3 (by omega), among_past (by omega)])
theorem among_ok {W : World} {s t : List UInt8} (ht : t.length ≤ 140737488355328) : WpF Try.prog W prim0 36 [.str s, .str t] H.empty (fun v _ => v = .bool (among s t)) := by
  refine WpF.m tab_ok (by kernel_rfl) rfl ?_
  refine WpM.cfg (c' := ⟨.code x36_0, [], (.str s :: .str t :: us 34), [], H.empty, none⟩) (by kernel_rfl) ?_
  refine WpM.run tab_ok 18 ⟨.code x36_9, [.loop x36_9, .blk 0, .seq x36_26], (.str s :: .str t :: U :: U :: .bool false :: .int .i64 0 :: .int .i64 0 :: us 29), [], H.empty, none⟩ (by kernel_rfl) ?_
  exact among_loop ht _ 0 0 _ _ _ _ _ _ _ _ _ _ _ _ _ _ _ _ _ _ _ _ _ _ _ _ _ _ _ _ _ _ rfl (by omega) (by omega) (by omega) (by omega) (by rw [amongAt_start])
def q36 (l : List V) : Option V :=
  match l with
  | [.str s, .str t] => if t.length ≤ 140737488355328 then some (.bool (among s t)) else none
  | _ => none
def prim1 : FuncId → Option (List V → H → Option (V × H)) := setPrim prim0 36 q36
theorem prim1s (W : World) (hW : WOK W) : Prims Try.prog W prim1 := by
  refine Prims.add base (prim0s W hW) ⟨_, _, Try.func36, rfl⟩ ?_
  intro w _ args v h
  unfold q36 at h
  split at h
  · split at h
    · rename_i hc; injection h with h; subst h; exact ⟨by simp only [old_cons, old_nil, old_int, old_str, old_bool, old_agg, old_tup, old_nils, Bool.and_true, Bool.true_and, hc], by simp only [old_cons, old_nil, old_int, old_str, old_bool, old_agg, old_tup, old_nils, Bool.and_true, Bool.true_and, hc], among_ok hc⟩
    · cases h
  · cases h
def q52 (l : List V) : Option V :=
  match l with
  | [.str s, .str t] => if s.length < 4294967281 ∨ t.length = 1 then some (.bool (Lib.contains s t)) else none
  | _ => none
def prim2 : FuncId → Option (List V → H → Option (V × H)) := setPrim prim1 52 q52
theorem prim2s (W : World) (hW : WOK W) : Prims Try.prog W prim2 := by
  refine Prims.addC (prim1s W hW) ⟨_, _, Try.func52, rfl⟩ ?_
  intro w hb args v h μ args' hv
  unfold q52 at h
  split at h
  · split at h
    · rename_i hc
      injection h with h; subst h
      obtain ⟨a, b, rfl, rfl, rfl⟩ := hv.strs2
      obtain ⟨m, hm⟩ := SomeInt.below hW hb
      have hl : a.size = a.data.toList.length := by rw [Array.length_toList]; rfl
      rcases hc with hc | hc
      · refine (Try.strings_Contains a b m w (by omega) hm).mono ?_
        rintro e w' ⟨rfl, rfl⟩
        exact ⟨_, rfl, by simp [VR], rfl⟩
      · obtain ⟨x, hx⟩ : ∃ x, b.data.toList = [x] := by
          match b.data.toList, hc with
          | [x], _ => exact ⟨x, rfl⟩
        have hbx : b = ⟨#[x]⟩ := by
          cases b with
          | mk d => simp at hx; rw [← hx]
        subst hbx
        refine (Try.strings_Contains_one a x w).mono ?_
        rintro e w' ⟨rfl, rfl⟩
        exact ⟨_, rfl, by simp [VR, Lib.contains, Lib.index_one], rfl⟩
    · cases h
  · cases h
def E5 (t : List UInt8) (s : List UInt8) : List V := (.str t :: .str s :: U :: U :: .bool false :: .str s :: .bool (!(s == [])) :: .bool true :: .str s :: .bool (Lib.contains s [32]) :: .bool (!(Lib.contains s [32])) :: .bool (!(Lib.contains s [32])) :: .bool (!(Lib.contains s [32])) :: us 6)
def E6 (t : List UInt8) (s : List UInt8) : List V := (.str t :: .str s :: U :: U :: .bool (Lib.contains t (([32] ++ s) ++ [32])) :: .str s :: .bool (!(s == [])) :: .bool true :: .str s :: .bool (Lib.contains s [32]) :: .bool (!(Lib.contains s [32])) :: .bool (!(Lib.contains s [32])) :: .bool true :: .str t :: .str s :: .str ([32] ++ s) :: .str (([32] ++ s) ++ [32]) :: .bool (Lib.contains t (([32] ++ s) ++ [32])) :: .bool (Lib.contains t (([32] ++ s) ++ [32])) :: [])
def E7 (t : List UInt8) (s : List UInt8) : List V := (.str t :: .str s :: U :: U :: .bool false :: .str s :: .bool (!(s == [])) :: .bool false :: U :: U :: U :: .bool false :: .bool false :: U :: U :: U :: U :: U :: .bool false :: [])
theorem vin_ok {W : World} {t s : List UInt8} (h1 : tableOk t = true) (h2 : t.length < 4294967281) (h3 : s.length ≤ 140737488351232) : WpF Try.prog W prim2 53 [.str t, .str s] H.empty (fun v _ => v = .bool (among s t)) := by
  refine WpF.m tab_ok (by kernel_rfl) rfl ?_
  refine WpM.cfg (c' := ⟨.code x53_0, [], (.str t :: .str s :: us 17), [], H.empty, none⟩) (by kernel_rfl) ?_
  refine WpM.run tab_ok 10 ⟨.ops (p53_3_3 :: o53_3.drop 4), [.seq .ret], (.str t :: .str s :: U :: U :: .bool false :: .str s :: .bool (!(s == [])) :: .bool (!(s == [])) :: us 11), [], H.empty, none⟩ (by kernel_rfl) ?_
  refine WpM.guard (b := (!(s == []))) (by kernel_rfl) (fun c1 => ?_) (fun c1 => ?_)
  · have c1p := nbeq_t c1
    refine WpM.run tab_ok 1 ⟨.ops (p53_3_4 :: o53_3.drop 5), [.seq .ret], (.str t :: .str s :: U :: U :: .bool false :: .str s :: .bool (!(s == [])) :: .bool true :: .str s :: us 10), [], H.empty, none⟩ (by kernel_rfl) ?_
    refine WpM.givenQ (f := 52) (args := [.str s, .str [32]]) (q := q52) (.bool (Lib.contains s [32])) (by kernel_rfl) (by kernel_rfl) (by kernel_rfl) (by simp only [q52]; rw [if_pos (.inr rfl)]) ?_
    refine WpM.run tab_ok 3 ⟨.ops (p53_3_8 :: o53_3.drop 9), [.seq .ret], (E5 t s), [], H.empty, none⟩ (by kernel_rfl) ?_
    refine WpM.guard (b := (!(Lib.contains s [32]))) (by kernel_rfl) (fun c2 => ?_) (fun c2 => ?_)
    · have c2p := not_t c2
      refine WpM.run tab_ok 2 ⟨.ops (p53_3_10 :: o53_3.drop 11), [.seq .ret], ((((E5 t s).set 12 (.bool true)).set 13 (.str t)).set 14 (.str s)), [], H.empty, none⟩ (by kernel_rfl) ?_
      refine WpM.op (.str ([32] ++ s)) _ (by kernel_rfl) (concat_str (by kernel_rfl) (by kernel_rfl) (by (try simp only [List.length_append, List.length_cons, List.length_nil]); omega)) ?_
      refine WpM.run tab_ok 0 ⟨.ops (p53_3_11 :: o53_3.drop 12), [.seq .ret], (((((E5 t s).set 12 (.bool true)).set 13 (.str t)).set 14 (.str s)).set 15 (.str ([32] ++ s))), [], H.empty, none⟩ (by kernel_rfl) ?_
      refine WpM.op (.str (([32] ++ s) ++ [32])) _ (by kernel_rfl) (concat_str (by kernel_rfl) (by kernel_rfl) (by (try simp only [List.length_append, List.length_cons, List.length_nil]); omega)) ?_
      refine WpM.run tab_ok 0 ⟨.ops (p53_3_12 :: o53_3.drop 13), [.seq .ret], ((((((E5 t s).set 12 (.bool true)).set 13 (.str t)).set 14 (.str s)).set 15 (.str ([32] ++ s))).set 16 (.str (([32] ++ s) ++ [32]))), [], H.empty, none⟩ (by kernel_rfl) ?_
      refine WpM.givenQ (f := 52) (args := [.str t, .str (([32] ++ s) ++ [32])]) (q := q52) (.bool (Lib.contains t (([32] ++ s) ++ [32]))) (by kernel_rfl) (by kernel_rfl) (by kernel_rfl) (by simp only [q52]; rw [if_pos (.inl (by omega))]) ?_
      refine WpM.run tab_ok 5 ⟨.done .ret, [], (E6 t s), [], H.empty, none⟩ (by kernel_rfl) ?_
      refine WpM.ret (.bool (Lib.contains t (([32] ++ s) ++ [32]))) H.empty (by kernel_rfl) (by kernel_rfl) ?_
      rw [← among_in h1]; simp only [(of_not_t c1), (of_not_t c2), Bool.true_and, Bool.false_and, Bool.and_true, Bool.and_false, Bool.or_false, Bool.false_or, Bool.true_or, Bool.or_true, Bool.not_true, Bool.not_false, List.cons_append, List.nil_append]
    · have c2p := not_f c2
      refine WpM.run tab_ok 10 ⟨.done .ret, [], (((E5 t s).set 12 (.bool false)).set 18 (.bool false)), [], H.empty, none⟩ (by kernel_rfl) ?_
      refine WpM.ret (.bool false) H.empty (by kernel_rfl) (by kernel_rfl) ?_
      rw [← among_in h1]; simp only [(of_not_t c1), (of_not_f c2), Bool.true_and, Bool.false_and, Bool.and_true, Bool.and_false, Bool.or_false, Bool.false_or, Bool.true_or, Bool.or_true, Bool.not_true, Bool.not_false, List.cons_append, List.nil_append]
  · have c1p := nbeq_f c1
    refine WpM.run tab_ok 15 ⟨.done .ret, [], (E7 t s), [], H.empty, none⟩ (by kernel_rfl) ?_
    refine WpM.ret (.bool false) H.empty (by kernel_rfl) (by kernel_rfl) ?_
    rw [← among_in h1]; simp only [(of_not_f c1), Bool.true_and, Bool.false_and, Bool.and_true, Bool.and_false, Bool.or_false, Bool.false_or, Bool.true_or, Bool.or_true, Bool.not_true, Bool.not_false, List.cons_append, List.nil_append]
def q53 (l : List V) : Option V :=
  match l with
  | [.str t, .str s] => if tableOk t = true ∧ t.length < 4294967281 ∧ s.length ≤ 140737488351232 then some (.bool (among s t)) else none
  | _ => none
def prim3 : FuncId → Option (List V → H → Option (V × H)) := setPrim prim2 53 q53
theorem prim3s (W : World) (hW : WOK W) : Prims Try.prog W prim3 := by
  refine Prims.add base (prim2s W hW) ⟨_, _, Try.func53, rfl⟩ ?_
  intro w _ args v h
  unfold q53 at h
  split at h
  · split at h
    · rename_i hc; injection h with h; subst h; exact ⟨by simp only [old_cons, old_nil, old_int, old_str, old_bool, old_agg, old_tup, old_nils, Bool.and_true, Bool.true_and, hc], by simp only [old_cons, old_nil, old_int, old_str, old_bool, old_agg, old_tup, old_nils, Bool.and_true, Bool.true_and, hc], vin_ok hc.1 hc.2.1 hc.2.2⟩
    · cases h
  · cases h
def q9 (l : List V) : Option V :=
  match l with
  | [] => some (.bool true)
  | _ => none
def prim4 : FuncId → Option (List V → H → Option (V × H)) := setPrim prim3 9 q9
theorem prim4s (W : World) (hW : WOK W) : Prims Try.prog W prim4 := by
  refine Prims.add base (prim3s W hW) ⟨_, _, Try.func9, rfl⟩ ?_
  intro w _ args v h
  unfold q9 at h
  split at h
  · injection h with h; subst h; exact ⟨by simp only [old_cons, old_nil, old_int, old_str, old_bool, old_agg, old_tup, old_nils, Bool.and_true, Bool.true_and], by simp only [old_cons, old_nil, old_int, old_str, old_bool, old_agg, old_tup, old_nils, Bool.and_true, Bool.true_and], WpF.found (n := 100) (by kernel_rfl)⟩
  · cases h
structure RE where
  id : Int
  sp : Int
  nm : List UInt8
  a : Option Ad
  n : Nat
  m : Nat
  x : Bool
  l : List T71
instance : Inhabited RE := ⟨⟨0, 0, [], none, 0, 0, true, []⟩⟩
def RE.cells (x : RE) : List V := [.int .i64 x.id, .int .i64 x.sp, .str x.nm, .slice x.a x.n x.m x.x]
/-- An element's attributes, in the heap. -/
structure AtOK (h : H) (r : RE) : Prop where
  n : r.n = r.l.length
  b : r.l.length * 32 ≤ 140737488351232
  k : r.nm.length ≤ 140737488351232
  g : 0 < r.l.length → ∃ q, r.a = some (.new q 0) ∧ q < h.nx ∧ h.get q = some (.cells (rv T71.cells r.l) 71)
theorem AtOK.mono {h h' : H} {r : RE} (k : KA 71 h h') (a : AtOK h r) : AtOK h' r := ⟨a.n, a.b, a.k, fun hl => by
  obtain ⟨q, e, h1, h2⟩ := a.g hl
  exact ⟨q, e, Nat.lt_of_lt_of_le h1 k.nx, k.keep h1 h2⟩⟩
/-- One element is another one's copy. -/
structure Cp (r : RE) (i s : Int) (n : List UInt8) (l : List T71) : Prop where
  id : r.id = i
  sp : r.sp = s
  nm : r.nm = n
  l : r.l = l
def E8 (id : Int) (sp : Int) (nm : List UInt8) (cap : Nat) (ex : Bool) (p1 : Nat) (p4 : Nat) : List V := [.agg [.int .i64 id, .int .i64 sp, .str nm, .slice none 0 cap ex], .ptr (some (.new p1 0)), .ptr (some (.new p4 0)), .ptr (some (.new p1 3)), .slice none 0 cap ex, U, U, U]
def E9 (id : Int) (sp : Int) (nm : List UInt8) (cap : Nat) (ex : Bool) (p1 : Nat) (p4 : Nat) : List V := [.agg [.int .i64 id, .int .i64 sp, .str nm, .slice none 0 cap ex], .ptr (some (.new p1 0)), .ptr (some (.new p4 0)), .ptr (some (.new p1 3)), .slice none 0 cap ex, .slice none 0 0 true, .ptr (some (.new p1 3)), .agg [.int .i64 id, .int .i64 sp, .str nm, .slice none 0 0 true]]
theorem own_nil {W : World} {id sp : Int} {nm : List UInt8} {cap : Nat} {ex : Bool} (hk : nm.length ≤ 140737488351232) (h : H) : WpF Try.prog W prim4 28 [.agg [.int .i64 id, .int .i64 sp, .str nm, .slice none 0 cap ex]] h (fun v h' => HX h h' ∧ ∃ r : RE, v = .agg r.cells ∧ Cp r id sp nm [] ∧ AtOK h' r) := by
  refine WpF.m tab_ok (by kernel_rfl) rfl ?_
  refine WpM.cfg (c' := ⟨.code x28_0, [], [.agg [.int .i64 id, .int .i64 sp, .str nm, .slice none 0 cap ex], U, U, U, U, U, U, U], [], h, none⟩) (by kernel_rfl) ?_
  refine WpM.run tab_ok 2 ⟨.ops (p28_1_0 :: o28_1.drop 1), [.seq x28_2], [.agg [.int .i64 id, .int .i64 sp, .str nm, .slice none 0 cap ex], U, U, U, U, U, U, U], [], h, none⟩ (by kernel_rfl) ?_
  refine WpM.opA (fun p => .ptr (some (.new p 0))) (.cells [.int .i64 id, .int .i64 sp, .str nm, .slice none 0 cap ex] 29) (by kernel_rfl) (by kernel_rfl) (fun p1 h2 a3 => ?_)
  refine WpM.run tab_ok 0 ⟨.ops (p28_1_1 :: o28_1.drop 2), [.seq x28_2], [.agg [.int .i64 id, .int .i64 sp, .str nm, .slice none 0 cap ex], .ptr (some (.new p1 0)), U, U, U, U, U, U], [], h2, none⟩ (by kernel_rfl) ?_
  refine WpM.opA (fun p => .ptr (some (.new p 0))) (.cells [.int .i64 0, .int .i64 0, .str [], .slice none 0 0 true] 29) (by kernel_rfl) (by kernel_rfl) (fun p4 h5 a6 => ?_)
  refine WpM.run tab_ok 5 ⟨.ops (p28_3_1 :: o28_3.drop 2), [.seq x28_4], [.agg [.int .i64 id, .int .i64 sp, .str nm, .slice none 0 cap ex], .ptr (some (.new p1 0)), .ptr (some (.new p4 0)), .ptr (some (.new p1 3)), U, U, U, U], [], h5, none⟩ (by kernel_rfl) ?_
  refine WpM.op (.slice none 0 cap ex) _ (by kernel_rfl) (load_new (o := 3) (by kernel_rfl) (a6.keep a3.lt a3.get) (by kernel_rfl)) ?_
  refine WpM.run tab_ok 23 ⟨.ops (p28_3_4 :: o28_3.drop 5), [.seq x28_4], (((E8 id sp nm cap ex p1 p4).set 5 (.slice none 0 0 true)).set 6 (.ptr (some (.new p1 3)))), [], h5, none⟩ (by kernel_rfl) ?_
  refine WpM.opS U p1 (some (.cells [.int .i64 id, .int .i64 sp, .str nm, .slice none 0 0 true] 29)) (by kernel_rfl) (store_new (o := 3) (v := .slice none 0 0 true) (by kernel_rfl) (by kernel_rfl) (a6.keep a3.lt a3.get) (by kernel_rfl)) (fun h7 a8 => ?_)
  refine WpM.run tab_ok 4 ⟨.ops (p28_5_0 :: o28_5.drop 1), [.seq .ret], (((E8 id sp nm cap ex p1 p4).set 5 (.slice none 0 0 true)).set 6 (.ptr (some (.new p1 3)))), [], h7, none⟩ (by kernel_rfl) ?_
  refine WpM.op (.agg [.int .i64 id, .int .i64 sp, .str nm, .slice none 0 0 true]) _ (by kernel_rfl) (load_new (o := 0) (by kernel_rfl) a8.get (by kernel_rfl)) ?_
  refine WpM.run tab_ok 0 ⟨.ops (p28_5_1 :: o28_5.drop 2), [.seq .ret], (E9 id sp nm cap ex p1 p4), [], h7, none⟩ (by kernel_rfl) ?_
  refine WpM.opS U p4 (some (.cells [.int .i64 id, .int .i64 sp, .str nm, .slice none 0 0 true] 29)) (by kernel_rfl) (store_new (o := 0) (v := .agg [.int .i64 id, .int .i64 sp, .str nm, .slice none 0 0 true]) (by kernel_rfl) (by kernel_rfl) (a8.keep (Ne.symm (a6.ne a3.lt)) a6.get) (by kernel_rfl)) (fun h9 a10 => ?_)
  refine WpM.run tab_ok 3 ⟨.done .ret, [], (E9 id sp nm cap ex p1 p4), [], h9, none⟩ (by kernel_rfl) ?_
  refine WpM.ret (.agg [.int .i64 id, .int .i64 sp, .str nm, .slice none 0 0 true]) h9 (by kernel_rfl) (resL_cell1 (o := 0) (by kernel_rfl) a10.get (by kernel_rfl)) ?_
  exact ⟨(((((HX.refl h).alloc a3).alloc a6).put a8 (by have := a3.eq; have := a3.nx; have := a6.eq; have := a6.nx; have := a8.nx; have := a10.nx; omega)).put a10 (by have := a3.eq; have := a3.nx; have := a6.eq; have := a6.nx; have := a8.nx; have := a10.nx; omega)), ⟨id, sp, nm, none, 0, 0, true, []⟩, rfl, ⟨rfl, rfl, rfl, rfl⟩, ⟨rfl, by simp, hk, fun hl => by simp at hl⟩⟩
def E10 (id : Int) (sp : Int) (nm : List UInt8) (b : Nat) (o : Nat) (cap : Nat) (ex : Bool) (p1 : Nat) (p4 : Nat) : List V := [.agg [.int .i64 id, .int .i64 sp, .str nm, .slice (some (.old b o)) 0 cap ex], .ptr (some (.new p1 0)), .ptr (some (.new p4 0)), .ptr (some (.new p1 3)), U, U, U, U]
def E11 (id : Int) (sp : Int) (nm : List UInt8) (b : Nat) (o : Nat) (cap : Nat) (ex : Bool) (p1 : Nat) (p4 : Nat) (p7 : Nat) : List V := [.agg [.int .i64 id, .int .i64 sp, .str nm, .slice (some (.old b o)) 0 cap ex], .ptr (some (.new p1 0)), .ptr (some (.new p4 0)), .ptr (some (.new p1 3)), .slice (some (.old b o)) 0 cap ex, .slice (some (.new p7 0)) 0 0 true, .ptr (some (.new p1 3)), U]
theorem own_old {W : World} {id sp : Int} {nm : List UInt8} {b o cap : Nat} {ex : Bool} (hk : nm.length ≤ 140737488351232) (h : H) : WpF Try.prog W prim4 28 [.agg [.int .i64 id, .int .i64 sp, .str nm, .slice (some (.old b o)) 0 cap ex]] h (fun v h' => HX h h' ∧ ∃ r : RE, v = .agg r.cells ∧ Cp r id sp nm [] ∧ AtOK h' r) := by
  refine WpF.m tab_ok (by kernel_rfl) rfl ?_
  refine WpM.cfg (c' := ⟨.code x28_0, [], [.agg [.int .i64 id, .int .i64 sp, .str nm, .slice (some (.old b o)) 0 cap ex], U, U, U, U, U, U, U], [], h, none⟩) (by kernel_rfl) ?_
  refine WpM.run tab_ok 2 ⟨.ops (p28_1_0 :: o28_1.drop 1), [.seq x28_2], [.agg [.int .i64 id, .int .i64 sp, .str nm, .slice (some (.old b o)) 0 cap ex], U, U, U, U, U, U, U], [], h, none⟩ (by kernel_rfl) ?_
  refine WpM.opA (fun p => .ptr (some (.new p 0))) (.cells [.int .i64 id, .int .i64 sp, .str nm, .slice (some (.old b o)) 0 cap ex] 29) (by kernel_rfl) (by kernel_rfl) (fun p1 h2 a3 => ?_)
  refine WpM.run tab_ok 0 ⟨.ops (p28_1_1 :: o28_1.drop 2), [.seq x28_2], [.agg [.int .i64 id, .int .i64 sp, .str nm, .slice (some (.old b o)) 0 cap ex], .ptr (some (.new p1 0)), U, U, U, U, U, U], [], h2, none⟩ (by kernel_rfl) ?_
  refine WpM.opA (fun p => .ptr (some (.new p 0))) (.cells [.int .i64 0, .int .i64 0, .str [], .slice none 0 0 true] 29) (by kernel_rfl) (by kernel_rfl) (fun p4 h5 a6 => ?_)
  refine WpM.run tab_ok 5 ⟨.ops (p28_3_1 :: o28_3.drop 2), [.seq x28_4], (E10 id sp nm b o cap ex p1 p4), [], h5, none⟩ (by kernel_rfl) ?_
  refine WpM.op (.slice (some (.old b o)) 0 cap ex) _ (by kernel_rfl) (load_new (o := 3) (by kernel_rfl) (a6.keep a3.lt a3.get) (by kernel_rfl)) ?_
  refine WpM.run tab_ok 18 ⟨.ops (p49_9_0 :: o49_9.drop 1), [.seq .ret, .call [.tmp 2] (some 5) (o28_3.drop 3) ((E10 id sp nm b o cap ex p1 p4).set 4 (.slice (some (.old b o)) 0 cap ex)) [] none, .seq x28_4], [.slice (some (.old b o)) 0 cap ex, U, .slice none 0 0 true, .slice (some (.old b o)) 0 cap ex, .bool false, U, U, U], [], h5, none⟩ (by kernel_rfl) ?_
  refine WpM.opA (fun p => .slice (some (.new p 0)) 0 0 true) (.cells [] 71) (by kernel_rfl) (by kernel_rfl) (fun p7 h8 a9 => ?_)
  refine WpM.run tab_ok 8 ⟨.ops (p28_3_4 :: o28_3.drop 5), [.seq x28_4], (E11 id sp nm b o cap ex p1 p4 p7), [], h8, none⟩ (by kernel_rfl) ?_
  refine WpM.opS U p1 (some (.cells [.int .i64 id, .int .i64 sp, .str nm, .slice (some (.new p7 0)) 0 0 true] 29)) (by kernel_rfl) (store_new (o := 3) (v := .slice (some (.new p7 0)) 0 0 true) (by kernel_rfl) (by kernel_rfl) (a9.keep (a6.le a3.lt) (a6.keep a3.lt a3.get)) (by kernel_rfl)) (fun h10 a11 => ?_)
  refine WpM.run tab_ok 4 ⟨.ops (p28_5_0 :: o28_5.drop 1), [.seq .ret], (E11 id sp nm b o cap ex p1 p4 p7), [], h10, none⟩ (by kernel_rfl) ?_
  refine WpM.op (.agg [.int .i64 id, .int .i64 sp, .str nm, .slice (some (.new p7 0)) 0 0 true]) _ (by kernel_rfl) (load_new (o := 0) (by kernel_rfl) a11.get (by kernel_rfl)) ?_
  refine WpM.run tab_ok 0 ⟨.ops (p28_5_1 :: o28_5.drop 2), [.seq .ret], ((E11 id sp nm b o cap ex p1 p4 p7).set 7 (.agg [.int .i64 id, .int .i64 sp, .str nm, .slice (some (.new p7 0)) 0 0 true])), [], h10, none⟩ (by kernel_rfl) ?_
  refine WpM.opS U p4 (some (.cells [.int .i64 id, .int .i64 sp, .str nm, .slice (some (.new p7 0)) 0 0 true] 29)) (by kernel_rfl) (store_new (o := 0) (v := .agg [.int .i64 id, .int .i64 sp, .str nm, .slice (some (.new p7 0)) 0 0 true]) (by kernel_rfl) (by kernel_rfl) (a11.keep (Ne.symm (a6.ne a3.lt)) (a9.keep a6.lt a6.get)) (by kernel_rfl)) (fun h12 a13 => ?_)
  refine WpM.run tab_ok 3 ⟨.done .ret, [], ((E11 id sp nm b o cap ex p1 p4 p7).set 7 (.agg [.int .i64 id, .int .i64 sp, .str nm, .slice (some (.new p7 0)) 0 0 true])), [], h12, none⟩ (by kernel_rfl) ?_
  refine WpM.ret (.agg [.int .i64 id, .int .i64 sp, .str nm, .slice (some (.new p7 0)) 0 0 true]) h12 (by kernel_rfl) (resL_cell1 (o := 0) (by kernel_rfl) a13.get (by kernel_rfl)) ?_
  exact ⟨((((((HX.refl h).alloc a3).alloc a6).alloc a9).put a11 (by have := a3.eq; have := a3.nx; have := a6.eq; have := a6.nx; have := a9.eq; have := a9.nx; have := a11.nx; have := a13.nx; omega)).put a13 (by have := a3.eq; have := a3.nx; have := a6.eq; have := a6.nx; have := a9.eq; have := a9.nx; have := a11.nx; have := a13.nx; omega)), ⟨id, sp, nm, (some (.new p7 0)), 0, 0, true, []⟩, rfl, ⟨rfl, rfl, rfl, rfl⟩, ⟨rfl, by simp, hk, fun hl => by simp at hl⟩⟩
def E12 (id : Int) (sp : Int) (nm : List UInt8) (q : Nat) (o : Nat) (cap : Nat) (ex : Bool) (p1 : Nat) (p4 : Nat) : List V := [.agg [.int .i64 id, .int .i64 sp, .str nm, .slice (some (.new q o)) 0 cap ex], .ptr (some (.new p1 0)), .ptr (some (.new p4 0)), .ptr (some (.new p1 3)), U, U, U, U]
def E13 (id : Int) (sp : Int) (nm : List UInt8) (q : Nat) (o : Nat) (cap : Nat) (ex : Bool) (p1 : Nat) (p4 : Nat) (p7 : Nat) : List V := [.agg [.int .i64 id, .int .i64 sp, .str nm, .slice (some (.new q o)) 0 cap ex], .ptr (some (.new p1 0)), .ptr (some (.new p4 0)), .ptr (some (.new p1 3)), .slice (some (.new q o)) 0 cap ex, .slice (some (.new p7 0)) 0 0 true, .ptr (some (.new p1 3)), U]
theorem own_new {W : World} {id sp : Int} {nm : List UInt8} {q o cap : Nat} {ex : Bool} (hk : nm.length ≤ 140737488351232) (h : H) : WpF Try.prog W prim4 28 [.agg [.int .i64 id, .int .i64 sp, .str nm, .slice (some (.new q o)) 0 cap ex]] h (fun v h' => HX h h' ∧ ∃ r : RE, v = .agg r.cells ∧ Cp r id sp nm [] ∧ AtOK h' r) := by
  refine WpF.m tab_ok (by kernel_rfl) rfl ?_
  refine WpM.cfg (c' := ⟨.code x28_0, [], [.agg [.int .i64 id, .int .i64 sp, .str nm, .slice (some (.new q o)) 0 cap ex], U, U, U, U, U, U, U], [], h, none⟩) (by kernel_rfl) ?_
  refine WpM.run tab_ok 2 ⟨.ops (p28_1_0 :: o28_1.drop 1), [.seq x28_2], [.agg [.int .i64 id, .int .i64 sp, .str nm, .slice (some (.new q o)) 0 cap ex], U, U, U, U, U, U, U], [], h, none⟩ (by kernel_rfl) ?_
  refine WpM.opA (fun p => .ptr (some (.new p 0))) (.cells [.int .i64 id, .int .i64 sp, .str nm, .slice (some (.new q o)) 0 cap ex] 29) (by kernel_rfl) (by kernel_rfl) (fun p1 h2 a3 => ?_)
  refine WpM.run tab_ok 0 ⟨.ops (p28_1_1 :: o28_1.drop 2), [.seq x28_2], [.agg [.int .i64 id, .int .i64 sp, .str nm, .slice (some (.new q o)) 0 cap ex], .ptr (some (.new p1 0)), U, U, U, U, U, U], [], h2, none⟩ (by kernel_rfl) ?_
  refine WpM.opA (fun p => .ptr (some (.new p 0))) (.cells [.int .i64 0, .int .i64 0, .str [], .slice none 0 0 true] 29) (by kernel_rfl) (by kernel_rfl) (fun p4 h5 a6 => ?_)
  refine WpM.run tab_ok 5 ⟨.ops (p28_3_1 :: o28_3.drop 2), [.seq x28_4], (E12 id sp nm q o cap ex p1 p4), [], h5, none⟩ (by kernel_rfl) ?_
  refine WpM.op (.slice (some (.new q o)) 0 cap ex) _ (by kernel_rfl) (load_new (o := 3) (by kernel_rfl) (a6.keep a3.lt a3.get) (by kernel_rfl)) ?_
  refine WpM.run tab_ok 18 ⟨.ops (p49_9_0 :: o49_9.drop 1), [.seq .ret, .call [.tmp 2] (some 5) (o28_3.drop 3) ((E12 id sp nm q o cap ex p1 p4).set 4 (.slice (some (.new q o)) 0 cap ex)) [] none, .seq x28_4], [.slice (some (.new q o)) 0 cap ex, U, .slice none 0 0 true, .slice (some (.new q o)) 0 cap ex, .bool false, U, U, U], [], h5, none⟩ (by kernel_rfl) ?_
  refine WpM.opA (fun p => .slice (some (.new p 0)) 0 0 true) (.cells [] 71) (by kernel_rfl) (by kernel_rfl) (fun p7 h8 a9 => ?_)
  refine WpM.run tab_ok 8 ⟨.ops (p28_3_4 :: o28_3.drop 5), [.seq x28_4], (E13 id sp nm q o cap ex p1 p4 p7), [], h8, none⟩ (by kernel_rfl) ?_
  refine WpM.opS U p1 (some (.cells [.int .i64 id, .int .i64 sp, .str nm, .slice (some (.new p7 0)) 0 0 true] 29)) (by kernel_rfl) (store_new (o := 3) (v := .slice (some (.new p7 0)) 0 0 true) (by kernel_rfl) (by kernel_rfl) (a9.keep (a6.le a3.lt) (a6.keep a3.lt a3.get)) (by kernel_rfl)) (fun h10 a11 => ?_)
  refine WpM.run tab_ok 4 ⟨.ops (p28_5_0 :: o28_5.drop 1), [.seq .ret], (E13 id sp nm q o cap ex p1 p4 p7), [], h10, none⟩ (by kernel_rfl) ?_
  refine WpM.op (.agg [.int .i64 id, .int .i64 sp, .str nm, .slice (some (.new p7 0)) 0 0 true]) _ (by kernel_rfl) (load_new (o := 0) (by kernel_rfl) a11.get (by kernel_rfl)) ?_
  refine WpM.run tab_ok 0 ⟨.ops (p28_5_1 :: o28_5.drop 2), [.seq .ret], ((E13 id sp nm q o cap ex p1 p4 p7).set 7 (.agg [.int .i64 id, .int .i64 sp, .str nm, .slice (some (.new p7 0)) 0 0 true])), [], h10, none⟩ (by kernel_rfl) ?_
  refine WpM.opS U p4 (some (.cells [.int .i64 id, .int .i64 sp, .str nm, .slice (some (.new p7 0)) 0 0 true] 29)) (by kernel_rfl) (store_new (o := 0) (v := .agg [.int .i64 id, .int .i64 sp, .str nm, .slice (some (.new p7 0)) 0 0 true]) (by kernel_rfl) (by kernel_rfl) (a11.keep (Ne.symm (a6.ne a3.lt)) (a9.keep a6.lt a6.get)) (by kernel_rfl)) (fun h12 a13 => ?_)
  refine WpM.run tab_ok 3 ⟨.done .ret, [], ((E13 id sp nm q o cap ex p1 p4 p7).set 7 (.agg [.int .i64 id, .int .i64 sp, .str nm, .slice (some (.new p7 0)) 0 0 true])), [], h12, none⟩ (by kernel_rfl) ?_
  refine WpM.ret (.agg [.int .i64 id, .int .i64 sp, .str nm, .slice (some (.new p7 0)) 0 0 true]) h12 (by kernel_rfl) (resL_cell1 (o := 0) (by kernel_rfl) a13.get (by kernel_rfl)) ?_
  exact ⟨((((((HX.refl h).alloc a3).alloc a6).alloc a9).put a11 (by have := a3.eq; have := a3.nx; have := a6.eq; have := a6.nx; have := a9.eq; have := a9.nx; have := a11.nx; have := a13.nx; omega)).put a13 (by have := a3.eq; have := a3.nx; have := a6.eq; have := a6.nx; have := a9.eq; have := a9.nx; have := a11.nx; have := a13.nx; omega)), ⟨id, sp, nm, (some (.new p7 0)), 0, 0, true, []⟩, rfl, ⟨rfl, rfl, rfl, rfl⟩, ⟨rfl, by simp, hk, fun hl => by simp at hl⟩⟩
def E14 (id : Int) (sp : Int) (nm : List UInt8) (la : Option Ad) (l : List T71) (cap : Nat) (p1 : Nat) (p4 : Nat) : List V := [.agg [.int .i64 id, .int .i64 sp, .str nm, .slice la l.length cap true], .ptr (some (.new p1 0)), .ptr (some (.new p4 0)), .ptr (some (.new p1 3)), U, U, U, U]
def E15 (la : Option Ad) (l : List T71) (cap : Nat) (p7 : Nat) : List V := [.slice la l.length cap true, U, .slice none 0 0 true, .slice la l.length cap true, .bool false, .slice (some (.new p7 0)) 0 0 true, .slice la l.length cap true, U]
def E16 (id : Int) (sp : Int) (nm : List UInt8) (la : Option Ad) (l : List T71) (cap : Nat) (p1 : Nat) (p4 : Nat) (p10 : Nat) : List V := [.agg [.int .i64 id, .int .i64 sp, .str nm, .slice la l.length cap true], .ptr (some (.new p1 0)), .ptr (some (.new p4 0)), .ptr (some (.new p1 3)), .slice la l.length cap true, .slice (some (.new p10 0)) l.length l.length false, .ptr (some (.new p1 3)), U]
theorem own_some {W : World} {id sp : Int} {nm : List UInt8} {la : Option Ad} {cap : Nat} {l : List T71} (hA : Arr W 2 T71.cells la l) (hs : la = some (adr la)) (hk : nm.length ≤ 140737488351232) (hn : 0 < l.length) (hb : l.length * 32 ≤ 140737488351232) (h : H) : WpF Try.prog W prim4 28 [.agg [.int .i64 id, .int .i64 sp, .str nm, .slice la l.length cap true]] h (fun v h' => HX h h' ∧ ∃ r : RE, v = .agg r.cells ∧ Cp r id sp nm l ∧ AtOK h' r) := by
  refine WpF.m tab_ok (by kernel_rfl) rfl ?_
  refine WpM.cfg (c' := ⟨.code x28_0, [], [.agg [.int .i64 id, .int .i64 sp, .str nm, .slice la l.length cap true], U, U, U, U, U, U, U], [], h, none⟩) (by kernel_rfl) ?_
  refine WpM.run tab_ok 2 ⟨.ops (p28_1_0 :: o28_1.drop 1), [.seq x28_2], [.agg [.int .i64 id, .int .i64 sp, .str nm, .slice la l.length cap true], U, U, U, U, U, U, U], [], h, none⟩ (by kernel_rfl) ?_
  refine WpM.opA (fun p => .ptr (some (.new p 0))) (.cells [.int .i64 id, .int .i64 sp, .str nm, .slice la l.length cap true] 29) (by kernel_rfl) (by kernel_rfl) (fun p1 h2 a3 => ?_)
  refine WpM.run tab_ok 0 ⟨.ops (p28_1_1 :: o28_1.drop 2), [.seq x28_2], [.agg [.int .i64 id, .int .i64 sp, .str nm, .slice la l.length cap true], .ptr (some (.new p1 0)), U, U, U, U, U, U], [], h2, none⟩ (by kernel_rfl) ?_
  refine WpM.opA (fun p => .ptr (some (.new p 0))) (.cells [.int .i64 0, .int .i64 0, .str [], .slice none 0 0 true] 29) (by kernel_rfl) (by kernel_rfl) (fun p4 h5 a6 => ?_)
  refine WpM.run tab_ok 5 ⟨.ops (p28_3_1 :: o28_3.drop 2), [.seq x28_4], (E14 id sp nm la l cap p1 p4), [], h5, none⟩ (by kernel_rfl) ?_
  refine WpM.op (.slice la l.length cap true) _ (by kernel_rfl) (load_new (o := 3) (by kernel_rfl) (a6.keep a3.lt a3.get) (by kernel_rfl)) ?_
  refine WpM.run tab_ok 10 ⟨.ops (p49_4_1 :: o49_4.drop 2), [.seq x49_5, .seq x49_8, .call [.tmp 2] (some 5) (o28_3.drop 3) ((E14 id sp nm la l cap p1 p4).set 4 (.slice la l.length cap true)) [] none, .seq x28_4], [.slice la l.length cap true, U, .slice none 0 0 true, .slice la l.length cap true, U, U, U, U], [], h5, none⟩ (by kernel_rfl) ?_
  refine WpM.op (.bool false) _ (by kernel_rfl) (eq_nil (e := 71) (a := la) (n := l.length) (lb := cap) (ex := true) (by kernel_rfl) (by kernel_rfl) hs (by kernel_rfl)) ?_
  refine WpM.run tab_ok 7 ⟨.ops (p49_9_0 :: o49_9.drop 1), [.seq .ret, .call [.tmp 2] (some 5) (o28_3.drop 3) ((E14 id sp nm la l cap p1 p4).set 4 (.slice la l.length cap true)) [] none, .seq x28_4], [.slice la l.length cap true, U, .slice none 0 0 true, .slice la l.length cap true, .bool false, U, U, U], [], h5, none⟩ (by kernel_rfl) ?_
  refine WpM.opA (fun p => .slice (some (.new p 0)) 0 0 true) (.cells [] 71) (by kernel_rfl) (by kernel_rfl) (fun p7 h8 a9 => ?_)
  refine WpM.run tab_ok 1 ⟨.ops (p49_9_2 :: o49_9.drop 3), [.seq .ret, .call [.tmp 2] (some 5) (o28_3.drop 3) ((E14 id sp nm la l cap p1 p4).set 4 (.slice la l.length cap true)) [] none, .seq x28_4], (E15 la l cap p7), [], h8, none⟩ (by kernel_rfl) ?_
  refine WpM.opA (fun p => .slice (some (.new p 0)) l.length l.length false) (.cells (rv T71.cells l) 71) (by kernel_rfl) (app_step (s := .slice (some (.new p7 0)) 0 0 true) (x := .slice la l.length cap true) (by kernel_rfl) (by kernel_rfl) (app_op (at0 := 27) (at1 := 27) (e := 71) (size := 2) (bytes := 32) (n := l.length) (z0 := .agg [.str [], .str []]) (nc := (rv T71.cells l)) (by kernel_rfl) (by kernel_rfl) (by kernel_rfl) (by kernel_rfl) rfl rfl rfl (arr_first hA _) (app_empty (by omega) (rv_length (f := T71.cells) (fun _ => rfl) _) (rv_all_one (fun _ => rfl) _) (by omega) (by omega)))) (fun p10 h11 a12 => ?_)
  have g13 := (a12.keep (a9.le (a6.le a3.lt)) (a9.keep (a6.le a3.lt) (a6.keep a3.lt a3.get)))
  refine WpM.run tab_ok 6 ⟨.ops (p28_3_4 :: o28_3.drop 5), [.seq x28_4], (E16 id sp nm la l cap p1 p4 p10), [], h11, none⟩ (by kernel_rfl) ?_
  refine WpM.opS U p1 (some (.cells [.int .i64 id, .int .i64 sp, .str nm, .slice (some (.new p10 0)) l.length l.length false] 29)) (by kernel_rfl) (store_new (o := 3) (v := .slice (some (.new p10 0)) l.length l.length false) (by kernel_rfl) (by kernel_rfl) g13 (by kernel_rfl)) (fun h14 a15 => ?_)
  refine WpM.run tab_ok 4 ⟨.ops (p28_5_0 :: o28_5.drop 1), [.seq .ret], (E16 id sp nm la l cap p1 p4 p10), [], h14, none⟩ (by kernel_rfl) ?_
  refine WpM.op (.agg [.int .i64 id, .int .i64 sp, .str nm, .slice (some (.new p10 0)) l.length l.length false]) _ (by kernel_rfl) (load_new (o := 0) (by kernel_rfl) a15.get (by kernel_rfl)) ?_
  have g16 := (a15.keep (Ne.symm (a6.ne a3.lt)) (a12.keep (a9.le a6.lt) (a9.keep a6.lt a6.get)))
  refine WpM.run tab_ok 0 ⟨.ops (p28_5_1 :: o28_5.drop 2), [.seq .ret], ((E16 id sp nm la l cap p1 p4 p10).set 7 (.agg [.int .i64 id, .int .i64 sp, .str nm, .slice (some (.new p10 0)) l.length l.length false])), [], h14, none⟩ (by kernel_rfl) ?_
  refine WpM.opS U p4 (some (.cells [.int .i64 id, .int .i64 sp, .str nm, .slice (some (.new p10 0)) l.length l.length false] 29)) (by kernel_rfl) (store_new (o := 0) (v := .agg [.int .i64 id, .int .i64 sp, .str nm, .slice (some (.new p10 0)) l.length l.length false]) (by kernel_rfl) (by kernel_rfl) g16 (by kernel_rfl)) (fun h17 a18 => ?_)
  refine WpM.run tab_ok 3 ⟨.done .ret, [], ((E16 id sp nm la l cap p1 p4 p10).set 7 (.agg [.int .i64 id, .int .i64 sp, .str nm, .slice (some (.new p10 0)) l.length l.length false])), [], h17, none⟩ (by kernel_rfl) ?_
  refine WpM.ret (.agg [.int .i64 id, .int .i64 sp, .str nm, .slice (some (.new p10 0)) l.length l.length false]) h17 (by kernel_rfl) (resL_cell1 (o := 0) (by kernel_rfl) a18.get (by kernel_rfl)) ?_
  have g19 := (a18.keep (Ne.symm (a12.ne (a9.le a6.lt))) (a15.keep (Ne.symm (a12.ne (a9.le (a6.le a3.lt)))) a12.get))
  exact ⟨(((((((HX.refl h).alloc a3).alloc a6).alloc a9).alloc a12).put a15 (by have := a3.eq; have := a3.nx; have := a6.eq; have := a6.nx; have := a9.eq; have := a9.nx; have := a12.eq; have := a12.nx; have := a15.nx; have := a18.nx; omega)).put a18 (by have := a3.eq; have := a3.nx; have := a6.eq; have := a6.nx; have := a9.eq; have := a9.nx; have := a12.eq; have := a12.nx; have := a15.nx; have := a18.nx; omega)), ⟨id, sp, nm, some (.new p10 0), l.length, l.length, false, l⟩, rfl, ⟨rfl, rfl, rfl, rfl⟩, ⟨rfl, hb, hk, fun _ => ⟨p10, rfl, (a18.le (a15.le a12.lt)), g19⟩⟩⟩
def E17 (id : Int) (sp : Int) (nm : List UInt8) (q : Nat) (l : List T71) (cap : Nat) (ex : Bool) (p1 : Nat) (p4 : Nat) : List V := [.agg [.int .i64 id, .int .i64 sp, .str nm, .slice (some (.new q 0)) l.length cap ex], .ptr (some (.new p1 0)), .ptr (some (.new p4 0)), .ptr (some (.new p1 3)), U, U, U, U]
def E18 (q : Nat) (l : List T71) (cap : Nat) (ex : Bool) (p7 : Nat) : List V := [.slice (some (.new q 0)) l.length cap ex, U, .slice none 0 0 true, .slice (some (.new q 0)) l.length cap ex, .bool false, .slice (some (.new p7 0)) 0 0 true, .slice (some (.new q 0)) l.length cap ex, U]
def E19 (id : Int) (sp : Int) (nm : List UInt8) (q : Nat) (l : List T71) (cap : Nat) (ex : Bool) (p1 : Nat) (p4 : Nat) (p11 : Nat) : List V := [.agg [.int .i64 id, .int .i64 sp, .str nm, .slice (some (.new q 0)) l.length cap ex], .ptr (some (.new p1 0)), .ptr (some (.new p4 0)), .ptr (some (.new p1 3)), .slice (some (.new q 0)) l.length cap ex, .slice (some (.new p11 0)) l.length l.length false, .ptr (some (.new p1 3)), U]
theorem own_rows {W : World} {h : H} {id sp : Int} {nm : List UInt8} {q cap : Nat} {ex : Bool} {l : List T71} (lq : q < h.nx) (hq : h.get q = some (.cells (rv T71.cells l) 71)) (hk : nm.length ≤ 140737488351232) (hn : 0 < l.length) (hb : l.length * 32 ≤ 140737488351232) : WpF Try.prog W prim4 28 [.agg [.int .i64 id, .int .i64 sp, .str nm, .slice (some (.new q 0)) l.length cap ex]] h (fun v h' => HX h h' ∧ ∃ r : RE, v = .agg r.cells ∧ Cp r id sp nm l ∧ AtOK h' r) := by
  refine WpF.m tab_ok (by kernel_rfl) rfl ?_
  refine WpM.cfg (c' := ⟨.code x28_0, [], [.agg [.int .i64 id, .int .i64 sp, .str nm, .slice (some (.new q 0)) l.length cap ex], U, U, U, U, U, U, U], [], h, none⟩) (by kernel_rfl) ?_
  refine WpM.run tab_ok 2 ⟨.ops (p28_1_0 :: o28_1.drop 1), [.seq x28_2], [.agg [.int .i64 id, .int .i64 sp, .str nm, .slice (some (.new q 0)) l.length cap ex], U, U, U, U, U, U, U], [], h, none⟩ (by kernel_rfl) ?_
  refine WpM.opA (fun p => .ptr (some (.new p 0))) (.cells [.int .i64 id, .int .i64 sp, .str nm, .slice (some (.new q 0)) l.length cap ex] 29) (by kernel_rfl) (by kernel_rfl) (fun p1 h2 a3 => ?_)
  refine WpM.run tab_ok 0 ⟨.ops (p28_1_1 :: o28_1.drop 2), [.seq x28_2], [.agg [.int .i64 id, .int .i64 sp, .str nm, .slice (some (.new q 0)) l.length cap ex], .ptr (some (.new p1 0)), U, U, U, U, U, U], [], h2, none⟩ (by kernel_rfl) ?_
  refine WpM.opA (fun p => .ptr (some (.new p 0))) (.cells [.int .i64 0, .int .i64 0, .str [], .slice none 0 0 true] 29) (by kernel_rfl) (by kernel_rfl) (fun p4 h5 a6 => ?_)
  refine WpM.run tab_ok 5 ⟨.ops (p28_3_1 :: o28_3.drop 2), [.seq x28_4], (E17 id sp nm q l cap ex p1 p4), [], h5, none⟩ (by kernel_rfl) ?_
  refine WpM.op (.slice (some (.new q 0)) l.length cap ex) _ (by kernel_rfl) (load_new (o := 3) (by kernel_rfl) (a6.keep a3.lt a3.get) (by kernel_rfl)) ?_
  refine WpM.run tab_ok 18 ⟨.ops (p49_9_0 :: o49_9.drop 1), [.seq .ret, .call [.tmp 2] (some 5) (o28_3.drop 3) ((E17 id sp nm q l cap ex p1 p4).set 4 (.slice (some (.new q 0)) l.length cap ex)) [] none, .seq x28_4], [.slice (some (.new q 0)) l.length cap ex, U, .slice none 0 0 true, .slice (some (.new q 0)) l.length cap ex, .bool false, U, U, U], [], h5, none⟩ (by kernel_rfl) ?_
  refine WpM.opA (fun p => .slice (some (.new p 0)) 0 0 true) (.cells [] 71) (by kernel_rfl) (by kernel_rfl) (fun p7 h8 a9 => ?_)
  have g10 := (a9.keep (a6.le (a3.le lq)) (a6.keep (a3.le lq) (a3.keep lq hq)))
  refine WpM.run tab_ok 1 ⟨.ops (p49_9_2 :: o49_9.drop 3), [.seq .ret, .call [.tmp 2] (some 5) (o28_3.drop 3) ((E17 id sp nm q l cap ex p1 p4).set 4 (.slice (some (.new q 0)) l.length cap ex)) [] none, .seq x28_4], (E18 q l cap ex p7), [], h8, none⟩ (by kernel_rfl) ?_
  refine WpM.opA (fun p => .slice (some (.new p 0)) l.length l.length false) (.cells (rv T71.cells l) 71) (by kernel_rfl) (app_step (s := .slice (some (.new p7 0)) 0 0 true) (x := .slice (some (.new q 0)) l.length cap ex) (by kernel_rfl) (by kernel_rfl) (app_op (at0 := 27) (at1 := 27) (e := 71) (size := 2) (bytes := 32) (n := l.length) (z0 := .agg [.str [], .str []]) (nc := (rv T71.cells l)) (by kernel_rfl) (by kernel_rfl) (by kernel_rfl) (by kernel_rfl) rfl rfl rfl (first_at g10 (by omega) (by rw [rv_length (f := T71.cells) (z := 2) (fun _ => rfl)]; simp) (by rw [List.drop_zero, List.take_of_length_le (by rw [rv_length (f := T71.cells) (z := 2) (fun _ => rfl)]; simp)])) (app_empty (by omega) (rv_length (f := T71.cells) (fun _ => rfl) _) (rv_all_one (fun _ => rfl) _) (by omega) (by omega)))) (fun p11 h12 a13 => ?_)
  have g14 := (a13.keep (a9.le (a6.le a3.lt)) (a9.keep (a6.le a3.lt) (a6.keep a3.lt a3.get)))
  refine WpM.run tab_ok 6 ⟨.ops (p28_3_4 :: o28_3.drop 5), [.seq x28_4], (E19 id sp nm q l cap ex p1 p4 p11), [], h12, none⟩ (by kernel_rfl) ?_
  refine WpM.opS U p1 (some (.cells [.int .i64 id, .int .i64 sp, .str nm, .slice (some (.new p11 0)) l.length l.length false] 29)) (by kernel_rfl) (store_new (o := 3) (v := .slice (some (.new p11 0)) l.length l.length false) (by kernel_rfl) (by kernel_rfl) g14 (by kernel_rfl)) (fun h15 a16 => ?_)
  refine WpM.run tab_ok 4 ⟨.ops (p28_5_0 :: o28_5.drop 1), [.seq .ret], (E19 id sp nm q l cap ex p1 p4 p11), [], h15, none⟩ (by kernel_rfl) ?_
  refine WpM.op (.agg [.int .i64 id, .int .i64 sp, .str nm, .slice (some (.new p11 0)) l.length l.length false]) _ (by kernel_rfl) (load_new (o := 0) (by kernel_rfl) a16.get (by kernel_rfl)) ?_
  have g17 := (a16.keep (Ne.symm (a6.ne a3.lt)) (a13.keep (a9.le a6.lt) (a9.keep a6.lt a6.get)))
  refine WpM.run tab_ok 0 ⟨.ops (p28_5_1 :: o28_5.drop 2), [.seq .ret], ((E19 id sp nm q l cap ex p1 p4 p11).set 7 (.agg [.int .i64 id, .int .i64 sp, .str nm, .slice (some (.new p11 0)) l.length l.length false])), [], h15, none⟩ (by kernel_rfl) ?_
  refine WpM.opS U p4 (some (.cells [.int .i64 id, .int .i64 sp, .str nm, .slice (some (.new p11 0)) l.length l.length false] 29)) (by kernel_rfl) (store_new (o := 0) (v := .agg [.int .i64 id, .int .i64 sp, .str nm, .slice (some (.new p11 0)) l.length l.length false]) (by kernel_rfl) (by kernel_rfl) g17 (by kernel_rfl)) (fun h18 a19 => ?_)
  refine WpM.run tab_ok 3 ⟨.done .ret, [], ((E19 id sp nm q l cap ex p1 p4 p11).set 7 (.agg [.int .i64 id, .int .i64 sp, .str nm, .slice (some (.new p11 0)) l.length l.length false])), [], h18, none⟩ (by kernel_rfl) ?_
  refine WpM.ret (.agg [.int .i64 id, .int .i64 sp, .str nm, .slice (some (.new p11 0)) l.length l.length false]) h18 (by kernel_rfl) (resL_cell1 (o := 0) (by kernel_rfl) a19.get (by kernel_rfl)) ?_
  have g20 := (a19.keep (Ne.symm (a13.ne (a9.le a6.lt))) (a16.keep (Ne.symm (a13.ne (a9.le (a6.le a3.lt)))) a13.get))
  exact ⟨(((((((HX.refl h).alloc a3).alloc a6).alloc a9).alloc a13).put a16 (by have := a3.eq; have := a3.nx; have := a6.eq; have := a6.nx; have := a9.eq; have := a9.nx; have := a13.eq; have := a13.nx; have := a16.nx; have := a19.nx; omega)).put a19 (by have := a3.eq; have := a3.nx; have := a6.eq; have := a6.nx; have := a9.eq; have := a9.nx; have := a13.eq; have := a13.nx; have := a16.nx; have := a19.nx; omega)), ⟨id, sp, nm, some (.new p11 0), l.length, l.length, false, l⟩, rfl, ⟨rfl, rfl, rfl, rfl⟩, ⟨rfl, hb, hk, fun _ => ⟨p11, rfl, (a19.le (a16.le a13.lt)), g20⟩⟩⟩
theorem own_ok {W : World} {e : T29} (he : e.ok W) (h : H) : WpF Try.prog W prim4 28 [.agg [.int .i64 e.fId, .int .i64 e.fSpace, .str e.fName, .slice e.fAttrs.a e.fAttrs.l.length e.fAttrs.cap true]] h (fun v h' => HX h h' ∧ ∃ r : RE, v = .agg r.cells ∧ Cp r e.fId e.fSpace e.fName e.fAttrs.l ∧ AtOK h' r) := by
  have hA := he.fAttrs.arr
  rcases Nat.eq_zero_or_pos e.fAttrs.l.length with h0 | h0
  · have hn := List.eq_nil_of_length_eq_zero h0
    rw [hn]
    rcases hA with ⟨ha, _⟩ | ⟨b, o, ha, _⟩
    · rw [ha]; exact own_nil he.fName h
    · rw [ha]; exact own_old he.fName h
  · exact own_some hA (hA.some h0).1 he.fName h0 (by have h1 := he.fAttrs.le; have h2 := he.fAttrs.reach; have : e.fAttrs.l.length * 32 ≤ e.fAttrs.cap * 32 := Nat.mul_le_mul_right _ h1; omega) h
theorem own_heap {W : World} {r : RE} {h : H} (hr : AtOK h r) : WpF Try.prog W prim4 28 [.agg [.int .i64 r.id, .int .i64 r.sp, .str r.nm, .slice r.a r.n r.m r.x]] h (fun v h' => HX h h' ∧ ∃ s : RE, v = .agg s.cells ∧ Cp s r.id r.sp r.nm r.l ∧ AtOK h' s) := by
  rw [hr.n]
  rcases Nat.eq_zero_or_pos r.l.length with h0 | h0
  · have hn := List.eq_nil_of_length_eq_zero h0
    rw [hn]
    rcases r.a with _ | (⟨b, o⟩ | ⟨q, o⟩)
    · exact own_nil hr.k h
    · exact own_old hr.k h
    · exact own_new hr.k h
  · obtain ⟨q, ea, lq, hq⟩ := hr.g h0
    rw [ea]
    exact own_rows lq hq hr.k h0 hr.b
end Go.Proofs.Ytchffnfhfojkeaa.Dg
