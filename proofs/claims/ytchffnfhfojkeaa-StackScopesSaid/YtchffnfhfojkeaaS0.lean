/-
  The code of chapter 16 that the law of scopes reaches; what ends a scope.
-/
import Derived.Test.YtchffnfhfojkeaaChecked
import Derived.Test.YtchffnfhfojkeaaShelf
import Derived.Test.YtchffnfhfojkeaaDgS35
set_option linter.unusedVariables false
set_option linter.unusedSimpArgs false
namespace Go.Proofs.Ytchffnfhfojkeaa.Dg
open Go Go.RowKit
set_option maxRecDepth 20000
def k_html : List UInt8 := [104, 116, 109, 108]
def k_table : List UInt8 := [116, 97, 98, 108, 101]
def k_appletcaptionhtmltabletd : List UInt8 := [32, 97, 112, 112, 108, 101, 116, 32, 99, 97, 112, 116, 105, 111, 110, 32, 104, 116, 109, 108, 32, 116, 97, 98, 108, 101, 32, 116, 100, 32, 116, 104, 32, 109, 97, 114, 113, 117, 101, 101, 32, 111, 98, 106, 101, 99, 116, 32]
def k_olul : List UInt8 := [111, 108, 32, 117, 108, 32]
def k_button : List UInt8 := [98, 117, 116, 116, 111, 110, 32]
def k_mimomnmsmtext : List UInt8 := [32, 109, 105, 32, 109, 111, 32, 109, 110, 32, 109, 115, 32, 109, 116, 101, 120, 116, 32]
def k_foreignObjectdesctitle : List UInt8 := [32, 102, 111, 114, 101, 105, 103, 110, 79, 98, 106, 101, 99, 116, 32, 100, 101, 115, 99, 32, 116, 105, 116, 108, 101, 32]
def k_appletcaptionhtmltabletd' : List UInt8 := [32, 97, 112, 112, 108, 101, 116, 32, 99, 97, 112, 116, 105, 111, 110, 32, 104, 116, 109, 108, 32, 116, 97, 98, 108, 101, 32, 116, 100, 32, 116, 104, 32, 109, 97, 114, 113, 117, 101, 101, 32, 111, 98, 106, 101, 99, 116, 32, 111, 108, 32, 117, 108, 32]
def k_appletcaptionhtmltabletd'' : List UInt8 := [32, 97, 112, 112, 108, 101, 116, 32, 99, 97, 112, 116, 105, 111, 110, 32, 104, 116, 109, 108, 32, 116, 97, 98, 108, 101, 32, 116, 100, 32, 116, 104, 32, 109, 97, 114, 113, 117, 101, 101, 32, 111, 98, 106, 101, 99, 116, 32, 98, 117, 116, 116, 111, 110, 32]
def p3_1_0 : RO := ⟨none, some 4, .assign (.const (.bool false))⟩
def o3_1 : List RO := [p3_1_0]
def x3_1 : RC := .ops o3_1
def p3_3_0 : RO := ⟨none, some 12, .call ⟨.value (.func 8), #[], #[]⟩⟩
def p3_3_1 : RO := ⟨none, some 5, .assign (.tmp 12)⟩
def o3_3 : List RO := [p3_3_0, p3_3_1]
def x3_3 : RC := .ops o3_3
def p3_6_0 : RO := ⟨none, some 13, .move (.tmp 5)⟩
def p3_6_1 : RO := ⟨none, some 14, .binOp .eql 23 (.tmp 13) (.const (.pointer none)) 23⟩
def p3_6_2 : RO := ⟨none, some 15, .move (.tmp 14)⟩
def p3_6_3 : RO := ⟨some (some 15, false), some 16, .move (.tmp 0)⟩
def p3_6_4 : RO := ⟨some (some 15, false), some 17, .call ⟨.builtin .len, #[(.tmp 16)], #[22]⟩⟩
def p3_6_5 : RO := ⟨some (some 15, false), some 18, .binOp .gtr 3 (.tmp 17) (.const (.int .i64 (300))) 3⟩
def p3_6_6 : RO := ⟨none, some 19, .pick (.tmp 15) (.const (.bool true)) (.tmp 18)⟩
def p3_6_7 : RO := ⟨none, some 20, .move (.tmp 19)⟩
def p3_6_8 : RO := ⟨some (some 20, false), some 21, .move (.tmp 1)⟩
def p3_6_9 : RO := ⟨some (some 20, false), some 22, .call ⟨.builtin .len, #[(.tmp 21)], #[9]⟩⟩
def p3_6_10 : RO := ⟨some (some 20, false), some 23, .binOp .gtr 3 (.tmp 22) (.const (.int .i64 (1000))) 3⟩
def p3_6_11 : RO := ⟨none, some 24, .pick (.tmp 20) (.const (.bool true)) (.tmp 23)⟩
def o3_6 : List RO := [p3_6_0, p3_6_1, p3_6_2, p3_6_3, p3_6_4, p3_6_5, p3_6_6, p3_6_7, p3_6_8, p3_6_9, p3_6_10, p3_6_11]
def x3_6 : RC := .ops o3_6
def p3_9_0 : RO := ⟨none, some 25, .move (.tmp 5)⟩
def p3_9_1 : RO := ⟨none, some 26, .binOp .neq 23 (.tmp 25) (.const (.pointer none)) 23⟩
def p3_9_2 : RO := ⟨none, some 27, .move (.tmp 26)⟩
def p3_9_3 : RO := ⟨some (some 27, true), some 28, .call ⟨.value (.func 9), #[], #[]⟩⟩
def p3_9_4 : RO := ⟨none, some 29, .pick (.tmp 27) (.tmp 28) (.const (.bool false))⟩
def p3_9_5 : RO := ⟨none, some 4, .assign (.tmp 29)⟩
def o3_9 : List RO := [p3_9_0, p3_9_1, p3_9_2, p3_9_3, p3_9_4, p3_9_5]
def x3_9 : RC := .ops o3_9
def x3_8 : RC := .seq x3_9 .ret
def x3_7 : RC := .cond (.tmp 24) x3_8 .skip
def x3_5 : RC := .seq x3_6 x3_7
def p3_12_0 : RO := ⟨none, some 6, .assign (.const (.int .i64 (0)))⟩
def o3_12 : List RO := [p3_12_0]
def x3_12 : RC := .ops o3_12
def p3_17_0 : RO := ⟨none, some 30, .move (.tmp 6)⟩
def p3_17_1 : RO := ⟨none, some 31, .move (.tmp 0)⟩
def p3_17_2 : RO := ⟨none, some 32, .call ⟨.builtin .len, #[(.tmp 31)], #[22]⟩⟩
def p3_17_3 : RO := ⟨none, some 33, .binOp .lss 3 (.tmp 30) (.tmp 32) 3⟩
def o3_17 : List RO := [p3_17_0, p3_17_1, p3_17_2, p3_17_3]
def x3_17 : RC := .ops o3_17
def x3_18 : RC := .cond (.tmp 33) .skip (.exit 0)
def x3_16 : RC := .seq x3_17 x3_18
def p3_21_0 : RO := ⟨none, some 36, .move (.tmp 5)⟩
def p3_21_1 : RO := ⟨none, some 37, .move (.tmp 0)⟩
def p3_21_2 : RO := ⟨none, some 38, .move (.tmp 6)⟩
def p3_21_3 : RO := ⟨none, some 39, .indexAddr 22 (.tmp 37) (.tmp 38)⟩
def p3_21_4 : RO := ⟨none, some 40, .load 29 (.tmp 39)⟩
def p3_21_5 : RO := ⟨none, some 41, .call ⟨.value (.func 10), #[(.tmp 36), (.tmp 40)], #[23, 29]⟩⟩
def o3_21 : List RO := [p3_21_0, p3_21_1, p3_21_2, p3_21_3, p3_21_4, p3_21_5]
def x3_21 : RC := .ops o3_21
def x3_20 : RC := .block 1 x3_21
def p3_22_0 : RO := ⟨none, some 34, .move (.tmp 6)⟩
def p3_22_1 : RO := ⟨none, some 35, .binOp .add 3 (.tmp 34) (.const (.int .i64 (1))) 3⟩
def p3_22_2 : RO := ⟨none, some 6, .assign (.tmp 35)⟩
def o3_22 : List RO := [p3_22_0, p3_22_1, p3_22_2]
def x3_22 : RC := .ops o3_22
def x3_19 : RC := .seq x3_20 x3_22
def x3_15 : RC := .seq x3_16 x3_19
def x3_14 : RC := .loop x3_15
def x3_13 : RC := .block 0 x3_14
def x3_11 : RC := .seq x3_12 x3_13
def p3_24_0 : RO := ⟨none, some 42, .move (.tmp 5)⟩
def p3_24_1 : RO := ⟨none, some 43, .move (.tmp 1)⟩
def p3_24_2 : RO := ⟨none, some 44, .buildSlice 44 1 #[(0, (.tmp 43))]⟩
def p3_24_3 : RO := ⟨none, some 45, .call ⟨.value (.func 11), #[(.tmp 42), (.const (.int .i64 (1))), (.tmp 44)], #[23, 3, 44]⟩⟩
def p3_24_4 : RO := ⟨none, some 46, .move (.tmp 5)⟩
def p3_24_5 : RO := ⟨none, some 47, .move (.tmp 1)⟩
def p3_24_6 : RO := ⟨none, some 48, .buildSlice 44 1 #[(0, (.tmp 47))]⟩
def p3_24_7 : RO := ⟨none, some 49, .call ⟨.value (.func 11), #[(.tmp 46), (.const (.int .i64 (2))), (.tmp 48)], #[23, 3, 44]⟩⟩
def p3_24_8 : RO := ⟨none, some 50, .move (.tmp 5)⟩
def p3_24_9 : RO := ⟨none, some 51, .move (.tmp 1)⟩
def p3_24_10 : RO := ⟨none, some 52, .buildSlice 44 1 #[(0, (.tmp 51))]⟩
def p3_24_11 : RO := ⟨none, some 53, .call ⟨.value (.func 11), #[(.tmp 50), (.const (.int .i64 (0))), (.tmp 52)], #[23, 3, 44]⟩⟩
def p3_24_12 : RO := ⟨none, some 7, .assign (.tmp 45)⟩
def p3_24_13 : RO := ⟨none, some 8, .assign (.tmp 49)⟩
def p3_24_14 : RO := ⟨none, some 9, .assign (.tmp 53)⟩
def o3_24 : List RO := [p3_24_0, p3_24_1, p3_24_2, p3_24_3, p3_24_4, p3_24_5, p3_24_6, p3_24_7, p3_24_8, p3_24_9, p3_24_10, p3_24_11, p3_24_12, p3_24_13, p3_24_14]
def x3_24 : RC := .ops o3_24
def p3_27_0 : RO := ⟨none, some 54, .move (.tmp 7)⟩
def p3_27_1 : RO := ⟨none, some 55, .move (.tmp 54)⟩
def p3_27_2 : RO := ⟨some (some 55, false), some 56, .move (.tmp 8)⟩
def p3_27_3 : RO := ⟨none, some 57, .pick (.tmp 55) (.const (.bool true)) (.tmp 56)⟩
def p3_27_4 : RO := ⟨none, some 58, .move (.tmp 57)⟩
def p3_27_5 : RO := ⟨some (some 58, true), some 59, .move (.tmp 9)⟩
def p3_27_6 : RO := ⟨some (some 58, true), some 60, .unOp .not 4 (.tmp 59)⟩
def p3_27_7 : RO := ⟨none, some 61, .pick (.tmp 58) (.tmp 60) (.const (.bool false))⟩
def o3_27 : List RO := [p3_27_0, p3_27_1, p3_27_2, p3_27_3, p3_27_4, p3_27_5, p3_27_6, p3_27_7]
def x3_27 : RC := .ops o3_27
def p3_30_0 : RO := ⟨none, some 4, .assign (.const (.bool false))⟩
def o3_30 : List RO := [p3_30_0]
def x3_30 : RC := .ops o3_30
def x3_29 : RC := .seq x3_30 .ret
def x3_28 : RC := .cond (.tmp 61) x3_29 .skip
def x3_26 : RC := .seq x3_27 x3_28
def p3_32_0 : RO := ⟨none, some 10, .assign (.const (.bool false))⟩
def o3_32 : List RO := [p3_32_0]
def x3_32 : RC := .ops o3_32
def p3_35_0 : RO := ⟨none, some 11, .assign (.const (.int .i64 (0)))⟩
def o3_35 : List RO := [p3_35_0]
def x3_35 : RC := .ops o3_35
def p3_40_0 : RO := ⟨none, some 62, .move (.tmp 11)⟩
def p3_40_1 : RO := ⟨none, some 63, .move (.tmp 0)⟩
def p3_40_2 : RO := ⟨none, some 64, .call ⟨.builtin .len, #[(.tmp 63)], #[22]⟩⟩
def p3_40_3 : RO := ⟨none, some 65, .binOp .lss 3 (.tmp 62) (.tmp 64) 3⟩
def o3_40 : List RO := [p3_40_0, p3_40_1, p3_40_2, p3_40_3]
def x3_40 : RC := .ops o3_40
def x3_41 : RC := .cond (.tmp 65) .skip (.exit 2)
def x3_39 : RC := .seq x3_40 x3_41
def p3_44_0 : RO := ⟨none, some 68, .move (.tmp 10)⟩
def p3_44_1 : RO := ⟨none, some 69, .move (.tmp 68)⟩
def p3_44_2 : RO := ⟨some (some 69, false), some 70, .move (.tmp 0)⟩
def p3_44_3 : RO := ⟨some (some 69, false), some 71, .move (.tmp 11)⟩
def p3_44_4 : RO := ⟨some (some 69, false), some 72, .indexAddr 22 (.tmp 70) (.tmp 71)⟩
def p3_44_5 : RO := ⟨some (some 69, false), some 73, .fieldAddr 29 (.tmp 72) 1⟩
def p3_44_6 : RO := ⟨some (some 69, false), some 74, .load 3 (.tmp 73)⟩
def p3_44_7 : RO := ⟨some (some 69, false), some 75, .binOp .eql 3 (.tmp 74) (.const (.int .i64 (0))) 3⟩
def p3_44_8 : RO := ⟨some (some 69, false), some 76, .move (.tmp 75)⟩
def p3_44_9 : RO := ⟨some (some 76, true), some 77, .move (.tmp 0)⟩
def p3_44_10 : RO := ⟨some (some 76, true), some 78, .move (.tmp 11)⟩
def p3_44_11 : RO := ⟨some (some 76, true), some 79, .indexAddr 22 (.tmp 77) (.tmp 78)⟩
def p3_44_12 : RO := ⟨some (some 76, true), some 80, .fieldAddr 29 (.tmp 79) 2⟩
def p3_44_13 : RO := ⟨some (some 76, true), some 81, .load 9 (.tmp 80)⟩
def p3_44_14 : RO := ⟨some (some 76, true), some 82, .move (.tmp 1)⟩
def p3_44_15 : RO := ⟨some (some 76, true), some 83, .binOp .eql 9 (.tmp 81) (.tmp 82) 9⟩
def p3_44_16 : RO := ⟨some (some 69, false), some 84, .pick (.tmp 76) (.tmp 83) (.const (.bool false))⟩
def p3_44_17 : RO := ⟨none, some 85, .pick (.tmp 69) (.const (.bool true)) (.tmp 84)⟩
def p3_44_18 : RO := ⟨none, some 10, .assign (.tmp 85)⟩
def o3_44 : List RO := [p3_44_0, p3_44_1, p3_44_2, p3_44_3, p3_44_4, p3_44_5, p3_44_6, p3_44_7, p3_44_8, p3_44_9, p3_44_10, p3_44_11, p3_44_12, p3_44_13, p3_44_14, p3_44_15, p3_44_16, p3_44_17, p3_44_18]
def x3_44 : RC := .ops o3_44
def x3_43 : RC := .block 3 x3_44
def p3_45_0 : RO := ⟨none, some 66, .move (.tmp 11)⟩
def p3_45_1 : RO := ⟨none, some 67, .binOp .add 3 (.tmp 66) (.const (.int .i64 (1))) 3⟩
def p3_45_2 : RO := ⟨none, some 11, .assign (.tmp 67)⟩
def o3_45 : List RO := [p3_45_0, p3_45_1, p3_45_2]
def x3_45 : RC := .ops o3_45
def x3_42 : RC := .seq x3_43 x3_45
def x3_38 : RC := .seq x3_39 x3_42
def x3_37 : RC := .loop x3_38
def x3_36 : RC := .block 2 x3_37
def x3_34 : RC := .seq x3_35 x3_36
def p3_47_0 : RO := ⟨none, some 86, .move (.tmp 10)⟩
def p3_47_1 : RO := ⟨none, some 87, .move (.tmp 86)⟩
def p3_47_2 : RO := ⟨some (some 87, false), some 88, .move (.tmp 9)⟩
def p3_47_3 : RO := ⟨some (some 87, false), some 89, .unOp .not 4 (.tmp 88)⟩
def p3_47_4 : RO := ⟨some (some 87, false), some 90, .move (.tmp 89)⟩
def p3_47_5 : RO := ⟨some (some 90, true), some 91, .move (.tmp 5)⟩
def p3_47_6 : RO := ⟨some (some 90, true), some 92, .move (.tmp 1)⟩
def p3_47_7 : RO := ⟨some (some 90, true), some 93, .buildSlice 44 1 #[(0, (.tmp 92))]⟩
def p3_47_8 : RO := ⟨some (some 90, true), some 94, .call ⟨.value (.func 11), #[(.tmp 91), (.const (.int .i64 (3))), (.tmp 93)], #[23, 3, 44]⟩⟩
def p3_47_9 : RO := ⟨some (some 90, true), some 95, .unOp .not 4 (.tmp 94)⟩
def p3_47_10 : RO := ⟨some (some 87, false), some 96, .pick (.tmp 90) (.tmp 95) (.const (.bool false))⟩
def p3_47_11 : RO := ⟨none, some 97, .pick (.tmp 87) (.const (.bool true)) (.tmp 96)⟩
def p3_47_12 : RO := ⟨none, some 98, .move (.tmp 97)⟩
def p3_47_13 : RO := ⟨some (some 98, true), some 99, .move (.tmp 5)⟩
def p3_47_14 : RO := ⟨some (some 98, true), some 100, .call ⟨.value (.func 11), #[(.tmp 99), (.const (.int .i64 (0))), (.const (.slice none 0 0))], #[23, 3, 44]⟩⟩
def p3_47_15 : RO := ⟨some (some 98, true), some 101, .unOp .not 4 (.tmp 100)⟩
def p3_47_16 : RO := ⟨none, some 102, .pick (.tmp 98) (.tmp 101) (.const (.bool false))⟩
def p3_47_17 : RO := ⟨none, some 103, .move (.tmp 102)⟩
def p3_47_18 : RO := ⟨some (some 103, true), some 104, .call ⟨.value (.func 9), #[], #[]⟩⟩
def p3_47_19 : RO := ⟨none, some 105, .pick (.tmp 103) (.tmp 104) (.const (.bool false))⟩
def p3_47_20 : RO := ⟨none, some 4, .assign (.tmp 105)⟩
def o3_47 : List RO := [p3_47_0, p3_47_1, p3_47_2, p3_47_3, p3_47_4, p3_47_5, p3_47_6, p3_47_7, p3_47_8, p3_47_9, p3_47_10, p3_47_11, p3_47_12, p3_47_13, p3_47_14, p3_47_15, p3_47_16, p3_47_17, p3_47_18, p3_47_19, p3_47_20]
def x3_47 : RC := .ops o3_47
def x3_46 : RC := .seq x3_47 .ret
def x3_33 : RC := .seq x3_34 x3_46
def x3_31 : RC := .seq x3_32 x3_33
def x3_25 : RC := .seq x3_26 x3_31
def x3_23 : RC := .seq x3_24 x3_25
def x3_10 : RC := .seq x3_11 x3_23
def x3_4 : RC := .seq x3_5 x3_10
def x3_2 : RC := .seq x3_3 x3_4
def x3_0 : RC := .seq x3_1 x3_2
theorem x3_eq : Try.f3.body.map rc = some x3_0 := by kernel_rfl
def p8_1_0 : RO := ⟨none, some 0, .assign (.const (.pointer none))⟩
def o8_1 : List RO := [p8_1_0]
def x8_1 : RC := .ops o8_1
def p8_3_0 : RO := ⟨none, some 1, .build 55 #[]⟩
def p8_3_1 : RO := ⟨none, some 2, .box 55 (.tmp 1)⟩
def p8_3_2 : RO := ⟨none, some 0, .assign (.tmp 2)⟩
def o8_3 : List RO := [p8_3_0, p8_3_1, p8_3_2]
def x8_3 : RC := .ops o8_3
def x8_2 : RC := .seq x8_3 .ret
def x8_0 : RC := .seq x8_1 x8_2
theorem x8_eq : Try.f8.body.map rc = some x8_0 := by kernel_rfl
def p10_1_0 : RO := ⟨none, some 3, .box 29 (.tmp 1)⟩
def o10_1 : List RO := [p10_1_0]
def x10_1 : RC := .ops o10_1
def p10_3_0 : RO := ⟨none, some 4, .move (.tmp 0)⟩
def p10_3_1 : RO := ⟨none, some 5, .binOp .neq 23 (.tmp 4) (.const (.pointer none)) 23⟩
def o10_3 : List RO := [p10_3_0, p10_3_1]
def x10_3 : RC := .ops o10_3
def p10_5_0 : RO := ⟨none, some 11, .load 29 (.tmp 3)⟩
def p10_5_1 : RO := ⟨none, some 12, .call ⟨.value (.func 28), #[(.tmp 11)], #[29]⟩⟩
def p10_5_2 : RO := ⟨none, some 7, .move (.tmp 0)⟩
def p10_5_3 : RO := ⟨none, some 8, .nilCheck (.tmp 7)⟩
def p10_5_4 : RO := ⟨none, some 9, .fieldAddr 55 (.tmp 8) 0⟩
def p10_5_5 : RO := ⟨none, some 10, .load 22 (.tmp 9)⟩
def p10_5_6 : RO := ⟨none, some 13, .buildSlice 22 1 #[(0, (.tmp 12))]⟩
def p10_5_7 : RO := ⟨none, some 14, .call ⟨.builtin .append, #[(.tmp 10), (.tmp 13)], #[22, 22]⟩⟩
def p10_5_8 : RO := ⟨none, some 6, .move (.tmp 0)⟩
def p10_5_9 : RO := ⟨none, some 15, .nilCheck (.tmp 6)⟩
def p10_5_10 : RO := ⟨none, some 16, .fieldAddr 55 (.tmp 15) 0⟩
def p10_5_11 : RO := ⟨none, none, .store 22 (.tmp 16) (.tmp 14)⟩
def o10_5 : List (Nat × RO) := [(5, p10_5_0), (6, p10_5_1), (1, p10_5_2), (2, p10_5_3), (3, p10_5_4), (4, p10_5_5), (7, p10_5_6), (8, p10_5_7), (0, p10_5_8), (9, p10_5_9), (10, p10_5_10), (11, p10_5_11)]
def m10_5 : List Nat := [0, 0, 2, 6, 14, 0, 32, 96, 254, 511, 1023, 2047]
def x10_5 : RC := .draw o10_5 m10_5
def x10_4 : RC := .cond (.tmp 5) x10_5 .skip
def x10_2 : RC := .seq x10_3 x10_4
def x10_0 : RC := .seq x10_1 x10_2
theorem x10_eq : Try.f10.body.map rc = some x10_0 := by kernel_rfl
def p11_1_0 : RO := ⟨none, some 4, .box 3 (.tmp 1)⟩
def p11_1_1 : RO := ⟨none, some 5, .box 44 (.tmp 2)⟩
def p11_1_2 : RO := ⟨none, some 6, .alloc 4⟩
def o11_1 : List RO := [p11_1_0, p11_1_1, p11_1_2]
def x11_1 : RC := .ops o11_1
def p11_4_0 : RO := ⟨none, some 9, .move (.tmp 0)⟩
def p11_4_1 : RO := ⟨none, some 10, .binOp .eql 23 (.tmp 9) (.const (.pointer none)) 23⟩
def o11_4 : List RO := [p11_4_0, p11_4_1]
def x11_4 : RC := .ops o11_4
def p11_7_0 : RO := ⟨none, none, .store 4 (.tmp 6) (.const (.bool false))⟩
def o11_7 : List RO := [p11_7_0]
def x11_7 : RC := .ops o11_7
def x11_6 : RC := .seq x11_7 .ret
def x11_5 : RC := .cond (.tmp 10) x11_6 .skip
def x11_3 : RC := .seq x11_4 x11_5
def p11_10_0 : RO := ⟨none, some 11, .move (.tmp 0)⟩
def p11_10_1 : RO := ⟨none, some 12, .nilCheck (.tmp 11)⟩
def p11_10_2 : RO := ⟨none, some 13, .fieldAddr 55 (.tmp 12) 0⟩
def p11_10_3 : RO := ⟨none, some 14, .load 22 (.tmp 13)⟩
def p11_10_4 : RO := ⟨none, some 15, .call ⟨.value (.func 29), #[(.tmp 14)], #[22]⟩⟩
def o11_10 : List RO := [p11_10_0, p11_10_1, p11_10_2, p11_10_3, p11_10_4]
def x11_10 : RC := .ops o11_10
def p11_13_0 : RO := ⟨none, some 8, .alloc 29⟩
def p11_13_1 : RO := ⟨none, none, .store 29 (.tmp 8) (.tmp 17)⟩
def o11_13 : List RO := [p11_13_0, p11_13_1]
def x11_13 : RC := .ops o11_13
def p11_17_0 : RO := ⟨none, some 18, .load 29 (.tmp 8)⟩
def p11_17_1 : RO := ⟨none, some 19, .load 44 (.tmp 5)⟩
def p11_17_2 : RO := ⟨none, some 20, .call ⟨.value (.func 30), #[(.tmp 18), (.tmp 19)], #[29, 44]⟩⟩
def o11_17 : List RO := [p11_17_0, p11_17_1, p11_17_2]
def x11_17 : RC := .ops o11_17
def p11_20_0 : RO := ⟨none, none, .store 4 (.tmp 6) (.const (.bool true))⟩
def o11_20 : List RO := [p11_20_0]
def x11_20 : RC := .ops o11_20
def x11_19 : RC := .seq x11_20 .ret
def x11_18 : RC := .cond (.tmp 20) x11_19 .skip
def x11_16 : RC := .seq x11_17 x11_18
def p11_22_0 : RO := ⟨none, some 21, .load 3 (.tmp 4)⟩
def p11_22_1 : RO := ⟨none, some 22, .load 29 (.tmp 8)⟩
def p11_22_2 : RO := ⟨none, some 23, .call ⟨.value (.func 31), #[(.tmp 21), (.tmp 22)], #[3, 29]⟩⟩
def o11_22 : List RO := [p11_22_0, p11_22_1, p11_22_2]
def x11_22 : RC := .ops o11_22
def x11_23 : RC := .cond (.tmp 23) (.exit 0) .skip
def x11_21 : RC := .seq x11_22 x11_23
def x11_15 : RC := .seq x11_16 x11_21
def x11_14 : RC := .block 1 x11_15
noncomputable def a11_0 : Code := (rangeOf Try.f11 0).1
noncomputable def b11_0 : Code := (rangeOf Try.f11 0).2
theorem a11_0_rc : rc a11_0 = x11_13 := by kernel_rfl
theorem b11_0_rc : rc b11_0 = x11_14 := by kernel_rfl
noncomputable def x11_12 : RC := .range (.tmp 15) #[16, 17] a11_0 b11_0
noncomputable def x11_11 : RC := .block 0 x11_12
noncomputable def x11_9 : RC := .seq x11_10 x11_11
def p11_25_0 : RO := ⟨none, none, .store 4 (.tmp 6) (.const (.bool false))⟩
def o11_25 : List RO := [p11_25_0]
def x11_25 : RC := .ops o11_25
def x11_24 : RC := .seq x11_25 .ret
noncomputable def x11_8 : RC := .seq x11_9 x11_24
noncomputable def x11_2 : RC := .seq x11_3 x11_8
noncomputable def x11_0 : RC := .seq x11_1 x11_2
theorem x11_eq : Try.f11.body.map rc = some x11_0 := by kernel_rfl
def p28_1_0 : RO := ⟨none, some 1, .box 29 (.tmp 0)⟩
def p28_1_1 : RO := ⟨none, some 2, .alloc 29⟩
def o28_1 : List RO := [p28_1_0, p28_1_1]
def x28_1 : RC := .ops o28_1
def p28_3_0 : RO := ⟨none, some 3, .fieldAddr 29 (.tmp 1) 3⟩
def p28_3_1 : RO := ⟨none, some 4, .load 27 (.tmp 3)⟩
def p28_3_2 : RO := ⟨none, some 5, .call ⟨.value (.func 49), #[(.tmp 4)], #[27]⟩⟩
def p28_3_3 : RO := ⟨none, some 6, .fieldAddr 29 (.tmp 1) 3⟩
def p28_3_4 : RO := ⟨none, none, .store 27 (.tmp 6) (.tmp 5)⟩
def o28_3 : List RO := [p28_3_0, p28_3_1, p28_3_2, p28_3_3, p28_3_4]
def x28_3 : RC := .ops o28_3
def p28_5_0 : RO := ⟨none, some 7, .load 29 (.tmp 1)⟩
def p28_5_1 : RO := ⟨none, none, .store 29 (.tmp 2) (.tmp 7)⟩
def o28_5 : List RO := [p28_5_0, p28_5_1]
def x28_5 : RC := .ops o28_5
def x28_4 : RC := .seq x28_5 .ret
def x28_2 : RC := .seq x28_3 x28_4
def x28_0 : RC := .seq x28_1 x28_2
theorem x28_eq : Try.f28.body.map rc = some x28_0 := by kernel_rfl
def p29_1_0 : RO := ⟨none, some 1, .box 22 (.tmp 0)⟩
def p29_1_1 : RO := ⟨none, some 2, .assign (.const (.nilFunc))⟩
def o29_1 : List RO := [p29_1_0, p29_1_1]
def x29_1 : RC := .ops o29_1
def p29_3_0 : RO := ⟨none, some 3, .makeFunc (.func 50) #[] #[(.tmp 1)]⟩
def p29_3_1 : RO := ⟨none, some 2, .assign (.tmp 3)⟩
def o29_3 : List RO := [p29_3_0, p29_3_1]
def x29_3 : RC := .ops o29_3
def x29_2 : RC := .seq x29_3 .ret
def x29_0 : RC := .seq x29_1 x29_2
theorem x29_eq : Try.f29.body.map rc = some x29_0 := by kernel_rfl
def p30_1_0 : RO := ⟨none, some 2, .box 29 (.tmp 0)⟩
def p30_1_1 : RO := ⟨none, some 4, .assign (.const (.bool false))⟩
def o30_1 : List RO := [p30_1_0, p30_1_1]
def x30_1 : RC := .ops o30_1
def p30_3_0 : RO := ⟨none, some 5, .fieldAddr 29 (.tmp 2) 1⟩
def p30_3_1 : RO := ⟨none, some 6, .load 3 (.tmp 5)⟩
def p30_3_2 : RO := ⟨none, some 7, .binOp .eql 3 (.tmp 6) (.const (.int .i64 (0))) 3⟩
def p30_3_3 : RO := ⟨none, some 8, .move (.tmp 7)⟩
def p30_3_4 : RO := ⟨some (some 8, true), some 9, .move (.tmp 1)⟩
def p30_3_5 : RO := ⟨some (some 8, true), some 10, .fieldAddr 29 (.tmp 2) 2⟩
def p30_3_6 : RO := ⟨some (some 8, true), some 11, .load 9 (.tmp 10)⟩
def p30_3_7 : RO := ⟨some (some 8, true), some 12, .call ⟨.value (.func 51), #[(.tmp 9), (.tmp 11)], #[44, 9]⟩⟩
def p30_3_8 : RO := ⟨none, some 13, .pick (.tmp 8) (.tmp 12) (.const (.bool false))⟩
def p30_3_9 : RO := ⟨none, some 4, .assign (.tmp 13)⟩
def o30_3 : List RO := [p30_3_0, p30_3_1, p30_3_2, p30_3_3, p30_3_4, p30_3_5, p30_3_6, p30_3_7, p30_3_8, p30_3_9]
def x30_3 : RC := .ops o30_3
def x30_2 : RC := .seq x30_3 .ret
def x30_0 : RC := .seq x30_1 x30_2
theorem x30_eq : Try.f30.body.map rc = some x30_0 := by kernel_rfl
def p31_1_0 : RO := ⟨none, some 3, .box 29 (.tmp 1)⟩
def p31_1_1 : RO := ⟨none, some 4, .assign (.const (.bool false))⟩
def o31_1 : List RO := [p31_1_0, p31_1_1]
def x31_1 : RC := .ops o31_1
def p31_4_0 : RO := ⟨none, some 6, .move (.tmp 0)⟩
def p31_4_1 : RO := ⟨none, some 7, .binOp .eql 3 (.tmp 6) (.const (.int .i64 (3))) 3⟩
def o31_4 : List RO := [p31_4_0, p31_4_1]
def x31_4 : RC := .ops o31_4
def p31_7_0 : RO := ⟨none, some 8, .load 29 (.tmp 3)⟩
def p31_7_1 : RO := ⟨none, some 9, .buildSlice 44 2 #[(0, (.const (.string ⟨#[104, 116, 109, 108]⟩))), (1, (.const (.string ⟨#[116, 97, 98, 108, 101]⟩)))]⟩
def p31_7_2 : RO := ⟨none, some 10, .call ⟨.value (.func 30), #[(.tmp 8), (.tmp 9)], #[29, 44]⟩⟩
def p31_7_3 : RO := ⟨none, some 4, .assign (.tmp 10)⟩
def o31_7 : List RO := [p31_7_0, p31_7_1, p31_7_2, p31_7_3]
def x31_7 : RC := .ops o31_7
def x31_6 : RC := .seq x31_7 .ret
def x31_5 : RC := .cond (.tmp 7) x31_6 .skip
def x31_3 : RC := .seq x31_4 x31_5
def p31_9_0 : RO := ⟨none, some 5, .assign (.const (.string ⟨#[]⟩))⟩
def o31_9 : List RO := [p31_9_0]
def x31_9 : RC := .ops o31_9
def p31_12_0 : RO := ⟨none, some 11, .fieldAddr 29 (.tmp 3) 1⟩
def p31_12_1 : RO := ⟨none, some 12, .load 3 (.tmp 11)⟩
def o31_12 : List RO := [p31_12_0, p31_12_1]
def x31_12 : RC := .ops o31_12
def p31_15_0 : RO := ⟨none, some 14, .binOp .eql 3 (.tmp 12) (.const (.int .i64 (0))) 3⟩
def p31_15_1 : RO := ⟨none, some 13, .assign (.tmp 14)⟩
def o31_15 : List RO := [p31_15_0, p31_15_1]
def x31_15 : RC := .ops o31_15
def p31_18_0 : RO := ⟨none, some 5, .assign (.const (.string ⟨#[32, 97, 112, 112, 108, 101, 116, 32, 99, 97, 112, 116, 105, 111, 110, 32, 104, 116, 109, 108, 32, 116, 97, 98, 108, 101, 32, 116, 100, 32, 116, 104, 32, 109, 97, 114, 113, 117, 101, 101, 32, 111, 98, 106, 101, 99, 116, 32]⟩))⟩
def o31_18 : List RO := [p31_18_0]
def x31_18 : RC := .ops o31_18
def p31_20_0 : RO := ⟨none, some 15, .move (.tmp 0)⟩
def o31_20 : List RO := [p31_20_0]
def x31_20 : RC := .ops o31_20
def p31_23_0 : RO := ⟨none, some 17, .binOp .eql 3 (.tmp 15) (.const (.int .i64 (1))) 3⟩
def p31_23_1 : RO := ⟨none, some 16, .assign (.tmp 17)⟩
def o31_23 : List RO := [p31_23_0, p31_23_1]
def x31_23 : RC := .ops o31_23
def p31_25_0 : RO := ⟨none, some 18, .move (.tmp 5)⟩
def p31_25_1 : RO := ⟨none, some 19, .binOp .add 9 (.tmp 18) (.const (.string ⟨#[111, 108, 32, 117, 108, 32]⟩)) 9⟩
def p31_25_2 : RO := ⟨none, some 5, .assign (.tmp 19)⟩
def o31_25 : List RO := [p31_25_0, p31_25_1, p31_25_2]
def x31_25 : RC := .ops o31_25
def p31_27_0 : RO := ⟨none, some 21, .binOp .eql 3 (.tmp 15) (.const (.int .i64 (2))) 3⟩
def p31_27_1 : RO := ⟨none, some 20, .assign (.tmp 21)⟩
def o31_27 : List RO := [p31_27_0, p31_27_1]
def x31_27 : RC := .ops o31_27
def p31_29_0 : RO := ⟨none, some 22, .move (.tmp 5)⟩
def p31_29_1 : RO := ⟨none, some 23, .binOp .add 9 (.tmp 22) (.const (.string ⟨#[98, 117, 116, 116, 111, 110, 32]⟩)) 9⟩
def p31_29_2 : RO := ⟨none, some 5, .assign (.tmp 23)⟩
def o31_29 : List RO := [p31_29_0, p31_29_1, p31_29_2]
def x31_29 : RC := .ops o31_29
def x31_28 : RC := .cond (.tmp 20) x31_29 .skip
def x31_26 : RC := .seq x31_27 x31_28
def x31_24 : RC := .cond (.tmp 16) x31_25 x31_26
def x31_22 : RC := .seq x31_23 x31_24
def x31_21 : RC := .block 1 x31_22
def x31_19 : RC := .seq x31_20 x31_21
def x31_17 : RC := .seq x31_18 x31_19
def p31_31_0 : RO := ⟨none, some 25, .binOp .eql 3 (.tmp 12) (.const (.int .i64 (2))) 3⟩
def p31_31_1 : RO := ⟨none, some 24, .assign (.tmp 25)⟩
def o31_31 : List RO := [p31_31_0, p31_31_1]
def x31_31 : RC := .ops o31_31
def p31_33_0 : RO := ⟨none, some 5, .assign (.const (.string ⟨#[32, 109, 105, 32, 109, 111, 32, 109, 110, 32, 109, 115, 32, 109, 116, 101, 120, 116, 32]⟩))⟩
def o31_33 : List RO := [p31_33_0]
def x31_33 : RC := .ops o31_33
def p31_35_0 : RO := ⟨none, some 27, .binOp .eql 3 (.tmp 12) (.const (.int .i64 (1))) 3⟩
def p31_35_1 : RO := ⟨none, some 26, .assign (.tmp 27)⟩
def o31_35 : List RO := [p31_35_0, p31_35_1]
def x31_35 : RC := .ops o31_35
def p31_37_0 : RO := ⟨none, some 5, .assign (.const (.string ⟨#[32, 102, 111, 114, 101, 105, 103, 110, 79, 98, 106, 101, 99, 116, 32, 100, 101, 115, 99, 32, 116, 105, 116, 108, 101, 32]⟩))⟩
def o31_37 : List RO := [p31_37_0]
def x31_37 : RC := .ops o31_37
def x31_36 : RC := .cond (.tmp 26) x31_37 .skip
def x31_34 : RC := .seq x31_35 x31_36
def x31_32 : RC := .cond (.tmp 24) x31_33 x31_34
def x31_30 : RC := .seq x31_31 x31_32
def x31_16 : RC := .cond (.tmp 13) x31_17 x31_30
def x31_14 : RC := .seq x31_15 x31_16
def x31_13 : RC := .block 0 x31_14
def x31_11 : RC := .seq x31_12 x31_13
def p31_39_0 : RO := ⟨none, some 28, .fieldAddr 29 (.tmp 3) 2⟩
def p31_39_1 : RO := ⟨none, some 29, .load 9 (.tmp 28)⟩
def p31_39_2 : RO := ⟨none, some 30, .binOp .neq 9 (.tmp 29) (.const (.string ⟨#[]⟩)) 9⟩
def p31_39_3 : RO := ⟨none, some 31, .move (.tmp 30)⟩
def p31_39_4 : RO := ⟨some (some 31, true), some 32, .fieldAddr 29 (.tmp 3) 2⟩
def p31_39_5 : RO := ⟨some (some 31, true), some 33, .load 9 (.tmp 32)⟩
def p31_39_6 : RO := ⟨some (some 31, true), some 34, .call ⟨.value (.func 52), #[(.tmp 33), (.const (.string ⟨#[32]⟩))], #[9, 9]⟩⟩
def p31_39_7 : RO := ⟨some (some 31, true), some 35, .unOp .not 4 (.tmp 34)⟩
def p31_39_8 : RO := ⟨none, some 36, .pick (.tmp 31) (.tmp 35) (.const (.bool false))⟩
def p31_39_9 : RO := ⟨none, some 37, .move (.tmp 36)⟩
def p31_39_10 : RO := ⟨some (some 37, true), some 38, .move (.tmp 5)⟩
def p31_39_11 : RO := ⟨some (some 37, true), some 39, .fieldAddr 29 (.tmp 3) 2⟩
def p31_39_12 : RO := ⟨some (some 37, true), some 40, .load 9 (.tmp 39)⟩
def p31_39_13 : RO := ⟨some (some 37, true), some 41, .binOp .add 9 (.const (.string ⟨#[32]⟩)) (.tmp 40) 9⟩
def p31_39_14 : RO := ⟨some (some 37, true), some 42, .binOp .add 9 (.tmp 41) (.const (.string ⟨#[32]⟩)) 9⟩
def p31_39_15 : RO := ⟨some (some 37, true), some 43, .call ⟨.value (.func 52), #[(.tmp 38), (.tmp 42)], #[9, 9]⟩⟩
def p31_39_16 : RO := ⟨none, some 44, .pick (.tmp 37) (.tmp 43) (.const (.bool false))⟩
def p31_39_17 : RO := ⟨none, some 4, .assign (.tmp 44)⟩
def o31_39 : List RO := [p31_39_0, p31_39_1, p31_39_2, p31_39_3, p31_39_4, p31_39_5, p31_39_6, p31_39_7, p31_39_8, p31_39_9, p31_39_10, p31_39_11, p31_39_12, p31_39_13, p31_39_14, p31_39_15, p31_39_16, p31_39_17]
def x31_39 : RC := .ops o31_39
def x31_38 : RC := .seq x31_39 .ret
def x31_10 : RC := .seq x31_11 x31_38
def x31_8 : RC := .seq x31_9 x31_10
def x31_2 : RC := .seq x31_3 x31_8
def x31_0 : RC := .seq x31_1 x31_2
theorem x31_eq : Try.f31.body.map rc = some x31_0 := by kernel_rfl
def p49_1_0 : RO := ⟨none, some 2, .assign (.const (.slice none 0 0))⟩
def o49_1 : List RO := [p49_1_0]
def x49_1 : RC := .ops o49_1
def p49_4_0 : RO := ⟨none, some 3, .move (.tmp 0)⟩
def p49_4_1 : RO := ⟨none, some 4, .binOp .eql 27 (.tmp 3) (.const (.slice none 0 0)) 27⟩
def o49_4 : List RO := [p49_4_0, p49_4_1]
def x49_4 : RC := .ops o49_4
def p49_7_0 : RO := ⟨none, some 2, .assign (.const (.slice none 0 0))⟩
def o49_7 : List RO := [p49_7_0]
def x49_7 : RC := .ops o49_7
def x49_6 : RC := .seq x49_7 .ret
def x49_5 : RC := .cond (.tmp 4) x49_6 .skip
def x49_3 : RC := .seq x49_4 x49_5
def p49_9_0 : RO := ⟨none, some 5, .buildSlice 27 0 #[]⟩
def p49_9_1 : RO := ⟨none, some 6, .move (.tmp 0)⟩
def p49_9_2 : RO := ⟨none, some 7, .call ⟨.builtin .append, #[(.tmp 5), (.tmp 6)], #[27, 27]⟩⟩
def p49_9_3 : RO := ⟨none, some 2, .assign (.tmp 7)⟩
def o49_9 : List RO := [p49_9_0, p49_9_1, p49_9_2, p49_9_3]
def x49_9 : RC := .ops o49_9
def x49_8 : RC := .seq x49_9 .ret
def x49_2 : RC := .seq x49_3 x49_8
def x49_0 : RC := .seq x49_1 x49_2
theorem x49_eq : Try.f49.body.map rc = some x49_0 := by kernel_rfl
def p50_1_0 : RO := ⟨none, some 4, .load 22 (.tmp 1)⟩
def p50_1_1 : RO := ⟨none, some 5, .call ⟨.builtin .len, #[(.tmp 4)], #[22]⟩⟩
def p50_1_2 : RO := ⟨none, some 6, .binOp .sub 3 (.tmp 5) (.const (.int .i64 (1))) 3⟩
def p50_1_3 : RO := ⟨none, some 3, .assign (.tmp 6)⟩
def o50_1 : List RO := [p50_1_0, p50_1_1, p50_1_2, p50_1_3]
def x50_1 : RC := .ops o50_1
def p50_6_0 : RO := ⟨none, some 7, .move (.tmp 3)⟩
def p50_6_1 : RO := ⟨none, some 8, .binOp .geq 3 (.tmp 7) (.const (.int .i64 (0))) 3⟩
def o50_6 : List RO := [p50_6_0, p50_6_1]
def x50_6 : RC := .ops o50_6
def x50_7 : RC := .cond (.tmp 8) .skip (.exit 0)
def x50_5 : RC := .seq x50_6 x50_7
def p50_11_0 : RO := ⟨none, some 11, .move (.tmp 0)⟩
def p50_11_1 : RO := ⟨none, some 12, .move (.tmp 3)⟩
def p50_11_2 : RO := ⟨none, some 13, .load 22 (.tmp 1)⟩
def p50_11_3 : RO := ⟨none, some 14, .move (.tmp 3)⟩
def p50_11_4 : RO := ⟨none, some 15, .indexAddr 22 (.tmp 13) (.tmp 14)⟩
def p50_11_5 : RO := ⟨none, some 16, .load 29 (.tmp 15)⟩
def p50_11_6 : RO := ⟨none, some 17, .call ⟨.value (.tmp 11), #[(.tmp 12), (.tmp 16)], #[3, 29]⟩⟩
def p50_11_7 : RO := ⟨none, some 18, .unOp .not 4 (.tmp 17)⟩
def o50_11 : List RO := [p50_11_0, p50_11_1, p50_11_2, p50_11_3, p50_11_4, p50_11_5, p50_11_6, p50_11_7]
def x50_11 : RC := .ops o50_11
def x50_12 : RC := .cond (.tmp 18) .ret .skip
def x50_10 : RC := .seq x50_11 x50_12
def x50_9 : RC := .block 1 x50_10
def p50_13_0 : RO := ⟨none, some 9, .move (.tmp 3)⟩
def p50_13_1 : RO := ⟨none, some 10, .binOp .sub 3 (.tmp 9) (.const (.int .i64 (1))) 3⟩
def p50_13_2 : RO := ⟨none, some 3, .assign (.tmp 10)⟩
def o50_13 : List RO := [p50_13_0, p50_13_1, p50_13_2]
def x50_13 : RC := .ops o50_13
def x50_8 : RC := .seq x50_9 x50_13
def x50_4 : RC := .seq x50_5 x50_8
def x50_3 : RC := .loop x50_4
def x50_2 : RC := .block 0 x50_3
def x50_0 : RC := .seq x50_1 x50_2
theorem x50_eq : Try.f50.body.map rc = some x50_0 := by kernel_rfl
def p51_1_0 : RO := ⟨none, some 4, .assign (.const (.bool false))⟩
def o51_1 : List RO := [p51_1_0]
def x51_1 : RC := .ops o51_1
def p51_3_0 : RO := ⟨none, some 5, .move (.tmp 0)⟩
def p51_3_1 : RO := ⟨none, some 6, .move (.tmp 1)⟩
def p51_3_2 : RO := ⟨none, some 7, .call ⟨.value (.func 59), #[(.tmp 5), (.tmp 6)], #[44, 9]⟩⟩
def p51_3_3 : RO := ⟨none, some 8, .binOp .geq 3 (.tmp 7) (.const (.int .i64 (0))) 3⟩
def p51_3_4 : RO := ⟨none, some 4, .assign (.tmp 8)⟩
def o51_3 : List RO := [p51_3_0, p51_3_1, p51_3_2, p51_3_3, p51_3_4]
def x51_3 : RC := .ops o51_3
def x51_2 : RC := .seq x51_3 .ret
def x51_0 : RC := .seq x51_1 x51_2
theorem x51_eq : Try.f51.body.map rc = some x51_0 := by kernel_rfl
def p53_1_0 : RO := ⟨none, some 4, .assign (.const (.bool false))⟩
def o53_1 : List RO := [p53_1_0]
def x53_1 : RC := .ops o53_1
def p53_3_0 : RO := ⟨none, some 5, .move (.tmp 1)⟩
def p53_3_1 : RO := ⟨none, some 6, .binOp .neq 9 (.tmp 5) (.const (.string ⟨#[]⟩)) 9⟩
def p53_3_2 : RO := ⟨none, some 7, .move (.tmp 6)⟩
def p53_3_3 : RO := ⟨some (some 7, true), some 8, .move (.tmp 1)⟩
def p53_3_4 : RO := ⟨some (some 7, true), some 9, .call ⟨.value (.func 52), #[(.tmp 8), (.const (.string ⟨#[32]⟩))], #[9, 9]⟩⟩
def p53_3_5 : RO := ⟨some (some 7, true), some 10, .unOp .not 4 (.tmp 9)⟩
def p53_3_6 : RO := ⟨none, some 11, .pick (.tmp 7) (.tmp 10) (.const (.bool false))⟩
def p53_3_7 : RO := ⟨none, some 12, .move (.tmp 11)⟩
def p53_3_8 : RO := ⟨some (some 12, true), some 13, .move (.tmp 0)⟩
def p53_3_9 : RO := ⟨some (some 12, true), some 14, .move (.tmp 1)⟩
def p53_3_10 : RO := ⟨some (some 12, true), some 15, .binOp .add 9 (.const (.string ⟨#[32]⟩)) (.tmp 14) 9⟩
def p53_3_11 : RO := ⟨some (some 12, true), some 16, .binOp .add 9 (.tmp 15) (.const (.string ⟨#[32]⟩)) 9⟩
def p53_3_12 : RO := ⟨some (some 12, true), some 17, .call ⟨.value (.func 52), #[(.tmp 13), (.tmp 16)], #[9, 9]⟩⟩
def p53_3_13 : RO := ⟨none, some 18, .pick (.tmp 12) (.tmp 17) (.const (.bool false))⟩
def p53_3_14 : RO := ⟨none, some 4, .assign (.tmp 18)⟩
def o53_3 : List RO := [p53_3_0, p53_3_1, p53_3_2, p53_3_3, p53_3_4, p53_3_5, p53_3_6, p53_3_7, p53_3_8, p53_3_9, p53_3_10, p53_3_11, p53_3_12, p53_3_13, p53_3_14]
def x53_3 : RC := .ops o53_3
def x53_2 : RC := .seq x53_3 .ret
def x53_0 : RC := .seq x53_1 x53_2
theorem x53_eq : Try.f53.body.map rc = some x53_0 := by kernel_rfl
def p59_1_0 : RO := ⟨none, some 4, .assign (.const (.int .i64 (0)))⟩
def o59_1 : List RO := [p59_1_0]
def x59_1 : RC := .ops o59_1
def p59_4_0 : RO := ⟨none, some 6, .move (.tmp 0)⟩
def p59_4_1 : RO := ⟨none, some 7, .call ⟨.builtin .len, #[(.tmp 6)], #[44]⟩⟩
def p59_4_2 : RO := ⟨none, some 8, .move (.const (.int .i64 (0)))⟩
def o59_4 : List RO := [p59_4_0, p59_4_1, p59_4_2]
def x59_4 : RC := .ops o59_4
def p59_8_0 : RO := ⟨none, some 9, .binOp .lss 3 (.tmp 8) (.tmp 7) 3⟩
def o59_8 : List RO := [p59_8_0]
def x59_8 : RC := .ops o59_8
def x59_10 : RC := .cond (.tmp 9) .skip (.exit 0)
def p59_14_0 : RO := ⟨none, some 10, .move (.tmp 8)⟩
def p59_14_1 : RO := ⟨none, some 5, .assign (.tmp 10)⟩
def o59_14 : List RO := [p59_14_0, p59_14_1]
def x59_14 : RC := .ops o59_14
def p59_16_0 : RO := ⟨none, some 11, .move (.tmp 1)⟩
def p59_16_1 : RO := ⟨none, some 12, .move (.tmp 0)⟩
def p59_16_2 : RO := ⟨none, some 13, .move (.tmp 5)⟩
def p59_16_3 : RO := ⟨none, some 14, .indexAddr 44 (.tmp 12) (.tmp 13)⟩
def p59_16_4 : RO := ⟨none, some 15, .load 9 (.tmp 14)⟩
def p59_16_5 : RO := ⟨none, some 16, .binOp .eql 9 (.tmp 11) (.tmp 15) 9⟩
def o59_16 : List RO := [p59_16_0, p59_16_1, p59_16_2, p59_16_3, p59_16_4, p59_16_5]
def x59_16 : RC := .ops o59_16
def p59_19_0 : RO := ⟨none, some 17, .move (.tmp 5)⟩
def p59_19_1 : RO := ⟨none, some 4, .assign (.tmp 17)⟩
def o59_19 : List RO := [p59_19_0, p59_19_1]
def x59_19 : RC := .ops o59_19
def x59_18 : RC := .seq x59_19 .ret
def x59_17 : RC := .cond (.tmp 16) x59_18 .skip
def x59_15 : RC := .seq x59_16 x59_17
def x59_13 : RC := .seq x59_14 x59_15
def x59_12 : RC := .block 1 x59_13
def p59_20_0 : RO := ⟨none, some 18, .binOp .add 3 (.tmp 8) (.const (.int .i64 (1))) 3⟩
def p59_20_1 : RO := ⟨none, some 8, .move (.tmp 18)⟩
def o59_20 : List RO := [p59_20_0, p59_20_1]
def x59_20 : RC := .ops o59_20
def x59_11 : RC := .seq x59_12 x59_20
def x59_9 : RC := .seq x59_10 x59_11
def x59_7 : RC := .seq x59_8 x59_9
def x59_6 : RC := .loop x59_7
def x59_5 : RC := .block 0 x59_6
def x59_3 : RC := .seq x59_4 x59_5
def p59_22_0 : RO := ⟨none, some 4, .assign (.const (.int .i64 (-1)))⟩
def o59_22 : List RO := [p59_22_0]
def x59_22 : RC := .ops o59_22
def x59_21 : RC := .seq x59_22 .ret
def x59_2 : RC := .seq x59_3 x59_21
def x59_0 : RC := .seq x59_1 x59_2
theorem x59_eq : Try.f59.body.map rc = some x59_0 := by kernel_rfl
noncomputable def tab : FuncId → Option (RC × List ResultVar × Nat)
  | 3 => some (x3_0, [.tmp 4], 106)
  | 8 => some (x8_0, [.tmp 0], 3)
  | 10 => some (x10_0, [], 17)
  | 11 => some (x11_0, [.cell 6 4], 24)
  | 28 => some (x28_0, [.cell 2 29], 8)
  | 29 => some (x29_0, [.tmp 2], 4)
  | 30 => some (x30_0, [.tmp 4], 14)
  | 31 => some (x31_0, [.tmp 4], 45)
  | 49 => some (x49_0, [.tmp 2], 8)
  | 50 => some (x50_0, [], 19)
  | 51 => some (x51_0, [.tmp 4], 9)
  | 53 => some (x53_0, [.tmp 4], 19)
  | 59 => some (x59_0, [.tmp 4], 19)
  | _ => none
theorem tab_ok : TabOK Try.prog tab := by
  intro f x rs n h
  unfold tab at h
  split at h
  · injection h with h; injection h with h1 h; injection h with h2 h3; subst h1; subst h2; subst h3; exact ⟨_, Try.func3, rfl, rfl, x3_eq⟩
  · injection h with h; injection h with h1 h; injection h with h2 h3; subst h1; subst h2; subst h3; exact ⟨_, Try.func8, rfl, rfl, x8_eq⟩
  · injection h with h; injection h with h1 h; injection h with h2 h3; subst h1; subst h2; subst h3; exact ⟨_, Try.func10, rfl, rfl, x10_eq⟩
  · injection h with h; injection h with h1 h; injection h with h2 h3; subst h1; subst h2; subst h3; exact ⟨_, Try.func11, rfl, rfl, x11_eq⟩
  · injection h with h; injection h with h1 h; injection h with h2 h3; subst h1; subst h2; subst h3; exact ⟨_, Try.func28, rfl, rfl, x28_eq⟩
  · injection h with h; injection h with h1 h; injection h with h2 h3; subst h1; subst h2; subst h3; exact ⟨_, Try.func29, rfl, rfl, x29_eq⟩
  · injection h with h; injection h with h1 h; injection h with h2 h3; subst h1; subst h2; subst h3; exact ⟨_, Try.func30, rfl, rfl, x30_eq⟩
  · injection h with h; injection h with h1 h; injection h with h2 h3; subst h1; subst h2; subst h3; exact ⟨_, Try.func31, rfl, rfl, x31_eq⟩
  · injection h with h; injection h with h1 h; injection h with h2 h3; subst h1; subst h2; subst h3; exact ⟨_, Try.func49, rfl, rfl, x49_eq⟩
  · injection h with h; injection h with h1 h; injection h with h2 h3; subst h1; subst h2; subst h3; exact ⟨_, Try.func50, rfl, rfl, x50_eq⟩
  · injection h with h; injection h with h1 h; injection h with h2 h3; subst h1; subst h2; subst h3; exact ⟨_, Try.func51, rfl, rfl, x51_eq⟩
  · injection h with h; injection h with h1 h; injection h with h2 h3; subst h1; subst h2; subst h3; exact ⟨_, Try.func53, rfl, rfl, x53_eq⟩
  · injection h with h; injection h with h1 h; injection h with h2 h3; subst h1; subst h2; subst h3; exact ⟨_, Try.func59, rfl, rfl, x59_eq⟩
  · cases h
def WOK (W : World) : Prop := SomeInt W 0
theorem wok_of {W : World} (h : W.ShapedOpen Try.prog) : WOK W := Try.laysM144.s1_3 W h
theorem base : Base Try.prog := ⟨by kernel_rfl, by kernel_rfl⟩
def prim0 : FuncId → Option (List V → H → Option (V × H)) := fun _ => none
theorem prim0s (W : World) (hW : WOK W) : Prims Try.prog W prim0 := fun _ _ => PrimOK.none
structure T71 where
  fName : (List UInt8)
  fValue : (List UInt8)
instance : Inhabited T71 := ⟨⟨default, default⟩⟩
def T71.cells (x : T71) : List V := [.str x.fName, .str x.fValue]
structure T71.ok (W : World) (x : T71) : Prop where
  fName : (fun x : List UInt8 => x.length ≤ 140737488351232) x.fName
  fValue : (fun x : List UInt8 => x.length ≤ 140737488351232) x.fValue
theorem T71_form {W : World} {n : Nat} {cs : List V} (h : Wf Try.prog W n 71 cs) : ∃ x : T71, cs = x.cells ∧ x.ok W := by
  have e9 : Try.prog.cellsOf 9 = 1 := by kernel_rfl
  have e71 : Try.prog.cellsOf 71 = 2 := by kernel_rfl
  cases n with
  | zero => exact h.elim
  | succ n =>
    simp only [Wf, Try.underlying71, e71] at h
    obtain ⟨hl, hf⟩ := h
    match cs, hl with
    | [c0, c1], _ =>
      simp only [List.mem_cons, forall_eq_or_imp, List.not_mem_nil, false_implies, implies_true, and_true, e9, e71, List.drop_zero, List.drop_succ_cons, List.take_succ_cons, List.take_zero] at hf
      obtain ⟨h0, h1⟩ := hf
      obtain ⟨v0, rfl, r0⟩ := wf_strR Try.underlying9 h0
      obtain ⟨v1, rfl, r1⟩ := wf_strR Try.underlying9 h1
      exact ⟨⟨v0, v1⟩, rfl, ⟨r0, r1⟩⟩
structure T29 where
  fId : Int
  fSpace : Int
  fName : (List UInt8)
  fAttrs : (SlV T71)
instance : Inhabited T29 := ⟨⟨default, default, default, default⟩⟩
def T29.cells (x : T29) : List V := [.int .i64 x.fId, .int .i64 x.fSpace, .str x.fName, .slice x.fAttrs.a x.fAttrs.l.length x.fAttrs.cap true]
structure T29.ok (W : World) (x : T29) : Prop where
  fId : (fun x => -9223372036854775808 ≤ x ∧ x ≤ 9223372036854775807) x.fId
  fSpace : (fun x => -9223372036854775808 ≤ x ∧ x ≤ 9223372036854775807) x.fSpace
  fName : (fun x : List UInt8 => x.length ≤ 140737488351232) x.fName
  fAttrs : (SlV.ok W 2 32 T71.cells (T71.ok W)) x.fAttrs
theorem T29_form {W : World} {n : Nat} {cs : List V} (h : Wf Try.prog W n 29 cs) : ∃ x : T29, cs = x.cells ∧ x.ok W := by
  have e3 : Try.prog.cellsOf 3 = 1 := by kernel_rfl
  have e9 : Try.prog.cellsOf 9 = 1 := by kernel_rfl
  have e27 : Try.prog.cellsOf 27 = 1 := by kernel_rfl
  have e29 : Try.prog.cellsOf 29 = 4 := by kernel_rfl
  cases n with
  | zero => exact h.elim
  | succ n =>
    simp only [Wf, Try.underlying29, e29] at h
    obtain ⟨hl, hf⟩ := h
    match cs, hl with
    | [c0, c1, c2, c3], _ =>
      simp only [List.mem_cons, forall_eq_or_imp, List.not_mem_nil, false_implies, implies_true, and_true, e3, e9, e27, e29, List.drop_zero, List.drop_succ_cons, List.take_succ_cons, List.take_zero] at hf
      obtain ⟨h0, h1, h2, h3⟩ := hf
      obtain ⟨v0, rfl, r0⟩ := wf_i64 Try.underlying3 h0
      obtain ⟨v1, rfl, r1⟩ := wf_i64 Try.underlying3 h1
      obtain ⟨v2, rfl, r2⟩ := wf_strR Try.underlying9 h2
      obtain ⟨v3, rfl, r3⟩ := wf_sl (f := T71.cells) (G := (T71.ok W)) (z := 2) (B := 32) Try.underlying27 (by kernel_rfl) (by kernel_rfl) (fun _ _ h => T71_form h) h3
      exact ⟨⟨v0, v1, v2, v3⟩, rfl, ⟨r0, r1, r2, r3⟩⟩
def q52 (l : List V) : Option V :=
  match l with
  | [.str s, .str t] => if s.length < 4294967281 ∨ t.length = 1 then some (.bool (Lib.contains s t)) else none
  | _ => none
def prim1 : FuncId → Option (List V → H → Option (V × H)) := setPrim prim0 52 q52
theorem prim1s (W : World) (hW : WOK W) : Prims Try.prog W prim1 := by
  refine Prims.addC (prim0s W hW) ⟨_, _, Try.func52, rfl⟩ ?_
  intro w hb args v h μ args' hv
  unfold q52 at h
  split at h
  · split at h
    · rename_i hc
      injection h with h; subst h
      obtain ⟨a, b, rfl, rfl, rfl⟩ := hv.strs2
      obtain ⟨m, hm⟩ := SomeInt.below hW hb
      have hl : a.size = a.data.toList.length := by rw [Array.length_toList]; rfl
      rcases hc with hc | hc
      · refine (Try.strings_Contains a b m w (by omega) hm).mono ?_
        rintro e w' ⟨rfl, rfl⟩
        exact ⟨_, rfl, by simp [VR], rfl⟩
      · obtain ⟨x, hx⟩ : ∃ x, b.data.toList = [x] := by
          match b.data.toList, hc with
          | [x], _ => exact ⟨x, rfl⟩
        have hbx : b = ⟨#[x]⟩ := by
          cases b with
          | mk d => simp at hx; rw [← hx]
        subst hbx
        refine (Try.strings_Contains_one a x w).mono ?_
        rintro e w' ⟨rfl, rfl⟩
        exact ⟨_, rfl, by simp [VR, Lib.contains, Lib.index_one], rfl⟩
    · cases h
  · cases h
def E0 (t : List UInt8) (s : List UInt8) : List V := (.str t :: .str s :: U :: U :: .bool false :: .str s :: .bool (!(s == [])) :: .bool true :: .str s :: .bool (Lib.contains s [32]) :: .bool (!(Lib.contains s [32])) :: .bool (!(Lib.contains s [32])) :: .bool (!(Lib.contains s [32])) :: us 6)
def E1 (t : List UInt8) (s : List UInt8) : List V := (.str t :: .str s :: U :: U :: .bool (Lib.contains t (([32] ++ s) ++ [32])) :: .str s :: .bool (!(s == [])) :: .bool true :: .str s :: .bool (Lib.contains s [32]) :: .bool (!(Lib.contains s [32])) :: .bool (!(Lib.contains s [32])) :: .bool true :: .str t :: .str s :: .str ([32] ++ s) :: .str (([32] ++ s) ++ [32]) :: .bool (Lib.contains t (([32] ++ s) ++ [32])) :: .bool (Lib.contains t (([32] ++ s) ++ [32])) :: [])
def E2 (t : List UInt8) (s : List UInt8) : List V := (.str t :: .str s :: U :: U :: .bool false :: .str s :: .bool (!(s == [])) :: .bool false :: U :: U :: U :: .bool false :: .bool false :: U :: U :: U :: U :: U :: .bool false :: [])
theorem vin_ok {W : World} {t s : List UInt8} (h1 : tableOk t = true) (h2 : t.length < 4294967281) (h3 : s.length < 4294967281) : WpF Try.prog W prim1 53 [.str t, .str s] H.empty (fun v _ => v = .bool (among s t)) := by
  refine WpF.m tab_ok (by kernel_rfl) rfl ?_
  refine WpM.cfg (c' := ⟨.code x53_0, [], (.str t :: .str s :: us 17), [], H.empty, none⟩) (by kernel_rfl) ?_
  refine WpM.run tab_ok 10 ⟨.ops (p53_3_3 :: o53_3.drop 4), [.seq .ret], (.str t :: .str s :: U :: U :: .bool false :: .str s :: .bool (!(s == [])) :: .bool (!(s == [])) :: us 11), [], H.empty, none⟩ (by kernel_rfl) ?_
  refine WpM.guard (b := (!(s == []))) (by kernel_rfl) (fun c1 => ?_) (fun c1 => ?_)
  · have c1p := nbeq_t c1
    refine WpM.run tab_ok 1 ⟨.ops (p53_3_4 :: o53_3.drop 5), [.seq .ret], (.str t :: .str s :: U :: U :: .bool false :: .str s :: .bool (!(s == [])) :: .bool true :: .str s :: us 10), [], H.empty, none⟩ (by kernel_rfl) ?_
    refine WpM.givenQ (f := 52) (args := [.str s, .str [32]]) (q := q52) (.bool (Lib.contains s [32])) (by kernel_rfl) (by kernel_rfl) (by kernel_rfl) (by simp only [q52]; rw [if_pos (.inr rfl)]) ?_
    refine WpM.run tab_ok 3 ⟨.ops (p53_3_8 :: o53_3.drop 9), [.seq .ret], (E0 t s), [], H.empty, none⟩ (by kernel_rfl) ?_
    refine WpM.guard (b := (!(Lib.contains s [32]))) (by kernel_rfl) (fun c2 => ?_) (fun c2 => ?_)
    · have c2p := not_t c2
      refine WpM.run tab_ok 2 ⟨.ops (p53_3_10 :: o53_3.drop 11), [.seq .ret], ((((E0 t s).set 12 (.bool true)).set 13 (.str t)).set 14 (.str s)), [], H.empty, none⟩ (by kernel_rfl) ?_
      refine WpM.op (.str ([32] ++ s)) _ (by kernel_rfl) (concat_str (by kernel_rfl) (by kernel_rfl) (by (try simp only [List.length_append, List.length_cons, List.length_nil]); omega)) ?_
      refine WpM.run tab_ok 0 ⟨.ops (p53_3_11 :: o53_3.drop 12), [.seq .ret], (((((E0 t s).set 12 (.bool true)).set 13 (.str t)).set 14 (.str s)).set 15 (.str ([32] ++ s))), [], H.empty, none⟩ (by kernel_rfl) ?_
      refine WpM.op (.str (([32] ++ s) ++ [32])) _ (by kernel_rfl) (concat_str (by kernel_rfl) (by kernel_rfl) (by (try simp only [List.length_append, List.length_cons, List.length_nil]); omega)) ?_
      refine WpM.run tab_ok 0 ⟨.ops (p53_3_12 :: o53_3.drop 13), [.seq .ret], ((((((E0 t s).set 12 (.bool true)).set 13 (.str t)).set 14 (.str s)).set 15 (.str ([32] ++ s))).set 16 (.str (([32] ++ s) ++ [32]))), [], H.empty, none⟩ (by kernel_rfl) ?_
      refine WpM.givenQ (f := 52) (args := [.str t, .str (([32] ++ s) ++ [32])]) (q := q52) (.bool (Lib.contains t (([32] ++ s) ++ [32]))) (by kernel_rfl) (by kernel_rfl) (by kernel_rfl) (by simp only [q52]; rw [if_pos (.inl (by omega))]) ?_
      refine WpM.run tab_ok 5 ⟨.done .ret, [], (E1 t s), [], H.empty, none⟩ (by kernel_rfl) ?_
      refine WpM.ret (.bool (Lib.contains t (([32] ++ s) ++ [32]))) H.empty (by kernel_rfl) (by kernel_rfl) ?_
      rw [← among_in h1]; simp only [(of_not_t c1), (of_not_t c2), Bool.true_and, Bool.false_and, Bool.and_true, Bool.and_false, Bool.or_false, Bool.false_or, Bool.true_or, Bool.or_true, Bool.not_true, Bool.not_false, List.cons_append, List.nil_append]
    · have c2p := not_f c2
      refine WpM.run tab_ok 10 ⟨.done .ret, [], (((E0 t s).set 12 (.bool false)).set 18 (.bool false)), [], H.empty, none⟩ (by kernel_rfl) ?_
      refine WpM.ret (.bool false) H.empty (by kernel_rfl) (by kernel_rfl) ?_
      rw [← among_in h1]; simp only [(of_not_t c1), (of_not_f c2), Bool.true_and, Bool.false_and, Bool.and_true, Bool.and_false, Bool.or_false, Bool.false_or, Bool.true_or, Bool.or_true, Bool.not_true, Bool.not_false, List.cons_append, List.nil_append]
  · have c1p := nbeq_f c1
    refine WpM.run tab_ok 15 ⟨.done .ret, [], (E2 t s), [], H.empty, none⟩ (by kernel_rfl) ?_
    refine WpM.ret (.bool false) H.empty (by kernel_rfl) (by kernel_rfl) ?_
    rw [← among_in h1]; simp only [(of_not_f c1), Bool.true_and, Bool.false_and, Bool.and_true, Bool.and_false, Bool.or_false, Bool.false_or, Bool.true_or, Bool.or_true, Bool.not_true, Bool.not_false, List.cons_append, List.nil_append]
def q53 (l : List V) : Option V :=
  match l with
  | [.str t, .str s] => if tableOk t = true ∧ t.length < 4294967281 ∧ s.length < 4294967281 then some (.bool (among s t)) else none
  | _ => none
def prim2 : FuncId → Option (List V → H → Option (V × H)) := setPrim prim1 53 q53
theorem prim2s (W : World) (hW : WOK W) : Prims Try.prog W prim2 := by
  refine Prims.add base (prim1s W hW) ⟨_, _, Try.func53, rfl⟩ ?_
  intro w _ args v h
  unfold q53 at h
  split at h
  · split at h
    · rename_i hc; injection h with h; subst h; exact ⟨by simp only [old_cons, old_nil, old_int, old_str, old_bool, old_agg, old_tup, old_nils, Bool.and_true, Bool.true_and, hc], by simp only [old_cons, old_nil, old_int, old_str, old_bool, old_agg, old_tup, old_nils, Bool.and_true, Bool.true_and, hc], vin_ok hc.1 hc.2.1 hc.2.2⟩
    · cases h
  · cases h
def q9 (l : List V) : Option V :=
  match l with
  | [] => some (.bool true)
  | _ => none
def prim3 : FuncId → Option (List V → H → Option (V × H)) := setPrim prim2 9 q9
theorem prim3s (W : World) (hW : WOK W) : Prims Try.prog W prim3 := by
  refine Prims.add base (prim2s W hW) ⟨_, _, Try.func9, rfl⟩ ?_
  intro w _ args v h
  unfold q9 at h
  split at h
  · injection h with h; subst h; exact ⟨by simp only [old_cons, old_nil, old_int, old_str, old_bool, old_agg, old_tup, old_nils, Bool.and_true, Bool.true_and], by simp only [old_cons, old_nil, old_int, old_str, old_bool, old_agg, old_tup, old_nils, Bool.and_true, Bool.true_and], WpF.found (n := 100) (by kernel_rfl)⟩
  · cases h
structure R16 where
  id : Int
  sp : Int
  nm : List UInt8
  a : Option Ad
  n : Nat
  m : Nat
  x : Bool
instance : Inhabited R16 := ⟨⟨0, 0, [], none, 0, 0, true⟩⟩
def R16.cells (x : R16) : List V := [.int .i64 x.id, .int .i64 x.sp, .str x.nm, .slice x.a x.n x.m x.x]
def E3 (id : Int) (sp : Int) (nm : List UInt8) (cap : Nat) (p1 : Nat) (p4 : Nat) : List V := [.agg [.int .i64 id, .int .i64 sp, .str nm, .slice none 0 cap true], .ptr (some (.new p1 0)), .ptr (some (.new p4 0)), .ptr (some (.new p1 3)), .slice none 0 cap true, U, U, U]
theorem own_nil {W : World} {id sp : Int} {nm : List UInt8} {cap : Nat} (h : H) : WpF Try.prog W prim3 28 [.agg [.int .i64 id, .int .i64 sp, .str nm, .slice none 0 cap true]] h (fun v h' => HX h h' ∧ ∃ a n m x, v = .agg [.int .i64 id, .int .i64 sp, .str nm, .slice a n m x]) := by
  refine WpF.m tab_ok (by kernel_rfl) rfl ?_
  refine WpM.cfg (c' := ⟨.code x28_0, [], [.agg [.int .i64 id, .int .i64 sp, .str nm, .slice none 0 cap true], U, U, U, U, U, U, U], [], h, none⟩) (by kernel_rfl) ?_
  refine WpM.run tab_ok 2 ⟨.ops (p28_1_0 :: o28_1.drop 1), [.seq x28_2], [.agg [.int .i64 id, .int .i64 sp, .str nm, .slice none 0 cap true], U, U, U, U, U, U, U], [], h, none⟩ (by kernel_rfl) ?_
  refine WpM.opA (fun p => .ptr (some (.new p 0))) (.cells [.int .i64 id, .int .i64 sp, .str nm, .slice none 0 cap true] 29) (by kernel_rfl) (by kernel_rfl) (fun p1 h2 a3 => ?_)
  refine WpM.run tab_ok 0 ⟨.ops (p28_1_1 :: o28_1.drop 2), [.seq x28_2], [.agg [.int .i64 id, .int .i64 sp, .str nm, .slice none 0 cap true], .ptr (some (.new p1 0)), U, U, U, U, U, U], [], h2, none⟩ (by kernel_rfl) ?_
  refine WpM.opA (fun p => .ptr (some (.new p 0))) (.cells [.int .i64 0, .int .i64 0, .str [], .slice none 0 0 true] 29) (by kernel_rfl) (by kernel_rfl) (fun p4 h5 a6 => ?_)
  refine WpM.run tab_ok 5 ⟨.ops (p28_3_1 :: o28_3.drop 2), [.seq x28_4], [.agg [.int .i64 id, .int .i64 sp, .str nm, .slice none 0 cap true], .ptr (some (.new p1 0)), .ptr (some (.new p4 0)), .ptr (some (.new p1 3)), U, U, U, U], [], h5, none⟩ (by kernel_rfl) ?_
  refine WpM.op (.slice none 0 cap true) _ (by kernel_rfl) (load_new (o := 3) (by kernel_rfl) (a6.keep a3.lt a3.get) (by kernel_rfl)) ?_
  refine WpM.run tab_ok 23 ⟨.ops (p28_3_4 :: o28_3.drop 5), [.seq x28_4], (((E3 id sp nm cap p1 p4).set 5 (.slice none 0 0 true)).set 6 (.ptr (some (.new p1 3)))), [], h5, none⟩ (by kernel_rfl) ?_
  refine WpM.opS U p1 (some (.cells [.int .i64 id, .int .i64 sp, .str nm, .slice none 0 0 true] 29)) (by kernel_rfl) (store_new (o := 3) (v := .slice none 0 0 true) (by kernel_rfl) (by kernel_rfl) (a6.keep a3.lt a3.get) (by kernel_rfl)) (fun h7 a8 => ?_)
  refine WpM.run tab_ok 4 ⟨.ops (p28_5_0 :: o28_5.drop 1), [.seq .ret], (((E3 id sp nm cap p1 p4).set 5 (.slice none 0 0 true)).set 6 (.ptr (some (.new p1 3)))), [], h7, none⟩ (by kernel_rfl) ?_
  refine WpM.op (.agg [.int .i64 id, .int .i64 sp, .str nm, .slice none 0 0 true]) _ (by kernel_rfl) (load_new (o := 0) (by kernel_rfl) a8.get (by kernel_rfl)) ?_
  refine WpM.run tab_ok 0 ⟨.ops (p28_5_1 :: o28_5.drop 2), [.seq .ret], ((((E3 id sp nm cap p1 p4).set 5 (.slice none 0 0 true)).set 6 (.ptr (some (.new p1 3)))).set 7 (.agg [.int .i64 id, .int .i64 sp, .str nm, .slice none 0 0 true])), [], h7, none⟩ (by kernel_rfl) ?_
  refine WpM.opS U p4 (some (.cells [.int .i64 id, .int .i64 sp, .str nm, .slice none 0 0 true] 29)) (by kernel_rfl) (store_new (o := 0) (v := .agg [.int .i64 id, .int .i64 sp, .str nm, .slice none 0 0 true]) (by kernel_rfl) (by kernel_rfl) (a8.keep (Ne.symm (a6.ne a3.lt)) a6.get) (by kernel_rfl)) (fun h9 a10 => ?_)
  refine WpM.run tab_ok 3 ⟨.done .ret, [], ((((E3 id sp nm cap p1 p4).set 5 (.slice none 0 0 true)).set 6 (.ptr (some (.new p1 3)))).set 7 (.agg [.int .i64 id, .int .i64 sp, .str nm, .slice none 0 0 true])), [], h9, none⟩ (by kernel_rfl) ?_
  refine WpM.ret (.agg [.int .i64 id, .int .i64 sp, .str nm, .slice none 0 0 true]) h9 (by kernel_rfl) (resL_cell1 (o := 0) (by kernel_rfl) a10.get (by kernel_rfl)) ?_
  exact ⟨(((((HX.refl h).alloc a3).alloc a6).put a8 (by have := a3.eq; have := a3.nx; have := a6.eq; have := a6.nx; have := a8.nx; have := a10.nx; omega)).put a10 (by have := a3.eq; have := a3.nx; have := a6.eq; have := a6.nx; have := a8.nx; have := a10.nx; omega)), _, _, _, _, rfl⟩
def E4 (id : Int) (sp : Int) (nm : List UInt8) (b : Nat) (o : Nat) (cap : Nat) (p1 : Nat) (p4 : Nat) : List V := [.agg [.int .i64 id, .int .i64 sp, .str nm, .slice (some (.old b o)) 0 cap true], .ptr (some (.new p1 0)), .ptr (some (.new p4 0)), .ptr (some (.new p1 3)), U, U, U, U]
def E5 (id : Int) (sp : Int) (nm : List UInt8) (b : Nat) (o : Nat) (cap : Nat) (p1 : Nat) (p4 : Nat) (p7 : Nat) : List V := [.agg [.int .i64 id, .int .i64 sp, .str nm, .slice (some (.old b o)) 0 cap true], .ptr (some (.new p1 0)), .ptr (some (.new p4 0)), .ptr (some (.new p1 3)), .slice (some (.old b o)) 0 cap true, .slice (some (.new p7 0)) 0 0 true, .ptr (some (.new p1 3)), .agg [.int .i64 id, .int .i64 sp, .str nm, .slice (some (.new p7 0)) 0 0 true]]
theorem own_empty {W : World} {id sp : Int} {nm : List UInt8} {b o cap : Nat} (h : H) : WpF Try.prog W prim3 28 [.agg [.int .i64 id, .int .i64 sp, .str nm, .slice (some (.old b o)) 0 cap true]] h (fun v h' => HX h h' ∧ ∃ a n m x, v = .agg [.int .i64 id, .int .i64 sp, .str nm, .slice a n m x]) := by
  refine WpF.m tab_ok (by kernel_rfl) rfl ?_
  refine WpM.cfg (c' := ⟨.code x28_0, [], [.agg [.int .i64 id, .int .i64 sp, .str nm, .slice (some (.old b o)) 0 cap true], U, U, U, U, U, U, U], [], h, none⟩) (by kernel_rfl) ?_
  refine WpM.run tab_ok 2 ⟨.ops (p28_1_0 :: o28_1.drop 1), [.seq x28_2], [.agg [.int .i64 id, .int .i64 sp, .str nm, .slice (some (.old b o)) 0 cap true], U, U, U, U, U, U, U], [], h, none⟩ (by kernel_rfl) ?_
  refine WpM.opA (fun p => .ptr (some (.new p 0))) (.cells [.int .i64 id, .int .i64 sp, .str nm, .slice (some (.old b o)) 0 cap true] 29) (by kernel_rfl) (by kernel_rfl) (fun p1 h2 a3 => ?_)
  refine WpM.run tab_ok 0 ⟨.ops (p28_1_1 :: o28_1.drop 2), [.seq x28_2], [.agg [.int .i64 id, .int .i64 sp, .str nm, .slice (some (.old b o)) 0 cap true], .ptr (some (.new p1 0)), U, U, U, U, U, U], [], h2, none⟩ (by kernel_rfl) ?_
  refine WpM.opA (fun p => .ptr (some (.new p 0))) (.cells [.int .i64 0, .int .i64 0, .str [], .slice none 0 0 true] 29) (by kernel_rfl) (by kernel_rfl) (fun p4 h5 a6 => ?_)
  refine WpM.run tab_ok 5 ⟨.ops (p28_3_1 :: o28_3.drop 2), [.seq x28_4], (E4 id sp nm b o cap p1 p4), [], h5, none⟩ (by kernel_rfl) ?_
  refine WpM.op (.slice (some (.old b o)) 0 cap true) _ (by kernel_rfl) (load_new (o := 3) (by kernel_rfl) (a6.keep a3.lt a3.get) (by kernel_rfl)) ?_
  refine WpM.run tab_ok 18 ⟨.ops (p49_9_0 :: o49_9.drop 1), [.seq .ret, .call [.tmp 2] (some 5) (o28_3.drop 3) ((E4 id sp nm b o cap p1 p4).set 4 (.slice (some (.old b o)) 0 cap true)) [] none, .seq x28_4], [.slice (some (.old b o)) 0 cap true, U, .slice none 0 0 true, .slice (some (.old b o)) 0 cap true, .bool false, U, U, U], [], h5, none⟩ (by kernel_rfl) ?_
  refine WpM.opA (fun p => .slice (some (.new p 0)) 0 0 true) (.cells [] 71) (by kernel_rfl) (by kernel_rfl) (fun p7 h8 a9 => ?_)
  refine WpM.run tab_ok 8 ⟨.ops (p28_3_4 :: o28_3.drop 5), [.seq x28_4], ((((E4 id sp nm b o cap p1 p4).set 4 (.slice (some (.old b o)) 0 cap true)).set 5 (.slice (some (.new p7 0)) 0 0 true)).set 6 (.ptr (some (.new p1 3)))), [], h8, none⟩ (by kernel_rfl) ?_
  refine WpM.opS U p1 (some (.cells [.int .i64 id, .int .i64 sp, .str nm, .slice (some (.new p7 0)) 0 0 true] 29)) (by kernel_rfl) (store_new (o := 3) (v := .slice (some (.new p7 0)) 0 0 true) (by kernel_rfl) (by kernel_rfl) (a9.keep (a6.le a3.lt) (a6.keep a3.lt a3.get)) (by kernel_rfl)) (fun h10 a11 => ?_)
  refine WpM.run tab_ok 4 ⟨.ops (p28_5_0 :: o28_5.drop 1), [.seq .ret], ((((E4 id sp nm b o cap p1 p4).set 4 (.slice (some (.old b o)) 0 cap true)).set 5 (.slice (some (.new p7 0)) 0 0 true)).set 6 (.ptr (some (.new p1 3)))), [], h10, none⟩ (by kernel_rfl) ?_
  refine WpM.op (.agg [.int .i64 id, .int .i64 sp, .str nm, .slice (some (.new p7 0)) 0 0 true]) _ (by kernel_rfl) (load_new (o := 0) (by kernel_rfl) a11.get (by kernel_rfl)) ?_
  refine WpM.run tab_ok 0 ⟨.ops (p28_5_1 :: o28_5.drop 2), [.seq .ret], (E5 id sp nm b o cap p1 p4 p7), [], h10, none⟩ (by kernel_rfl) ?_
  refine WpM.opS U p4 (some (.cells [.int .i64 id, .int .i64 sp, .str nm, .slice (some (.new p7 0)) 0 0 true] 29)) (by kernel_rfl) (store_new (o := 0) (v := .agg [.int .i64 id, .int .i64 sp, .str nm, .slice (some (.new p7 0)) 0 0 true]) (by kernel_rfl) (by kernel_rfl) (a11.keep (Ne.symm (a6.ne a3.lt)) (a9.keep a6.lt a6.get)) (by kernel_rfl)) (fun h12 a13 => ?_)
  refine WpM.run tab_ok 3 ⟨.done .ret, [], (E5 id sp nm b o cap p1 p4 p7), [], h12, none⟩ (by kernel_rfl) ?_
  refine WpM.ret (.agg [.int .i64 id, .int .i64 sp, .str nm, .slice (some (.new p7 0)) 0 0 true]) h12 (by kernel_rfl) (resL_cell1 (o := 0) (by kernel_rfl) a13.get (by kernel_rfl)) ?_
  exact ⟨((((((HX.refl h).alloc a3).alloc a6).alloc a9).put a11 (by have := a3.eq; have := a3.nx; have := a6.eq; have := a6.nx; have := a9.eq; have := a9.nx; have := a11.nx; have := a13.nx; omega)).put a13 (by have := a3.eq; have := a3.nx; have := a6.eq; have := a6.nx; have := a9.eq; have := a9.nx; have := a11.nx; have := a13.nx; omega)), _, _, _, _, rfl⟩
def E6 (id : Int) (sp : Int) (nm : List UInt8) (la : Option Ad) (l : List T71) (cap : Nat) (p1 : Nat) (p4 : Nat) : List V := [.agg [.int .i64 id, .int .i64 sp, .str nm, .slice la l.length cap true], .ptr (some (.new p1 0)), .ptr (some (.new p4 0)), .ptr (some (.new p1 3)), U, U, U, U]
def E7 (la : Option Ad) (l : List T71) (cap : Nat) (p7 : Nat) : List V := [.slice la l.length cap true, U, .slice none 0 0 true, .slice la l.length cap true, .bool false, .slice (some (.new p7 0)) 0 0 true, .slice la l.length cap true, U]
def E8 (id : Int) (sp : Int) (nm : List UInt8) (la : Option Ad) (l : List T71) (cap : Nat) (p1 : Nat) (p4 : Nat) (p10 : Nat) : List V := [.agg [.int .i64 id, .int .i64 sp, .str nm, .slice la l.length cap true], .ptr (some (.new p1 0)), .ptr (some (.new p4 0)), .ptr (some (.new p1 3)), .slice la l.length cap true, .slice (some (.new p10 0)) l.length l.length false, .ptr (some (.new p1 3)), U]
theorem own_some {W : World} {id sp : Int} {nm : List UInt8} {la : Option Ad} {cap : Nat} {l : List T71} (hA : Arr W 2 T71.cells la l) (hs : la = some (adr la)) (hn : 0 < l.length) (hb : l.length * 32 ≤ 140737488351232) (h : H) : WpF Try.prog W prim3 28 [.agg [.int .i64 id, .int .i64 sp, .str nm, .slice la l.length cap true]] h (fun v h' => HX h h' ∧ ∃ a n m x, v = .agg [.int .i64 id, .int .i64 sp, .str nm, .slice a n m x]) := by
  refine WpF.m tab_ok (by kernel_rfl) rfl ?_
  refine WpM.cfg (c' := ⟨.code x28_0, [], [.agg [.int .i64 id, .int .i64 sp, .str nm, .slice la l.length cap true], U, U, U, U, U, U, U], [], h, none⟩) (by kernel_rfl) ?_
  refine WpM.run tab_ok 2 ⟨.ops (p28_1_0 :: o28_1.drop 1), [.seq x28_2], [.agg [.int .i64 id, .int .i64 sp, .str nm, .slice la l.length cap true], U, U, U, U, U, U, U], [], h, none⟩ (by kernel_rfl) ?_
  refine WpM.opA (fun p => .ptr (some (.new p 0))) (.cells [.int .i64 id, .int .i64 sp, .str nm, .slice la l.length cap true] 29) (by kernel_rfl) (by kernel_rfl) (fun p1 h2 a3 => ?_)
  refine WpM.run tab_ok 0 ⟨.ops (p28_1_1 :: o28_1.drop 2), [.seq x28_2], [.agg [.int .i64 id, .int .i64 sp, .str nm, .slice la l.length cap true], .ptr (some (.new p1 0)), U, U, U, U, U, U], [], h2, none⟩ (by kernel_rfl) ?_
  refine WpM.opA (fun p => .ptr (some (.new p 0))) (.cells [.int .i64 0, .int .i64 0, .str [], .slice none 0 0 true] 29) (by kernel_rfl) (by kernel_rfl) (fun p4 h5 a6 => ?_)
  refine WpM.run tab_ok 5 ⟨.ops (p28_3_1 :: o28_3.drop 2), [.seq x28_4], (E6 id sp nm la l cap p1 p4), [], h5, none⟩ (by kernel_rfl) ?_
  refine WpM.op (.slice la l.length cap true) _ (by kernel_rfl) (load_new (o := 3) (by kernel_rfl) (a6.keep a3.lt a3.get) (by kernel_rfl)) ?_
  refine WpM.run tab_ok 10 ⟨.ops (p49_4_1 :: o49_4.drop 2), [.seq x49_5, .seq x49_8, .call [.tmp 2] (some 5) (o28_3.drop 3) ((E6 id sp nm la l cap p1 p4).set 4 (.slice la l.length cap true)) [] none, .seq x28_4], [.slice la l.length cap true, U, .slice none 0 0 true, .slice la l.length cap true, U, U, U, U], [], h5, none⟩ (by kernel_rfl) ?_
  refine WpM.op (.bool false) _ (by kernel_rfl) (eq_nil (e := 71) (a := la) (n := l.length) (lb := cap) (ex := true) (by kernel_rfl) (by kernel_rfl) hs (by kernel_rfl)) ?_
  refine WpM.run tab_ok 7 ⟨.ops (p49_9_0 :: o49_9.drop 1), [.seq .ret, .call [.tmp 2] (some 5) (o28_3.drop 3) ((E6 id sp nm la l cap p1 p4).set 4 (.slice la l.length cap true)) [] none, .seq x28_4], [.slice la l.length cap true, U, .slice none 0 0 true, .slice la l.length cap true, .bool false, U, U, U], [], h5, none⟩ (by kernel_rfl) ?_
  refine WpM.opA (fun p => .slice (some (.new p 0)) 0 0 true) (.cells [] 71) (by kernel_rfl) (by kernel_rfl) (fun p7 h8 a9 => ?_)
  refine WpM.run tab_ok 1 ⟨.ops (p49_9_2 :: o49_9.drop 3), [.seq .ret, .call [.tmp 2] (some 5) (o28_3.drop 3) ((E6 id sp nm la l cap p1 p4).set 4 (.slice la l.length cap true)) [] none, .seq x28_4], (E7 la l cap p7), [], h8, none⟩ (by kernel_rfl) ?_
  refine WpM.opA (fun p => .slice (some (.new p 0)) l.length l.length false) (.cells (rv T71.cells l) 71) (by kernel_rfl) (app_step (s := .slice (some (.new p7 0)) 0 0 true) (x := .slice la l.length cap true) (by kernel_rfl) (by kernel_rfl) (app_op (at0 := 27) (at1 := 27) (e := 71) (size := 2) (bytes := 32) (n := l.length) (z0 := .agg [.str [], .str []]) (nc := (rv T71.cells l)) (by kernel_rfl) (by kernel_rfl) (by kernel_rfl) (by kernel_rfl) rfl rfl rfl (arr_first hA _) (app_empty (by omega) (rv_length (f := T71.cells) (fun _ => rfl) _) (rv_all_one (fun _ => rfl) _) (by omega) (by omega)))) (fun p10 h11 a12 => ?_)
  have g13 := (a12.keep (a9.le (a6.le a3.lt)) (a9.keep (a6.le a3.lt) (a6.keep a3.lt a3.get)))
  refine WpM.run tab_ok 6 ⟨.ops (p28_3_4 :: o28_3.drop 5), [.seq x28_4], (E8 id sp nm la l cap p1 p4 p10), [], h11, none⟩ (by kernel_rfl) ?_
  refine WpM.opS U p1 (some (.cells [.int .i64 id, .int .i64 sp, .str nm, .slice (some (.new p10 0)) l.length l.length false] 29)) (by kernel_rfl) (store_new (o := 3) (v := .slice (some (.new p10 0)) l.length l.length false) (by kernel_rfl) (by kernel_rfl) g13 (by kernel_rfl)) (fun h14 a15 => ?_)
  refine WpM.run tab_ok 4 ⟨.ops (p28_5_0 :: o28_5.drop 1), [.seq .ret], (E8 id sp nm la l cap p1 p4 p10), [], h14, none⟩ (by kernel_rfl) ?_
  refine WpM.op (.agg [.int .i64 id, .int .i64 sp, .str nm, .slice (some (.new p10 0)) l.length l.length false]) _ (by kernel_rfl) (load_new (o := 0) (by kernel_rfl) a15.get (by kernel_rfl)) ?_
  have g16 := (a15.keep (Ne.symm (a6.ne a3.lt)) (a12.keep (a9.le a6.lt) (a9.keep a6.lt a6.get)))
  refine WpM.run tab_ok 0 ⟨.ops (p28_5_1 :: o28_5.drop 2), [.seq .ret], ((E8 id sp nm la l cap p1 p4 p10).set 7 (.agg [.int .i64 id, .int .i64 sp, .str nm, .slice (some (.new p10 0)) l.length l.length false])), [], h14, none⟩ (by kernel_rfl) ?_
  refine WpM.opS U p4 (some (.cells [.int .i64 id, .int .i64 sp, .str nm, .slice (some (.new p10 0)) l.length l.length false] 29)) (by kernel_rfl) (store_new (o := 0) (v := .agg [.int .i64 id, .int .i64 sp, .str nm, .slice (some (.new p10 0)) l.length l.length false]) (by kernel_rfl) (by kernel_rfl) g16 (by kernel_rfl)) (fun h17 a18 => ?_)
  refine WpM.run tab_ok 3 ⟨.done .ret, [], ((E8 id sp nm la l cap p1 p4 p10).set 7 (.agg [.int .i64 id, .int .i64 sp, .str nm, .slice (some (.new p10 0)) l.length l.length false])), [], h17, none⟩ (by kernel_rfl) ?_
  refine WpM.ret (.agg [.int .i64 id, .int .i64 sp, .str nm, .slice (some (.new p10 0)) l.length l.length false]) h17 (by kernel_rfl) (resL_cell1 (o := 0) (by kernel_rfl) a18.get (by kernel_rfl)) ?_
  exact ⟨(((((((HX.refl h).alloc a3).alloc a6).alloc a9).alloc a12).put a15 (by have := a3.eq; have := a3.nx; have := a6.eq; have := a6.nx; have := a9.eq; have := a9.nx; have := a12.eq; have := a12.nx; have := a15.nx; have := a18.nx; omega)).put a18 (by have := a3.eq; have := a3.nx; have := a6.eq; have := a6.nx; have := a9.eq; have := a9.nx; have := a12.eq; have := a12.nx; have := a15.nx; have := a18.nx; omega)), _, _, _, _, rfl⟩
theorem own_ok {W : World} {e : T29} (he : e.ok W) (h : H) : WpF Try.prog W prim3 28 [.agg [.int .i64 e.fId, .int .i64 e.fSpace, .str e.fName, .slice e.fAttrs.a e.fAttrs.l.length e.fAttrs.cap true]] h (fun v h' => HX h h' ∧ ∃ a n m x, v = .agg [.int .i64 e.fId, .int .i64 e.fSpace, .str e.fName, .slice a n m x]) := by
  have hA := he.fAttrs.arr
  rcases Nat.eq_zero_or_pos e.fAttrs.l.length with h0 | h0
  · rw [h0]
    rcases hA with ⟨ha, _⟩ | ⟨b, o, ha, _⟩
    · rw [ha]; exact own_nil h
    · rw [ha]; exact own_empty h
  · exact own_some hA (hA.some h0).1 h0 (by have h1 := he.fAttrs.le; have h2 := he.fAttrs.reach; have : e.fAttrs.l.length * 32 ≤ e.fAttrs.cap * 32 := Nat.mul_le_mul_right _ h1; omega) h
def tableM (sc sp : Int) : List UInt8 :=
  if sp == 0 then (if sc == 1 then k_appletcaptionhtmltabletd ++ k_olul else if sc == 2 then k_appletcaptionhtmltabletd ++ k_button else k_appletcaptionhtmltabletd) else if sp == 2 then k_mimomnmsmtext else if sp == 1 then k_foreignObjectdesctitle else []
def endsM (sc sp : Int) (nm : List UInt8) : Bool :=
  if sc == 3 then sp == 0 && (nm == k_html || nm == k_table)
  else !(nm == []) && (!(Lib.contains nm [32]) && Lib.contains (tableM sc sp) ([32] ++ nm ++ [32]))
def E9 (sc : Int) (id : Int) (sp : Int) (nm : List UInt8) (a : Option Ad) (n : Nat) (m : Nat) (x : Bool) (p1 : Nat) : List V := (.int .i64 sc :: .agg [.int .i64 id, .int .i64 sp, .str nm, .slice a n m x] :: U :: .ptr (some (.new p1 0)) :: .bool false :: U :: .int .i64 sc :: .bool (sc == 3) :: us 37)
def E10 (id : Int) (sp : Int) (nm : List UInt8) (a : Option Ad) (n : Nat) (m : Nat) (x : Bool) (p5 : Nat) (p8 : Nat) : List V := (.agg [.int .i64 id, .int .i64 sp, .str nm, .slice a n m x] :: .slice (some (.new p5 0)) 2 2 true :: .ptr (some (.new p8 0)) :: U :: .bool false :: .ptr (some (.new p8 1)) :: us 8)
def E11 (id : Int) (sp : Int) (nm : List UInt8) (a : Option Ad) (n : Nat) (m : Nat) (x : Bool) (p5 : Nat) (p8 : Nat) : List V := (.agg [.int .i64 id, .int .i64 sp, .str nm, .slice a n m x] :: .slice (some (.new p5 0)) 2 2 true :: .ptr (some (.new p8 0)) :: U :: .bool false :: .ptr (some (.new p8 1)) :: .int .i64 sp :: .bool (sp == 0) :: .bool true :: .slice (some (.new p5 0)) 2 2 true :: .ptr (some (.new p8 2)) :: .str nm :: U :: U :: [])
def E12 (p5 : Nat) (nm : List UInt8) : List V := (.slice (some (.new p5 0)) 2 2 true :: .str nm :: U :: U :: .int .i64 0 :: .int .i64 0 :: .slice (some (.new p5 0)) 2 2 true :: .int .i64 2 :: .int .i64 0 :: .bool true :: .int .i64 0 :: .str nm :: .slice (some (.new p5 0)) 2 2 true :: .int .i64 0 :: .ptr (some (.new p5 0)) :: us 4)
def E13 (sc : Int) (id : Int) (sp : Int) (nm : List UInt8) (a : Option Ad) (n : Nat) (m : Nat) (x : Bool) (p1 : Nat) (p5 : Nat) : List V := (.int .i64 sc :: .agg [.int .i64 id, .int .i64 sp, .str nm, .slice a n m x] :: U :: .ptr (some (.new p1 0)) :: .bool true :: U :: .int .i64 sc :: .bool (sc == 3) :: .agg [.int .i64 id, .int .i64 sp, .str nm, .slice a n m x] :: .slice (some (.new p5 0)) 2 2 true :: .bool true :: us 34)
def E14 (p5 : Nat) (nm : List UInt8) : List V := (.slice (some (.new p5 0)) 2 2 true :: .str nm :: U :: U :: .int .i64 0 :: .int .i64 1 :: .slice (some (.new p5 0)) 2 2 true :: .int .i64 2 :: .int .i64 1 :: .bool true :: .int .i64 1 :: .str nm :: .slice (some (.new p5 0)) 2 2 true :: .int .i64 1 :: .ptr (some (.new p5 1)) :: .str k_html :: .bool (nm == k_html) :: U :: .int .i64 1 :: [])
def E15 (sc : Int) (id : Int) (sp : Int) (nm : List UInt8) (a : Option Ad) (n : Nat) (m : Nat) (x : Bool) (p1 : Nat) : List V := (.int .i64 sc :: .agg [.int .i64 id, .int .i64 sp, .str nm, .slice a n m x] :: U :: .ptr (some (.new p1 0)) :: .bool false :: .str [] :: .int .i64 sc :: .bool (sc == 3) :: U :: U :: U :: .ptr (some (.new p1 1)) :: us 33)
def E16 (sc : Int) (id : Int) (sp : Int) (nm : List UInt8) (a : Option Ad) (n : Nat) (m : Nat) (x : Bool) (p1 : Nat) : List V := (.int .i64 sc :: .agg [.int .i64 id, .int .i64 sp, .str nm, .slice a n m x] :: U :: .ptr (some (.new p1 0)) :: .bool false :: .str k_appletcaptionhtmltabletd :: .int .i64 sc :: .bool (sc == 3) :: U :: U :: U :: .ptr (some (.new p1 1)) :: .int .i64 sp :: .bool (sp == 0) :: .bool (sp == 0) :: .int .i64 sc :: .bool (sc == 1) :: .bool (sc == 1) :: us 27)
def E17 (sc : Int) (id : Int) (sp : Int) (nm : List UInt8) (a : Option Ad) (n : Nat) (m : Nat) (x : Bool) (p1 : Nat) : List V := (.int .i64 sc :: .agg [.int .i64 id, .int .i64 sp, .str nm, .slice a n m x] :: U :: .ptr (some (.new p1 0)) :: .bool false :: .str k_appletcaptionhtmltabletd :: .int .i64 sc :: .bool (sc == 3) :: U :: U :: U :: .ptr (some (.new p1 1)) :: .int .i64 sp :: .bool (sp == 0) :: .bool (sp == 0) :: .int .i64 sc :: .bool (sc == 1) :: .bool (sc == 1) :: U :: U :: .bool (sc == 2) :: .bool (sc == 2) :: U :: U :: U :: U :: U :: U :: .ptr (some (.new p1 2)) :: .str nm :: .bool (!(nm == [])) :: .bool true :: .ptr (some (.new p1 2)) :: .str nm :: .bool (Lib.contains nm [32]) :: .bool (!(Lib.contains nm [32])) :: .bool (!(Lib.contains nm [32])) :: .bool (!(Lib.contains nm [32])) :: us 7)
def E18 (sc : Int) (id : Int) (sp : Int) (nm : List UInt8) (a : Option Ad) (n : Nat) (m : Nat) (x : Bool) (p1 : Nat) : List V := (.int .i64 sc :: .agg [.int .i64 id, .int .i64 sp, .str nm, .slice a n m x] :: U :: .ptr (some (.new p1 0)) :: .bool (Lib.contains k_mimomnmsmtext (([32] ++ nm) ++ [32])) :: .str k_mimomnmsmtext :: .int .i64 sc :: .bool (sc == 3) :: U :: U :: U :: .ptr (some (.new p1 1)) :: .int .i64 sp :: .bool (sp == 0) :: .bool (sp == 0) :: U :: U :: U :: U :: U :: U :: U :: U :: U :: .bool (sp == 2) :: .bool (sp == 2) :: U :: U :: .ptr (some (.new p1 2)) :: .str nm :: .bool (!(nm == [])) :: .bool true :: .ptr (some (.new p1 2)) :: .str nm :: .bool (Lib.contains nm [32]) :: .bool (!(Lib.contains nm [32])) :: .bool (!(Lib.contains nm [32])) :: .bool true :: .str k_mimomnmsmtext :: .ptr (some (.new p1 2)) :: .str nm :: .str ([32] ++ nm) :: .str (([32] ++ nm) ++ [32]) :: .bool (Lib.contains k_mimomnmsmtext (([32] ++ nm) ++ [32])) :: .bool (Lib.contains k_mimomnmsmtext (([32] ++ nm) ++ [32])) :: [])
def E19 (sc : Int) (id : Int) (sp : Int) (nm : List UInt8) (a : Option Ad) (n : Nat) (m : Nat) (x : Bool) (p1 : Nat) : List V := (.int .i64 sc :: .agg [.int .i64 id, .int .i64 sp, .str nm, .slice a n m x] :: U :: .ptr (some (.new p1 0)) :: .bool false :: .str k_foreignObjectdesctitle :: .int .i64 sc :: .bool (sc == 3) :: U :: U :: U :: .ptr (some (.new p1 1)) :: .int .i64 sp :: .bool (sp == 0) :: .bool (sp == 0) :: U :: U :: U :: U :: U :: U :: U :: U :: U :: .bool (sp == 2) :: .bool (sp == 2) :: .bool (sp == 1) :: .bool (sp == 1) :: .ptr (some (.new p1 2)) :: .str nm :: .bool (!(nm == [])) :: .bool (!(nm == [])) :: us 13)
theorem ends_ok {W : World} {sc id sp : Int} {nm : List UInt8} {a : Option Ad} {n m : Nat} {x : Bool} (hn : nm.length ≤ 140737488351232) (h : H) : WpF Try.prog W prim3 31 [.int .i64 sc, .agg [.int .i64 id, .int .i64 sp, .str nm, .slice a n m x]] h (fun v h' => HX h h' ∧ v = .bool (endsM sc sp nm)) := by
  refine WpF.m tab_ok (by kernel_rfl) rfl ?_
  refine WpM.cfg (c' := ⟨.code x31_0, [], (.int .i64 sc :: .agg [.int .i64 id, .int .i64 sp, .str nm, .slice a n m x] :: us 43), [], h, none⟩) (by kernel_rfl) ?_
  refine WpM.run tab_ok 2 ⟨.ops (p31_1_0 :: o31_1.drop 1), [.seq x31_2], (.int .i64 sc :: .agg [.int .i64 id, .int .i64 sp, .str nm, .slice a n m x] :: us 43), [], h, none⟩ (by kernel_rfl) ?_
  refine WpM.opA (fun p => .ptr (some (.new p 0))) (.cells [.int .i64 id, .int .i64 sp, .str nm, .slice a n m x] 29) (by kernel_rfl) (by kernel_rfl) (fun p1 h2 a3 => ?_)
  refine WpM.run tab_ok 10 ⟨.code x31_5, [.seq x31_8], (E9 sc id sp nm a n m x p1), [], h2, none⟩ (by kernel_rfl) ?_
  refine WpM.cond (t := (sc == 3)) (by kernel_rfl) (fun c4 => ?_) (fun c4 => ?_)
  · have c4p := beq_t c4
    refine WpM.run tab_ok 2 ⟨.ops (p31_7_0 :: o31_7.drop 1), [.seq .ret, .seq x31_8], (E9 sc id sp nm a n m x p1), [], h2, none⟩ (by kernel_rfl) ?_
    refine WpM.op (.agg [.int .i64 id, .int .i64 sp, .str nm, .slice a n m x]) _ (by kernel_rfl) (load_new (o := 0) (by kernel_rfl) a3.get (by kernel_rfl)) ?_
    refine WpM.run tab_ok 0 ⟨.ops (p31_7_1 :: o31_7.drop 2), [.seq .ret, .seq x31_8], ((E9 sc id sp nm a n m x p1).set 8 (.agg [.int .i64 id, .int .i64 sp, .str nm, .slice a n m x])), [], h2, none⟩ (by kernel_rfl) ?_
    refine WpM.opA (fun p => .slice (some (.new p 0)) 2 2 true) (.cells [.str k_html, .str k_table] 9) (by kernel_rfl) (by kernel_rfl) (fun p5 h6 a7 => ?_)
    refine WpM.run tab_ok 3 ⟨.ops (p30_1_0 :: o30_1.drop 1), [.seq x30_2, .call [.tmp 4] (some 10) (o31_7.drop 3) (((E9 sc id sp nm a n m x p1).set 8 (.agg [.int .i64 id, .int .i64 sp, .str nm, .slice a n m x])).set 9 (.slice (some (.new p5 0)) 2 2 true)) [] none, .seq .ret, .seq x31_8], (.agg [.int .i64 id, .int .i64 sp, .str nm, .slice a n m x] :: .slice (some (.new p5 0)) 2 2 true :: us 12), [], h6, none⟩ (by kernel_rfl) ?_
    refine WpM.opA (fun p => .ptr (some (.new p 0))) (.cells [.int .i64 id, .int .i64 sp, .str nm, .slice a n m x] 29) (by kernel_rfl) (by kernel_rfl) (fun p8 h9 a10 => ?_)
    refine WpM.run tab_ok 6 ⟨.ops (p30_3_1 :: o30_3.drop 2), [.seq .ret, .call [.tmp 4] (some 10) (o31_7.drop 3) (((E9 sc id sp nm a n m x p1).set 8 (.agg [.int .i64 id, .int .i64 sp, .str nm, .slice a n m x])).set 9 (.slice (some (.new p5 0)) 2 2 true)) [] none, .seq .ret, .seq x31_8], (E10 id sp nm a n m x p5 p8), [], h9, none⟩ (by kernel_rfl) ?_
    refine WpM.op (.int .i64 sp) _ (by kernel_rfl) (load_new (o := 1) (by kernel_rfl) a10.get (by kernel_rfl)) ?_
    refine WpM.run tab_ok 2 ⟨.ops (p30_3_4 :: o30_3.drop 5), [.seq .ret, .call [.tmp 4] (some 10) (o31_7.drop 3) (((E9 sc id sp nm a n m x p1).set 8 (.agg [.int .i64 id, .int .i64 sp, .str nm, .slice a n m x])).set 9 (.slice (some (.new p5 0)) 2 2 true)) [] none, .seq .ret, .seq x31_8], ((((E10 id sp nm a n m x p5 p8).set 6 (.int .i64 sp)).set 7 (.bool (sp == 0))).set 8 (.bool (sp == 0))), [], h9, none⟩ (by kernel_rfl) ?_
    refine WpM.guard (b := (sp == 0)) (by kernel_rfl) (fun c11 => ?_) (fun c11 => ?_)
    · have c11p := beq_t c11
      refine WpM.run tab_ok 2 ⟨.ops (p30_3_6 :: o30_3.drop 7), [.seq .ret, .call [.tmp 4] (some 10) (o31_7.drop 3) (((E9 sc id sp nm a n m x p1).set 8 (.agg [.int .i64 id, .int .i64 sp, .str nm, .slice a n m x])).set 9 (.slice (some (.new p5 0)) 2 2 true)) [] none, .seq .ret, .seq x31_8], ((((((E10 id sp nm a n m x p5 p8).set 6 (.int .i64 sp)).set 7 (.bool (sp == 0))).set 8 (.bool true)).set 9 (.slice (some (.new p5 0)) 2 2 true)).set 10 (.ptr (some (.new p8 2)))), [], h9, none⟩ (by kernel_rfl) ?_
      refine WpM.op (.str nm) _ (by kernel_rfl) (load_new (o := 2) (by kernel_rfl) a10.get (by kernel_rfl)) ?_
      refine WpM.run tab_ok 49 ⟨.ops (p59_16_4 :: o59_16.drop 5), [.seq x59_17, .blk 1, .seq x59_20, .loop x59_7, .blk 0, .seq x59_21, .call [.tmp 4] (some 7) (o51_3.drop 3) [.slice (some (.new p5 0)) 2 2 true, .str nm, U, U, .bool false, .slice (some (.new p5 0)) 2 2 true, .str nm, U, U] [] none, .seq .ret, .call [.tmp 4] (some 12) (o30_3.drop 8) (E11 id sp nm a n m x p5 p8) [] none, .seq .ret, .call [.tmp 4] (some 10) (o31_7.drop 3) (((E9 sc id sp nm a n m x p1).set 8 (.agg [.int .i64 id, .int .i64 sp, .str nm, .slice a n m x])).set 9 (.slice (some (.new p5 0)) 2 2 true)) [] none, .seq .ret, .seq x31_8], (E12 p5 nm), [], h9, none⟩ (by kernel_rfl) ?_
      refine WpM.op (.str k_html) _ (by kernel_rfl) (load_new (o := 0) (by kernel_rfl) (a10.keep a7.lt a7.get) (by kernel_rfl)) ?_
      refine WpM.run tab_ok 3 ⟨.code x59_17, [.blk 1, .seq x59_20, .loop x59_7, .blk 0, .seq x59_21, .call [.tmp 4] (some 7) (o51_3.drop 3) [.slice (some (.new p5 0)) 2 2 true, .str nm, U, U, .bool false, .slice (some (.new p5 0)) 2 2 true, .str nm, U, U] [] none, .seq .ret, .call [.tmp 4] (some 12) (o30_3.drop 8) (E11 id sp nm a n m x p5 p8) [] none, .seq .ret, .call [.tmp 4] (some 10) (o31_7.drop 3) (((E9 sc id sp nm a n m x p1).set 8 (.agg [.int .i64 id, .int .i64 sp, .str nm, .slice a n m x])).set 9 (.slice (some (.new p5 0)) 2 2 true)) [] none, .seq .ret, .seq x31_8], (((E12 p5 nm).set 15 (.str k_html)).set 16 (.bool (nm == k_html))), [], h9, none⟩ (by kernel_rfl) ?_
      refine WpM.cond (t := (nm == k_html)) (by kernel_rfl) (fun c12 => ?_) (fun c12 => ?_)
      · have c12p := beq_t c12
        refine WpM.run tab_ok 30 ⟨.done .ret, [], (E13 sc id sp nm a n m x p1 p5), [], h9, none⟩ (by kernel_rfl) ?_
        refine WpM.ret (.bool true) h9 (by kernel_rfl) (by kernel_rfl) ?_
        refine ⟨((((HX.refl h).alloc a3).alloc a7).alloc a10), congrArg V.bool ?_⟩
        first | rfl | (simp only [endsM, tableM, c4, c11, c12, Bool.true_and, Bool.false_and, Bool.and_true, Bool.and_false, Bool.or_false, Bool.false_or, Bool.true_or, Bool.or_true, Bool.not_true, Bool.not_false, Int.reduceBEq, beq_self_eq_true, if_true, Bool.false_eq_true, if_false]; first | done | rfl) | (simp [endsM, tableM, *]; done) | (simp_all [endsM, tableM]; done)
      · have c12p := beq_f c12
        refine WpM.run tab_ok 31 ⟨.ops (p59_16_4 :: o59_16.drop 5), [.seq x59_17, .blk 1, .seq x59_20, .loop x59_7, .blk 0, .seq x59_21, .call [.tmp 4] (some 7) (o51_3.drop 3) [.slice (some (.new p5 0)) 2 2 true, .str nm, U, U, .bool false, .slice (some (.new p5 0)) 2 2 true, .str nm, U, U] [] none, .seq .ret, .call [.tmp 4] (some 12) (o30_3.drop 8) (E11 id sp nm a n m x p5 p8) [] none, .seq .ret, .call [.tmp 4] (some 10) (o31_7.drop 3) (((E13 sc id sp nm a n m x p1 p5).set 4 (.bool false)).set 10 U) [] none, .seq .ret, .seq x31_8], (E14 p5 nm), [], h9, none⟩ (by kernel_rfl) ?_
        refine WpM.op (.str k_table) _ (by kernel_rfl) (load_new (o := 1) (by kernel_rfl) (a10.keep a7.lt a7.get) (by kernel_rfl)) ?_
        refine WpM.run tab_ok 3 ⟨.code x59_17, [.blk 1, .seq x59_20, .loop x59_7, .blk 0, .seq x59_21, .call [.tmp 4] (some 7) (o51_3.drop 3) [.slice (some (.new p5 0)) 2 2 true, .str nm, U, U, .bool false, .slice (some (.new p5 0)) 2 2 true, .str nm, U, U] [] none, .seq .ret, .call [.tmp 4] (some 12) (o30_3.drop 8) (E11 id sp nm a n m x p5 p8) [] none, .seq .ret, .call [.tmp 4] (some 10) (o31_7.drop 3) (((E13 sc id sp nm a n m x p1 p5).set 4 (.bool false)).set 10 U) [] none, .seq .ret, .seq x31_8], (((E14 p5 nm).set 15 (.str k_table)).set 16 (.bool (nm == k_table))), [], h9, none⟩ (by kernel_rfl) ?_
        refine WpM.cond (t := (nm == k_table)) (by kernel_rfl) (fun c13 => ?_) (fun c13 => ?_)
        · have c13p := beq_t c13
          refine WpM.run tab_ok 30 ⟨.done .ret, [], (E13 sc id sp nm a n m x p1 p5), [], h9, none⟩ (by kernel_rfl) ?_
          refine WpM.ret (.bool true) h9 (by kernel_rfl) (by kernel_rfl) ?_
          refine ⟨((((HX.refl h).alloc a3).alloc a7).alloc a10), congrArg V.bool ?_⟩
          first | rfl | (simp only [endsM, tableM, c4, c11, c12, c13, Bool.true_and, Bool.false_and, Bool.and_true, Bool.and_false, Bool.or_false, Bool.false_or, Bool.true_or, Bool.or_true, Bool.not_true, Bool.not_false, Int.reduceBEq, beq_self_eq_true, if_true, Bool.false_eq_true, if_false]; first | done | rfl) | (simp [endsM, tableM, *]; done) | (simp_all [endsM, tableM]; done)
        · have c13p := beq_f c13
          refine WpM.run tab_ok 44 ⟨.done .ret, [], (((E13 sc id sp nm a n m x p1 p5).set 4 (.bool false)).set 10 (.bool false)), [], h9, none⟩ (by kernel_rfl) ?_
          refine WpM.ret (.bool false) h9 (by kernel_rfl) (by kernel_rfl) ?_
          refine ⟨((((HX.refl h).alloc a3).alloc a7).alloc a10), congrArg V.bool ?_⟩
          first | rfl | (simp only [endsM, tableM, c4, c11, c12, c13, Bool.true_and, Bool.false_and, Bool.and_true, Bool.and_false, Bool.or_false, Bool.false_or, Bool.true_or, Bool.or_true, Bool.not_true, Bool.not_false, Int.reduceBEq, beq_self_eq_true, if_true, Bool.false_eq_true, if_false]; first | done | rfl) | (simp [endsM, tableM, *]; done) | (simp_all [endsM, tableM]; done)
    · have c11p := beq_f c11
      refine WpM.run tab_ok 15 ⟨.done .ret, [], (((E13 sc id sp nm a n m x p1 p5).set 4 (.bool false)).set 10 (.bool false)), [], h9, none⟩ (by kernel_rfl) ?_
      refine WpM.ret (.bool false) h9 (by kernel_rfl) (by kernel_rfl) ?_
      refine ⟨((((HX.refl h).alloc a3).alloc a7).alloc a10), congrArg V.bool ?_⟩
      first | rfl | (simp only [endsM, tableM, c4, c11, Bool.true_and, Bool.false_and, Bool.and_true, Bool.and_false, Bool.or_false, Bool.false_or, Bool.true_or, Bool.or_true, Bool.not_true, Bool.not_false, Int.reduceBEq, beq_self_eq_true, if_true, Bool.false_eq_true, if_false]; first | done | rfl) | (simp [endsM, tableM, *]; done) | (simp_all [endsM, tableM]; done)
  · have c4p := beq_f c4
    refine WpM.run tab_ok 11 ⟨.ops (p31_12_1 :: o31_12.drop 2), [.seq x31_13, .seq x31_38], (E15 sc id sp nm a n m x p1), [], h2, none⟩ (by kernel_rfl) ?_
    refine WpM.op (.int .i64 sp) _ (by kernel_rfl) (load_new (o := 1) (by kernel_rfl) a3.get (by kernel_rfl)) ?_
    refine WpM.run tab_ok 9 ⟨.code x31_16, [.blk 0, .seq x31_38], ((((E15 sc id sp nm a n m x p1).set 12 (.int .i64 sp)).set 13 (.bool (sp == 0))).set 14 (.bool (sp == 0))), [], h2, none⟩ (by kernel_rfl) ?_
    refine WpM.cond (t := (sp == 0)) (by kernel_rfl) (fun c14 => ?_) (fun c14 => ?_)
    · have c14p := beq_t c14
      refine WpM.run tab_ok 17 ⟨.code x31_24, [.blk 1, .blk 0, .seq x31_38], (E16 sc id sp nm a n m x p1), [], h2, none⟩ (by kernel_rfl) ?_
      refine WpM.cond (t := (sc == 1)) (by kernel_rfl) (fun c15 => ?_) (fun c15 => ?_)
      · have c15p := beq_t c15
        refine WpM.run tab_ok 11 ⟨.ops (p31_39_1 :: o31_39.drop 2), [.seq .ret], (.int .i64 sc :: .agg [.int .i64 id, .int .i64 sp, .str nm, .slice a n m x] :: U :: .ptr (some (.new p1 0)) :: .bool false :: .str k_appletcaptionhtmltabletd' :: .int .i64 sc :: .bool (sc == 3) :: U :: U :: U :: .ptr (some (.new p1 1)) :: .int .i64 sp :: .bool (sp == 0) :: .bool (sp == 0) :: .int .i64 sc :: .bool (sc == 1) :: .bool (sc == 1) :: .str k_appletcaptionhtmltabletd :: .str k_appletcaptionhtmltabletd' :: U :: U :: U :: U :: U :: U :: U :: U :: .ptr (some (.new p1 2)) :: us 16), [], h2, none⟩ (by kernel_rfl) ?_
        refine WpM.op (.str nm) _ (by kernel_rfl) (load_new (o := 2) (by kernel_rfl) a3.get (by kernel_rfl)) ?_
        refine WpM.run tab_ok 2 ⟨.ops (p31_39_4 :: o31_39.drop 5), [.seq .ret], (.int .i64 sc :: .agg [.int .i64 id, .int .i64 sp, .str nm, .slice a n m x] :: U :: .ptr (some (.new p1 0)) :: .bool false :: .str k_appletcaptionhtmltabletd' :: .int .i64 sc :: .bool (sc == 3) :: U :: U :: U :: .ptr (some (.new p1 1)) :: .int .i64 sp :: .bool (sp == 0) :: .bool (sp == 0) :: .int .i64 sc :: .bool (sc == 1) :: .bool (sc == 1) :: .str k_appletcaptionhtmltabletd :: .str k_appletcaptionhtmltabletd' :: U :: U :: U :: U :: U :: U :: U :: U :: .ptr (some (.new p1 2)) :: .str nm :: .bool (!(nm == [])) :: .bool (!(nm == [])) :: us 13), [], h2, none⟩ (by kernel_rfl) ?_
        refine WpM.guard (b := (!(nm == []))) (by kernel_rfl) (fun c16 => ?_) (fun c16 => ?_)
        · have c16p := nbeq_t c16
          refine WpM.run tab_ok 1 ⟨.ops (p31_39_5 :: o31_39.drop 6), [.seq .ret], (.int .i64 sc :: .agg [.int .i64 id, .int .i64 sp, .str nm, .slice a n m x] :: U :: .ptr (some (.new p1 0)) :: .bool false :: .str k_appletcaptionhtmltabletd' :: .int .i64 sc :: .bool (sc == 3) :: U :: U :: U :: .ptr (some (.new p1 1)) :: .int .i64 sp :: .bool (sp == 0) :: .bool (sp == 0) :: .int .i64 sc :: .bool (sc == 1) :: .bool (sc == 1) :: .str k_appletcaptionhtmltabletd :: .str k_appletcaptionhtmltabletd' :: U :: U :: U :: U :: U :: U :: U :: U :: .ptr (some (.new p1 2)) :: .str nm :: .bool (!(nm == [])) :: .bool true :: .ptr (some (.new p1 2)) :: us 12), [], h2, none⟩ (by kernel_rfl) ?_
          refine WpM.op (.str nm) _ (by kernel_rfl) (load_new (o := 2) (by kernel_rfl) a3.get (by kernel_rfl)) ?_
          refine WpM.run tab_ok 0 ⟨.ops (p31_39_6 :: o31_39.drop 7), [.seq .ret], (.int .i64 sc :: .agg [.int .i64 id, .int .i64 sp, .str nm, .slice a n m x] :: U :: .ptr (some (.new p1 0)) :: .bool false :: .str k_appletcaptionhtmltabletd' :: .int .i64 sc :: .bool (sc == 3) :: U :: U :: U :: .ptr (some (.new p1 1)) :: .int .i64 sp :: .bool (sp == 0) :: .bool (sp == 0) :: .int .i64 sc :: .bool (sc == 1) :: .bool (sc == 1) :: .str k_appletcaptionhtmltabletd :: .str k_appletcaptionhtmltabletd' :: U :: U :: U :: U :: U :: U :: U :: U :: .ptr (some (.new p1 2)) :: .str nm :: .bool (!(nm == [])) :: .bool true :: .ptr (some (.new p1 2)) :: .str nm :: us 11), [], h2, none⟩ (by kernel_rfl) ?_
          refine WpM.givenQ (f := 52) (args := [.str nm, .str [32]]) (q := q52) (.bool (Lib.contains nm [32])) (by kernel_rfl) (by kernel_rfl) (by kernel_rfl) (by simp only [q52]; rw [if_pos (.inr rfl)]) ?_
          refine WpM.run tab_ok 3 ⟨.ops (p31_39_10 :: o31_39.drop 11), [.seq .ret], (.int .i64 sc :: .agg [.int .i64 id, .int .i64 sp, .str nm, .slice a n m x] :: U :: .ptr (some (.new p1 0)) :: .bool false :: .str k_appletcaptionhtmltabletd' :: .int .i64 sc :: .bool (sc == 3) :: U :: U :: U :: .ptr (some (.new p1 1)) :: .int .i64 sp :: .bool (sp == 0) :: .bool (sp == 0) :: .int .i64 sc :: .bool (sc == 1) :: .bool (sc == 1) :: .str k_appletcaptionhtmltabletd :: .str k_appletcaptionhtmltabletd' :: U :: U :: U :: U :: U :: U :: U :: U :: .ptr (some (.new p1 2)) :: .str nm :: .bool (!(nm == [])) :: .bool true :: .ptr (some (.new p1 2)) :: .str nm :: .bool (Lib.contains nm [32]) :: .bool (!(Lib.contains nm [32])) :: .bool (!(Lib.contains nm [32])) :: .bool (!(Lib.contains nm [32])) :: us 7), [], h2, none⟩ (by kernel_rfl) ?_
          refine WpM.guard (b := (!(Lib.contains nm [32]))) (by kernel_rfl) (fun c17 => ?_) (fun c17 => ?_)
          · have c17p := not_t c17
            refine WpM.run tab_ok 2 ⟨.ops (p31_39_12 :: o31_39.drop 13), [.seq .ret], (.int .i64 sc :: .agg [.int .i64 id, .int .i64 sp, .str nm, .slice a n m x] :: U :: .ptr (some (.new p1 0)) :: .bool false :: .str k_appletcaptionhtmltabletd' :: .int .i64 sc :: .bool (sc == 3) :: U :: U :: U :: .ptr (some (.new p1 1)) :: .int .i64 sp :: .bool (sp == 0) :: .bool (sp == 0) :: .int .i64 sc :: .bool (sc == 1) :: .bool (sc == 1) :: .str k_appletcaptionhtmltabletd :: .str k_appletcaptionhtmltabletd' :: U :: U :: U :: U :: U :: U :: U :: U :: .ptr (some (.new p1 2)) :: .str nm :: .bool (!(nm == [])) :: .bool true :: .ptr (some (.new p1 2)) :: .str nm :: .bool (Lib.contains nm [32]) :: .bool (!(Lib.contains nm [32])) :: .bool (!(Lib.contains nm [32])) :: .bool true :: .str k_appletcaptionhtmltabletd' :: .ptr (some (.new p1 2)) :: us 5), [], h2, none⟩ (by kernel_rfl) ?_
            refine WpM.op (.str nm) _ (by kernel_rfl) (load_new (o := 2) (by kernel_rfl) a3.get (by kernel_rfl)) ?_
            refine WpM.run tab_ok 0 ⟨.ops (p31_39_13 :: o31_39.drop 14), [.seq .ret], (.int .i64 sc :: .agg [.int .i64 id, .int .i64 sp, .str nm, .slice a n m x] :: U :: .ptr (some (.new p1 0)) :: .bool false :: .str k_appletcaptionhtmltabletd' :: .int .i64 sc :: .bool (sc == 3) :: U :: U :: U :: .ptr (some (.new p1 1)) :: .int .i64 sp :: .bool (sp == 0) :: .bool (sp == 0) :: .int .i64 sc :: .bool (sc == 1) :: .bool (sc == 1) :: .str k_appletcaptionhtmltabletd :: .str k_appletcaptionhtmltabletd' :: U :: U :: U :: U :: U :: U :: U :: U :: .ptr (some (.new p1 2)) :: .str nm :: .bool (!(nm == [])) :: .bool true :: .ptr (some (.new p1 2)) :: .str nm :: .bool (Lib.contains nm [32]) :: .bool (!(Lib.contains nm [32])) :: .bool (!(Lib.contains nm [32])) :: .bool true :: .str k_appletcaptionhtmltabletd' :: .ptr (some (.new p1 2)) :: .str nm :: us 4), [], h2, none⟩ (by kernel_rfl) ?_
            refine WpM.op (.str ([32] ++ nm)) _ (by kernel_rfl) (concat_str (by kernel_rfl) (by kernel_rfl) (by (try simp only [List.length_append, List.length_cons, List.length_nil]); omega)) ?_
            refine WpM.run tab_ok 0 ⟨.ops (p31_39_14 :: o31_39.drop 15), [.seq .ret], (.int .i64 sc :: .agg [.int .i64 id, .int .i64 sp, .str nm, .slice a n m x] :: U :: .ptr (some (.new p1 0)) :: .bool false :: .str k_appletcaptionhtmltabletd' :: .int .i64 sc :: .bool (sc == 3) :: U :: U :: U :: .ptr (some (.new p1 1)) :: .int .i64 sp :: .bool (sp == 0) :: .bool (sp == 0) :: .int .i64 sc :: .bool (sc == 1) :: .bool (sc == 1) :: .str k_appletcaptionhtmltabletd :: .str k_appletcaptionhtmltabletd' :: U :: U :: U :: U :: U :: U :: U :: U :: .ptr (some (.new p1 2)) :: .str nm :: .bool (!(nm == [])) :: .bool true :: .ptr (some (.new p1 2)) :: .str nm :: .bool (Lib.contains nm [32]) :: .bool (!(Lib.contains nm [32])) :: .bool (!(Lib.contains nm [32])) :: .bool true :: .str k_appletcaptionhtmltabletd' :: .ptr (some (.new p1 2)) :: .str nm :: .str ([32] ++ nm) :: U :: U :: U :: []), [], h2, none⟩ (by kernel_rfl) ?_
            refine WpM.op (.str (([32] ++ nm) ++ [32])) _ (by kernel_rfl) (concat_str (by kernel_rfl) (by kernel_rfl) (by (try simp only [List.length_append, List.length_cons, List.length_nil]); omega)) ?_
            refine WpM.run tab_ok 0 ⟨.ops (p31_39_15 :: o31_39.drop 16), [.seq .ret], (.int .i64 sc :: .agg [.int .i64 id, .int .i64 sp, .str nm, .slice a n m x] :: U :: .ptr (some (.new p1 0)) :: .bool false :: .str k_appletcaptionhtmltabletd' :: .int .i64 sc :: .bool (sc == 3) :: U :: U :: U :: .ptr (some (.new p1 1)) :: .int .i64 sp :: .bool (sp == 0) :: .bool (sp == 0) :: .int .i64 sc :: .bool (sc == 1) :: .bool (sc == 1) :: .str k_appletcaptionhtmltabletd :: .str k_appletcaptionhtmltabletd' :: U :: U :: U :: U :: U :: U :: U :: U :: .ptr (some (.new p1 2)) :: .str nm :: .bool (!(nm == [])) :: .bool true :: .ptr (some (.new p1 2)) :: .str nm :: .bool (Lib.contains nm [32]) :: .bool (!(Lib.contains nm [32])) :: .bool (!(Lib.contains nm [32])) :: .bool true :: .str k_appletcaptionhtmltabletd' :: .ptr (some (.new p1 2)) :: .str nm :: .str ([32] ++ nm) :: .str (([32] ++ nm) ++ [32]) :: U :: U :: []), [], h2, none⟩ (by kernel_rfl) ?_
            refine WpM.givenQ (f := 52) (args := [.str k_appletcaptionhtmltabletd', .str (([32] ++ nm) ++ [32])]) (q := q52) (.bool (Lib.contains k_appletcaptionhtmltabletd' (([32] ++ nm) ++ [32]))) (by kernel_rfl) (by kernel_rfl) (by kernel_rfl) (by simp only [q52]; rw [if_pos (.inl (by decide))]) ?_
            refine WpM.run tab_ok 5 ⟨.done .ret, [], (.int .i64 sc :: .agg [.int .i64 id, .int .i64 sp, .str nm, .slice a n m x] :: U :: .ptr (some (.new p1 0)) :: .bool (Lib.contains k_appletcaptionhtmltabletd' (([32] ++ nm) ++ [32])) :: .str k_appletcaptionhtmltabletd' :: .int .i64 sc :: .bool (sc == 3) :: U :: U :: U :: .ptr (some (.new p1 1)) :: .int .i64 sp :: .bool (sp == 0) :: .bool (sp == 0) :: .int .i64 sc :: .bool (sc == 1) :: .bool (sc == 1) :: .str k_appletcaptionhtmltabletd :: .str k_appletcaptionhtmltabletd' :: U :: U :: U :: U :: U :: U :: U :: U :: .ptr (some (.new p1 2)) :: .str nm :: .bool (!(nm == [])) :: .bool true :: .ptr (some (.new p1 2)) :: .str nm :: .bool (Lib.contains nm [32]) :: .bool (!(Lib.contains nm [32])) :: .bool (!(Lib.contains nm [32])) :: .bool true :: .str k_appletcaptionhtmltabletd' :: .ptr (some (.new p1 2)) :: .str nm :: .str ([32] ++ nm) :: .str (([32] ++ nm) ++ [32]) :: .bool (Lib.contains k_appletcaptionhtmltabletd' (([32] ++ nm) ++ [32])) :: .bool (Lib.contains k_appletcaptionhtmltabletd' (([32] ++ nm) ++ [32])) :: []), [], h2, none⟩ (by kernel_rfl) ?_
            refine WpM.ret (.bool (Lib.contains k_appletcaptionhtmltabletd' (([32] ++ nm) ++ [32]))) h2 (by kernel_rfl) (by kernel_rfl) ?_
            refine ⟨((HX.refl h).alloc a3), congrArg V.bool ?_⟩
            first | rfl | (simp only [endsM, tableM, c4, c14, c15, (of_not_t c16), (of_not_t c17), Bool.true_and, Bool.false_and, Bool.and_true, Bool.and_false, Bool.or_false, Bool.false_or, Bool.true_or, Bool.or_true, Bool.not_true, Bool.not_false, Int.reduceBEq, beq_self_eq_true, if_true, Bool.false_eq_true, if_false]; first | done | rfl) | (simp [endsM, tableM, *]; done) | (simp_all [endsM, tableM]; done)
          · have c17p := not_f c17
            refine WpM.run tab_ok 11 ⟨.done .ret, [], (.int .i64 sc :: .agg [.int .i64 id, .int .i64 sp, .str nm, .slice a n m x] :: U :: .ptr (some (.new p1 0)) :: .bool false :: .str k_appletcaptionhtmltabletd' :: .int .i64 sc :: .bool (sc == 3) :: U :: U :: U :: .ptr (some (.new p1 1)) :: .int .i64 sp :: .bool (sp == 0) :: .bool (sp == 0) :: .int .i64 sc :: .bool (sc == 1) :: .bool (sc == 1) :: .str k_appletcaptionhtmltabletd :: .str k_appletcaptionhtmltabletd' :: U :: U :: U :: U :: U :: U :: U :: U :: .ptr (some (.new p1 2)) :: .str nm :: .bool (!(nm == [])) :: .bool true :: .ptr (some (.new p1 2)) :: .str nm :: .bool (Lib.contains nm [32]) :: .bool (!(Lib.contains nm [32])) :: .bool (!(Lib.contains nm [32])) :: .bool false :: U :: U :: U :: U :: U :: U :: .bool false :: []), [], h2, none⟩ (by kernel_rfl) ?_
            refine WpM.ret (.bool false) h2 (by kernel_rfl) (by kernel_rfl) ?_
            refine ⟨((HX.refl h).alloc a3), congrArg V.bool ?_⟩
            first | rfl | (simp only [endsM, tableM, c4, c14, c15, (of_not_t c16), (of_not_f c17), Bool.true_and, Bool.false_and, Bool.and_true, Bool.and_false, Bool.or_false, Bool.false_or, Bool.true_or, Bool.or_true, Bool.not_true, Bool.not_false, Int.reduceBEq, beq_self_eq_true, if_true, Bool.false_eq_true, if_false]; first | done | rfl) | (simp [endsM, tableM, *]; done) | (simp_all [endsM, tableM]; done)
        · have c16p := nbeq_f c16
          refine WpM.run tab_ok 17 ⟨.done .ret, [], (.int .i64 sc :: .agg [.int .i64 id, .int .i64 sp, .str nm, .slice a n m x] :: U :: .ptr (some (.new p1 0)) :: .bool false :: .str k_appletcaptionhtmltabletd' :: .int .i64 sc :: .bool (sc == 3) :: U :: U :: U :: .ptr (some (.new p1 1)) :: .int .i64 sp :: .bool (sp == 0) :: .bool (sp == 0) :: .int .i64 sc :: .bool (sc == 1) :: .bool (sc == 1) :: .str k_appletcaptionhtmltabletd :: .str k_appletcaptionhtmltabletd' :: U :: U :: U :: U :: U :: U :: U :: U :: .ptr (some (.new p1 2)) :: .str nm :: .bool (!(nm == [])) :: .bool false :: U :: U :: U :: U :: .bool false :: .bool false :: U :: U :: U :: U :: U :: U :: .bool false :: []), [], h2, none⟩ (by kernel_rfl) ?_
          refine WpM.ret (.bool false) h2 (by kernel_rfl) (by kernel_rfl) ?_
          refine ⟨((HX.refl h).alloc a3), congrArg V.bool ?_⟩
          first | rfl | (simp only [endsM, tableM, c4, c14, c15, (of_not_f c16), Bool.true_and, Bool.false_and, Bool.and_true, Bool.and_false, Bool.or_false, Bool.false_or, Bool.true_or, Bool.or_true, Bool.not_true, Bool.not_false, Int.reduceBEq, beq_self_eq_true, if_true, Bool.false_eq_true, if_false]; first | done | rfl) | (simp [endsM, tableM, *]; done) | (simp_all [endsM, tableM]; done)
      · have c15p := beq_f c15
        refine WpM.run tab_ok 6 ⟨.code x31_28, [.blk 1, .blk 0, .seq x31_38], (((E16 sc id sp nm a n m x p1).set 20 (.bool (sc == 2))).set 21 (.bool (sc == 2))), [], h2, none⟩ (by kernel_rfl) ?_
        refine WpM.cond (t := (sc == 2)) (by kernel_rfl) (fun c18 => ?_) (fun c18 => ?_)
        · have c18p := beq_t c18
          refine WpM.run tab_ok 11 ⟨.ops (p31_39_1 :: o31_39.drop 2), [.seq .ret], (.int .i64 sc :: .agg [.int .i64 id, .int .i64 sp, .str nm, .slice a n m x] :: U :: .ptr (some (.new p1 0)) :: .bool false :: .str k_appletcaptionhtmltabletd'' :: .int .i64 sc :: .bool (sc == 3) :: U :: U :: U :: .ptr (some (.new p1 1)) :: .int .i64 sp :: .bool (sp == 0) :: .bool (sp == 0) :: .int .i64 sc :: .bool (sc == 1) :: .bool (sc == 1) :: U :: U :: .bool (sc == 2) :: .bool (sc == 2) :: .str k_appletcaptionhtmltabletd :: .str k_appletcaptionhtmltabletd'' :: U :: U :: U :: U :: .ptr (some (.new p1 2)) :: us 16), [], h2, none⟩ (by kernel_rfl) ?_
          refine WpM.op (.str nm) _ (by kernel_rfl) (load_new (o := 2) (by kernel_rfl) a3.get (by kernel_rfl)) ?_
          refine WpM.run tab_ok 2 ⟨.ops (p31_39_4 :: o31_39.drop 5), [.seq .ret], (.int .i64 sc :: .agg [.int .i64 id, .int .i64 sp, .str nm, .slice a n m x] :: U :: .ptr (some (.new p1 0)) :: .bool false :: .str k_appletcaptionhtmltabletd'' :: .int .i64 sc :: .bool (sc == 3) :: U :: U :: U :: .ptr (some (.new p1 1)) :: .int .i64 sp :: .bool (sp == 0) :: .bool (sp == 0) :: .int .i64 sc :: .bool (sc == 1) :: .bool (sc == 1) :: U :: U :: .bool (sc == 2) :: .bool (sc == 2) :: .str k_appletcaptionhtmltabletd :: .str k_appletcaptionhtmltabletd'' :: U :: U :: U :: U :: .ptr (some (.new p1 2)) :: .str nm :: .bool (!(nm == [])) :: .bool (!(nm == [])) :: us 13), [], h2, none⟩ (by kernel_rfl) ?_
          refine WpM.guard (b := (!(nm == []))) (by kernel_rfl) (fun c19 => ?_) (fun c19 => ?_)
          · have c19p := nbeq_t c19
            refine WpM.run tab_ok 1 ⟨.ops (p31_39_5 :: o31_39.drop 6), [.seq .ret], (.int .i64 sc :: .agg [.int .i64 id, .int .i64 sp, .str nm, .slice a n m x] :: U :: .ptr (some (.new p1 0)) :: .bool false :: .str k_appletcaptionhtmltabletd'' :: .int .i64 sc :: .bool (sc == 3) :: U :: U :: U :: .ptr (some (.new p1 1)) :: .int .i64 sp :: .bool (sp == 0) :: .bool (sp == 0) :: .int .i64 sc :: .bool (sc == 1) :: .bool (sc == 1) :: U :: U :: .bool (sc == 2) :: .bool (sc == 2) :: .str k_appletcaptionhtmltabletd :: .str k_appletcaptionhtmltabletd'' :: U :: U :: U :: U :: .ptr (some (.new p1 2)) :: .str nm :: .bool (!(nm == [])) :: .bool true :: .ptr (some (.new p1 2)) :: us 12), [], h2, none⟩ (by kernel_rfl) ?_
            refine WpM.op (.str nm) _ (by kernel_rfl) (load_new (o := 2) (by kernel_rfl) a3.get (by kernel_rfl)) ?_
            refine WpM.run tab_ok 0 ⟨.ops (p31_39_6 :: o31_39.drop 7), [.seq .ret], (.int .i64 sc :: .agg [.int .i64 id, .int .i64 sp, .str nm, .slice a n m x] :: U :: .ptr (some (.new p1 0)) :: .bool false :: .str k_appletcaptionhtmltabletd'' :: .int .i64 sc :: .bool (sc == 3) :: U :: U :: U :: .ptr (some (.new p1 1)) :: .int .i64 sp :: .bool (sp == 0) :: .bool (sp == 0) :: .int .i64 sc :: .bool (sc == 1) :: .bool (sc == 1) :: U :: U :: .bool (sc == 2) :: .bool (sc == 2) :: .str k_appletcaptionhtmltabletd :: .str k_appletcaptionhtmltabletd'' :: U :: U :: U :: U :: .ptr (some (.new p1 2)) :: .str nm :: .bool (!(nm == [])) :: .bool true :: .ptr (some (.new p1 2)) :: .str nm :: us 11), [], h2, none⟩ (by kernel_rfl) ?_
            refine WpM.givenQ (f := 52) (args := [.str nm, .str [32]]) (q := q52) (.bool (Lib.contains nm [32])) (by kernel_rfl) (by kernel_rfl) (by kernel_rfl) (by simp only [q52]; rw [if_pos (.inr rfl)]) ?_
            refine WpM.run tab_ok 3 ⟨.ops (p31_39_10 :: o31_39.drop 11), [.seq .ret], (.int .i64 sc :: .agg [.int .i64 id, .int .i64 sp, .str nm, .slice a n m x] :: U :: .ptr (some (.new p1 0)) :: .bool false :: .str k_appletcaptionhtmltabletd'' :: .int .i64 sc :: .bool (sc == 3) :: U :: U :: U :: .ptr (some (.new p1 1)) :: .int .i64 sp :: .bool (sp == 0) :: .bool (sp == 0) :: .int .i64 sc :: .bool (sc == 1) :: .bool (sc == 1) :: U :: U :: .bool (sc == 2) :: .bool (sc == 2) :: .str k_appletcaptionhtmltabletd :: .str k_appletcaptionhtmltabletd'' :: U :: U :: U :: U :: .ptr (some (.new p1 2)) :: .str nm :: .bool (!(nm == [])) :: .bool true :: .ptr (some (.new p1 2)) :: .str nm :: .bool (Lib.contains nm [32]) :: .bool (!(Lib.contains nm [32])) :: .bool (!(Lib.contains nm [32])) :: .bool (!(Lib.contains nm [32])) :: us 7), [], h2, none⟩ (by kernel_rfl) ?_
            refine WpM.guard (b := (!(Lib.contains nm [32]))) (by kernel_rfl) (fun c20 => ?_) (fun c20 => ?_)
            · have c20p := not_t c20
              refine WpM.run tab_ok 2 ⟨.ops (p31_39_12 :: o31_39.drop 13), [.seq .ret], (.int .i64 sc :: .agg [.int .i64 id, .int .i64 sp, .str nm, .slice a n m x] :: U :: .ptr (some (.new p1 0)) :: .bool false :: .str k_appletcaptionhtmltabletd'' :: .int .i64 sc :: .bool (sc == 3) :: U :: U :: U :: .ptr (some (.new p1 1)) :: .int .i64 sp :: .bool (sp == 0) :: .bool (sp == 0) :: .int .i64 sc :: .bool (sc == 1) :: .bool (sc == 1) :: U :: U :: .bool (sc == 2) :: .bool (sc == 2) :: .str k_appletcaptionhtmltabletd :: .str k_appletcaptionhtmltabletd'' :: U :: U :: U :: U :: .ptr (some (.new p1 2)) :: .str nm :: .bool (!(nm == [])) :: .bool true :: .ptr (some (.new p1 2)) :: .str nm :: .bool (Lib.contains nm [32]) :: .bool (!(Lib.contains nm [32])) :: .bool (!(Lib.contains nm [32])) :: .bool true :: .str k_appletcaptionhtmltabletd'' :: .ptr (some (.new p1 2)) :: us 5), [], h2, none⟩ (by kernel_rfl) ?_
              refine WpM.op (.str nm) _ (by kernel_rfl) (load_new (o := 2) (by kernel_rfl) a3.get (by kernel_rfl)) ?_
              refine WpM.run tab_ok 0 ⟨.ops (p31_39_13 :: o31_39.drop 14), [.seq .ret], (.int .i64 sc :: .agg [.int .i64 id, .int .i64 sp, .str nm, .slice a n m x] :: U :: .ptr (some (.new p1 0)) :: .bool false :: .str k_appletcaptionhtmltabletd'' :: .int .i64 sc :: .bool (sc == 3) :: U :: U :: U :: .ptr (some (.new p1 1)) :: .int .i64 sp :: .bool (sp == 0) :: .bool (sp == 0) :: .int .i64 sc :: .bool (sc == 1) :: .bool (sc == 1) :: U :: U :: .bool (sc == 2) :: .bool (sc == 2) :: .str k_appletcaptionhtmltabletd :: .str k_appletcaptionhtmltabletd'' :: U :: U :: U :: U :: .ptr (some (.new p1 2)) :: .str nm :: .bool (!(nm == [])) :: .bool true :: .ptr (some (.new p1 2)) :: .str nm :: .bool (Lib.contains nm [32]) :: .bool (!(Lib.contains nm [32])) :: .bool (!(Lib.contains nm [32])) :: .bool true :: .str k_appletcaptionhtmltabletd'' :: .ptr (some (.new p1 2)) :: .str nm :: us 4), [], h2, none⟩ (by kernel_rfl) ?_
              refine WpM.op (.str ([32] ++ nm)) _ (by kernel_rfl) (concat_str (by kernel_rfl) (by kernel_rfl) (by (try simp only [List.length_append, List.length_cons, List.length_nil]); omega)) ?_
              refine WpM.run tab_ok 0 ⟨.ops (p31_39_14 :: o31_39.drop 15), [.seq .ret], (.int .i64 sc :: .agg [.int .i64 id, .int .i64 sp, .str nm, .slice a n m x] :: U :: .ptr (some (.new p1 0)) :: .bool false :: .str k_appletcaptionhtmltabletd'' :: .int .i64 sc :: .bool (sc == 3) :: U :: U :: U :: .ptr (some (.new p1 1)) :: .int .i64 sp :: .bool (sp == 0) :: .bool (sp == 0) :: .int .i64 sc :: .bool (sc == 1) :: .bool (sc == 1) :: U :: U :: .bool (sc == 2) :: .bool (sc == 2) :: .str k_appletcaptionhtmltabletd :: .str k_appletcaptionhtmltabletd'' :: U :: U :: U :: U :: .ptr (some (.new p1 2)) :: .str nm :: .bool (!(nm == [])) :: .bool true :: .ptr (some (.new p1 2)) :: .str nm :: .bool (Lib.contains nm [32]) :: .bool (!(Lib.contains nm [32])) :: .bool (!(Lib.contains nm [32])) :: .bool true :: .str k_appletcaptionhtmltabletd'' :: .ptr (some (.new p1 2)) :: .str nm :: .str ([32] ++ nm) :: U :: U :: U :: []), [], h2, none⟩ (by kernel_rfl) ?_
              refine WpM.op (.str (([32] ++ nm) ++ [32])) _ (by kernel_rfl) (concat_str (by kernel_rfl) (by kernel_rfl) (by (try simp only [List.length_append, List.length_cons, List.length_nil]); omega)) ?_
              refine WpM.run tab_ok 0 ⟨.ops (p31_39_15 :: o31_39.drop 16), [.seq .ret], (.int .i64 sc :: .agg [.int .i64 id, .int .i64 sp, .str nm, .slice a n m x] :: U :: .ptr (some (.new p1 0)) :: .bool false :: .str k_appletcaptionhtmltabletd'' :: .int .i64 sc :: .bool (sc == 3) :: U :: U :: U :: .ptr (some (.new p1 1)) :: .int .i64 sp :: .bool (sp == 0) :: .bool (sp == 0) :: .int .i64 sc :: .bool (sc == 1) :: .bool (sc == 1) :: U :: U :: .bool (sc == 2) :: .bool (sc == 2) :: .str k_appletcaptionhtmltabletd :: .str k_appletcaptionhtmltabletd'' :: U :: U :: U :: U :: .ptr (some (.new p1 2)) :: .str nm :: .bool (!(nm == [])) :: .bool true :: .ptr (some (.new p1 2)) :: .str nm :: .bool (Lib.contains nm [32]) :: .bool (!(Lib.contains nm [32])) :: .bool (!(Lib.contains nm [32])) :: .bool true :: .str k_appletcaptionhtmltabletd'' :: .ptr (some (.new p1 2)) :: .str nm :: .str ([32] ++ nm) :: .str (([32] ++ nm) ++ [32]) :: U :: U :: []), [], h2, none⟩ (by kernel_rfl) ?_
              refine WpM.givenQ (f := 52) (args := [.str k_appletcaptionhtmltabletd'', .str (([32] ++ nm) ++ [32])]) (q := q52) (.bool (Lib.contains k_appletcaptionhtmltabletd'' (([32] ++ nm) ++ [32]))) (by kernel_rfl) (by kernel_rfl) (by kernel_rfl) (by simp only [q52]; rw [if_pos (.inl (by decide))]) ?_
              refine WpM.run tab_ok 5 ⟨.done .ret, [], (.int .i64 sc :: .agg [.int .i64 id, .int .i64 sp, .str nm, .slice a n m x] :: U :: .ptr (some (.new p1 0)) :: .bool (Lib.contains k_appletcaptionhtmltabletd'' (([32] ++ nm) ++ [32])) :: .str k_appletcaptionhtmltabletd'' :: .int .i64 sc :: .bool (sc == 3) :: U :: U :: U :: .ptr (some (.new p1 1)) :: .int .i64 sp :: .bool (sp == 0) :: .bool (sp == 0) :: .int .i64 sc :: .bool (sc == 1) :: .bool (sc == 1) :: U :: U :: .bool (sc == 2) :: .bool (sc == 2) :: .str k_appletcaptionhtmltabletd :: .str k_appletcaptionhtmltabletd'' :: U :: U :: U :: U :: .ptr (some (.new p1 2)) :: .str nm :: .bool (!(nm == [])) :: .bool true :: .ptr (some (.new p1 2)) :: .str nm :: .bool (Lib.contains nm [32]) :: .bool (!(Lib.contains nm [32])) :: .bool (!(Lib.contains nm [32])) :: .bool true :: .str k_appletcaptionhtmltabletd'' :: .ptr (some (.new p1 2)) :: .str nm :: .str ([32] ++ nm) :: .str (([32] ++ nm) ++ [32]) :: .bool (Lib.contains k_appletcaptionhtmltabletd'' (([32] ++ nm) ++ [32])) :: .bool (Lib.contains k_appletcaptionhtmltabletd'' (([32] ++ nm) ++ [32])) :: []), [], h2, none⟩ (by kernel_rfl) ?_
              refine WpM.ret (.bool (Lib.contains k_appletcaptionhtmltabletd'' (([32] ++ nm) ++ [32]))) h2 (by kernel_rfl) (by kernel_rfl) ?_
              refine ⟨((HX.refl h).alloc a3), congrArg V.bool ?_⟩
              first | rfl | (simp only [endsM, tableM, c4, c14, c15, c18, (of_not_t c19), (of_not_t c20), Bool.true_and, Bool.false_and, Bool.and_true, Bool.and_false, Bool.or_false, Bool.false_or, Bool.true_or, Bool.or_true, Bool.not_true, Bool.not_false, Int.reduceBEq, beq_self_eq_true, if_true, Bool.false_eq_true, if_false]; first | done | rfl) | (simp [endsM, tableM, *]; done) | (simp_all [endsM, tableM]; done)
            · have c20p := not_f c20
              refine WpM.run tab_ok 11 ⟨.done .ret, [], (.int .i64 sc :: .agg [.int .i64 id, .int .i64 sp, .str nm, .slice a n m x] :: U :: .ptr (some (.new p1 0)) :: .bool false :: .str k_appletcaptionhtmltabletd'' :: .int .i64 sc :: .bool (sc == 3) :: U :: U :: U :: .ptr (some (.new p1 1)) :: .int .i64 sp :: .bool (sp == 0) :: .bool (sp == 0) :: .int .i64 sc :: .bool (sc == 1) :: .bool (sc == 1) :: U :: U :: .bool (sc == 2) :: .bool (sc == 2) :: .str k_appletcaptionhtmltabletd :: .str k_appletcaptionhtmltabletd'' :: U :: U :: U :: U :: .ptr (some (.new p1 2)) :: .str nm :: .bool (!(nm == [])) :: .bool true :: .ptr (some (.new p1 2)) :: .str nm :: .bool (Lib.contains nm [32]) :: .bool (!(Lib.contains nm [32])) :: .bool (!(Lib.contains nm [32])) :: .bool false :: U :: U :: U :: U :: U :: U :: .bool false :: []), [], h2, none⟩ (by kernel_rfl) ?_
              refine WpM.ret (.bool false) h2 (by kernel_rfl) (by kernel_rfl) ?_
              refine ⟨((HX.refl h).alloc a3), congrArg V.bool ?_⟩
              first | rfl | (simp only [endsM, tableM, c4, c14, c15, c18, (of_not_t c19), (of_not_f c20), Bool.true_and, Bool.false_and, Bool.and_true, Bool.and_false, Bool.or_false, Bool.false_or, Bool.true_or, Bool.or_true, Bool.not_true, Bool.not_false, Int.reduceBEq, beq_self_eq_true, if_true, Bool.false_eq_true, if_false]; first | done | rfl) | (simp [endsM, tableM, *]; done) | (simp_all [endsM, tableM]; done)
          · have c19p := nbeq_f c19
            refine WpM.run tab_ok 17 ⟨.done .ret, [], (.int .i64 sc :: .agg [.int .i64 id, .int .i64 sp, .str nm, .slice a n m x] :: U :: .ptr (some (.new p1 0)) :: .bool false :: .str k_appletcaptionhtmltabletd'' :: .int .i64 sc :: .bool (sc == 3) :: U :: U :: U :: .ptr (some (.new p1 1)) :: .int .i64 sp :: .bool (sp == 0) :: .bool (sp == 0) :: .int .i64 sc :: .bool (sc == 1) :: .bool (sc == 1) :: U :: U :: .bool (sc == 2) :: .bool (sc == 2) :: .str k_appletcaptionhtmltabletd :: .str k_appletcaptionhtmltabletd'' :: U :: U :: U :: U :: .ptr (some (.new p1 2)) :: .str nm :: .bool (!(nm == [])) :: .bool false :: U :: U :: U :: U :: .bool false :: .bool false :: U :: U :: U :: U :: U :: U :: .bool false :: []), [], h2, none⟩ (by kernel_rfl) ?_
            refine WpM.ret (.bool false) h2 (by kernel_rfl) (by kernel_rfl) ?_
            refine ⟨((HX.refl h).alloc a3), congrArg V.bool ?_⟩
            first | rfl | (simp only [endsM, tableM, c4, c14, c15, c18, (of_not_f c19), Bool.true_and, Bool.false_and, Bool.and_true, Bool.and_false, Bool.or_false, Bool.false_or, Bool.true_or, Bool.or_true, Bool.not_true, Bool.not_false, Int.reduceBEq, beq_self_eq_true, if_true, Bool.false_eq_true, if_false]; first | done | rfl) | (simp [endsM, tableM, *]; done) | (simp_all [endsM, tableM]; done)
        · have c18p := beq_f c18
          refine WpM.run tab_ok 7 ⟨.ops (p31_39_1 :: o31_39.drop 2), [.seq .ret], ((((E16 sc id sp nm a n m x p1).set 20 (.bool (sc == 2))).set 21 (.bool (sc == 2))).set 28 (.ptr (some (.new p1 2)))), [], h2, none⟩ (by kernel_rfl) ?_
          refine WpM.op (.str nm) _ (by kernel_rfl) (load_new (o := 2) (by kernel_rfl) a3.get (by kernel_rfl)) ?_
          refine WpM.run tab_ok 2 ⟨.ops (p31_39_4 :: o31_39.drop 5), [.seq .ret], (((((((E16 sc id sp nm a n m x p1).set 20 (.bool (sc == 2))).set 21 (.bool (sc == 2))).set 28 (.ptr (some (.new p1 2)))).set 29 (.str nm)).set 30 (.bool (!(nm == [])))).set 31 (.bool (!(nm == [])))), [], h2, none⟩ (by kernel_rfl) ?_
          refine WpM.guard (b := (!(nm == []))) (by kernel_rfl) (fun c21 => ?_) (fun c21 => ?_)
          · have c21p := nbeq_t c21
            refine WpM.run tab_ok 1 ⟨.ops (p31_39_5 :: o31_39.drop 6), [.seq .ret], ((((((((E16 sc id sp nm a n m x p1).set 20 (.bool (sc == 2))).set 21 (.bool (sc == 2))).set 28 (.ptr (some (.new p1 2)))).set 29 (.str nm)).set 30 (.bool (!(nm == [])))).set 31 (.bool true)).set 32 (.ptr (some (.new p1 2)))), [], h2, none⟩ (by kernel_rfl) ?_
            refine WpM.op (.str nm) _ (by kernel_rfl) (load_new (o := 2) (by kernel_rfl) a3.get (by kernel_rfl)) ?_
            refine WpM.run tab_ok 0 ⟨.ops (p31_39_6 :: o31_39.drop 7), [.seq .ret], (((((((((E16 sc id sp nm a n m x p1).set 20 (.bool (sc == 2))).set 21 (.bool (sc == 2))).set 28 (.ptr (some (.new p1 2)))).set 29 (.str nm)).set 30 (.bool (!(nm == [])))).set 31 (.bool true)).set 32 (.ptr (some (.new p1 2)))).set 33 (.str nm)), [], h2, none⟩ (by kernel_rfl) ?_
            refine WpM.givenQ (f := 52) (args := [.str nm, .str [32]]) (q := q52) (.bool (Lib.contains nm [32])) (by kernel_rfl) (by kernel_rfl) (by kernel_rfl) (by simp only [q52]; rw [if_pos (.inr rfl)]) ?_
            refine WpM.run tab_ok 3 ⟨.ops (p31_39_10 :: o31_39.drop 11), [.seq .ret], (E17 sc id sp nm a n m x p1), [], h2, none⟩ (by kernel_rfl) ?_
            refine WpM.guard (b := (!(Lib.contains nm [32]))) (by kernel_rfl) (fun c22 => ?_) (fun c22 => ?_)
            · have c22p := not_t c22
              refine WpM.run tab_ok 2 ⟨.ops (p31_39_12 :: o31_39.drop 13), [.seq .ret], ((((E17 sc id sp nm a n m x p1).set 37 (.bool true)).set 38 (.str k_appletcaptionhtmltabletd)).set 39 (.ptr (some (.new p1 2)))), [], h2, none⟩ (by kernel_rfl) ?_
              refine WpM.op (.str nm) _ (by kernel_rfl) (load_new (o := 2) (by kernel_rfl) a3.get (by kernel_rfl)) ?_
              refine WpM.run tab_ok 0 ⟨.ops (p31_39_13 :: o31_39.drop 14), [.seq .ret], (((((E17 sc id sp nm a n m x p1).set 37 (.bool true)).set 38 (.str k_appletcaptionhtmltabletd)).set 39 (.ptr (some (.new p1 2)))).set 40 (.str nm)), [], h2, none⟩ (by kernel_rfl) ?_
              refine WpM.op (.str ([32] ++ nm)) _ (by kernel_rfl) (concat_str (by kernel_rfl) (by kernel_rfl) (by (try simp only [List.length_append, List.length_cons, List.length_nil]); omega)) ?_
              refine WpM.run tab_ok 0 ⟨.ops (p31_39_14 :: o31_39.drop 15), [.seq .ret], ((((((E17 sc id sp nm a n m x p1).set 37 (.bool true)).set 38 (.str k_appletcaptionhtmltabletd)).set 39 (.ptr (some (.new p1 2)))).set 40 (.str nm)).set 41 (.str ([32] ++ nm))), [], h2, none⟩ (by kernel_rfl) ?_
              refine WpM.op (.str (([32] ++ nm) ++ [32])) _ (by kernel_rfl) (concat_str (by kernel_rfl) (by kernel_rfl) (by (try simp only [List.length_append, List.length_cons, List.length_nil]); omega)) ?_
              refine WpM.run tab_ok 0 ⟨.ops (p31_39_15 :: o31_39.drop 16), [.seq .ret], (((((((E17 sc id sp nm a n m x p1).set 37 (.bool true)).set 38 (.str k_appletcaptionhtmltabletd)).set 39 (.ptr (some (.new p1 2)))).set 40 (.str nm)).set 41 (.str ([32] ++ nm))).set 42 (.str (([32] ++ nm) ++ [32]))), [], h2, none⟩ (by kernel_rfl) ?_
              refine WpM.givenQ (f := 52) (args := [.str k_appletcaptionhtmltabletd, .str (([32] ++ nm) ++ [32])]) (q := q52) (.bool (Lib.contains k_appletcaptionhtmltabletd (([32] ++ nm) ++ [32]))) (by kernel_rfl) (by kernel_rfl) (by kernel_rfl) (by simp only [q52]; rw [if_pos (.inl (by decide))]) ?_
              refine WpM.run tab_ok 5 ⟨.done .ret, [], ((((((((((E17 sc id sp nm a n m x p1).set 4 (.bool (Lib.contains k_appletcaptionhtmltabletd (([32] ++ nm) ++ [32])))).set 37 (.bool true)).set 38 (.str k_appletcaptionhtmltabletd)).set 39 (.ptr (some (.new p1 2)))).set 40 (.str nm)).set 41 (.str ([32] ++ nm))).set 42 (.str (([32] ++ nm) ++ [32]))).set 43 (.bool (Lib.contains k_appletcaptionhtmltabletd (([32] ++ nm) ++ [32])))).set 44 (.bool (Lib.contains k_appletcaptionhtmltabletd (([32] ++ nm) ++ [32])))), [], h2, none⟩ (by kernel_rfl) ?_
              refine WpM.ret (.bool (Lib.contains k_appletcaptionhtmltabletd (([32] ++ nm) ++ [32]))) h2 (by kernel_rfl) (by kernel_rfl) ?_
              refine ⟨((HX.refl h).alloc a3), congrArg V.bool ?_⟩
              first | rfl | (simp only [endsM, tableM, c4, c14, c15, c18, (of_not_t c21), (of_not_t c22), Bool.true_and, Bool.false_and, Bool.and_true, Bool.and_false, Bool.or_false, Bool.false_or, Bool.true_or, Bool.or_true, Bool.not_true, Bool.not_false, Int.reduceBEq, beq_self_eq_true, if_true, Bool.false_eq_true, if_false]; first | done | rfl) | (simp [endsM, tableM, *]; done) | (simp_all [endsM, tableM]; done)
            · have c22p := not_f c22
              refine WpM.run tab_ok 11 ⟨.done .ret, [], (((E17 sc id sp nm a n m x p1).set 37 (.bool false)).set 44 (.bool false)), [], h2, none⟩ (by kernel_rfl) ?_
              refine WpM.ret (.bool false) h2 (by kernel_rfl) (by kernel_rfl) ?_
              refine ⟨((HX.refl h).alloc a3), congrArg V.bool ?_⟩
              first | rfl | (simp only [endsM, tableM, c4, c14, c15, c18, (of_not_t c21), (of_not_f c22), Bool.true_and, Bool.false_and, Bool.and_true, Bool.and_false, Bool.or_false, Bool.false_or, Bool.true_or, Bool.or_true, Bool.not_true, Bool.not_false, Int.reduceBEq, beq_self_eq_true, if_true, Bool.false_eq_true, if_false]; first | done | rfl) | (simp [endsM, tableM, *]; done) | (simp_all [endsM, tableM]; done)
          · have c21p := nbeq_f c21
            refine WpM.run tab_ok 17 ⟨.done .ret, [], (((((((((E17 sc id sp nm a n m x p1).set 31 (.bool false)).set 32 U).set 33 U).set 34 U).set 35 U).set 36 (.bool false)).set 37 (.bool false)).set 44 (.bool false)), [], h2, none⟩ (by kernel_rfl) ?_
            refine WpM.ret (.bool false) h2 (by kernel_rfl) (by kernel_rfl) ?_
            refine ⟨((HX.refl h).alloc a3), congrArg V.bool ?_⟩
            first | rfl | (simp only [endsM, tableM, c4, c14, c15, c18, (of_not_f c21), Bool.true_and, Bool.false_and, Bool.and_true, Bool.and_false, Bool.or_false, Bool.false_or, Bool.true_or, Bool.or_true, Bool.not_true, Bool.not_false, Int.reduceBEq, beq_self_eq_true, if_true, Bool.false_eq_true, if_false]; first | done | rfl) | (simp [endsM, tableM, *]; done) | (simp_all [endsM, tableM]; done)
    · have c14p := beq_f c14
      refine WpM.run tab_ok 6 ⟨.code x31_32, [.blk 0, .seq x31_38], (((((((E16 sc id sp nm a n m x p1).set 5 (.str [])).set 15 U).set 16 U).set 17 U).set 24 (.bool (sp == 2))).set 25 (.bool (sp == 2))), [], h2, none⟩ (by kernel_rfl) ?_
      refine WpM.cond (t := (sp == 2)) (by kernel_rfl) (fun c23 => ?_) (fun c23 => ?_)
      · have c23p := beq_t c23
        refine WpM.run tab_ok 8 ⟨.ops (p31_39_1 :: o31_39.drop 2), [.seq .ret], ((((((((E16 sc id sp nm a n m x p1).set 5 (.str k_mimomnmsmtext)).set 15 U).set 16 U).set 17 U).set 24 (.bool (sp == 2))).set 25 (.bool (sp == 2))).set 28 (.ptr (some (.new p1 2)))), [], h2, none⟩ (by kernel_rfl) ?_
        refine WpM.op (.str nm) _ (by kernel_rfl) (load_new (o := 2) (by kernel_rfl) a3.get (by kernel_rfl)) ?_
        refine WpM.run tab_ok 2 ⟨.ops (p31_39_4 :: o31_39.drop 5), [.seq .ret], (((((((((((E16 sc id sp nm a n m x p1).set 5 (.str k_mimomnmsmtext)).set 15 U).set 16 U).set 17 U).set 24 (.bool (sp == 2))).set 25 (.bool (sp == 2))).set 28 (.ptr (some (.new p1 2)))).set 29 (.str nm)).set 30 (.bool (!(nm == [])))).set 31 (.bool (!(nm == [])))), [], h2, none⟩ (by kernel_rfl) ?_
        refine WpM.guard (b := (!(nm == []))) (by kernel_rfl) (fun c24 => ?_) (fun c24 => ?_)
        · have c24p := nbeq_t c24
          refine WpM.run tab_ok 1 ⟨.ops (p31_39_5 :: o31_39.drop 6), [.seq .ret], ((((((((((((E16 sc id sp nm a n m x p1).set 5 (.str k_mimomnmsmtext)).set 15 U).set 16 U).set 17 U).set 24 (.bool (sp == 2))).set 25 (.bool (sp == 2))).set 28 (.ptr (some (.new p1 2)))).set 29 (.str nm)).set 30 (.bool (!(nm == [])))).set 31 (.bool true)).set 32 (.ptr (some (.new p1 2)))), [], h2, none⟩ (by kernel_rfl) ?_
          refine WpM.op (.str nm) _ (by kernel_rfl) (load_new (o := 2) (by kernel_rfl) a3.get (by kernel_rfl)) ?_
          refine WpM.run tab_ok 0 ⟨.ops (p31_39_6 :: o31_39.drop 7), [.seq .ret], (((((((((((((E17 sc id sp nm a n m x p1).set 5 (.str k_mimomnmsmtext)).set 15 U).set 16 U).set 17 U).set 20 U).set 21 U).set 24 (.bool (sp == 2))).set 25 (.bool (sp == 2))).set 34 U).set 35 U).set 36 U).set 37 U), [], h2, none⟩ (by kernel_rfl) ?_
          refine WpM.givenQ (f := 52) (args := [.str nm, .str [32]]) (q := q52) (.bool (Lib.contains nm [32])) (by kernel_rfl) (by kernel_rfl) (by kernel_rfl) (by simp only [q52]; rw [if_pos (.inr rfl)]) ?_
          refine WpM.run tab_ok 3 ⟨.ops (p31_39_10 :: o31_39.drop 11), [.seq .ret], (((((((((E17 sc id sp nm a n m x p1).set 5 (.str k_mimomnmsmtext)).set 15 U).set 16 U).set 17 U).set 20 U).set 21 U).set 24 (.bool (sp == 2))).set 25 (.bool (sp == 2))), [], h2, none⟩ (by kernel_rfl) ?_
          refine WpM.guard (b := (!(Lib.contains nm [32]))) (by kernel_rfl) (fun c25 => ?_) (fun c25 => ?_)
          · have c25p := not_t c25
            refine WpM.run tab_ok 2 ⟨.ops (p31_39_12 :: o31_39.drop 13), [.seq .ret], ((((((((((((E17 sc id sp nm a n m x p1).set 5 (.str k_mimomnmsmtext)).set 15 U).set 16 U).set 17 U).set 20 U).set 21 U).set 24 (.bool (sp == 2))).set 25 (.bool (sp == 2))).set 37 (.bool true)).set 38 (.str k_mimomnmsmtext)).set 39 (.ptr (some (.new p1 2)))), [], h2, none⟩ (by kernel_rfl) ?_
            refine WpM.op (.str nm) _ (by kernel_rfl) (load_new (o := 2) (by kernel_rfl) a3.get (by kernel_rfl)) ?_
            refine WpM.run tab_ok 0 ⟨.ops (p31_39_13 :: o31_39.drop 14), [.seq .ret], (((((((((((((E17 sc id sp nm a n m x p1).set 5 (.str k_mimomnmsmtext)).set 15 U).set 16 U).set 17 U).set 20 U).set 21 U).set 24 (.bool (sp == 2))).set 25 (.bool (sp == 2))).set 37 (.bool true)).set 38 (.str k_mimomnmsmtext)).set 39 (.ptr (some (.new p1 2)))).set 40 (.str nm)), [], h2, none⟩ (by kernel_rfl) ?_
            refine WpM.op (.str ([32] ++ nm)) _ (by kernel_rfl) (concat_str (by kernel_rfl) (by kernel_rfl) (by (try simp only [List.length_append, List.length_cons, List.length_nil]); omega)) ?_
            refine WpM.run tab_ok 0 ⟨.ops (p31_39_14 :: o31_39.drop 15), [.seq .ret], ((((((((((((((E17 sc id sp nm a n m x p1).set 5 (.str k_mimomnmsmtext)).set 15 U).set 16 U).set 17 U).set 20 U).set 21 U).set 24 (.bool (sp == 2))).set 25 (.bool (sp == 2))).set 37 (.bool true)).set 38 (.str k_mimomnmsmtext)).set 39 (.ptr (some (.new p1 2)))).set 40 (.str nm)).set 41 (.str ([32] ++ nm))), [], h2, none⟩ (by kernel_rfl) ?_
            refine WpM.op (.str (([32] ++ nm) ++ [32])) _ (by kernel_rfl) (concat_str (by kernel_rfl) (by kernel_rfl) (by (try simp only [List.length_append, List.length_cons, List.length_nil]); omega)) ?_
            refine WpM.run tab_ok 0 ⟨.ops (p31_39_15 :: o31_39.drop 16), [.seq .ret], (((((((((((((((E17 sc id sp nm a n m x p1).set 5 (.str k_mimomnmsmtext)).set 15 U).set 16 U).set 17 U).set 20 U).set 21 U).set 24 (.bool (sp == 2))).set 25 (.bool (sp == 2))).set 37 (.bool true)).set 38 (.str k_mimomnmsmtext)).set 39 (.ptr (some (.new p1 2)))).set 40 (.str nm)).set 41 (.str ([32] ++ nm))).set 42 (.str (([32] ++ nm) ++ [32]))), [], h2, none⟩ (by kernel_rfl) ?_
            refine WpM.givenQ (f := 52) (args := [.str k_mimomnmsmtext, .str (([32] ++ nm) ++ [32])]) (q := q52) (.bool (Lib.contains k_mimomnmsmtext (([32] ++ nm) ++ [32]))) (by kernel_rfl) (by kernel_rfl) (by kernel_rfl) (by simp only [q52]; rw [if_pos (.inl (by decide))]) ?_
            refine WpM.run tab_ok 5 ⟨.done .ret, [], (E18 sc id sp nm a n m x p1), [], h2, none⟩ (by kernel_rfl) ?_
            refine WpM.ret (.bool (Lib.contains k_mimomnmsmtext (([32] ++ nm) ++ [32]))) h2 (by kernel_rfl) (by kernel_rfl) ?_
            refine ⟨((HX.refl h).alloc a3), congrArg V.bool ?_⟩
            first | rfl | (simp only [endsM, tableM, c4, c14, c23, (of_not_t c24), (of_not_t c25), Bool.true_and, Bool.false_and, Bool.and_true, Bool.and_false, Bool.or_false, Bool.false_or, Bool.true_or, Bool.or_true, Bool.not_true, Bool.not_false, Int.reduceBEq, beq_self_eq_true, if_true, Bool.false_eq_true, if_false]; first | done | rfl) | (simp [endsM, tableM, *]; done) | (simp_all [endsM, tableM]; done)
          · have c25p := not_f c25
            refine WpM.run tab_ok 11 ⟨.done .ret, [], ((((((((((E18 sc id sp nm a n m x p1).set 4 (.bool false)).set 37 (.bool false)).set 38 U).set 39 U).set 40 U).set 41 U).set 42 U).set 43 U).set 44 (.bool false)), [], h2, none⟩ (by kernel_rfl) ?_
            refine WpM.ret (.bool false) h2 (by kernel_rfl) (by kernel_rfl) ?_
            refine ⟨((HX.refl h).alloc a3), congrArg V.bool ?_⟩
            first | rfl | (simp only [endsM, tableM, c4, c14, c23, (of_not_t c24), (of_not_f c25), Bool.true_and, Bool.false_and, Bool.and_true, Bool.and_false, Bool.or_false, Bool.false_or, Bool.true_or, Bool.or_true, Bool.not_true, Bool.not_false, Int.reduceBEq, beq_self_eq_true, if_true, Bool.false_eq_true, if_false]; first | done | rfl) | (simp [endsM, tableM, *]; done) | (simp_all [endsM, tableM]; done)
        · have c24p := nbeq_f c24
          refine WpM.run tab_ok 17 ⟨.done .ret, [], ((((((((((((((E16 sc id sp nm a n m x p1).set 5 (.str k_mimomnmsmtext)).set 15 U).set 16 U).set 17 U).set 24 (.bool (sp == 2))).set 25 (.bool (sp == 2))).set 28 (.ptr (some (.new p1 2)))).set 29 (.str nm)).set 30 (.bool (!(nm == [])))).set 31 (.bool false)).set 36 (.bool false)).set 37 (.bool false)).set 44 (.bool false)), [], h2, none⟩ (by kernel_rfl) ?_
          refine WpM.ret (.bool false) h2 (by kernel_rfl) (by kernel_rfl) ?_
          refine ⟨((HX.refl h).alloc a3), congrArg V.bool ?_⟩
          first | rfl | (simp only [endsM, tableM, c4, c14, c23, (of_not_f c24), Bool.true_and, Bool.false_and, Bool.and_true, Bool.and_false, Bool.or_false, Bool.false_or, Bool.true_or, Bool.or_true, Bool.not_true, Bool.not_false, Int.reduceBEq, beq_self_eq_true, if_true, Bool.false_eq_true, if_false]; first | done | rfl) | (simp [endsM, tableM, *]; done) | (simp_all [endsM, tableM]; done)
      · have c23p := beq_f c23
        refine WpM.run tab_ok 6 ⟨.code x31_36, [.blk 0, .seq x31_38], ((((((((E15 sc id sp nm a n m x p1).set 12 (.int .i64 sp)).set 13 (.bool (sp == 0))).set 14 (.bool (sp == 0))).set 24 (.bool (sp == 2))).set 25 (.bool (sp == 2))).set 26 (.bool (sp == 1))).set 27 (.bool (sp == 1))), [], h2, none⟩ (by kernel_rfl) ?_
        refine WpM.cond (t := (sp == 1)) (by kernel_rfl) (fun c26 => ?_) (fun c26 => ?_)
        · have c26p := beq_t c26
          refine WpM.run tab_ok 8 ⟨.ops (p31_39_1 :: o31_39.drop 2), [.seq .ret], ((((((((((E16 sc id sp nm a n m x p1).set 5 (.str k_foreignObjectdesctitle)).set 15 U).set 16 U).set 17 U).set 24 (.bool (sp == 2))).set 25 (.bool (sp == 2))).set 26 (.bool (sp == 1))).set 27 (.bool (sp == 1))).set 28 (.ptr (some (.new p1 2)))), [], h2, none⟩ (by kernel_rfl) ?_
          refine WpM.op (.str nm) _ (by kernel_rfl) (load_new (o := 2) (by kernel_rfl) a3.get (by kernel_rfl)) ?_
          refine WpM.run tab_ok 2 ⟨.ops (p31_39_4 :: o31_39.drop 5), [.seq .ret], (E19 sc id sp nm a n m x p1), [], h2, none⟩ (by kernel_rfl) ?_
          refine WpM.guard (b := (!(nm == []))) (by kernel_rfl) (fun c27 => ?_) (fun c27 => ?_)
          · have c27p := nbeq_t c27
            refine WpM.run tab_ok 1 ⟨.ops (p31_39_5 :: o31_39.drop 6), [.seq .ret], (((E19 sc id sp nm a n m x p1).set 31 (.bool true)).set 32 (.ptr (some (.new p1 2)))), [], h2, none⟩ (by kernel_rfl) ?_
            refine WpM.op (.str nm) _ (by kernel_rfl) (load_new (o := 2) (by kernel_rfl) a3.get (by kernel_rfl)) ?_
            refine WpM.run tab_ok 0 ⟨.ops (p31_39_6 :: o31_39.drop 7), [.seq .ret], ((((E19 sc id sp nm a n m x p1).set 31 (.bool true)).set 32 (.ptr (some (.new p1 2)))).set 33 (.str nm)), [], h2, none⟩ (by kernel_rfl) ?_
            refine WpM.givenQ (f := 52) (args := [.str nm, .str [32]]) (q := q52) (.bool (Lib.contains nm [32])) (by kernel_rfl) (by kernel_rfl) (by kernel_rfl) (by simp only [q52]; rw [if_pos (.inr rfl)]) ?_
            refine WpM.run tab_ok 3 ⟨.ops (p31_39_10 :: o31_39.drop 11), [.seq .ret], ((((((((E19 sc id sp nm a n m x p1).set 31 (.bool true)).set 32 (.ptr (some (.new p1 2)))).set 33 (.str nm)).set 34 (.bool (Lib.contains nm [32]))).set 35 (.bool (!(Lib.contains nm [32])))).set 36 (.bool (!(Lib.contains nm [32])))).set 37 (.bool (!(Lib.contains nm [32])))), [], h2, none⟩ (by kernel_rfl) ?_
            refine WpM.guard (b := (!(Lib.contains nm [32]))) (by kernel_rfl) (fun c28 => ?_) (fun c28 => ?_)
            · have c28p := not_t c28
              refine WpM.run tab_ok 2 ⟨.ops (p31_39_12 :: o31_39.drop 13), [.seq .ret], ((((((((((E19 sc id sp nm a n m x p1).set 31 (.bool true)).set 32 (.ptr (some (.new p1 2)))).set 33 (.str nm)).set 34 (.bool (Lib.contains nm [32]))).set 35 (.bool (!(Lib.contains nm [32])))).set 36 (.bool (!(Lib.contains nm [32])))).set 37 (.bool true)).set 38 (.str k_foreignObjectdesctitle)).set 39 (.ptr (some (.new p1 2)))), [], h2, none⟩ (by kernel_rfl) ?_
              refine WpM.op (.str nm) _ (by kernel_rfl) (load_new (o := 2) (by kernel_rfl) a3.get (by kernel_rfl)) ?_
              refine WpM.run tab_ok 0 ⟨.ops (p31_39_13 :: o31_39.drop 14), [.seq .ret], ((((((((((E18 sc id sp nm a n m x p1).set 4 (.bool false)).set 5 (.str k_foreignObjectdesctitle)).set 26 (.bool (sp == 1))).set 27 (.bool (sp == 1))).set 38 (.str k_foreignObjectdesctitle)).set 41 U).set 42 U).set 43 U).set 44 U), [], h2, none⟩ (by kernel_rfl) ?_
              refine WpM.op (.str ([32] ++ nm)) _ (by kernel_rfl) (concat_str (by kernel_rfl) (by kernel_rfl) (by (try simp only [List.length_append, List.length_cons, List.length_nil]); omega)) ?_
              refine WpM.run tab_ok 0 ⟨.ops (p31_39_14 :: o31_39.drop 15), [.seq .ret], (((((((((E18 sc id sp nm a n m x p1).set 4 (.bool false)).set 5 (.str k_foreignObjectdesctitle)).set 26 (.bool (sp == 1))).set 27 (.bool (sp == 1))).set 38 (.str k_foreignObjectdesctitle)).set 42 U).set 43 U).set 44 U), [], h2, none⟩ (by kernel_rfl) ?_
              refine WpM.op (.str (([32] ++ nm) ++ [32])) _ (by kernel_rfl) (concat_str (by kernel_rfl) (by kernel_rfl) (by (try simp only [List.length_append, List.length_cons, List.length_nil]); omega)) ?_
              refine WpM.run tab_ok 0 ⟨.ops (p31_39_15 :: o31_39.drop 16), [.seq .ret], ((((((((E18 sc id sp nm a n m x p1).set 4 (.bool false)).set 5 (.str k_foreignObjectdesctitle)).set 26 (.bool (sp == 1))).set 27 (.bool (sp == 1))).set 38 (.str k_foreignObjectdesctitle)).set 43 U).set 44 U), [], h2, none⟩ (by kernel_rfl) ?_
              refine WpM.givenQ (f := 52) (args := [.str k_foreignObjectdesctitle, .str (([32] ++ nm) ++ [32])]) (q := q52) (.bool (Lib.contains k_foreignObjectdesctitle (([32] ++ nm) ++ [32]))) (by kernel_rfl) (by kernel_rfl) (by kernel_rfl) (by simp only [q52]; rw [if_pos (.inl (by decide))]) ?_
              refine WpM.run tab_ok 5 ⟨.done .ret, [], ((((((((E18 sc id sp nm a n m x p1).set 4 (.bool (Lib.contains k_foreignObjectdesctitle (([32] ++ nm) ++ [32])))).set 5 (.str k_foreignObjectdesctitle)).set 26 (.bool (sp == 1))).set 27 (.bool (sp == 1))).set 38 (.str k_foreignObjectdesctitle)).set 43 (.bool (Lib.contains k_foreignObjectdesctitle (([32] ++ nm) ++ [32])))).set 44 (.bool (Lib.contains k_foreignObjectdesctitle (([32] ++ nm) ++ [32])))), [], h2, none⟩ (by kernel_rfl) ?_
              refine WpM.ret (.bool (Lib.contains k_foreignObjectdesctitle (([32] ++ nm) ++ [32]))) h2 (by kernel_rfl) (by kernel_rfl) ?_
              refine ⟨((HX.refl h).alloc a3), congrArg V.bool ?_⟩
              first | rfl | (simp only [endsM, tableM, c4, c14, c23, c26, (of_not_t c27), (of_not_t c28), Bool.true_and, Bool.false_and, Bool.and_true, Bool.and_false, Bool.or_false, Bool.false_or, Bool.true_or, Bool.or_true, Bool.not_true, Bool.not_false, Int.reduceBEq, beq_self_eq_true, if_true, Bool.false_eq_true, if_false]; first | done | rfl) | (simp [endsM, tableM, *]; done) | (simp_all [endsM, tableM]; done)
            · have c28p := not_f c28
              refine WpM.run tab_ok 11 ⟨.done .ret, [], (((((((((E19 sc id sp nm a n m x p1).set 31 (.bool true)).set 32 (.ptr (some (.new p1 2)))).set 33 (.str nm)).set 34 (.bool (Lib.contains nm [32]))).set 35 (.bool (!(Lib.contains nm [32])))).set 36 (.bool (!(Lib.contains nm [32])))).set 37 (.bool false)).set 44 (.bool false)), [], h2, none⟩ (by kernel_rfl) ?_
              refine WpM.ret (.bool false) h2 (by kernel_rfl) (by kernel_rfl) ?_
              refine ⟨((HX.refl h).alloc a3), congrArg V.bool ?_⟩
              first | rfl | (simp only [endsM, tableM, c4, c14, c23, c26, (of_not_t c27), (of_not_f c28), Bool.true_and, Bool.false_and, Bool.and_true, Bool.and_false, Bool.or_false, Bool.false_or, Bool.true_or, Bool.or_true, Bool.not_true, Bool.not_false, Int.reduceBEq, beq_self_eq_true, if_true, Bool.false_eq_true, if_false]; first | done | rfl) | (simp [endsM, tableM, *]; done) | (simp_all [endsM, tableM]; done)
          · have c27p := nbeq_f c27
            refine WpM.run tab_ok 17 ⟨.done .ret, [], (((((E19 sc id sp nm a n m x p1).set 31 (.bool false)).set 36 (.bool false)).set 37 (.bool false)).set 44 (.bool false)), [], h2, none⟩ (by kernel_rfl) ?_
            refine WpM.ret (.bool false) h2 (by kernel_rfl) (by kernel_rfl) ?_
            refine ⟨((HX.refl h).alloc a3), congrArg V.bool ?_⟩
            first | rfl | (simp only [endsM, tableM, c4, c14, c23, c26, (of_not_f c27), Bool.true_and, Bool.false_and, Bool.and_true, Bool.and_false, Bool.or_false, Bool.false_or, Bool.true_or, Bool.or_true, Bool.not_true, Bool.not_false, Int.reduceBEq, beq_self_eq_true, if_true, Bool.false_eq_true, if_false]; first | done | rfl) | (simp [endsM, tableM, *]; done) | (simp_all [endsM, tableM]; done)
        · have c26p := beq_f c26
          refine WpM.run tab_ok 6 ⟨.ops (p31_39_1 :: o31_39.drop 2), [.seq .ret], (((((E19 sc id sp nm a n m x p1).set 5 (.str [])).set 29 U).set 30 U).set 31 U), [], h2, none⟩ (by kernel_rfl) ?_
          refine WpM.op (.str nm) _ (by kernel_rfl) (load_new (o := 2) (by kernel_rfl) a3.get (by kernel_rfl)) ?_
          refine WpM.run tab_ok 2 ⟨.ops (p31_39_4 :: o31_39.drop 5), [.seq .ret], ((E19 sc id sp nm a n m x p1).set 5 (.str [])), [], h2, none⟩ (by kernel_rfl) ?_
          refine WpM.guard (b := (!(nm == []))) (by kernel_rfl) (fun c29 => ?_) (fun c29 => ?_)
          · have c29p := nbeq_t c29
            refine WpM.run tab_ok 1 ⟨.ops (p31_39_5 :: o31_39.drop 6), [.seq .ret], ((((E19 sc id sp nm a n m x p1).set 5 (.str [])).set 31 (.bool true)).set 32 (.ptr (some (.new p1 2)))), [], h2, none⟩ (by kernel_rfl) ?_
            refine WpM.op (.str nm) _ (by kernel_rfl) (load_new (o := 2) (by kernel_rfl) a3.get (by kernel_rfl)) ?_
            refine WpM.run tab_ok 0 ⟨.ops (p31_39_6 :: o31_39.drop 7), [.seq .ret], (((((E19 sc id sp nm a n m x p1).set 5 (.str [])).set 31 (.bool true)).set 32 (.ptr (some (.new p1 2)))).set 33 (.str nm)), [], h2, none⟩ (by kernel_rfl) ?_
            refine WpM.givenQ (f := 52) (args := [.str nm, .str [32]]) (q := q52) (.bool (Lib.contains nm [32])) (by kernel_rfl) (by kernel_rfl) (by kernel_rfl) (by simp only [q52]; rw [if_pos (.inr rfl)]) ?_
            refine WpM.run tab_ok 3 ⟨.ops (p31_39_10 :: o31_39.drop 11), [.seq .ret], (((((((((E19 sc id sp nm a n m x p1).set 5 (.str [])).set 31 (.bool true)).set 32 (.ptr (some (.new p1 2)))).set 33 (.str nm)).set 34 (.bool (Lib.contains nm [32]))).set 35 (.bool (!(Lib.contains nm [32])))).set 36 (.bool (!(Lib.contains nm [32])))).set 37 (.bool (!(Lib.contains nm [32])))), [], h2, none⟩ (by kernel_rfl) ?_
            refine WpM.guard (b := (!(Lib.contains nm [32]))) (by kernel_rfl) (fun c30 => ?_) (fun c30 => ?_)
            · have c30p := not_t c30
              refine WpM.run tab_ok 2 ⟨.ops (p31_39_12 :: o31_39.drop 13), [.seq .ret], (((((((((((E19 sc id sp nm a n m x p1).set 5 (.str [])).set 31 (.bool true)).set 32 (.ptr (some (.new p1 2)))).set 33 (.str nm)).set 34 (.bool (Lib.contains nm [32]))).set 35 (.bool (!(Lib.contains nm [32])))).set 36 (.bool (!(Lib.contains nm [32])))).set 37 (.bool true)).set 38 (.str [])).set 39 (.ptr (some (.new p1 2)))), [], h2, none⟩ (by kernel_rfl) ?_
              refine WpM.op (.str nm) _ (by kernel_rfl) (load_new (o := 2) (by kernel_rfl) a3.get (by kernel_rfl)) ?_
              refine WpM.run tab_ok 0 ⟨.ops (p31_39_13 :: o31_39.drop 14), [.seq .ret], ((((((((((E18 sc id sp nm a n m x p1).set 4 (.bool false)).set 5 (.str [])).set 26 (.bool (sp == 1))).set 27 (.bool (sp == 1))).set 38 (.str [])).set 41 U).set 42 U).set 43 U).set 44 U), [], h2, none⟩ (by kernel_rfl) ?_
              refine WpM.op (.str ([32] ++ nm)) _ (by kernel_rfl) (concat_str (by kernel_rfl) (by kernel_rfl) (by (try simp only [List.length_append, List.length_cons, List.length_nil]); omega)) ?_
              refine WpM.run tab_ok 0 ⟨.ops (p31_39_14 :: o31_39.drop 15), [.seq .ret], (((((((((E18 sc id sp nm a n m x p1).set 4 (.bool false)).set 5 (.str [])).set 26 (.bool (sp == 1))).set 27 (.bool (sp == 1))).set 38 (.str [])).set 42 U).set 43 U).set 44 U), [], h2, none⟩ (by kernel_rfl) ?_
              refine WpM.op (.str (([32] ++ nm) ++ [32])) _ (by kernel_rfl) (concat_str (by kernel_rfl) (by kernel_rfl) (by (try simp only [List.length_append, List.length_cons, List.length_nil]); omega)) ?_
              refine WpM.run tab_ok 0 ⟨.ops (p31_39_15 :: o31_39.drop 16), [.seq .ret], ((((((((E18 sc id sp nm a n m x p1).set 4 (.bool false)).set 5 (.str [])).set 26 (.bool (sp == 1))).set 27 (.bool (sp == 1))).set 38 (.str [])).set 43 U).set 44 U), [], h2, none⟩ (by kernel_rfl) ?_
              refine WpM.givenQ (f := 52) (args := [.str [], .str (([32] ++ nm) ++ [32])]) (q := q52) (.bool (Lib.contains [] (([32] ++ nm) ++ [32]))) (by kernel_rfl) (by kernel_rfl) (by kernel_rfl) (by simp only [q52]; rw [if_pos (.inl (by decide))]) ?_
              refine WpM.run tab_ok 5 ⟨.done .ret, [], ((((((((E18 sc id sp nm a n m x p1).set 4 (.bool (Lib.contains [] (([32] ++ nm) ++ [32])))).set 5 (.str [])).set 26 (.bool (sp == 1))).set 27 (.bool (sp == 1))).set 38 (.str [])).set 43 (.bool (Lib.contains [] (([32] ++ nm) ++ [32])))).set 44 (.bool (Lib.contains [] (([32] ++ nm) ++ [32])))), [], h2, none⟩ (by kernel_rfl) ?_
              refine WpM.ret (.bool (Lib.contains [] (([32] ++ nm) ++ [32]))) h2 (by kernel_rfl) (by kernel_rfl) ?_
              refine ⟨((HX.refl h).alloc a3), congrArg V.bool ?_⟩
              first | rfl | (simp only [endsM, tableM, c4, c14, c23, c26, (of_not_t c29), (of_not_t c30), Bool.true_and, Bool.false_and, Bool.and_true, Bool.and_false, Bool.or_false, Bool.false_or, Bool.true_or, Bool.or_true, Bool.not_true, Bool.not_false, Int.reduceBEq, beq_self_eq_true, if_true, Bool.false_eq_true, if_false]; first | done | rfl) | (simp [endsM, tableM, *]; done) | (simp_all [endsM, tableM]; done)
            · have c30p := not_f c30
              refine WpM.run tab_ok 11 ⟨.done .ret, [], ((((((((((E19 sc id sp nm a n m x p1).set 5 (.str [])).set 31 (.bool true)).set 32 (.ptr (some (.new p1 2)))).set 33 (.str nm)).set 34 (.bool (Lib.contains nm [32]))).set 35 (.bool (!(Lib.contains nm [32])))).set 36 (.bool (!(Lib.contains nm [32])))).set 37 (.bool false)).set 44 (.bool false)), [], h2, none⟩ (by kernel_rfl) ?_
              refine WpM.ret (.bool false) h2 (by kernel_rfl) (by kernel_rfl) ?_
              refine ⟨((HX.refl h).alloc a3), congrArg V.bool ?_⟩
              first | rfl | (simp only [endsM, tableM, c4, c14, c23, c26, (of_not_t c29), (of_not_f c30), Bool.true_and, Bool.false_and, Bool.and_true, Bool.and_false, Bool.or_false, Bool.false_or, Bool.true_or, Bool.or_true, Bool.not_true, Bool.not_false, Int.reduceBEq, beq_self_eq_true, if_true, Bool.false_eq_true, if_false]; first | done | rfl) | (simp [endsM, tableM, *]; done) | (simp_all [endsM, tableM]; done)
          · have c29p := nbeq_f c29
            refine WpM.run tab_ok 17 ⟨.done .ret, [], ((((((E19 sc id sp nm a n m x p1).set 5 (.str [])).set 31 (.bool false)).set 36 (.bool false)).set 37 (.bool false)).set 44 (.bool false)), [], h2, none⟩ (by kernel_rfl) ?_
            refine WpM.ret (.bool false) h2 (by kernel_rfl) (by kernel_rfl) ?_
            refine ⟨((HX.refl h).alloc a3), congrArg V.bool ?_⟩
            first | rfl | (simp only [endsM, tableM, c4, c14, c23, c26, (of_not_f c29), Bool.true_and, Bool.false_and, Bool.and_true, Bool.and_false, Bool.or_false, Bool.false_or, Bool.true_or, Bool.or_true, Bool.not_true, Bool.not_false, Int.reduceBEq, beq_self_eq_true, if_true, Bool.false_eq_true, if_false]; first | done | rfl) | (simp [endsM, tableM, *]; done) | (simp_all [endsM, tableM]; done)
end Go.Proofs.Ytchffnfhfojkeaa.Dg
