/-
  The code of chapter 17 that the law of none reaches.
-/
import Derived.Test.YtplcallbihapdaaChecked
import Derived.Test.YtplcallbihapdaaDgS32
set_option linter.unusedVariables false
set_option linter.unusedSimpArgs false
namespace Go.Proofs.Ytplcallbihapdaa.Dg
open Go Go.RowKit
set_option maxRecDepth 20000
def p5_1_0 : RO := ⟨none, some 1, .box 35 (.tmp 0)⟩
def p5_1_1 : RO := ⟨none, some 2, .assign (.const (.bool false))⟩
def o5_1 : List RO := [p5_1_0, p5_1_1]
def x5_1 : RC := .ops o5_1
def p5_3_0 : RO := ⟨none, some 3, .assign (.const (.pointer none))⟩
def o5_3 : List RO := [p5_3_0]
def x5_3 : RC := .ops o5_3
def p5_5_0 : RO := ⟨none, some 6, .move (.tmp 3)⟩
def p5_5_1 : RO := ⟨none, some 7, .fieldAddr 35 (.tmp 1) 2⟩
def p5_5_2 : RO := ⟨none, some 8, .load 29 (.tmp 7)⟩
def p5_5_3 : RO := ⟨none, some 9, .call ⟨.value (.func 9), #[(.tmp 6), (.tmp 8)], #[23, 29]⟩⟩
def o5_5 : List RO := [p5_5_0, p5_5_1, p5_5_2, p5_5_3]
def x5_5 : RC := .ops o5_5
def p5_7_0 : RO := ⟨none, some 10, .move (.tmp 3)⟩
def p5_7_1 : RO := ⟨none, some 11, .call ⟨.value (.func 8), #[(.tmp 10)], #[23]⟩⟩
def o5_7 : List RO := [p5_7_0, p5_7_1]
def x5_7 : RC := .ops o5_7
def p5_9_0 : RO := ⟨none, some 12, .move (.tmp 3)⟩
def p5_9_1 : RO := ⟨none, some 13, .call ⟨.value (.func 12), #[(.tmp 12)], #[23]⟩⟩
def o5_9 : List RO := [p5_9_0, p5_9_1]
def x5_9 : RC := .ops o5_9
def p5_11_0 : RO := ⟨none, some 15, .move (.tmp 3)⟩
def p5_11_1 : RO := ⟨none, some 16, .fieldAddr 35 (.tmp 1) 2⟩
def p5_11_2 : RO := ⟨none, some 17, .fieldAddr 29 (.tmp 16) 2⟩
def p5_11_3 : RO := ⟨none, some 18, .load 9 (.tmp 17)⟩
def p5_11_4 : RO := ⟨none, some 19, .call ⟨.value (.func 14), #[(.tmp 15), (.tmp 18)], #[23, 9]⟩⟩
def p5_11_5 : RO := ⟨none, some 14, .move (.tmp 19)⟩
def p5_11_6 : RO := ⟨none, some 20, .extract (.tmp 14) 0⟩
def p5_11_7 : RO := ⟨none, some 21, .extract (.tmp 14) 1⟩
def p5_11_8 : RO := ⟨none, some 4, .alloc 29⟩
def p5_11_9 : RO := ⟨none, none, .store 29 (.tmp 4) (.tmp 20)⟩
def p5_11_10 : RO := ⟨none, some 5, .assign (.tmp 21)⟩
def o5_11 : List RO := [p5_11_0, p5_11_1, p5_11_2, p5_11_3, p5_11_4, p5_11_5, p5_11_6, p5_11_7, p5_11_8, p5_11_9, p5_11_10]
def x5_11 : RC := .ops o5_11
def p5_13_0 : RO := ⟨none, some 22, .move (.tmp 5)⟩
def p5_13_1 : RO := ⟨none, some 23, .unOp .not 4 (.tmp 22)⟩
def p5_13_2 : RO := ⟨none, some 24, .move (.tmp 23)⟩
def p5_13_3 : RO := ⟨some (some 24, true), some 25, .move (.tmp 3)⟩
def p5_13_4 : RO := ⟨some (some 24, true), some 26, .fieldAddr 35 (.tmp 1) 1⟩
def p5_13_5 : RO := ⟨some (some 24, true), some 27, .load 3 (.tmp 26)⟩
def p5_13_6 : RO := ⟨some (some 24, true), some 28, .call ⟨.value (.func 15), #[(.tmp 25), (.tmp 27)], #[23, 3]⟩⟩
def p5_13_7 : RO := ⟨some (some 24, true), some 29, .unOp .not 4 (.tmp 28)⟩
def p5_13_8 : RO := ⟨none, some 30, .pick (.tmp 24) (.tmp 29) (.const (.bool false))⟩
def p5_13_9 : RO := ⟨none, some 31, .move (.tmp 30)⟩
def p5_13_10 : RO := ⟨some (some 31, true), some 32, .move (.tmp 3)⟩
def p5_13_11 : RO := ⟨some (some 31, true), some 33, .fieldAddr 35 (.tmp 1) 1⟩
def p5_13_12 : RO := ⟨some (some 31, true), some 34, .load 3 (.tmp 33)⟩
def p5_13_13 : RO := ⟨some (some 31, true), some 35, .fieldAddr 35 (.tmp 1) 2⟩
def p5_13_14 : RO := ⟨some (some 31, true), some 36, .load 29 (.tmp 35)⟩
def p5_13_15 : RO := ⟨some (some 31, true), some 37, .call ⟨.value (.func 16), #[(.tmp 32), (.tmp 34), (.tmp 36)], #[23, 3, 29]⟩⟩
def p5_13_16 : RO := ⟨some (some 31, true), some 38, .unOp .not 4 (.tmp 37)⟩
def p5_13_17 : RO := ⟨none, some 39, .pick (.tmp 31) (.tmp 38) (.const (.bool false))⟩
def p5_13_18 : RO := ⟨none, some 40, .move (.tmp 39)⟩
def p5_13_19 : RO := ⟨some (some 40, true), some 41, .move (.tmp 3)⟩
def p5_13_20 : RO := ⟨some (some 40, true), some 42, .fieldAddr 35 (.tmp 1) 1⟩
def p5_13_21 : RO := ⟨some (some 40, true), some 43, .load 3 (.tmp 42)⟩
def p5_13_22 : RO := ⟨some (some 40, true), some 44, .fieldAddr 35 (.tmp 1) 2⟩
def p5_13_23 : RO := ⟨some (some 40, true), some 45, .load 29 (.tmp 44)⟩
def p5_13_24 : RO := ⟨some (some 40, true), some 46, .call ⟨.value (.func 17), #[(.tmp 41), (.tmp 43), (.tmp 45)], #[23, 3, 29]⟩⟩
def p5_13_25 : RO := ⟨some (some 40, true), some 47, .unOp .not 4 (.tmp 46)⟩
def p5_13_26 : RO := ⟨none, some 48, .pick (.tmp 40) (.tmp 47) (.const (.bool false))⟩
def p5_13_27 : RO := ⟨none, some 49, .move (.tmp 48)⟩
def p5_13_28 : RO := ⟨some (some 49, true), some 50, .move (.tmp 3)⟩
def p5_13_29 : RO := ⟨some (some 49, true), some 51, .fieldAddr 35 (.tmp 1) 1⟩
def p5_13_30 : RO := ⟨some (some 49, true), some 52, .load 3 (.tmp 51)⟩
def p5_13_31 : RO := ⟨some (some 49, true), some 53, .call ⟨.value (.func 18), #[(.tmp 50), (.tmp 52)], #[23, 3]⟩⟩
def p5_13_32 : RO := ⟨some (some 49, true), some 54, .binOp .eql 3 (.tmp 53) (.const (.int .i64 (-1))) 3⟩
def p5_13_33 : RO := ⟨none, some 55, .pick (.tmp 49) (.tmp 54) (.const (.bool false))⟩
def p5_13_34 : RO := ⟨none, some 56, .move (.tmp 55)⟩
def p5_13_35 : RO := ⟨some (some 56, true), some 57, .move (.tmp 3)⟩
def p5_13_36 : RO := ⟨some (some 56, true), some 58, .fieldAddr 35 (.tmp 1) 3⟩
def p5_13_37 : RO := ⟨some (some 56, true), some 59, .load 22 (.tmp 58)⟩
def p5_13_38 : RO := ⟨some (some 56, true), some 60, .call ⟨.value (.func 19), #[(.tmp 57), (.tmp 59)], #[23, 22]⟩⟩
def p5_13_39 : RO := ⟨some (some 56, true), some 61, .call ⟨.builtin .len, #[(.tmp 60)], #[41]⟩⟩
def p5_13_40 : RO := ⟨some (some 56, true), some 62, .binOp .eql 3 (.tmp 61) (.const (.int .i64 (0))) 3⟩
def p5_13_41 : RO := ⟨none, some 63, .pick (.tmp 56) (.tmp 62) (.const (.bool false))⟩
def p5_13_42 : RO := ⟨none, some 64, .move (.tmp 63)⟩
def p5_13_43 : RO := ⟨some (some 64, true), some 65, .move (.tmp 3)⟩
def p5_13_44 : RO := ⟨some (some 64, true), some 66, .call ⟨.value (.func 10), #[(.tmp 65)], #[23]⟩⟩
def p5_13_45 : RO := ⟨some (some 64, true), some 67, .call ⟨.builtin .len, #[(.tmp 66)], #[22]⟩⟩
def p5_13_46 : RO := ⟨some (some 64, true), some 68, .binOp .eql 3 (.tmp 67) (.const (.int .i64 (0))) 3⟩
def p5_13_47 : RO := ⟨none, some 69, .pick (.tmp 64) (.tmp 68) (.const (.bool false))⟩
def p5_13_48 : RO := ⟨none, some 70, .move (.tmp 69)⟩
def p5_13_49 : RO := ⟨some (some 70, true), some 71, .move (.tmp 3)⟩
def p5_13_50 : RO := ⟨some (some 70, true), some 72, .call ⟨.value (.func 20), #[(.tmp 71)], #[23]⟩⟩
def p5_13_51 : RO := ⟨some (some 70, true), some 73, .binOp .eql 23 (.tmp 72) (.const (.pointer none)) 23⟩
def p5_13_52 : RO := ⟨none, some 74, .pick (.tmp 70) (.tmp 73) (.const (.bool false))⟩
def p5_13_53 : RO := ⟨none, some 75, .move (.tmp 74)⟩
def p5_13_54 : RO := ⟨some (some 75, true), some 76, .call ⟨.value (.func 7), #[], #[]⟩⟩
def p5_13_55 : RO := ⟨none, some 77, .pick (.tmp 75) (.tmp 76) (.const (.bool false))⟩
def p5_13_56 : RO := ⟨none, some 2, .assign (.tmp 77)⟩
def o5_13 : List RO := [p5_13_0, p5_13_1, p5_13_2, p5_13_3, p5_13_4, p5_13_5, p5_13_6, p5_13_7, p5_13_8, p5_13_9, p5_13_10, p5_13_11, p5_13_12, p5_13_13, p5_13_14, p5_13_15, p5_13_16, p5_13_17, p5_13_18, p5_13_19, p5_13_20, p5_13_21, p5_13_22, p5_13_23, p5_13_24, p5_13_25, p5_13_26, p5_13_27, p5_13_28, p5_13_29, p5_13_30, p5_13_31, p5_13_32, p5_13_33, p5_13_34, p5_13_35, p5_13_36, p5_13_37, p5_13_38, p5_13_39, p5_13_40, p5_13_41, p5_13_42, p5_13_43, p5_13_44, p5_13_45, p5_13_46, p5_13_47, p5_13_48, p5_13_49, p5_13_50, p5_13_51, p5_13_52, p5_13_53, p5_13_54, p5_13_55, p5_13_56]
def x5_13 : RC := .ops o5_13
def x5_12 : RC := .seq x5_13 .ret
def x5_10 : RC := .seq x5_11 x5_12
def x5_8 : RC := .seq x5_9 x5_10
def x5_6 : RC := .seq x5_7 x5_8
def x5_4 : RC := .seq x5_5 x5_6
def x5_2 : RC := .seq x5_3 x5_4
def x5_0 : RC := .seq x5_1 x5_2
theorem x5_eq : Try.f5.body.map rc = some x5_0 := by kernel_rfl
def p8_1_0 : RO := ⟨none, some 2, .move (.tmp 0)⟩
def p8_1_1 : RO := ⟨none, some 3, .binOp .neq 23 (.tmp 2) (.const (.pointer none)) 23⟩
def o8_1 : List RO := [p8_1_0, p8_1_1]
def x8_1 : RC := .ops o8_1
def p8_3_0 : RO := ⟨none, some 4, .move (.tmp 0)⟩
def p8_3_1 : RO := ⟨none, some 5, .nilCheck (.tmp 4)⟩
def p8_3_2 : RO := ⟨none, some 6, .fieldAddr 47 (.tmp 5) 0⟩
def p8_3_3 : RO := ⟨none, some 7, .move (.tmp 0)⟩
def p8_3_4 : RO := ⟨none, some 8, .nilCheck (.tmp 7)⟩
def p8_3_5 : RO := ⟨none, some 9, .fieldAddr 47 (.tmp 8) 0⟩
def p8_3_6 : RO := ⟨none, some 10, .fieldAddr 45 (.tmp 9) 0⟩
def p8_3_7 : RO := ⟨none, some 11, .load 22 (.tmp 10)⟩
def p8_3_8 : RO := ⟨none, some 12, .call ⟨.builtin .len, #[(.tmp 11)], #[22]⟩⟩
def p8_3_9 : RO := ⟨none, some 13, .build 29 #[(0, (.const (.int .i64 (-1))))]⟩
def p8_3_10 : RO := ⟨none, some 14, .call ⟨.value (.func 21), #[(.tmp 6), (.tmp 12), (.tmp 13)], #[45, 3, 29]⟩⟩
def o8_3 : List (Nat × RO) := [(0, p8_3_0), (1, p8_3_1), (2, p8_3_2), (3, p8_3_3), (4, p8_3_4), (5, p8_3_5), (6, p8_3_6), (7, p8_3_7), (8, p8_3_8), (9, p8_3_9), (10, p8_3_10)]
def m8_3 : List Nat := [0, 1, 3, 0, 8, 24, 56, 120, 248, 0, 1023]
def x8_3 : RC := .draw o8_3 m8_3
def x8_2 : RC := .cond (.tmp 3) x8_3 .skip
def x8_0 : RC := .seq x8_1 x8_2
theorem x8_eq : Try.f8.body.map rc = some x8_0 := by kernel_rfl
def p9_1_0 : RO := ⟨none, some 3, .box 29 (.tmp 1)⟩
def o9_1 : List RO := [p9_1_0]
def x9_1 : RC := .ops o9_1
def p9_4_0 : RO := ⟨none, some 7, .move (.tmp 0)⟩
def p9_4_1 : RO := ⟨none, some 8, .binOp .eql 23 (.tmp 7) (.const (.pointer none)) 23⟩
def p9_4_2 : RO := ⟨none, some 9, .move (.tmp 8)⟩
def p9_4_3 : RO := ⟨some (some 9, false), some 10, .fieldAddr 29 (.tmp 3) 0⟩
def p9_4_4 : RO := ⟨some (some 9, false), some 11, .load 3 (.tmp 10)⟩
def p9_4_5 : RO := ⟨some (some 9, false), some 12, .binOp .lss 3 (.tmp 11) (.const (.int .i64 (0))) 3⟩
def p9_4_6 : RO := ⟨none, some 13, .pick (.tmp 9) (.const (.bool true)) (.tmp 12)⟩
def o9_4 : List RO := [p9_4_0, p9_4_1, p9_4_2, p9_4_3, p9_4_4, p9_4_5, p9_4_6]
def x9_4 : RC := .ops o9_4
def x9_5 : RC := .cond (.tmp 13) .ret .skip
def x9_3 : RC := .seq x9_4 x9_5
def p9_7_0 : RO := ⟨none, some 4, .assign (.const (.slice none 0 0))⟩
def o9_7 : List RO := [p9_7_0]
def x9_7 : RC := .ops o9_7
def p9_10_0 : RO := ⟨none, some 14, .move (.tmp 0)⟩
def p9_10_1 : RO := ⟨none, some 15, .call ⟨.value (.func 22), #[(.tmp 14)], #[23]⟩⟩
def p9_10_2 : RO := ⟨none, some 5, .assign (.tmp 15)⟩
def o9_10 : List RO := [p9_10_0, p9_10_1, p9_10_2]
def x9_10 : RC := .ops o9_10
def p9_15_0 : RO := ⟨none, some 16, .move (.tmp 5)⟩
def p9_15_1 : RO := ⟨none, some 17, .move (.tmp 0)⟩
def p9_15_2 : RO := ⟨none, some 18, .nilCheck (.tmp 17)⟩
def p9_15_3 : RO := ⟨none, some 19, .fieldAddr 47 (.tmp 18) 0⟩
def p9_15_4 : RO := ⟨none, some 20, .fieldAddr 45 (.tmp 19) 0⟩
def p9_15_5 : RO := ⟨none, some 21, .load 22 (.tmp 20)⟩
def p9_15_6 : RO := ⟨none, some 22, .call ⟨.builtin .len, #[(.tmp 21)], #[22]⟩⟩
def p9_15_7 : RO := ⟨none, some 23, .binOp .lss 3 (.tmp 16) (.tmp 22) 3⟩
def o9_15 : List RO := [p9_15_0, p9_15_1, p9_15_2, p9_15_3, p9_15_4, p9_15_5, p9_15_6, p9_15_7]
def x9_15 : RC := .ops o9_15
def x9_16 : RC := .cond (.tmp 23) .skip (.exit 0)
def x9_14 : RC := .seq x9_15 x9_16
def p9_20_0 : RO := ⟨none, some 26, .move (.tmp 0)⟩
def p9_20_1 : RO := ⟨none, some 27, .nilCheck (.tmp 26)⟩
def p9_20_2 : RO := ⟨none, some 28, .fieldAddr 47 (.tmp 27) 0⟩
def p9_20_3 : RO := ⟨none, some 29, .fieldAddr 45 (.tmp 28) 0⟩
def p9_20_4 : RO := ⟨none, some 30, .load 22 (.tmp 29)⟩
def p9_20_5 : RO := ⟨none, some 31, .move (.tmp 5)⟩
def p9_20_6 : RO := ⟨none, some 32, .indexAddr 22 (.tmp 30) (.tmp 31)⟩
def p9_20_7 : RO := ⟨none, some 33, .load 29 (.tmp 32)⟩
def p9_20_8 : RO := ⟨none, some 6, .alloc 29⟩
def p9_20_9 : RO := ⟨none, none, .store 29 (.tmp 6) (.tmp 33)⟩
def o9_20 : List RO := [p9_20_0, p9_20_1, p9_20_2, p9_20_3, p9_20_4, p9_20_5, p9_20_6, p9_20_7, p9_20_8, p9_20_9]
def x9_20 : RC := .ops o9_20
def p9_22_0 : RO := ⟨none, some 34, .fieldAddr 29 (.tmp 6) 1⟩
def p9_22_1 : RO := ⟨none, some 35, .load 3 (.tmp 34)⟩
def p9_22_2 : RO := ⟨none, some 36, .fieldAddr 29 (.tmp 3) 1⟩
def p9_22_3 : RO := ⟨none, some 37, .load 3 (.tmp 36)⟩
def p9_22_4 : RO := ⟨none, some 38, .binOp .eql 3 (.tmp 35) (.tmp 37) 3⟩
def p9_22_5 : RO := ⟨none, some 39, .move (.tmp 38)⟩
def p9_22_6 : RO := ⟨some (some 39, true), some 40, .fieldAddr 29 (.tmp 6) 2⟩
def p9_22_7 : RO := ⟨some (some 39, true), some 41, .load 9 (.tmp 40)⟩
def p9_22_8 : RO := ⟨some (some 39, true), some 42, .fieldAddr 29 (.tmp 3) 2⟩
def p9_22_9 : RO := ⟨some (some 39, true), some 43, .load 9 (.tmp 42)⟩
def p9_22_10 : RO := ⟨some (some 39, true), some 44, .binOp .eql 9 (.tmp 41) (.tmp 43) 9⟩
def p9_22_11 : RO := ⟨none, some 45, .pick (.tmp 39) (.tmp 44) (.const (.bool false))⟩
def p9_22_12 : RO := ⟨none, some 46, .move (.tmp 45)⟩
def p9_22_13 : RO := ⟨some (some 46, true), some 47, .fieldAddr 29 (.tmp 6) 3⟩
def p9_22_14 : RO := ⟨some (some 46, true), some 48, .load 27 (.tmp 47)⟩
def p9_22_15 : RO := ⟨some (some 46, true), some 49, .fieldAddr 29 (.tmp 3) 3⟩
def p9_22_16 : RO := ⟨some (some 46, true), some 50, .load 27 (.tmp 49)⟩
def p9_22_17 : RO := ⟨some (some 46, true), some 51, .call ⟨.value (.func 23), #[(.tmp 48), (.tmp 50)], #[27, 27]⟩⟩
def p9_22_18 : RO := ⟨none, some 52, .pick (.tmp 46) (.tmp 51) (.const (.bool false))⟩
def o9_22 : List RO := [p9_22_0, p9_22_1, p9_22_2, p9_22_3, p9_22_4, p9_22_5, p9_22_6, p9_22_7, p9_22_8, p9_22_9, p9_22_10, p9_22_11, p9_22_12, p9_22_13, p9_22_14, p9_22_15, p9_22_16, p9_22_17, p9_22_18]
def x9_22 : RC := .ops o9_22
def p9_24_0 : RO := ⟨none, some 53, .move (.tmp 4)⟩
def p9_24_1 : RO := ⟨none, some 54, .move (.tmp 5)⟩
def p9_24_2 : RO := ⟨none, some 55, .buildSlice 41 1 #[(0, (.tmp 54))]⟩
def p9_24_3 : RO := ⟨none, some 56, .call ⟨.builtin .append, #[(.tmp 53), (.tmp 55)], #[41, 41]⟩⟩
def p9_24_4 : RO := ⟨none, some 4, .assign (.tmp 56)⟩
def o9_24 : List RO := [p9_24_0, p9_24_1, p9_24_2, p9_24_3, p9_24_4]
def x9_24 : RC := .ops o9_24
def x9_23 : RC := .cond (.tmp 52) x9_24 .skip
def x9_21 : RC := .seq x9_22 x9_23
def x9_19 : RC := .seq x9_20 x9_21
def x9_18 : RC := .block 1 x9_19
def p9_25_0 : RO := ⟨none, some 24, .move (.tmp 5)⟩
def p9_25_1 : RO := ⟨none, some 25, .binOp .add 3 (.tmp 24) (.const (.int .i64 (1))) 3⟩
def p9_25_2 : RO := ⟨none, some 5, .assign (.tmp 25)⟩
def o9_25 : List RO := [p9_25_0, p9_25_1, p9_25_2]
def x9_25 : RC := .ops o9_25
def x9_17 : RC := .seq x9_18 x9_25
def x9_13 : RC := .seq x9_14 x9_17
def x9_12 : RC := .loop x9_13
def x9_11 : RC := .block 0 x9_12
def x9_9 : RC := .seq x9_10 x9_11
def p9_28_0 : RO := ⟨none, some 57, .move (.tmp 4)⟩
def p9_28_1 : RO := ⟨none, some 58, .call ⟨.builtin .len, #[(.tmp 57)], #[41]⟩⟩
def p9_28_2 : RO := ⟨none, some 59, .binOp .geq 3 (.tmp 58) (.const (.int .i64 (3))) 3⟩
def o9_28 : List RO := [p9_28_0, p9_28_1, p9_28_2]
def x9_28 : RC := .ops o9_28
def p9_30_0 : RO := ⟨none, some 60, .move (.tmp 0)⟩
def p9_30_1 : RO := ⟨none, some 61, .nilCheck (.tmp 60)⟩
def p9_30_2 : RO := ⟨none, some 62, .fieldAddr 47 (.tmp 61) 0⟩
def p9_30_3 : RO := ⟨none, some 63, .move (.tmp 4)⟩
def p9_30_4 : RO := ⟨none, some 64, .indexAddr 41 (.tmp 63) (.const (.int .i64 (0)))⟩
def p9_30_5 : RO := ⟨none, some 65, .load 3 (.tmp 64)⟩
def p9_30_6 : RO := ⟨none, some 66, .call ⟨.value (.func 24), #[(.tmp 62), (.tmp 65)], #[45, 3]⟩⟩
def o9_30 : List (Nat × RO) := [(0, p9_30_0), (1, p9_30_1), (2, p9_30_2), (3, p9_30_3), (4, p9_30_4), (5, p9_30_5), (6, p9_30_6)]
def m9_30 : List Nat := [0, 1, 3, 0, 8, 24, 63]
def x9_30 : RC := .draw o9_30 m9_30
def x9_29 : RC := .cond (.tmp 59) x9_30 .skip
def x9_27 : RC := .seq x9_28 x9_29
def p9_31_0 : RO := ⟨none, some 76, .load 29 (.tmp 3)⟩
def p9_31_1 : RO := ⟨none, some 77, .call ⟨.value (.func 25), #[(.tmp 76)], #[29]⟩⟩
def p9_31_2 : RO := ⟨none, some 67, .move (.tmp 0)⟩
def p9_31_3 : RO := ⟨none, some 68, .nilCheck (.tmp 67)⟩
def p9_31_4 : RO := ⟨none, some 69, .fieldAddr 47 (.tmp 68) 0⟩
def p9_31_5 : RO := ⟨none, some 70, .move (.tmp 0)⟩
def p9_31_6 : RO := ⟨none, some 71, .nilCheck (.tmp 70)⟩
def p9_31_7 : RO := ⟨none, some 72, .fieldAddr 47 (.tmp 71) 0⟩
def p9_31_8 : RO := ⟨none, some 73, .fieldAddr 45 (.tmp 72) 0⟩
def p9_31_9 : RO := ⟨none, some 74, .load 22 (.tmp 73)⟩
def p9_31_10 : RO := ⟨none, some 75, .call ⟨.builtin .len, #[(.tmp 74)], #[22]⟩⟩
def p9_31_11 : RO := ⟨none, some 78, .call ⟨.value (.func 21), #[(.tmp 69), (.tmp 75), (.tmp 77)], #[45, 3, 29]⟩⟩
def o9_31 : List (Nat × RO) := [(9, p9_31_0), (10, p9_31_1), (0, p9_31_2), (1, p9_31_3), (2, p9_31_4), (3, p9_31_5), (4, p9_31_6), (5, p9_31_7), (6, p9_31_8), (7, p9_31_9), (8, p9_31_10), (11, p9_31_11)]
def m9_31 : List Nat := [0, 1, 3, 0, 8, 24, 56, 120, 248, 0, 512, 2047]
def x9_31 : RC := .draw o9_31 m9_31
def x9_26 : RC := .seq x9_27 x9_31
def x9_8 : RC := .seq x9_9 x9_26
def x9_6 : RC := .seq x9_7 x9_8
def x9_2 : RC := .seq x9_3 x9_6
def x9_0 : RC := .seq x9_1 x9_2
theorem x9_eq : Try.f9.body.map rc = some x9_0 := by kernel_rfl
def p10_1_0 : RO := ⟨none, some 2, .assign (.const (.slice none 0 0))⟩
def o10_1 : List RO := [p10_1_0]
def x10_1 : RC := .ops o10_1
def p10_4_0 : RO := ⟨none, some 6, .move (.tmp 0)⟩
def p10_4_1 : RO := ⟨none, some 7, .binOp .eql 23 (.tmp 6) (.const (.pointer none)) 23⟩
def o10_4 : List RO := [p10_4_0, p10_4_1]
def x10_4 : RC := .ops o10_4
def p10_7_0 : RO := ⟨none, some 2, .assign (.const (.slice none 0 0))⟩
def o10_7 : List RO := [p10_7_0]
def x10_7 : RC := .ops o10_7
def x10_6 : RC := .seq x10_7 .ret
def x10_5 : RC := .cond (.tmp 7) x10_6 .skip
def x10_3 : RC := .seq x10_4 x10_5
def p10_9_0 : RO := ⟨none, some 8, .move (.tmp 0)⟩
def p10_9_1 : RO := ⟨none, some 9, .nilCheck (.tmp 8)⟩
def p10_9_2 : RO := ⟨none, some 10, .fieldAddr 47 (.tmp 9) 0⟩
def p10_9_3 : RO := ⟨none, some 11, .fieldAddr 45 (.tmp 10) 0⟩
def p10_9_4 : RO := ⟨none, some 12, .load 22 (.tmp 11)⟩
def p10_9_5 : RO := ⟨none, some 13, .call ⟨.builtin .len, #[(.tmp 12)], #[22]⟩⟩
def p10_9_6 : RO := ⟨none, some 14, .makeSlice 22 (.tmp 13) (.tmp 13)⟩
def p10_9_7 : RO := ⟨none, some 3, .assign (.tmp 14)⟩
def o10_9 : List RO := [p10_9_0, p10_9_1, p10_9_2, p10_9_3, p10_9_4, p10_9_5, p10_9_6, p10_9_7]
def x10_9 : RC := .ops o10_9
def p10_12_0 : RO := ⟨none, some 15, .move (.tmp 0)⟩
def p10_12_1 : RO := ⟨none, some 16, .nilCheck (.tmp 15)⟩
def p10_12_2 : RO := ⟨none, some 17, .fieldAddr 47 (.tmp 16) 0⟩
def p10_12_3 : RO := ⟨none, some 18, .fieldAddr 45 (.tmp 17) 0⟩
def p10_12_4 : RO := ⟨none, some 19, .load 22 (.tmp 18)⟩
def p10_12_5 : RO := ⟨none, some 20, .call ⟨.builtin .len, #[(.tmp 19)], #[22]⟩⟩
def p10_12_6 : RO := ⟨none, some 21, .move (.const (.int .i64 (0)))⟩
def o10_12 : List RO := [p10_12_0, p10_12_1, p10_12_2, p10_12_3, p10_12_4, p10_12_5, p10_12_6]
def x10_12 : RC := .ops o10_12
def p10_16_0 : RO := ⟨none, some 22, .binOp .lss 3 (.tmp 21) (.tmp 20) 3⟩
def o10_16 : List RO := [p10_16_0]
def x10_16 : RC := .ops o10_16
def x10_18 : RC := .cond (.tmp 22) .skip (.exit 0)
def p10_22_0 : RO := ⟨none, some 23, .move (.tmp 21)⟩
def p10_22_1 : RO := ⟨none, some 24, .indexAddr 22 (.tmp 19) (.tmp 21)⟩
def p10_22_2 : RO := ⟨none, some 25, .load 29 (.tmp 24)⟩
def p10_22_3 : RO := ⟨none, some 5, .alloc 29⟩
def p10_22_4 : RO := ⟨none, some 4, .assign (.tmp 23)⟩
def p10_22_5 : RO := ⟨none, none, .store 29 (.tmp 5) (.tmp 25)⟩
def o10_22 : List RO := [p10_22_0, p10_22_1, p10_22_2, p10_22_3, p10_22_4, p10_22_5]
def x10_22 : RC := .ops o10_22
def p10_23_0 : RO := ⟨none, some 26, .move (.tmp 3)⟩
def p10_23_1 : RO := ⟨none, some 27, .move (.tmp 4)⟩
def p10_23_2 : RO := ⟨none, some 28, .load 29 (.tmp 5)⟩
def p10_23_3 : RO := ⟨none, some 29, .call ⟨.value (.func 25), #[(.tmp 28)], #[29]⟩⟩
def p10_23_4 : RO := ⟨none, some 30, .indexAddr 22 (.tmp 26) (.tmp 27)⟩
def p10_23_5 : RO := ⟨none, none, .store 29 (.tmp 30) (.tmp 29)⟩
def o10_23 : List RO := [p10_23_0, p10_23_1, p10_23_2, p10_23_3, p10_23_4, p10_23_5]
def x10_23 : RC := .ops o10_23
def x10_21 : RC := .seq x10_22 x10_23
def x10_20 : RC := .block 1 x10_21
def p10_24_0 : RO := ⟨none, some 31, .binOp .add 3 (.tmp 21) (.const (.int .i64 (1))) 3⟩
def p10_24_1 : RO := ⟨none, some 21, .move (.tmp 31)⟩
def o10_24 : List RO := [p10_24_0, p10_24_1]
def x10_24 : RC := .ops o10_24
def x10_19 : RC := .seq x10_20 x10_24
def x10_17 : RC := .seq x10_18 x10_19
def x10_15 : RC := .seq x10_16 x10_17
def x10_14 : RC := .loop x10_15
def x10_13 : RC := .block 0 x10_14
def x10_11 : RC := .seq x10_12 x10_13
def p10_26_0 : RO := ⟨none, some 32, .move (.tmp 3)⟩
def p10_26_1 : RO := ⟨none, some 2, .assign (.tmp 32)⟩
def o10_26 : List RO := [p10_26_0, p10_26_1]
def x10_26 : RC := .ops o10_26
def x10_25 : RC := .seq x10_26 .ret
def x10_10 : RC := .seq x10_11 x10_25
def x10_8 : RC := .seq x10_9 x10_10
def x10_2 : RC := .seq x10_3 x10_8
def x10_0 : RC := .seq x10_1 x10_2
theorem x10_eq : Try.f10.body.map rc = some x10_0 := by kernel_rfl
def p12_1_0 : RO := ⟨none, some 2, .move (.tmp 0)⟩
def p12_1_1 : RO := ⟨none, some 3, .binOp .neq 23 (.tmp 2) (.const (.pointer none)) 23⟩
def o12_1 : List RO := [p12_1_0, p12_1_1]
def x12_1 : RC := .ops o12_1
def p12_3_0 : RO := ⟨none, some 10, .move (.tmp 0)⟩
def p12_3_1 : RO := ⟨none, some 11, .call ⟨.value (.func 22), #[(.tmp 10)], #[23]⟩⟩
def p12_3_2 : RO := ⟨none, some 5, .move (.tmp 0)⟩
def p12_3_3 : RO := ⟨none, some 6, .nilCheck (.tmp 5)⟩
def p12_3_4 : RO := ⟨none, some 7, .fieldAddr 47 (.tmp 6) 0⟩
def p12_3_5 : RO := ⟨none, some 8, .fieldAddr 45 (.tmp 7) 0⟩
def p12_3_6 : RO := ⟨none, some 9, .load 22 (.tmp 8)⟩
def p12_3_7 : RO := ⟨none, some 12, .binOp .sub 3 (.tmp 11) (.const (.int .i64 (1))) 3⟩
def p12_3_8 : RO := ⟨none, some 13, .call ⟨.builtin .max, #[(.tmp 12), (.const (.int .i64 (0)))], #[3, 3]⟩⟩
def p12_3_9 : RO := ⟨none, some 14, .move (.tmp 0)⟩
def p12_3_10 : RO := ⟨none, some 15, .nilCheck (.tmp 14)⟩
def p12_3_11 : RO := ⟨none, some 16, .fieldAddr 47 (.tmp 15) 0⟩
def p12_3_12 : RO := ⟨none, some 17, .fieldAddr 45 (.tmp 16) 0⟩
def p12_3_13 : RO := ⟨none, some 18, .load 22 (.tmp 17)⟩
def p12_3_14 : RO := ⟨none, some 19, .call ⟨.builtin .len, #[(.tmp 18)], #[22]⟩⟩
def p12_3_15 : RO := ⟨none, some 20, .call ⟨.value (.func 27), #[(.tmp 9), (.tmp 13), (.tmp 19)], #[22, 3, 3]⟩⟩
def p12_3_16 : RO := ⟨none, some 4, .move (.tmp 0)⟩
def p12_3_17 : RO := ⟨none, some 21, .nilCheck (.tmp 4)⟩
def p12_3_18 : RO := ⟨none, some 22, .fieldAddr 47 (.tmp 21) 0⟩
def p12_3_19 : RO := ⟨none, some 23, .fieldAddr 45 (.tmp 22) 0⟩
def p12_3_20 : RO := ⟨none, none, .store 22 (.tmp 23) (.tmp 20)⟩
def o12_3 : List (Nat × RO) := [(6, p12_3_0), (7, p12_3_1), (1, p12_3_2), (2, p12_3_3), (3, p12_3_4), (4, p12_3_5), (5, p12_3_6), (8, p12_3_7), (9, p12_3_8), (10, p12_3_9), (11, p12_3_10), (12, p12_3_11), (13, p12_3_12), (14, p12_3_13), (15, p12_3_14), (16, p12_3_15), (0, p12_3_16), (17, p12_3_17), (18, p12_3_18), (19, p12_3_19), (20, p12_3_20)]
def m12_3 : List Nat := [0, 0, 2, 6, 14, 30, 0, 64, 192, 448, 0, 1024, 3072, 7168, 15360, 31744, 65534, 131071, 262143, 524287, 1048575]
def x12_3 : RC := .draw o12_3 m12_3
def x12_2 : RC := .cond (.tmp 3) x12_3 .skip
def x12_0 : RC := .seq x12_1 x12_2
theorem x12_eq : Try.f12.body.map rc = some x12_0 := by kernel_rfl
def p14_1_0 : RO := ⟨none, some 3, .box 9 (.tmp 1)⟩
def p14_1_1 : RO := ⟨none, some 4, .alloc 29⟩
def p14_1_2 : RO := ⟨none, some 5, .assign (.const (.bool false))⟩
def o14_1 : List RO := [p14_1_0, p14_1_1, p14_1_2]
def x14_1 : RC := .ops o14_1
def p14_4_0 : RO := ⟨none, some 7, .move (.tmp 0)⟩
def p14_4_1 : RO := ⟨none, some 8, .binOp .eql 23 (.tmp 7) (.const (.pointer none)) 23⟩
def o14_4 : List RO := [p14_4_0, p14_4_1]
def x14_4 : RC := .ops o14_4
def p14_7_0 : RO := ⟨none, some 9, .build 29 #[]⟩
def p14_7_1 : RO := ⟨none, none, .store 29 (.tmp 4) (.tmp 9)⟩
def p14_7_2 : RO := ⟨none, some 5, .assign (.const (.bool false))⟩
def o14_7 : List RO := [p14_7_0, p14_7_1, p14_7_2]
def x14_7 : RC := .ops o14_7
def x14_6 : RC := .seq x14_7 .ret
def x14_5 : RC := .cond (.tmp 8) x14_6 .skip
def x14_3 : RC := .seq x14_4 x14_5
def p14_9_0 : RO := ⟨none, some 13, .move (.tmp 0)⟩
def p14_9_1 : RO := ⟨none, some 14, .call ⟨.value (.func 22), #[(.tmp 13)], #[23]⟩⟩
def p14_9_2 : RO := ⟨none, some 10, .move (.tmp 0)⟩
def p14_9_3 : RO := ⟨none, some 11, .nilCheck (.tmp 10)⟩
def p14_9_4 : RO := ⟨none, some 12, .fieldAddr 47 (.tmp 11) 0⟩
def p14_9_5 : RO := ⟨none, some 15, .makeFunc (.func 30) #[] #[(.tmp 3)]⟩
def p14_9_6 : RO := ⟨none, some 16, .call ⟨.value (.func 29), #[(.tmp 12), (.tmp 14), (.tmp 15)], #[45, 3, 58]⟩⟩
def p14_9_7 : RO := ⟨none, some 6, .assign (.tmp 16)⟩
def o14_9 : List (Nat × RO) := [(3, p14_9_0), (4, p14_9_1), (0, p14_9_2), (1, p14_9_3), (2, p14_9_4), (5, p14_9_5), (6, p14_9_6), (7, p14_9_7)]
def m14_9 : List Nat := [0, 1, 3, 0, 8, 0, 63, 127]
def x14_9 : RC := .draw o14_9 m14_9
def p14_12_0 : RO := ⟨none, some 17, .move (.tmp 6)⟩
def p14_12_1 : RO := ⟨none, some 18, .binOp .lss 3 (.tmp 17) (.const (.int .i64 (0))) 3⟩
def o14_12 : List RO := [p14_12_0, p14_12_1]
def x14_12 : RC := .ops o14_12
def p14_15_0 : RO := ⟨none, some 19, .build 29 #[]⟩
def p14_15_1 : RO := ⟨none, none, .store 29 (.tmp 4) (.tmp 19)⟩
def p14_15_2 : RO := ⟨none, some 5, .assign (.const (.bool false))⟩
def o14_15 : List RO := [p14_15_0, p14_15_1, p14_15_2]
def x14_15 : RC := .ops o14_15
def x14_14 : RC := .seq x14_15 .ret
def x14_13 : RC := .cond (.tmp 18) x14_14 .skip
def x14_11 : RC := .seq x14_12 x14_13
def p14_17_0 : RO := ⟨none, some 20, .move (.tmp 0)⟩
def p14_17_1 : RO := ⟨none, some 21, .nilCheck (.tmp 20)⟩
def p14_17_2 : RO := ⟨none, some 22, .fieldAddr 47 (.tmp 21) 0⟩
def p14_17_3 : RO := ⟨none, some 23, .fieldAddr 45 (.tmp 22) 0⟩
def p14_17_4 : RO := ⟨none, some 24, .load 22 (.tmp 23)⟩
def p14_17_5 : RO := ⟨none, some 25, .move (.tmp 6)⟩
def p14_17_6 : RO := ⟨none, some 26, .indexAddr 22 (.tmp 24) (.tmp 25)⟩
def p14_17_7 : RO := ⟨none, some 27, .load 29 (.tmp 26)⟩
def p14_17_8 : RO := ⟨none, some 28, .call ⟨.value (.func 25), #[(.tmp 27)], #[29]⟩⟩
def p14_17_9 : RO := ⟨none, none, .store 29 (.tmp 4) (.tmp 28)⟩
def p14_17_10 : RO := ⟨none, some 5, .assign (.const (.bool true))⟩
def o14_17 : List RO := [p14_17_0, p14_17_1, p14_17_2, p14_17_3, p14_17_4, p14_17_5, p14_17_6, p14_17_7, p14_17_8, p14_17_9, p14_17_10]
def x14_17 : RC := .ops o14_17
def x14_16 : RC := .seq x14_17 .ret
def x14_10 : RC := .seq x14_11 x14_16
def x14_8 : RC := .seq x14_9 x14_10
def x14_2 : RC := .seq x14_3 x14_8
def x14_0 : RC := .seq x14_1 x14_2
theorem x14_eq : Try.f14.body.map rc = some x14_0 := by kernel_rfl
def p15_1_0 : RO := ⟨none, some 4, .assign (.const (.bool false))⟩
def o15_1 : List RO := [p15_1_0]
def x15_1 : RC := .ops o15_1
def p15_3_0 : RO := ⟨none, some 6, .move (.tmp 0)⟩
def p15_3_1 : RO := ⟨none, some 7, .move (.tmp 1)⟩
def p15_3_2 : RO := ⟨none, some 8, .call ⟨.value (.func 18), #[(.tmp 6), (.tmp 7)], #[23, 3]⟩⟩
def p15_3_3 : RO := ⟨none, some 5, .assign (.tmp 8)⟩
def o15_3 : List RO := [p15_3_0, p15_3_1, p15_3_2, p15_3_3]
def x15_3 : RC := .ops o15_3
def p15_6_0 : RO := ⟨none, some 9, .move (.tmp 5)⟩
def p15_6_1 : RO := ⟨none, some 10, .binOp .geq 3 (.tmp 9) (.const (.int .i64 (0))) 3⟩
def o15_6 : List RO := [p15_6_0, p15_6_1]
def x15_6 : RC := .ops o15_6
def p15_8_0 : RO := ⟨none, some 11, .move (.tmp 0)⟩
def p15_8_1 : RO := ⟨none, some 12, .nilCheck (.tmp 11)⟩
def p15_8_2 : RO := ⟨none, some 13, .fieldAddr 47 (.tmp 12) 0⟩
def p15_8_3 : RO := ⟨none, some 14, .move (.tmp 5)⟩
def p15_8_4 : RO := ⟨none, some 15, .call ⟨.value (.func 24), #[(.tmp 13), (.tmp 14)], #[45, 3]⟩⟩
def o15_8 : List RO := [p15_8_0, p15_8_1, p15_8_2, p15_8_3, p15_8_4]
def x15_8 : RC := .ops o15_8
def x15_7 : RC := .cond (.tmp 10) x15_8 .skip
def x15_5 : RC := .seq x15_6 x15_7
def p15_10_0 : RO := ⟨none, some 16, .move (.tmp 5)⟩
def p15_10_1 : RO := ⟨none, some 17, .binOp .geq 3 (.tmp 16) (.const (.int .i64 (0))) 3⟩
def p15_10_2 : RO := ⟨none, some 4, .assign (.tmp 17)⟩
def o15_10 : List RO := [p15_10_0, p15_10_1, p15_10_2]
def x15_10 : RC := .ops o15_10
def x15_9 : RC := .seq x15_10 .ret
def x15_4 : RC := .seq x15_5 x15_9
def x15_2 : RC := .seq x15_3 x15_4
def x15_0 : RC := .seq x15_1 x15_2
theorem x15_eq : Try.f15.body.map rc = some x15_0 := by kernel_rfl
def p16_1_0 : RO := ⟨none, some 5, .box 29 (.tmp 2)⟩
def p16_1_1 : RO := ⟨none, some 6, .assign (.const (.bool false))⟩
def o16_1 : List RO := [p16_1_0, p16_1_1]
def x16_1 : RC := .ops o16_1
def p16_3_0 : RO := ⟨none, some 8, .move (.tmp 0)⟩
def p16_3_1 : RO := ⟨none, some 9, .move (.tmp 1)⟩
def p16_3_2 : RO := ⟨none, some 10, .call ⟨.value (.func 18), #[(.tmp 8), (.tmp 9)], #[23, 3]⟩⟩
def p16_3_3 : RO := ⟨none, some 7, .assign (.tmp 10)⟩
def o16_3 : List RO := [p16_3_0, p16_3_1, p16_3_2, p16_3_3]
def x16_3 : RC := .ops o16_3
def p16_6_0 : RO := ⟨none, some 11, .move (.tmp 7)⟩
def p16_6_1 : RO := ⟨none, some 12, .binOp .geq 3 (.tmp 11) (.const (.int .i64 (0))) 3⟩
def o16_6 : List RO := [p16_6_0, p16_6_1]
def x16_6 : RC := .ops o16_6
def p16_8_0 : RO := ⟨none, some 19, .load 29 (.tmp 5)⟩
def p16_8_1 : RO := ⟨none, some 20, .call ⟨.value (.func 25), #[(.tmp 19)], #[29]⟩⟩
def p16_8_2 : RO := ⟨none, some 13, .move (.tmp 0)⟩
def p16_8_3 : RO := ⟨none, some 14, .nilCheck (.tmp 13)⟩
def p16_8_4 : RO := ⟨none, some 15, .fieldAddr 47 (.tmp 14) 0⟩
def p16_8_5 : RO := ⟨none, some 16, .fieldAddr 45 (.tmp 15) 0⟩
def p16_8_6 : RO := ⟨none, some 17, .load 22 (.tmp 16)⟩
def p16_8_7 : RO := ⟨none, some 18, .move (.tmp 7)⟩
def p16_8_8 : RO := ⟨none, some 21, .indexAddr 22 (.tmp 17) (.tmp 18)⟩
def p16_8_9 : RO := ⟨none, none, .store 29 (.tmp 21) (.tmp 20)⟩
def o16_8 : List (Nat × RO) := [(6, p16_8_0), (7, p16_8_1), (0, p16_8_2), (1, p16_8_3), (2, p16_8_4), (3, p16_8_5), (4, p16_8_6), (5, p16_8_7), (8, p16_8_8), (9, p16_8_9)]
def m16_8 : List Nat := [0, 1, 3, 7, 15, 0, 0, 64, 255, 511]
def x16_8 : RC := .draw o16_8 m16_8
def x16_7 : RC := .cond (.tmp 12) x16_8 .skip
def x16_5 : RC := .seq x16_6 x16_7
def p16_10_0 : RO := ⟨none, some 22, .move (.tmp 7)⟩
def p16_10_1 : RO := ⟨none, some 23, .binOp .geq 3 (.tmp 22) (.const (.int .i64 (0))) 3⟩
def p16_10_2 : RO := ⟨none, some 6, .assign (.tmp 23)⟩
def o16_10 : List RO := [p16_10_0, p16_10_1, p16_10_2]
def x16_10 : RC := .ops o16_10
def x16_9 : RC := .seq x16_10 .ret
def x16_4 : RC := .seq x16_5 x16_9
def x16_2 : RC := .seq x16_3 x16_4
def x16_0 : RC := .seq x16_1 x16_2
theorem x16_eq : Try.f16.body.map rc = some x16_0 := by kernel_rfl
def p17_1_0 : RO := ⟨none, some 5, .box 29 (.tmp 2)⟩
def p17_1_1 : RO := ⟨none, some 6, .assign (.const (.bool false))⟩
def o17_1 : List RO := [p17_1_0, p17_1_1]
def x17_1 : RC := .ops o17_1
def p17_3_0 : RO := ⟨none, some 8, .move (.tmp 0)⟩
def p17_3_1 : RO := ⟨none, some 9, .move (.tmp 1)⟩
def p17_3_2 : RO := ⟨none, some 10, .call ⟨.value (.func 18), #[(.tmp 8), (.tmp 9)], #[23, 3]⟩⟩
def p17_3_3 : RO := ⟨none, some 7, .assign (.tmp 10)⟩
def o17_3 : List RO := [p17_3_0, p17_3_1, p17_3_2, p17_3_3]
def x17_3 : RC := .ops o17_3
def p17_6_0 : RO := ⟨none, some 11, .move (.tmp 7)⟩
def p17_6_1 : RO := ⟨none, some 12, .binOp .geq 3 (.tmp 11) (.const (.int .i64 (0))) 3⟩
def o17_6 : List RO := [p17_6_0, p17_6_1]
def x17_6 : RC := .ops o17_6
def p17_8_0 : RO := ⟨none, some 18, .load 29 (.tmp 5)⟩
def p17_8_1 : RO := ⟨none, some 19, .call ⟨.value (.func 25), #[(.tmp 18)], #[29]⟩⟩
def p17_8_2 : RO := ⟨none, some 13, .move (.tmp 0)⟩
def p17_8_3 : RO := ⟨none, some 14, .nilCheck (.tmp 13)⟩
def p17_8_4 : RO := ⟨none, some 15, .fieldAddr 47 (.tmp 14) 0⟩
def p17_8_5 : RO := ⟨none, some 16, .move (.tmp 7)⟩
def p17_8_6 : RO := ⟨none, some 17, .binOp .add 3 (.tmp 16) (.const (.int .i64 (1))) 3⟩
def p17_8_7 : RO := ⟨none, some 20, .call ⟨.value (.func 21), #[(.tmp 15), (.tmp 17), (.tmp 19)], #[45, 3, 29]⟩⟩
def o17_8 : List (Nat × RO) := [(5, p17_8_0), (6, p17_8_1), (0, p17_8_2), (1, p17_8_3), (2, p17_8_4), (3, p17_8_5), (4, p17_8_6), (7, p17_8_7)]
def m17_8 : List Nat := [0, 1, 3, 0, 8, 0, 32, 127]
def x17_8 : RC := .draw o17_8 m17_8
def x17_7 : RC := .cond (.tmp 12) x17_8 .skip
def x17_5 : RC := .seq x17_6 x17_7
def p17_10_0 : RO := ⟨none, some 21, .move (.tmp 7)⟩
def p17_10_1 : RO := ⟨none, some 22, .binOp .geq 3 (.tmp 21) (.const (.int .i64 (0))) 3⟩
def p17_10_2 : RO := ⟨none, some 6, .assign (.tmp 22)⟩
def o17_10 : List RO := [p17_10_0, p17_10_1, p17_10_2]
def x17_10 : RC := .ops o17_10
def x17_9 : RC := .seq x17_10 .ret
def x17_4 : RC := .seq x17_5 x17_9
def x17_2 : RC := .seq x17_3 x17_4
def x17_0 : RC := .seq x17_1 x17_2
theorem x17_eq : Try.f17.body.map rc = some x17_0 := by kernel_rfl
def p18_1_0 : RO := ⟨none, some 3, .box 3 (.tmp 1)⟩
def p18_1_1 : RO := ⟨none, some 4, .assign (.const (.int .i64 (0)))⟩
def o18_1 : List RO := [p18_1_0, p18_1_1]
def x18_1 : RC := .ops o18_1
def p18_4_0 : RO := ⟨none, some 5, .move (.tmp 0)⟩
def p18_4_1 : RO := ⟨none, some 6, .binOp .eql 23 (.tmp 5) (.const (.pointer none)) 23⟩
def p18_4_2 : RO := ⟨none, some 7, .move (.tmp 6)⟩
def p18_4_3 : RO := ⟨some (some 7, false), some 8, .load 3 (.tmp 3)⟩
def p18_4_4 : RO := ⟨some (some 7, false), some 9, .binOp .lss 3 (.tmp 8) (.const (.int .i64 (0))) 3⟩
def p18_4_5 : RO := ⟨none, some 10, .pick (.tmp 7) (.const (.bool true)) (.tmp 9)⟩
def o18_4 : List RO := [p18_4_0, p18_4_1, p18_4_2, p18_4_3, p18_4_4, p18_4_5]
def x18_4 : RC := .ops o18_4
def p18_7_0 : RO := ⟨none, some 4, .assign (.const (.int .i64 (-1)))⟩
def o18_7 : List RO := [p18_7_0]
def x18_7 : RC := .ops o18_7
def x18_6 : RC := .seq x18_7 .ret
def x18_5 : RC := .cond (.tmp 10) x18_6 .skip
def x18_3 : RC := .seq x18_4 x18_5
def p18_9_0 : RO := ⟨none, some 11, .move (.tmp 0)⟩
def p18_9_1 : RO := ⟨none, some 12, .nilCheck (.tmp 11)⟩
def p18_9_2 : RO := ⟨none, some 13, .fieldAddr 47 (.tmp 12) 0⟩
def p18_9_3 : RO := ⟨none, some 14, .makeFunc (.func 31) #[] #[(.tmp 3)]⟩
def p18_9_4 : RO := ⟨none, some 15, .call ⟨.value (.func 29), #[(.tmp 13), (.const (.int .i64 (0))), (.tmp 14)], #[45, 3, 58]⟩⟩
def p18_9_5 : RO := ⟨none, some 4, .assign (.tmp 15)⟩
def o18_9 : List RO := [p18_9_0, p18_9_1, p18_9_2, p18_9_3, p18_9_4, p18_9_5]
def x18_9 : RC := .ops o18_9
def x18_8 : RC := .seq x18_9 .ret
def x18_2 : RC := .seq x18_3 x18_8
def x18_0 : RC := .seq x18_1 x18_2
theorem x18_eq : Try.f18.body.map rc = some x18_0 := by kernel_rfl
def p19_1_0 : RO := ⟨none, some 3, .box 22 (.tmp 1)⟩
def p19_1_1 : RO := ⟨none, some 4, .assign (.const (.slice none 0 0))⟩
def o19_1 : List RO := [p19_1_0, p19_1_1]
def x19_1 : RC := .ops o19_1
def p19_4_0 : RO := ⟨none, some 8, .move (.tmp 0)⟩
def p19_4_1 : RO := ⟨none, some 9, .binOp .eql 23 (.tmp 8) (.const (.pointer none)) 23⟩
def o19_4 : List RO := [p19_4_0, p19_4_1]
def x19_4 : RC := .ops o19_4
def p19_7_0 : RO := ⟨none, some 4, .assign (.const (.slice none 0 0))⟩
def o19_7 : List RO := [p19_7_0]
def x19_7 : RC := .ops o19_7
def x19_6 : RC := .seq x19_7 .ret
def x19_5 : RC := .cond (.tmp 9) x19_6 .skip
def x19_3 : RC := .seq x19_4 x19_5
def p19_9_0 : RO := ⟨none, some 10, .move (.tmp 0)⟩
def p19_9_1 : RO := ⟨none, some 11, .nilCheck (.tmp 10)⟩
def p19_9_2 : RO := ⟨none, some 12, .fieldAddr 47 (.tmp 11) 0⟩
def p19_9_3 : RO := ⟨none, some 13, .makeFunc (.func 32) #[] #[(.tmp 3)]⟩
def p19_9_4 : RO := ⟨none, some 14, .call ⟨.value (.func 29), #[(.tmp 12), (.const (.int .i64 (0))), (.tmp 13)], #[45, 3, 58]⟩⟩
def p19_9_5 : RO := ⟨none, some 5, .assign (.tmp 14)⟩
def o19_9 : List RO := [p19_9_0, p19_9_1, p19_9_2, p19_9_3, p19_9_4, p19_9_5]
def x19_9 : RC := .ops o19_9
def p19_11_0 : RO := ⟨none, some 6, .assign (.const (.slice none 0 0))⟩
def o19_11 : List RO := [p19_11_0]
def x19_11 : RC := .ops o19_11
def p19_14_0 : RO := ⟨none, some 15, .move (.tmp 5)⟩
def p19_14_1 : RO := ⟨none, some 16, .binOp .add 3 (.tmp 15) (.const (.int .i64 (1))) 3⟩
def p19_14_2 : RO := ⟨none, some 7, .assign (.tmp 16)⟩
def o19_14 : List RO := [p19_14_0, p19_14_1, p19_14_2]
def x19_14 : RC := .ops o19_14
def p19_19_0 : RO := ⟨none, some 17, .move (.tmp 7)⟩
def p19_19_1 : RO := ⟨none, some 18, .move (.tmp 0)⟩
def p19_19_2 : RO := ⟨none, some 19, .nilCheck (.tmp 18)⟩
def p19_19_3 : RO := ⟨none, some 20, .fieldAddr 47 (.tmp 19) 0⟩
def p19_19_4 : RO := ⟨none, some 21, .fieldAddr 45 (.tmp 20) 0⟩
def p19_19_5 : RO := ⟨none, some 22, .load 22 (.tmp 21)⟩
def p19_19_6 : RO := ⟨none, some 23, .call ⟨.builtin .len, #[(.tmp 22)], #[22]⟩⟩
def p19_19_7 : RO := ⟨none, some 24, .binOp .lss 3 (.tmp 17) (.tmp 23) 3⟩
def o19_19 : List RO := [p19_19_0, p19_19_1, p19_19_2, p19_19_3, p19_19_4, p19_19_5, p19_19_6, p19_19_7]
def x19_19 : RC := .ops o19_19
def x19_20 : RC := .cond (.tmp 24) .skip (.exit 0)
def x19_18 : RC := .seq x19_19 x19_20
def p19_23_0 : RO := ⟨none, some 27, .move (.tmp 6)⟩
def p19_23_1 : RO := ⟨none, some 28, .move (.tmp 7)⟩
def p19_23_2 : RO := ⟨none, some 29, .buildSlice 41 1 #[(0, (.tmp 28))]⟩
def p19_23_3 : RO := ⟨none, some 30, .call ⟨.builtin .append, #[(.tmp 27), (.tmp 29)], #[41, 41]⟩⟩
def p19_23_4 : RO := ⟨none, some 6, .assign (.tmp 30)⟩
def o19_23 : List RO := [p19_23_0, p19_23_1, p19_23_2, p19_23_3, p19_23_4]
def x19_23 : RC := .ops o19_23
def x19_22 : RC := .block 1 x19_23
def p19_24_0 : RO := ⟨none, some 25, .move (.tmp 7)⟩
def p19_24_1 : RO := ⟨none, some 26, .binOp .add 3 (.tmp 25) (.const (.int .i64 (1))) 3⟩
def p19_24_2 : RO := ⟨none, some 7, .assign (.tmp 26)⟩
def o19_24 : List RO := [p19_24_0, p19_24_1, p19_24_2]
def x19_24 : RC := .ops o19_24
def x19_21 : RC := .seq x19_22 x19_24
def x19_17 : RC := .seq x19_18 x19_21
def x19_16 : RC := .loop x19_17
def x19_15 : RC := .block 0 x19_16
def x19_13 : RC := .seq x19_14 x19_15
def p19_26_0 : RO := ⟨none, some 31, .move (.tmp 6)⟩
def p19_26_1 : RO := ⟨none, some 4, .assign (.tmp 31)⟩
def o19_26 : List RO := [p19_26_0, p19_26_1]
def x19_26 : RC := .ops o19_26
def x19_25 : RC := .seq x19_26 .ret
def x19_12 : RC := .seq x19_13 x19_25
def x19_10 : RC := .seq x19_11 x19_12
def x19_8 : RC := .seq x19_9 x19_10
def x19_2 : RC := .seq x19_3 x19_8
def x19_0 : RC := .seq x19_1 x19_2
theorem x19_eq : Try.f19.body.map rc = some x19_0 := by kernel_rfl
def p20_1_0 : RO := ⟨none, some 2, .assign (.const (.pointer none))⟩
def o20_1 : List RO := [p20_1_0]
def x20_1 : RC := .ops o20_1
def p20_4_0 : RO := ⟨none, some 3, .move (.tmp 0)⟩
def p20_4_1 : RO := ⟨none, some 4, .binOp .eql 23 (.tmp 3) (.const (.pointer none)) 23⟩
def o20_4 : List RO := [p20_4_0, p20_4_1]
def x20_4 : RC := .ops o20_4
def p20_7_0 : RO := ⟨none, some 2, .assign (.const (.pointer none))⟩
def o20_7 : List RO := [p20_7_0]
def x20_7 : RC := .ops o20_7
def x20_6 : RC := .seq x20_7 .ret
def x20_5 : RC := .cond (.tmp 4) x20_6 .skip
def x20_3 : RC := .seq x20_4 x20_5
def p20_9_0 : RO := ⟨none, some 5, .move (.tmp 0)⟩
def p20_9_1 : RO := ⟨none, some 6, .call ⟨.value (.func 10), #[(.tmp 5)], #[23]⟩⟩
def p20_9_2 : RO := ⟨none, some 7, .build 45 #[(0, (.tmp 6))]⟩
def p20_9_3 : RO := ⟨none, some 8, .build 47 #[(0, (.tmp 7))]⟩
def p20_9_4 : RO := ⟨none, some 9, .box 47 (.tmp 8)⟩
def p20_9_5 : RO := ⟨none, some 2, .assign (.tmp 9)⟩
def o20_9 : List RO := [p20_9_0, p20_9_1, p20_9_2, p20_9_3, p20_9_4, p20_9_5]
def x20_9 : RC := .ops o20_9
def x20_8 : RC := .seq x20_9 .ret
def x20_2 : RC := .seq x20_3 x20_8
def x20_0 : RC := .seq x20_1 x20_2
theorem x20_eq : Try.f20.body.map rc = some x20_0 := by kernel_rfl
def tab : FuncId → Option (RC × List ResultVar × Nat)
  | 5 => some (x5_0, [.tmp 2], 78)
  | 8 => some (x8_0, [], 15)
  | 9 => some (x9_0, [], 79)
  | 10 => some (x10_0, [.tmp 2], 33)
  | 12 => some (x12_0, [], 24)
  | 14 => some (x14_0, [.cell 4 29, .tmp 5], 29)
  | 15 => some (x15_0, [.tmp 4], 18)
  | 16 => some (x16_0, [.tmp 6], 24)
  | 17 => some (x17_0, [.tmp 6], 23)
  | 18 => some (x18_0, [.tmp 4], 16)
  | 19 => some (x19_0, [.tmp 4], 32)
  | 20 => some (x20_0, [.tmp 2], 10)
  | _ => none
theorem tab_ok : TabOK Try.prog tab := by
  intro f x rs n h
  unfold tab at h
  split at h
  · injection h with h; injection h with h1 h; injection h with h2 h3; subst h1; subst h2; subst h3; exact ⟨_, Try.func5, rfl, rfl, x5_eq⟩
  · injection h with h; injection h with h1 h; injection h with h2 h3; subst h1; subst h2; subst h3; exact ⟨_, Try.func8, rfl, rfl, x8_eq⟩
  · injection h with h; injection h with h1 h; injection h with h2 h3; subst h1; subst h2; subst h3; exact ⟨_, Try.func9, rfl, rfl, x9_eq⟩
  · injection h with h; injection h with h1 h; injection h with h2 h3; subst h1; subst h2; subst h3; exact ⟨_, Try.func10, rfl, rfl, x10_eq⟩
  · injection h with h; injection h with h1 h; injection h with h2 h3; subst h1; subst h2; subst h3; exact ⟨_, Try.func12, rfl, rfl, x12_eq⟩
  · injection h with h; injection h with h1 h; injection h with h2 h3; subst h1; subst h2; subst h3; exact ⟨_, Try.func14, rfl, rfl, x14_eq⟩
  · injection h with h; injection h with h1 h; injection h with h2 h3; subst h1; subst h2; subst h3; exact ⟨_, Try.func15, rfl, rfl, x15_eq⟩
  · injection h with h; injection h with h1 h; injection h with h2 h3; subst h1; subst h2; subst h3; exact ⟨_, Try.func16, rfl, rfl, x16_eq⟩
  · injection h with h; injection h with h1 h; injection h with h2 h3; subst h1; subst h2; subst h3; exact ⟨_, Try.func17, rfl, rfl, x17_eq⟩
  · injection h with h; injection h with h1 h; injection h with h2 h3; subst h1; subst h2; subst h3; exact ⟨_, Try.func18, rfl, rfl, x18_eq⟩
  · injection h with h; injection h with h1 h; injection h with h2 h3; subst h1; subst h2; subst h3; exact ⟨_, Try.func19, rfl, rfl, x19_eq⟩
  · injection h with h; injection h with h1 h; injection h with h2 h3; subst h1; subst h2; subst h3; exact ⟨_, Try.func20, rfl, rfl, x20_eq⟩
  · cases h
def WOK (W : World) : Prop := True
theorem wok_of {W : World} (h : W.ShapedOpen Try.prog) : WOK W := trivial
theorem base : Base Try.prog := ⟨by kernel_rfl, by kernel_rfl⟩
def prim0 : FuncId → Option (List V → H → Option (V × H)) := fun _ => none
theorem prim0s (W : World) (hW : WOK W) : Prims Try.prog W prim0 := fun _ _ => PrimOK.none
structure T29 where
  fId : Int
  fSpace : Int
  fName : (List UInt8)
  fAttrs : OpV
instance : Inhabited T29 := ⟨⟨default, default, default, default⟩⟩
def T29.cells (x : T29) : List V := [.int .i64 x.fId, .int .i64 x.fSpace, .str x.fName, .slice x.fAttrs.a x.fAttrs.n x.fAttrs.cap true]
structure T29.ok (W : World) (x : T29) : Prop where
  fId : (fun x => -9223372036854775808 ≤ x ∧ x ≤ 9223372036854775807) x.fId
  fSpace : (fun x => -9223372036854775808 ≤ x ∧ x ≤ 9223372036854775807) x.fSpace
  fName : (fun x => x.length ≤ 9223372036854775807) x.fName
  fAttrs : OpV.ok x.fAttrs
theorem T29_form {W : World} {n : Nat} {cs : List V} (h : Wf Try.prog W n 29 cs) : ∃ x : T29, cs = x.cells ∧ x.ok W := by
  have e3 : Try.prog.cellsOf 3 = 1 := by kernel_rfl
  have e9 : Try.prog.cellsOf 9 = 1 := by kernel_rfl
  have e27 : Try.prog.cellsOf 27 = 1 := by kernel_rfl
  have e29 : Try.prog.cellsOf 29 = 4 := by kernel_rfl
  cases n with
  | zero => exact h.elim
  | succ n =>
    simp only [Wf, Try.underlying29, e29] at h
    obtain ⟨hl, hf⟩ := h
    match cs, hl with
    | [c0, c1, c2, c3], _ =>
      simp only [List.mem_cons, forall_eq_or_imp, List.not_mem_nil, false_implies, implies_true, and_true, e3, e9, e27, e29, List.drop_zero, List.drop_succ_cons, List.take_succ_cons, List.take_zero] at hf
      obtain ⟨h0, h1, h2, h3⟩ := hf
      obtain ⟨v0, rfl, r0⟩ := wf_i64 Try.underlying3 h0
      obtain ⟨v1, rfl, r1⟩ := wf_i64 Try.underlying3 h1
      obtain ⟨v2, rfl, r2⟩ := wf_strR Try.underlying9 h2
      obtain ⟨v3, rfl, r3⟩ := wf_opV Try.underlying27 h3
      exact ⟨⟨v0, v1, v2, v3⟩, rfl, ⟨r0, r1, r2, r3⟩⟩
structure T35 where
  fKind : Int
  fAt : Int
  fE : T29
  fOpen : OpV
instance : Inhabited T35 := ⟨⟨default, default, default, default⟩⟩
def T35.cells (x : T35) : List V := [.int .i64 x.fKind, .int .i64 x.fAt, .int .i64 x.fE.fId, .int .i64 x.fE.fSpace, .str x.fE.fName, .slice x.fE.fAttrs.a x.fE.fAttrs.n x.fE.fAttrs.cap true, .slice x.fOpen.a x.fOpen.n x.fOpen.cap true]
structure T35.ok (W : World) (x : T35) : Prop where
  fKind : (fun x => -9223372036854775808 ≤ x ∧ x ≤ 9223372036854775807) x.fKind
  fAt : (fun x => -9223372036854775808 ≤ x ∧ x ≤ 9223372036854775807) x.fAt
  fE : (T29.ok W) x.fE
  fOpen : OpV.ok x.fOpen
theorem T35_form {W : World} {n : Nat} {cs : List V} (h : Wf Try.prog W n 35 cs) : ∃ x : T35, cs = x.cells ∧ x.ok W := by
  have e3 : Try.prog.cellsOf 3 = 1 := by kernel_rfl
  have e22 : Try.prog.cellsOf 22 = 1 := by kernel_rfl
  have e29 : Try.prog.cellsOf 29 = 4 := by kernel_rfl
  have e35 : Try.prog.cellsOf 35 = 7 := by kernel_rfl
  cases n with
  | zero => exact h.elim
  | succ n =>
    simp only [Wf, Try.underlying35, e35] at h
    obtain ⟨hl, hf⟩ := h
    match cs, hl with
    | [c0, c1, c2, c3, c4, c5, c6], _ =>
      simp only [List.mem_cons, forall_eq_or_imp, List.not_mem_nil, false_implies, implies_true, and_true, e3, e22, e29, e35, List.drop_zero, List.drop_succ_cons, List.take_succ_cons, List.take_zero] at hf
      obtain ⟨h0, h1, h2, h3⟩ := hf
      obtain ⟨v0, rfl, r0⟩ := wf_i64 Try.underlying3 h0
      obtain ⟨v1, rfl, r1⟩ := wf_i64 Try.underlying3 h1
      obtain ⟨v2, g2, r2⟩ := T29_form h2
      simp only [T29.cells, List.cons.injEq, and_true] at g2
      obtain ⟨rfl, rfl, rfl, rfl⟩ := g2
      obtain ⟨v3, rfl, r3⟩ := wf_opV Try.underlying22 h3
      exact ⟨⟨v0, v1, v2, v3⟩, rfl, ⟨r0, r1, r2, r3⟩⟩
def q7 (l : List V) : Option V :=
  match l with
  | [] => some (.bool true)
  | _ => none
def prim1 : FuncId → Option (List V → H → Option (V × H)) := setPrim prim0 7 q7
theorem prim1s (W : World) (hW : WOK W) : Prims Try.prog W prim1 := by
  refine Prims.add base (prim0s W hW) ⟨_, _, Try.func7, rfl⟩ ?_
  intro w _ args v h
  unfold q7 at h
  split at h
  · injection h with h; subst h; exact ⟨by simp only [old_cons, old_nil, old_int, old_str, old_bool, old_agg, old_tup, old_nils, Bool.and_true, Bool.true_and], by simp only [old_cons, old_nil, old_int, old_str, old_bool, old_agg, old_tup, old_nils, Bool.and_true, Bool.true_and], WpF.found (n := 100) (by kernel_rfl)⟩
  · cases h
end Go.Proofs.Ytplcallbihapdaa.Dg
