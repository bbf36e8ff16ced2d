/-
  The code of chapter 16 that the law of none reaches.
-/
import Derived.Test.YtchffnfhfojkeaaChecked
import Derived.Test.YtchffnfhfojkeaaShelf
import Derived.Test.YtchffnfhfojkeaaDgS32
set_option linter.unusedVariables false
set_option linter.unusedSimpArgs false
namespace Go.Proofs.Ytchffnfhfojkeaa.Dg
open Go Go.RowKit
set_option maxRecDepth 20000
def p7_1_0 : RO := ⟨none, some 1, .box 46 (.tmp 0)⟩
def p7_1_1 : RO := ⟨none, some 2, .assign (.const (.bool false))⟩
def o7_1 : List RO := [p7_1_0, p7_1_1]
def x7_1 : RC := .ops o7_1
def p7_3_0 : RO := ⟨none, some 3, .assign (.const (.pointer none))⟩
def o7_3 : List RO := [p7_3_0]
def x7_3 : RC := .ops o7_3
def p7_5_0 : RO := ⟨none, some 8, .move (.tmp 3)⟩
def p7_5_1 : RO := ⟨none, some 9, .fieldAddr 46 (.tmp 1) 3⟩
def p7_5_2 : RO := ⟨none, some 10, .load 29 (.tmp 9)⟩
def p7_5_3 : RO := ⟨none, some 11, .call ⟨.value (.func 10), #[(.tmp 8), (.tmp 10)], #[23, 29]⟩⟩
def o7_5 : List RO := [p7_5_0, p7_5_1, p7_5_2, p7_5_3]
def x7_5 : RC := .ops o7_5
def p7_7_0 : RO := ⟨none, some 13, .move (.tmp 3)⟩
def p7_7_1 : RO := ⟨none, some 14, .call ⟨.value (.func 22), #[(.tmp 13)], #[23]⟩⟩
def p7_7_2 : RO := ⟨none, some 12, .move (.tmp 14)⟩
def p7_7_3 : RO := ⟨none, some 15, .extract (.tmp 12) 0⟩
def p7_7_4 : RO := ⟨none, some 16, .extract (.tmp 12) 1⟩
def p7_7_5 : RO := ⟨none, some 4, .alloc 29⟩
def p7_7_6 : RO := ⟨none, none, .store 29 (.tmp 4) (.tmp 15)⟩
def p7_7_7 : RO := ⟨none, some 5, .assign (.tmp 16)⟩
def o7_7 : List RO := [p7_7_0, p7_7_1, p7_7_2, p7_7_3, p7_7_4, p7_7_5, p7_7_6, p7_7_7]
def x7_7 : RC := .ops o7_7
def p7_9_0 : RO := ⟨none, some 18, .move (.tmp 3)⟩
def p7_9_1 : RO := ⟨none, some 19, .call ⟨.value (.func 16), #[(.tmp 18)], #[23]⟩⟩
def p7_9_2 : RO := ⟨none, some 17, .move (.tmp 19)⟩
def p7_9_3 : RO := ⟨none, some 20, .extract (.tmp 17) 0⟩
def p7_9_4 : RO := ⟨none, some 21, .extract (.tmp 17) 1⟩
def p7_9_5 : RO := ⟨none, some 6, .alloc 29⟩
def p7_9_6 : RO := ⟨none, none, .store 29 (.tmp 6) (.tmp 20)⟩
def p7_9_7 : RO := ⟨none, some 7, .assign (.tmp 21)⟩
def o7_9 : List RO := [p7_9_0, p7_9_1, p7_9_2, p7_9_3, p7_9_4, p7_9_5, p7_9_6, p7_9_7]
def x7_9 : RC := .ops o7_9
def p7_11_0 : RO := ⟨none, some 22, .move (.tmp 5)⟩
def p7_11_1 : RO := ⟨none, some 23, .unOp .not 4 (.tmp 22)⟩
def p7_11_2 : RO := ⟨none, some 24, .move (.tmp 23)⟩
def p7_11_3 : RO := ⟨some (some 24, true), some 25, .move (.tmp 7)⟩
def p7_11_4 : RO := ⟨some (some 24, true), some 26, .unOp .not 4 (.tmp 25)⟩
def p7_11_5 : RO := ⟨none, some 27, .pick (.tmp 24) (.tmp 26) (.const (.bool false))⟩
def p7_11_6 : RO := ⟨none, some 28, .move (.tmp 27)⟩
def p7_11_7 : RO := ⟨some (some 28, true), some 29, .move (.tmp 3)⟩
def p7_11_8 : RO := ⟨some (some 28, true), some 30, .call ⟨.value (.func 13), #[(.tmp 29)], #[23]⟩⟩
def p7_11_9 : RO := ⟨some (some 28, true), some 31, .call ⟨.builtin .len, #[(.tmp 30)], #[22]⟩⟩
def p7_11_10 : RO := ⟨some (some 28, true), some 32, .binOp .eql 3 (.tmp 31) (.const (.int .i64 (0))) 3⟩
def p7_11_11 : RO := ⟨none, some 33, .pick (.tmp 28) (.tmp 32) (.const (.bool false))⟩
def p7_11_12 : RO := ⟨none, some 34, .move (.tmp 33)⟩
def p7_11_13 : RO := ⟨some (some 34, true), some 35, .move (.tmp 3)⟩
def p7_11_14 : RO := ⟨some (some 34, true), some 36, .fieldAddr 46 (.tmp 1) 2⟩
def p7_11_15 : RO := ⟨some (some 34, true), some 37, .load 3 (.tmp 36)⟩
def p7_11_16 : RO := ⟨some (some 34, true), some 38, .fieldAddr 46 (.tmp 1) 4⟩
def p7_11_17 : RO := ⟨some (some 34, true), some 39, .load 44 (.tmp 38)⟩
def p7_11_18 : RO := ⟨some (some 34, true), some 40, .call ⟨.value (.func 11), #[(.tmp 35), (.tmp 37), (.tmp 39)], #[23, 3, 44]⟩⟩
def p7_11_19 : RO := ⟨some (some 34, true), some 41, .unOp .not 4 (.tmp 40)⟩
def p7_11_20 : RO := ⟨none, some 42, .pick (.tmp 34) (.tmp 41) (.const (.bool false))⟩
def p7_11_21 : RO := ⟨none, some 43, .move (.tmp 42)⟩
def p7_11_22 : RO := ⟨some (some 43, true), some 44, .move (.tmp 3)⟩
def p7_11_23 : RO := ⟨some (some 43, true), some 45, .call ⟨.value (.func 12), #[(.tmp 44), (.const (.string ⟨#[]⟩))], #[23, 9]⟩⟩
def p7_11_24 : RO := ⟨some (some 43, true), some 46, .call ⟨.builtin .len, #[(.tmp 45)], #[22]⟩⟩
def p7_11_25 : RO := ⟨some (some 43, true), some 47, .binOp .eql 3 (.tmp 46) (.const (.int .i64 (0))) 3⟩
def p7_11_26 : RO := ⟨none, some 48, .pick (.tmp 43) (.tmp 47) (.const (.bool false))⟩
def p7_11_27 : RO := ⟨none, some 49, .move (.tmp 48)⟩
def p7_11_28 : RO := ⟨some (some 49, true), some 50, .move (.tmp 3)⟩
def p7_11_29 : RO := ⟨some (some 49, true), some 51, .fieldAddr 46 (.tmp 1) 4⟩
def p7_11_30 : RO := ⟨some (some 49, true), some 52, .load 44 (.tmp 51)⟩
def p7_11_31 : RO := ⟨some (some 49, true), some 53, .call ⟨.value (.func 23), #[(.tmp 50), (.tmp 52)], #[23, 44]⟩⟩
def p7_11_32 : RO := ⟨some (some 49, true), some 54, .call ⟨.builtin .len, #[(.tmp 53)], #[22]⟩⟩
def p7_11_33 : RO := ⟨some (some 49, true), some 55, .binOp .eql 3 (.tmp 54) (.const (.int .i64 (0))) 3⟩
def p7_11_34 : RO := ⟨none, some 56, .pick (.tmp 49) (.tmp 55) (.const (.bool false))⟩
def p7_11_35 : RO := ⟨none, some 57, .move (.tmp 56)⟩
def p7_11_36 : RO := ⟨some (some 57, true), some 58, .move (.tmp 3)⟩
def p7_11_37 : RO := ⟨some (some 57, true), some 59, .fieldAddr 46 (.tmp 1) 1⟩
def p7_11_38 : RO := ⟨some (some 57, true), some 60, .load 3 (.tmp 59)⟩
def p7_11_39 : RO := ⟨some (some 57, true), some 61, .call ⟨.value (.func 24), #[(.tmp 58), (.tmp 60)], #[23, 3]⟩⟩
def p7_11_40 : RO := ⟨some (some 57, true), some 62, .unOp .not 4 (.tmp 61)⟩
def p7_11_41 : RO := ⟨none, some 63, .pick (.tmp 57) (.tmp 62) (.const (.bool false))⟩
def p7_11_42 : RO := ⟨none, some 64, .move (.tmp 63)⟩
def p7_11_43 : RO := ⟨some (some 64, true), some 65, .move (.tmp 3)⟩
def p7_11_44 : RO := ⟨some (some 64, true), some 66, .fieldAddr 46 (.tmp 1) 1⟩
def p7_11_45 : RO := ⟨some (some 64, true), some 67, .load 3 (.tmp 66)⟩
def p7_11_46 : RO := ⟨some (some 64, true), some 68, .call ⟨.value (.func 25), #[(.tmp 65), (.tmp 67)], #[23, 3]⟩⟩
def p7_11_47 : RO := ⟨some (some 64, true), some 69, .binOp .eql 3 (.tmp 68) (.const (.int .i64 (-1))) 3⟩
def p7_11_48 : RO := ⟨none, some 70, .pick (.tmp 64) (.tmp 69) (.const (.bool false))⟩
def p7_11_49 : RO := ⟨none, some 71, .move (.tmp 70)⟩
def p7_11_50 : RO := ⟨some (some 71, true), some 72, .move (.tmp 3)⟩
def p7_11_51 : RO := ⟨some (some 71, true), some 73, .fieldAddr 46 (.tmp 1) 1⟩
def p7_11_52 : RO := ⟨some (some 71, true), some 74, .load 3 (.tmp 73)⟩
def p7_11_53 : RO := ⟨some (some 71, true), some 75, .fieldAddr 46 (.tmp 1) 3⟩
def p7_11_54 : RO := ⟨some (some 71, true), some 76, .load 29 (.tmp 75)⟩
def p7_11_55 : RO := ⟨some (some 71, true), some 77, .call ⟨.value (.func 26), #[(.tmp 72), (.tmp 74), (.tmp 76)], #[23, 3, 29]⟩⟩
def p7_11_56 : RO := ⟨some (some 71, true), some 78, .unOp .not 4 (.tmp 77)⟩
def p7_11_57 : RO := ⟨none, some 79, .pick (.tmp 71) (.tmp 78) (.const (.bool false))⟩
def p7_11_58 : RO := ⟨none, some 80, .move (.tmp 79)⟩
def p7_11_59 : RO := ⟨some (some 80, true), some 81, .move (.tmp 3)⟩
def p7_11_60 : RO := ⟨some (some 80, true), some 82, .call ⟨.value (.func 21), #[(.tmp 81)], #[23]⟩⟩
def p7_11_61 : RO := ⟨some (some 80, true), some 83, .binOp .eql 23 (.tmp 82) (.const (.pointer none)) 23⟩
def p7_11_62 : RO := ⟨none, some 84, .pick (.tmp 80) (.tmp 83) (.const (.bool false))⟩
def p7_11_63 : RO := ⟨none, some 85, .move (.tmp 84)⟩
def p7_11_64 : RO := ⟨some (some 85, true), some 86, .call ⟨.value (.func 9), #[], #[]⟩⟩
def p7_11_65 : RO := ⟨none, some 87, .pick (.tmp 85) (.tmp 86) (.const (.bool false))⟩
def p7_11_66 : RO := ⟨none, some 2, .assign (.tmp 87)⟩
def o7_11 : List RO := [p7_11_0, p7_11_1, p7_11_2, p7_11_3, p7_11_4, p7_11_5, p7_11_6, p7_11_7, p7_11_8, p7_11_9, p7_11_10, p7_11_11, p7_11_12, p7_11_13, p7_11_14, p7_11_15, p7_11_16, p7_11_17, p7_11_18, p7_11_19, p7_11_20, p7_11_21, p7_11_22, p7_11_23, p7_11_24, p7_11_25, p7_11_26, p7_11_27, p7_11_28, p7_11_29, p7_11_30, p7_11_31, p7_11_32, p7_11_33, p7_11_34, p7_11_35, p7_11_36, p7_11_37, p7_11_38, p7_11_39, p7_11_40, p7_11_41, p7_11_42, p7_11_43, p7_11_44, p7_11_45, p7_11_46, p7_11_47, p7_11_48, p7_11_49, p7_11_50, p7_11_51, p7_11_52, p7_11_53, p7_11_54, p7_11_55, p7_11_56, p7_11_57, p7_11_58, p7_11_59, p7_11_60, p7_11_61, p7_11_62, p7_11_63, p7_11_64, p7_11_65, p7_11_66]
def x7_11 : RC := .ops o7_11
def x7_10 : RC := .seq x7_11 .ret
def x7_8 : RC := .seq x7_9 x7_10
def x7_6 : RC := .seq x7_7 x7_8
def x7_4 : RC := .seq x7_5 x7_6
def x7_2 : RC := .seq x7_3 x7_4
def x7_0 : RC := .seq x7_1 x7_2
theorem x7_eq : Try.f7.body.map rc = some x7_0 := by kernel_rfl
def p10_1_0 : RO := ⟨none, some 3, .box 29 (.tmp 1)⟩
def o10_1 : List RO := [p10_1_0]
def x10_1 : RC := .ops o10_1
def p10_3_0 : RO := ⟨none, some 4, .move (.tmp 0)⟩
def p10_3_1 : RO := ⟨none, some 5, .binOp .neq 23 (.tmp 4) (.const (.pointer none)) 23⟩
def o10_3 : List RO := [p10_3_0, p10_3_1]
def x10_3 : RC := .ops o10_3
def p10_5_0 : RO := ⟨none, some 11, .load 29 (.tmp 3)⟩
def p10_5_1 : RO := ⟨none, some 12, .call ⟨.value (.func 28), #[(.tmp 11)], #[29]⟩⟩
def p10_5_2 : RO := ⟨none, some 7, .move (.tmp 0)⟩
def p10_5_3 : RO := ⟨none, some 8, .nilCheck (.tmp 7)⟩
def p10_5_4 : RO := ⟨none, some 9, .fieldAddr 55 (.tmp 8) 0⟩
def p10_5_5 : RO := ⟨none, some 10, .load 22 (.tmp 9)⟩
def p10_5_6 : RO := ⟨none, some 13, .buildSlice 22 1 #[(0, (.tmp 12))]⟩
def p10_5_7 : RO := ⟨none, some 14, .call ⟨.builtin .append, #[(.tmp 10), (.tmp 13)], #[22, 22]⟩⟩
def p10_5_8 : RO := ⟨none, some 6, .move (.tmp 0)⟩
def p10_5_9 : RO := ⟨none, some 15, .nilCheck (.tmp 6)⟩
def p10_5_10 : RO := ⟨none, some 16, .fieldAddr 55 (.tmp 15) 0⟩
def p10_5_11 : RO := ⟨none, none, .store 22 (.tmp 16) (.tmp 14)⟩
def o10_5 : List (Nat × RO) := [(5, p10_5_0), (6, p10_5_1), (1, p10_5_2), (2, p10_5_3), (3, p10_5_4), (4, p10_5_5), (7, p10_5_6), (8, p10_5_7), (0, p10_5_8), (9, p10_5_9), (10, p10_5_10), (11, p10_5_11)]
def m10_5 : List Nat := [0, 0, 2, 6, 14, 0, 32, 96, 254, 511, 1023, 2047]
def x10_5 : RC := .draw o10_5 m10_5
def x10_4 : RC := .cond (.tmp 5) x10_5 .skip
def x10_2 : RC := .seq x10_3 x10_4
def x10_0 : RC := .seq x10_1 x10_2
theorem x10_eq : Try.f10.body.map rc = some x10_0 := by kernel_rfl
def p11_1_0 : RO := ⟨none, some 4, .box 3 (.tmp 1)⟩
def p11_1_1 : RO := ⟨none, some 5, .box 44 (.tmp 2)⟩
def p11_1_2 : RO := ⟨none, some 6, .alloc 4⟩
def o11_1 : List RO := [p11_1_0, p11_1_1, p11_1_2]
def x11_1 : RC := .ops o11_1
def p11_4_0 : RO := ⟨none, some 9, .move (.tmp 0)⟩
def p11_4_1 : RO := ⟨none, some 10, .binOp .eql 23 (.tmp 9) (.const (.pointer none)) 23⟩
def o11_4 : List RO := [p11_4_0, p11_4_1]
def x11_4 : RC := .ops o11_4
def p11_7_0 : RO := ⟨none, none, .store 4 (.tmp 6) (.const (.bool false))⟩
def o11_7 : List RO := [p11_7_0]
def x11_7 : RC := .ops o11_7
def x11_6 : RC := .seq x11_7 .ret
def x11_5 : RC := .cond (.tmp 10) x11_6 .skip
def x11_3 : RC := .seq x11_4 x11_5
def p11_10_0 : RO := ⟨none, some 11, .move (.tmp 0)⟩
def p11_10_1 : RO := ⟨none, some 12, .nilCheck (.tmp 11)⟩
def p11_10_2 : RO := ⟨none, some 13, .fieldAddr 55 (.tmp 12) 0⟩
def p11_10_3 : RO := ⟨none, some 14, .load 22 (.tmp 13)⟩
def p11_10_4 : RO := ⟨none, some 15, .call ⟨.value (.func 29), #[(.tmp 14)], #[22]⟩⟩
def o11_10 : List RO := [p11_10_0, p11_10_1, p11_10_2, p11_10_3, p11_10_4]
def x11_10 : RC := .ops o11_10
def p11_13_0 : RO := ⟨none, some 8, .alloc 29⟩
def p11_13_1 : RO := ⟨none, none, .store 29 (.tmp 8) (.tmp 17)⟩
def o11_13 : List RO := [p11_13_0, p11_13_1]
def x11_13 : RC := .ops o11_13
def p11_17_0 : RO := ⟨none, some 18, .load 29 (.tmp 8)⟩
def p11_17_1 : RO := ⟨none, some 19, .load 44 (.tmp 5)⟩
def p11_17_2 : RO := ⟨none, some 20, .call ⟨.value (.func 30), #[(.tmp 18), (.tmp 19)], #[29, 44]⟩⟩
def o11_17 : List RO := [p11_17_0, p11_17_1, p11_17_2]
def x11_17 : RC := .ops o11_17
def p11_20_0 : RO := ⟨none, none, .store 4 (.tmp 6) (.const (.bool true))⟩
def o11_20 : List RO := [p11_20_0]
def x11_20 : RC := .ops o11_20
def x11_19 : RC := .seq x11_20 .ret
def x11_18 : RC := .cond (.tmp 20) x11_19 .skip
def x11_16 : RC := .seq x11_17 x11_18
def p11_22_0 : RO := ⟨none, some 21, .load 3 (.tmp 4)⟩
def p11_22_1 : RO := ⟨none, some 22, .load 29 (.tmp 8)⟩
def p11_22_2 : RO := ⟨none, some 23, .call ⟨.value (.func 31), #[(.tmp 21), (.tmp 22)], #[3, 29]⟩⟩
def o11_22 : List RO := [p11_22_0, p11_22_1, p11_22_2]
def x11_22 : RC := .ops o11_22
def x11_23 : RC := .cond (.tmp 23) (.exit 0) .skip
def x11_21 : RC := .seq x11_22 x11_23
def x11_15 : RC := .seq x11_16 x11_21
def x11_14 : RC := .block 1 x11_15
noncomputable def a11_0 : Code := (rangeOf Try.f11 0).1
noncomputable def b11_0 : Code := (rangeOf Try.f11 0).2
theorem a11_0_rc : rc a11_0 = x11_13 := by kernel_rfl
theorem b11_0_rc : rc b11_0 = x11_14 := by kernel_rfl
noncomputable def x11_12 : RC := .range (.tmp 15) #[16, 17] a11_0 b11_0
noncomputable def x11_11 : RC := .block 0 x11_12
noncomputable def x11_9 : RC := .seq x11_10 x11_11
def p11_25_0 : RO := ⟨none, none, .store 4 (.tmp 6) (.const (.bool false))⟩
def o11_25 : List RO := [p11_25_0]
def x11_25 : RC := .ops o11_25
def x11_24 : RC := .seq x11_25 .ret
noncomputable def x11_8 : RC := .seq x11_9 x11_24
noncomputable def x11_2 : RC := .seq x11_3 x11_8
noncomputable def x11_0 : RC := .seq x11_1 x11_2
theorem x11_eq : Try.f11.body.map rc = some x11_0 := by kernel_rfl
def p12_1_0 : RO := ⟨none, some 3, .box 9 (.tmp 1)⟩
def p12_1_1 : RO := ⟨none, some 4, .assign (.const (.slice none 0 0))⟩
def o12_1 : List RO := [p12_1_0, p12_1_1]
def x12_1 : RC := .ops o12_1
def p12_3_0 : RO := ⟨none, some 5, .move (.tmp 0)⟩
def p12_3_1 : RO := ⟨none, some 6, .makeFunc (.func 33) #[] #[(.tmp 3)]⟩
def p12_3_2 : RO := ⟨none, some 7, .call ⟨.value (.func 32), #[(.tmp 5), (.tmp 6)], #[23, 63]⟩⟩
def p12_3_3 : RO := ⟨none, some 4, .assign (.tmp 7)⟩
def o12_3 : List RO := [p12_3_0, p12_3_1, p12_3_2, p12_3_3]
def x12_3 : RC := .ops o12_3
def x12_2 : RC := .seq x12_3 .ret
def x12_0 : RC := .seq x12_1 x12_2
theorem x12_eq : Try.f12.body.map rc = some x12_0 := by kernel_rfl
def p13_1_0 : RO := ⟨none, some 2, .assign (.const (.slice none 0 0))⟩
def o13_1 : List RO := [p13_1_0]
def x13_1 : RC := .ops o13_1
def p13_4_0 : RO := ⟨none, some 6, .move (.tmp 0)⟩
def p13_4_1 : RO := ⟨none, some 7, .binOp .eql 23 (.tmp 6) (.const (.pointer none)) 23⟩
def o13_4 : List RO := [p13_4_0, p13_4_1]
def x13_4 : RC := .ops o13_4
def p13_7_0 : RO := ⟨none, some 2, .assign (.const (.slice none 0 0))⟩
def o13_7 : List RO := [p13_7_0]
def x13_7 : RC := .ops o13_7
def x13_6 : RC := .seq x13_7 .ret
def x13_5 : RC := .cond (.tmp 7) x13_6 .skip
def x13_3 : RC := .seq x13_4 x13_5
def p13_9_0 : RO := ⟨none, some 8, .move (.tmp 0)⟩
def p13_9_1 : RO := ⟨none, some 9, .nilCheck (.tmp 8)⟩
def p13_9_2 : RO := ⟨none, some 10, .fieldAddr 55 (.tmp 9) 0⟩
def p13_9_3 : RO := ⟨none, some 11, .load 22 (.tmp 10)⟩
def p13_9_4 : RO := ⟨none, some 12, .call ⟨.builtin .len, #[(.tmp 11)], #[22]⟩⟩
def p13_9_5 : RO := ⟨none, some 13, .makeSlice 22 (.tmp 12) (.tmp 12)⟩
def p13_9_6 : RO := ⟨none, some 3, .assign (.tmp 13)⟩
def o13_9 : List RO := [p13_9_0, p13_9_1, p13_9_2, p13_9_3, p13_9_4, p13_9_5, p13_9_6]
def x13_9 : RC := .ops o13_9
def p13_12_0 : RO := ⟨none, some 14, .move (.tmp 0)⟩
def p13_12_1 : RO := ⟨none, some 15, .nilCheck (.tmp 14)⟩
def p13_12_2 : RO := ⟨none, some 16, .fieldAddr 55 (.tmp 15) 0⟩
def p13_12_3 : RO := ⟨none, some 17, .load 22 (.tmp 16)⟩
def p13_12_4 : RO := ⟨none, some 18, .call ⟨.builtin .len, #[(.tmp 17)], #[22]⟩⟩
def p13_12_5 : RO := ⟨none, some 19, .move (.const (.int .i64 (0)))⟩
def o13_12 : List RO := [p13_12_0, p13_12_1, p13_12_2, p13_12_3, p13_12_4, p13_12_5]
def x13_12 : RC := .ops o13_12
def p13_16_0 : RO := ⟨none, some 20, .binOp .lss 3 (.tmp 19) (.tmp 18) 3⟩
def o13_16 : List RO := [p13_16_0]
def x13_16 : RC := .ops o13_16
def x13_18 : RC := .cond (.tmp 20) .skip (.exit 0)
def p13_22_0 : RO := ⟨none, some 21, .move (.tmp 19)⟩
def p13_22_1 : RO := ⟨none, some 22, .indexAddr 22 (.tmp 17) (.tmp 19)⟩
def p13_22_2 : RO := ⟨none, some 23, .load 29 (.tmp 22)⟩
def p13_22_3 : RO := ⟨none, some 5, .alloc 29⟩
def p13_22_4 : RO := ⟨none, some 4, .assign (.tmp 21)⟩
def p13_22_5 : RO := ⟨none, none, .store 29 (.tmp 5) (.tmp 23)⟩
def o13_22 : List RO := [p13_22_0, p13_22_1, p13_22_2, p13_22_3, p13_22_4, p13_22_5]
def x13_22 : RC := .ops o13_22
def p13_23_0 : RO := ⟨none, some 24, .move (.tmp 3)⟩
def p13_23_1 : RO := ⟨none, some 25, .move (.tmp 4)⟩
def p13_23_2 : RO := ⟨none, some 26, .load 29 (.tmp 5)⟩
def p13_23_3 : RO := ⟨none, some 27, .call ⟨.value (.func 28), #[(.tmp 26)], #[29]⟩⟩
def p13_23_4 : RO := ⟨none, some 28, .indexAddr 22 (.tmp 24) (.tmp 25)⟩
def p13_23_5 : RO := ⟨none, none, .store 29 (.tmp 28) (.tmp 27)⟩
def o13_23 : List RO := [p13_23_0, p13_23_1, p13_23_2, p13_23_3, p13_23_4, p13_23_5]
def x13_23 : RC := .ops o13_23
def x13_21 : RC := .seq x13_22 x13_23
def x13_20 : RC := .block 1 x13_21
def p13_24_0 : RO := ⟨none, some 29, .binOp .add 3 (.tmp 19) (.const (.int .i64 (1))) 3⟩
def p13_24_1 : RO := ⟨none, some 19, .move (.tmp 29)⟩
def o13_24 : List RO := [p13_24_0, p13_24_1]
def x13_24 : RC := .ops o13_24
def x13_19 : RC := .seq x13_20 x13_24
def x13_17 : RC := .seq x13_18 x13_19
def x13_15 : RC := .seq x13_16 x13_17
def x13_14 : RC := .loop x13_15
def x13_13 : RC := .block 0 x13_14
def x13_11 : RC := .seq x13_12 x13_13
def p13_26_0 : RO := ⟨none, some 30, .move (.tmp 3)⟩
def p13_26_1 : RO := ⟨none, some 2, .assign (.tmp 30)⟩
def o13_26 : List RO := [p13_26_0, p13_26_1]
def x13_26 : RC := .ops o13_26
def x13_25 : RC := .seq x13_26 .ret
def x13_10 : RC := .seq x13_11 x13_25
def x13_8 : RC := .seq x13_9 x13_10
def x13_2 : RC := .seq x13_3 x13_8
def x13_0 : RC := .seq x13_1 x13_2
theorem x13_eq : Try.f13.body.map rc = some x13_0 := by kernel_rfl
def p16_1_0 : RO := ⟨none, some 2, .alloc 29⟩
def p16_1_1 : RO := ⟨none, some 3, .assign (.const (.bool false))⟩
def o16_1 : List RO := [p16_1_0, p16_1_1]
def x16_1 : RC := .ops o16_1
def p16_4_0 : RO := ⟨none, some 4, .move (.tmp 0)⟩
def p16_4_1 : RO := ⟨none, some 5, .binOp .eql 23 (.tmp 4) (.const (.pointer none)) 23⟩
def p16_4_2 : RO := ⟨none, some 6, .move (.tmp 5)⟩
def p16_4_3 : RO := ⟨some (some 6, false), some 7, .move (.tmp 0)⟩
def p16_4_4 : RO := ⟨some (some 6, false), some 8, .nilCheck (.tmp 7)⟩
def p16_4_5 : RO := ⟨some (some 6, false), some 9, .fieldAddr 55 (.tmp 8) 0⟩
def p16_4_6 : RO := ⟨some (some 6, false), some 10, .load 22 (.tmp 9)⟩
def p16_4_7 : RO := ⟨some (some 6, false), some 11, .call ⟨.builtin .len, #[(.tmp 10)], #[22]⟩⟩
def p16_4_8 : RO := ⟨some (some 6, false), some 12, .binOp .eql 3 (.tmp 11) (.const (.int .i64 (0))) 3⟩
def p16_4_9 : RO := ⟨none, some 13, .pick (.tmp 6) (.const (.bool true)) (.tmp 12)⟩
def o16_4 : List RO := [p16_4_0, p16_4_1, p16_4_2, p16_4_3, p16_4_4, p16_4_5, p16_4_6, p16_4_7, p16_4_8, p16_4_9]
def x16_4 : RC := .ops o16_4
def p16_7_0 : RO := ⟨none, some 14, .build 29 #[]⟩
def p16_7_1 : RO := ⟨none, none, .store 29 (.tmp 2) (.tmp 14)⟩
def p16_7_2 : RO := ⟨none, some 3, .assign (.const (.bool false))⟩
def o16_7 : List RO := [p16_7_0, p16_7_1, p16_7_2]
def x16_7 : RC := .ops o16_7
def x16_6 : RC := .seq x16_7 .ret
def x16_5 : RC := .cond (.tmp 13) x16_6 .skip
def x16_3 : RC := .seq x16_4 x16_5
def p16_9_0 : RO := ⟨none, some 15, .move (.tmp 0)⟩
def p16_9_1 : RO := ⟨none, some 16, .nilCheck (.tmp 15)⟩
def p16_9_2 : RO := ⟨none, some 17, .fieldAddr 55 (.tmp 16) 0⟩
def p16_9_3 : RO := ⟨none, some 18, .load 22 (.tmp 17)⟩
def p16_9_4 : RO := ⟨none, some 19, .move (.tmp 0)⟩
def p16_9_5 : RO := ⟨none, some 20, .nilCheck (.tmp 19)⟩
def p16_9_6 : RO := ⟨none, some 21, .fieldAddr 55 (.tmp 20) 0⟩
def p16_9_7 : RO := ⟨none, some 22, .load 22 (.tmp 21)⟩
def p16_9_8 : RO := ⟨none, some 23, .call ⟨.builtin .len, #[(.tmp 22)], #[22]⟩⟩
def p16_9_9 : RO := ⟨none, some 24, .binOp .sub 3 (.tmp 23) (.const (.int .i64 (1))) 3⟩
def p16_9_10 : RO := ⟨none, some 25, .indexAddr 22 (.tmp 18) (.tmp 24)⟩
def p16_9_11 : RO := ⟨none, some 26, .load 29 (.tmp 25)⟩
def p16_9_12 : RO := ⟨none, some 27, .call ⟨.value (.func 28), #[(.tmp 26)], #[29]⟩⟩
def p16_9_13 : RO := ⟨none, none, .store 29 (.tmp 2) (.tmp 27)⟩
def p16_9_14 : RO := ⟨none, some 3, .assign (.const (.bool true))⟩
def o16_9 : List (Nat × RO) := [(0, p16_9_0), (1, p16_9_1), (2, p16_9_2), (3, p16_9_3), (4, p16_9_4), (5, p16_9_5), (6, p16_9_6), (7, p16_9_7), (8, p16_9_8), (9, p16_9_9), (10, p16_9_10), (11, p16_9_11), (12, p16_9_12), (13, p16_9_13), (14, p16_9_14)]
def m16_9 : List Nat := [0, 1, 3, 7, 0, 16, 48, 112, 240, 496, 1023, 2047, 4095, 8191, 16383]
def x16_9 : RC := .draw o16_9 m16_9
def x16_8 : RC := .seq x16_9 .ret
def x16_2 : RC := .seq x16_3 x16_8
def x16_0 : RC := .seq x16_1 x16_2
theorem x16_eq : Try.f16.body.map rc = some x16_0 := by kernel_rfl
def p21_1_0 : RO := ⟨none, some 2, .assign (.const (.pointer none))⟩
def o21_1 : List RO := [p21_1_0]
def x21_1 : RC := .ops o21_1
def p21_4_0 : RO := ⟨none, some 3, .move (.tmp 0)⟩
def p21_4_1 : RO := ⟨none, some 4, .binOp .eql 23 (.tmp 3) (.const (.pointer none)) 23⟩
def o21_4 : List RO := [p21_4_0, p21_4_1]
def x21_4 : RC := .ops o21_4
def p21_7_0 : RO := ⟨none, some 2, .assign (.const (.pointer none))⟩
def o21_7 : List RO := [p21_7_0]
def x21_7 : RC := .ops o21_7
def x21_6 : RC := .seq x21_7 .ret
def x21_5 : RC := .cond (.tmp 4) x21_6 .skip
def x21_3 : RC := .seq x21_4 x21_5
def p21_9_0 : RO := ⟨none, some 5, .move (.tmp 0)⟩
def p21_9_1 : RO := ⟨none, some 6, .call ⟨.value (.func 13), #[(.tmp 5)], #[23]⟩⟩
def p21_9_2 : RO := ⟨none, some 7, .build 55 #[(0, (.tmp 6))]⟩
def p21_9_3 : RO := ⟨none, some 8, .box 55 (.tmp 7)⟩
def p21_9_4 : RO := ⟨none, some 2, .assign (.tmp 8)⟩
def o21_9 : List RO := [p21_9_0, p21_9_1, p21_9_2, p21_9_3, p21_9_4]
def x21_9 : RC := .ops o21_9
def x21_8 : RC := .seq x21_9 .ret
def x21_2 : RC := .seq x21_3 x21_8
def x21_0 : RC := .seq x21_1 x21_2
theorem x21_eq : Try.f21.body.map rc = some x21_0 := by kernel_rfl
def p22_1_0 : RO := ⟨none, some 2, .alloc 29⟩
def p22_1_1 : RO := ⟨none, some 3, .assign (.const (.bool false))⟩
def o22_1 : List RO := [p22_1_0, p22_1_1]
def x22_1 : RC := .ops o22_1
def p22_3_0 : RO := ⟨none, some 7, .move (.tmp 0)⟩
def p22_3_1 : RO := ⟨none, some 8, .call ⟨.value (.func 16), #[(.tmp 7)], #[23]⟩⟩
def p22_3_2 : RO := ⟨none, some 6, .move (.tmp 8)⟩
def p22_3_3 : RO := ⟨none, some 9, .extract (.tmp 6) 0⟩
def p22_3_4 : RO := ⟨none, some 10, .extract (.tmp 6) 1⟩
def p22_3_5 : RO := ⟨none, some 4, .alloc 29⟩
def p22_3_6 : RO := ⟨none, none, .store 29 (.tmp 4) (.tmp 9)⟩
def p22_3_7 : RO := ⟨none, some 5, .assign (.tmp 10)⟩
def o22_3 : List RO := [p22_3_0, p22_3_1, p22_3_2, p22_3_3, p22_3_4, p22_3_5, p22_3_6, p22_3_7]
def x22_3 : RC := .ops o22_3
def p22_6_0 : RO := ⟨none, some 11, .move (.tmp 5)⟩
def o22_6 : List RO := [p22_6_0]
def x22_6 : RC := .ops o22_6
def p22_8_0 : RO := ⟨none, some 13, .move (.tmp 0)⟩
def p22_8_1 : RO := ⟨none, some 14, .nilCheck (.tmp 13)⟩
def p22_8_2 : RO := ⟨none, some 15, .fieldAddr 55 (.tmp 14) 0⟩
def p22_8_3 : RO := ⟨none, some 16, .load 22 (.tmp 15)⟩
def p22_8_4 : RO := ⟨none, some 17, .move (.tmp 0)⟩
def p22_8_5 : RO := ⟨none, some 18, .nilCheck (.tmp 17)⟩
def p22_8_6 : RO := ⟨none, some 19, .fieldAddr 55 (.tmp 18) 0⟩
def p22_8_7 : RO := ⟨none, some 20, .load 22 (.tmp 19)⟩
def p22_8_8 : RO := ⟨none, some 21, .call ⟨.builtin .len, #[(.tmp 20)], #[22]⟩⟩
def p22_8_9 : RO := ⟨none, some 22, .binOp .sub 3 (.tmp 21) (.const (.int .i64 (1))) 3⟩
def p22_8_10 : RO := ⟨none, some 23, .move (.tmp 0)⟩
def p22_8_11 : RO := ⟨none, some 24, .nilCheck (.tmp 23)⟩
def p22_8_12 : RO := ⟨none, some 25, .fieldAddr 55 (.tmp 24) 0⟩
def p22_8_13 : RO := ⟨none, some 26, .load 22 (.tmp 25)⟩
def p22_8_14 : RO := ⟨none, some 27, .call ⟨.builtin .len, #[(.tmp 26)], #[22]⟩⟩
def p22_8_15 : RO := ⟨none, some 28, .call ⟨.value (.func 46), #[(.tmp 16), (.tmp 22), (.tmp 27)], #[22, 3, 3]⟩⟩
def p22_8_16 : RO := ⟨none, some 12, .move (.tmp 0)⟩
def p22_8_17 : RO := ⟨none, some 29, .nilCheck (.tmp 12)⟩
def p22_8_18 : RO := ⟨none, some 30, .fieldAddr 55 (.tmp 29) 0⟩
def p22_8_19 : RO := ⟨none, none, .store 22 (.tmp 30) (.tmp 28)⟩
def o22_8 : List (Nat × RO) := [(1, p22_8_0), (2, p22_8_1), (3, p22_8_2), (4, p22_8_3), (5, p22_8_4), (6, p22_8_5), (7, p22_8_6), (8, p22_8_7), (9, p22_8_8), (10, p22_8_9), (11, p22_8_10), (12, p22_8_11), (13, p22_8_12), (14, p22_8_13), (15, p22_8_14), (16, p22_8_15), (0, p22_8_16), (17, p22_8_17), (18, p22_8_18), (19, p22_8_19)]
def m22_8 : List Nat := [0, 0, 2, 6, 14, 0, 32, 96, 224, 480, 992, 0, 2048, 6144, 14336, 30720, 65534, 131071, 262143, 524287]
def x22_8 : RC := .draw o22_8 m22_8
def x22_7 : RC := .cond (.tmp 11) x22_8 .skip
def x22_5 : RC := .seq x22_6 x22_7
def p22_10_0 : RO := ⟨none, some 31, .load 29 (.tmp 4)⟩
def p22_10_1 : RO := ⟨none, some 32, .move (.tmp 5)⟩
def p22_10_2 : RO := ⟨none, none, .store 29 (.tmp 2) (.tmp 31)⟩
def p22_10_3 : RO := ⟨none, some 3, .assign (.tmp 32)⟩
def o22_10 : List RO := [p22_10_0, p22_10_1, p22_10_2, p22_10_3]
def x22_10 : RC := .ops o22_10
def x22_9 : RC := .seq x22_10 .ret
def x22_4 : RC := .seq x22_5 x22_9
def x22_2 : RC := .seq x22_3 x22_4
def x22_0 : RC := .seq x22_1 x22_2
theorem x22_eq : Try.f22.body.map rc = some x22_0 := by kernel_rfl
def p23_1_0 : RO := ⟨none, some 3, .box 44 (.tmp 1)⟩
def p23_1_1 : RO := ⟨none, some 4, .assign (.const (.slice none 0 0))⟩
def o23_1 : List RO := [p23_1_0, p23_1_1]
def x23_1 : RC := .ops o23_1
def p23_3_0 : RO := ⟨none, some 8, .move (.tmp 0)⟩
def p23_3_1 : RO := ⟨none, some 9, .makeFunc (.func 47) #[] #[(.tmp 3)]⟩
def p23_3_2 : RO := ⟨none, some 10, .call ⟨.value (.func 32), #[(.tmp 8), (.tmp 9)], #[23, 63]⟩⟩
def p23_3_3 : RO := ⟨none, some 5, .assign (.tmp 10)⟩
def o23_3 : List RO := [p23_3_0, p23_3_1, p23_3_2, p23_3_3]
def x23_3 : RC := .ops o23_3
def p23_6_0 : RO := ⟨none, some 12, .move (.tmp 0)⟩
def p23_6_1 : RO := ⟨none, some 13, .call ⟨.value (.func 22), #[(.tmp 12)], #[23]⟩⟩
def p23_6_2 : RO := ⟨none, some 11, .move (.tmp 13)⟩
def p23_6_3 : RO := ⟨none, some 14, .extract (.tmp 11) 0⟩
def p23_6_4 : RO := ⟨none, some 15, .extract (.tmp 11) 1⟩
def p23_6_5 : RO := ⟨none, some 6, .alloc 29⟩
def p23_6_6 : RO := ⟨none, none, .store 29 (.tmp 6) (.tmp 14)⟩
def p23_6_7 : RO := ⟨none, some 7, .assign (.tmp 15)⟩
def o23_6 : List RO := [p23_6_0, p23_6_1, p23_6_2, p23_6_3, p23_6_4, p23_6_5, p23_6_6, p23_6_7]
def x23_6 : RC := .ops o23_6
def p23_8_0 : RO := ⟨none, some 16, .move (.tmp 7)⟩
def o23_8 : List RO := [p23_8_0]
def x23_8 : RC := .ops o23_8
def p23_10_0 : RO := ⟨none, some 17, .move (.tmp 5)⟩
def p23_10_1 : RO := ⟨none, some 18, .load 29 (.tmp 6)⟩
def p23_10_2 : RO := ⟨none, some 19, .buildSlice 22 1 #[(0, (.tmp 18))]⟩
def p23_10_3 : RO := ⟨none, some 20, .call ⟨.builtin .append, #[(.tmp 17), (.tmp 19)], #[22, 22]⟩⟩
def p23_10_4 : RO := ⟨none, some 5, .assign (.tmp 20)⟩
def o23_10 : List RO := [p23_10_0, p23_10_1, p23_10_2, p23_10_3, p23_10_4]
def x23_10 : RC := .ops o23_10
def x23_9 : RC := .cond (.tmp 16) x23_10 .skip
def x23_7 : RC := .seq x23_8 x23_9
def x23_5 : RC := .seq x23_6 x23_7
def p23_12_0 : RO := ⟨none, some 21, .move (.tmp 5)⟩
def p23_12_1 : RO := ⟨none, some 4, .assign (.tmp 21)⟩
def o23_12 : List RO := [p23_12_0, p23_12_1]
def x23_12 : RC := .ops o23_12
def x23_11 : RC := .seq x23_12 .ret
def x23_4 : RC := .seq x23_5 x23_11
def x23_2 : RC := .seq x23_3 x23_4
def x23_0 : RC := .seq x23_1 x23_2
theorem x23_eq : Try.f23.body.map rc = some x23_0 := by kernel_rfl
def p24_1_0 : RO := ⟨none, some 4, .assign (.const (.bool false))⟩
def o24_1 : List RO := [p24_1_0]
def x24_1 : RC := .ops o24_1
def p24_3_0 : RO := ⟨none, some 6, .move (.tmp 0)⟩
def p24_3_1 : RO := ⟨none, some 7, .move (.tmp 1)⟩
def p24_3_2 : RO := ⟨none, some 8, .call ⟨.value (.func 25), #[(.tmp 6), (.tmp 7)], #[23, 3]⟩⟩
def p24_3_3 : RO := ⟨none, some 5, .assign (.tmp 8)⟩
def o24_3 : List RO := [p24_3_0, p24_3_1, p24_3_2, p24_3_3]
def x24_3 : RC := .ops o24_3
def p24_6_0 : RO := ⟨none, some 9, .move (.tmp 5)⟩
def p24_6_1 : RO := ⟨none, some 10, .binOp .lss 3 (.tmp 9) (.const (.int .i64 (0))) 3⟩
def o24_6 : List RO := [p24_6_0, p24_6_1]
def x24_6 : RC := .ops o24_6
def p24_9_0 : RO := ⟨none, some 4, .assign (.const (.bool false))⟩
def o24_9 : List RO := [p24_9_0]
def x24_9 : RC := .ops o24_9
def x24_8 : RC := .seq x24_9 .ret
def x24_7 : RC := .cond (.tmp 10) x24_8 .skip
def x24_5 : RC := .seq x24_6 x24_7
def p24_11_0 : RO := ⟨none, some 11, .move (.tmp 0)⟩
def p24_11_1 : RO := ⟨none, some 12, .move (.tmp 0)⟩
def p24_11_2 : RO := ⟨none, some 13, .nilCheck (.tmp 12)⟩
def p24_11_3 : RO := ⟨none, some 14, .fieldAddr 55 (.tmp 13) 0⟩
def p24_11_4 : RO := ⟨none, some 15, .load 22 (.tmp 14)⟩
def p24_11_5 : RO := ⟨none, some 16, .move (.tmp 5)⟩
def p24_11_6 : RO := ⟨none, some 17, .move (.tmp 5)⟩
def p24_11_7 : RO := ⟨none, some 18, .binOp .add 3 (.tmp 17) (.const (.int .i64 (1))) 3⟩
def p24_11_8 : RO := ⟨none, some 19, .call ⟨.value (.func 46), #[(.tmp 15), (.tmp 16), (.tmp 18)], #[22, 3, 3]⟩⟩
def p24_11_9 : RO := ⟨none, some 20, .nilCheck (.tmp 11)⟩
def p24_11_10 : RO := ⟨none, some 21, .fieldAddr 55 (.tmp 20) 0⟩
def p24_11_11 : RO := ⟨none, none, .store 22 (.tmp 21) (.tmp 19)⟩
def o24_11 : List RO := [p24_11_0, p24_11_1, p24_11_2, p24_11_3, p24_11_4, p24_11_5, p24_11_6, p24_11_7, p24_11_8, p24_11_9, p24_11_10, p24_11_11]
def x24_11 : RC := .ops o24_11
def p24_13_0 : RO := ⟨none, some 4, .assign (.const (.bool true))⟩
def o24_13 : List RO := [p24_13_0]
def x24_13 : RC := .ops o24_13
def x24_12 : RC := .seq x24_13 .ret
def x24_10 : RC := .seq x24_11 x24_12
def x24_4 : RC := .seq x24_5 x24_10
def x24_2 : RC := .seq x24_3 x24_4
def x24_0 : RC := .seq x24_1 x24_2
theorem x24_eq : Try.f24.body.map rc = some x24_0 := by kernel_rfl
def p25_1_0 : RO := ⟨none, some 3, .box 3 (.tmp 1)⟩
def p25_1_1 : RO := ⟨none, some 4, .alloc 3⟩
def o25_1 : List RO := [p25_1_0, p25_1_1]
def x25_1 : RC := .ops o25_1
def p25_4_0 : RO := ⟨none, some 7, .move (.tmp 0)⟩
def p25_4_1 : RO := ⟨none, some 8, .binOp .eql 23 (.tmp 7) (.const (.pointer none)) 23⟩
def o25_4 : List RO := [p25_4_0, p25_4_1]
def x25_4 : RC := .ops o25_4
def p25_7_0 : RO := ⟨none, none, .store 3 (.tmp 4) (.const (.int .i64 (-1)))⟩
def o25_7 : List RO := [p25_7_0]
def x25_7 : RC := .ops o25_7
def x25_6 : RC := .seq x25_7 .ret
def x25_5 : RC := .cond (.tmp 8) x25_6 .skip
def x25_3 : RC := .seq x25_4 x25_5
def p25_10_0 : RO := ⟨none, some 9, .move (.tmp 0)⟩
def p25_10_1 : RO := ⟨none, some 10, .nilCheck (.tmp 9)⟩
def p25_10_2 : RO := ⟨none, some 11, .fieldAddr 55 (.tmp 10) 0⟩
def p25_10_3 : RO := ⟨none, some 12, .load 22 (.tmp 11)⟩
def p25_10_4 : RO := ⟨none, some 13, .call ⟨.value (.func 29), #[(.tmp 12)], #[22]⟩⟩
def o25_10 : List RO := [p25_10_0, p25_10_1, p25_10_2, p25_10_3, p25_10_4]
def x25_10 : RC := .ops o25_10
def p25_14_0 : RO := ⟨none, some 5, .assign (.tmp 14)⟩
def o25_14 : List RO := [p25_14_0]
def x25_14 : RC := .ops o25_14
def p25_15_0 : RO := ⟨none, some 6, .alloc 29⟩
def p25_15_1 : RO := ⟨none, none, .store 29 (.tmp 6) (.tmp 15)⟩
def o25_15 : List RO := [p25_15_0, p25_15_1]
def x25_15 : RC := .ops o25_15
def x25_13 : RC := .seq x25_14 x25_15
def p25_18_0 : RO := ⟨none, some 16, .fieldAddr 29 (.tmp 6) 0⟩
def p25_18_1 : RO := ⟨none, some 17, .load 3 (.tmp 16)⟩
def p25_18_2 : RO := ⟨none, some 18, .load 3 (.tmp 3)⟩
def p25_18_3 : RO := ⟨none, some 19, .binOp .eql 3 (.tmp 17) (.tmp 18) 3⟩
def o25_18 : List RO := [p25_18_0, p25_18_1, p25_18_2, p25_18_3]
def x25_18 : RC := .ops o25_18
def p25_21_0 : RO := ⟨none, some 20, .move (.tmp 5)⟩
def p25_21_1 : RO := ⟨none, none, .store 3 (.tmp 4) (.tmp 20)⟩
def o25_21 : List RO := [p25_21_0, p25_21_1]
def x25_21 : RC := .ops o25_21
def x25_20 : RC := .seq x25_21 .ret
def x25_19 : RC := .cond (.tmp 19) x25_20 .skip
def x25_17 : RC := .seq x25_18 x25_19
def x25_16 : RC := .block 1 x25_17
noncomputable def a25_0 : Code := (rangeOf Try.f25 0).1
noncomputable def b25_0 : Code := (rangeOf Try.f25 0).2
theorem a25_0_rc : rc a25_0 = x25_13 := by kernel_rfl
theorem b25_0_rc : rc b25_0 = x25_16 := by kernel_rfl
noncomputable def x25_12 : RC := .range (.tmp 13) #[14, 15] a25_0 b25_0
noncomputable def x25_11 : RC := .block 0 x25_12
noncomputable def x25_9 : RC := .seq x25_10 x25_11
def p25_23_0 : RO := ⟨none, none, .store 3 (.tmp 4) (.const (.int .i64 (-1)))⟩
def o25_23 : List RO := [p25_23_0]
def x25_23 : RC := .ops o25_23
def x25_22 : RC := .seq x25_23 .ret
noncomputable def x25_8 : RC := .seq x25_9 x25_22
noncomputable def x25_2 : RC := .seq x25_3 x25_8
noncomputable def x25_0 : RC := .seq x25_1 x25_2
theorem x25_eq : Try.f25.body.map rc = some x25_0 := by kernel_rfl
def p26_1_0 : RO := ⟨none, some 5, .box 29 (.tmp 2)⟩
def p26_1_1 : RO := ⟨none, some 6, .assign (.const (.bool false))⟩
def o26_1 : List RO := [p26_1_0, p26_1_1]
def x26_1 : RC := .ops o26_1
def p26_3_0 : RO := ⟨none, some 8, .move (.tmp 0)⟩
def p26_3_1 : RO := ⟨none, some 9, .move (.tmp 1)⟩
def p26_3_2 : RO := ⟨none, some 10, .call ⟨.value (.func 25), #[(.tmp 8), (.tmp 9)], #[23, 3]⟩⟩
def p26_3_3 : RO := ⟨none, some 7, .assign (.tmp 10)⟩
def o26_3 : List RO := [p26_3_0, p26_3_1, p26_3_2, p26_3_3]
def x26_3 : RC := .ops o26_3
def p26_6_0 : RO := ⟨none, some 11, .move (.tmp 7)⟩
def p26_6_1 : RO := ⟨none, some 12, .binOp .lss 3 (.tmp 11) (.const (.int .i64 (0))) 3⟩
def o26_6 : List RO := [p26_6_0, p26_6_1]
def x26_6 : RC := .ops o26_6
def p26_9_0 : RO := ⟨none, some 6, .assign (.const (.bool false))⟩
def o26_9 : List RO := [p26_9_0]
def x26_9 : RC := .ops o26_9
def x26_8 : RC := .seq x26_9 .ret
def x26_7 : RC := .cond (.tmp 12) x26_8 .skip
def x26_5 : RC := .seq x26_6 x26_7
def p26_11_0 : RO := ⟨none, some 20, .load 29 (.tmp 5)⟩
def p26_11_1 : RO := ⟨none, some 21, .call ⟨.value (.func 28), #[(.tmp 20)], #[29]⟩⟩
def p26_11_2 : RO := ⟨none, some 14, .move (.tmp 0)⟩
def p26_11_3 : RO := ⟨none, some 15, .nilCheck (.tmp 14)⟩
def p26_11_4 : RO := ⟨none, some 16, .fieldAddr 55 (.tmp 15) 0⟩
def p26_11_5 : RO := ⟨none, some 17, .load 22 (.tmp 16)⟩
def p26_11_6 : RO := ⟨none, some 18, .move (.tmp 7)⟩
def p26_11_7 : RO := ⟨none, some 19, .binOp .add 3 (.tmp 18) (.const (.int .i64 (1))) 3⟩
def p26_11_8 : RO := ⟨none, some 22, .buildSlice 22 1 #[(0, (.tmp 21))]⟩
def p26_11_9 : RO := ⟨none, some 23, .call ⟨.value (.func 48), #[(.tmp 17), (.tmp 19), (.tmp 22)], #[22, 3, 22]⟩⟩
def p26_11_10 : RO := ⟨none, some 13, .move (.tmp 0)⟩
def p26_11_11 : RO := ⟨none, some 24, .nilCheck (.tmp 13)⟩
def p26_11_12 : RO := ⟨none, some 25, .fieldAddr 55 (.tmp 24) 0⟩
def p26_11_13 : RO := ⟨none, none, .store 22 (.tmp 25) (.tmp 23)⟩
def o26_11 : List (Nat × RO) := [(7, p26_11_0), (8, p26_11_1), (1, p26_11_2), (2, p26_11_3), (3, p26_11_4), (4, p26_11_5), (5, p26_11_6), (6, p26_11_7), (9, p26_11_8), (10, p26_11_9), (0, p26_11_10), (11, p26_11_11), (12, p26_11_12), (13, p26_11_13)]
def m26_11 : List Nat := [0, 0, 2, 6, 14, 0, 32, 0, 128, 384, 1022, 2047, 4095, 8191]
def x26_11 : RC := .draw o26_11 m26_11
def p26_13_0 : RO := ⟨none, some 6, .assign (.const (.bool true))⟩
def o26_13 : List RO := [p26_13_0]
def x26_13 : RC := .ops o26_13
def x26_12 : RC := .seq x26_13 .ret
def x26_10 : RC := .seq x26_11 x26_12
def x26_4 : RC := .seq x26_5 x26_10
def x26_2 : RC := .seq x26_3 x26_4
def x26_0 : RC := .seq x26_1 x26_2
theorem x26_eq : Try.f26.body.map rc = some x26_0 := by kernel_rfl
def p32_1_0 : RO := ⟨none, some 4, .assign (.const (.slice none 0 0))⟩
def o32_1 : List RO := [p32_1_0]
def x32_1 : RC := .ops o32_1
def p32_3_0 : RO := ⟨none, some 5, .assign (.const (.slice none 0 0))⟩
def o32_3 : List RO := [p32_3_0]
def x32_3 : RC := .ops o32_3
def p32_8_0 : RO := ⟨none, some 9, .move (.tmp 0)⟩
def p32_8_1 : RO := ⟨none, some 10, .call ⟨.value (.func 16), #[(.tmp 9)], #[23]⟩⟩
def p32_8_2 : RO := ⟨none, some 8, .move (.tmp 10)⟩
def p32_8_3 : RO := ⟨none, some 11, .extract (.tmp 8) 0⟩
def p32_8_4 : RO := ⟨none, some 12, .extract (.tmp 8) 1⟩
def p32_8_5 : RO := ⟨none, some 6, .alloc 29⟩
def p32_8_6 : RO := ⟨none, none, .store 29 (.tmp 6) (.tmp 11)⟩
def p32_8_7 : RO := ⟨none, some 7, .assign (.tmp 12)⟩
def o32_8 : List RO := [p32_8_0, p32_8_1, p32_8_2, p32_8_3, p32_8_4, p32_8_5, p32_8_6, p32_8_7]
def x32_8 : RC := .ops o32_8
def p32_11_0 : RO := ⟨none, some 13, .move (.tmp 7)⟩
def p32_11_1 : RO := ⟨none, some 14, .unOp .not 4 (.tmp 13)⟩
def p32_11_2 : RO := ⟨none, some 15, .move (.tmp 14)⟩
def p32_11_3 : RO := ⟨some (some 15, false), some 16, .move (.tmp 1)⟩
def p32_11_4 : RO := ⟨some (some 15, false), some 17, .load 29 (.tmp 6)⟩
def p32_11_5 : RO := ⟨some (some 15, false), some 18, .call ⟨.value (.tmp 16), #[(.tmp 17)], #[29]⟩⟩
def p32_11_6 : RO := ⟨some (some 15, false), some 19, .unOp .not 4 (.tmp 18)⟩
def p32_11_7 : RO := ⟨none, some 20, .pick (.tmp 15) (.const (.bool true)) (.tmp 19)⟩
def o32_11 : List RO := [p32_11_0, p32_11_1, p32_11_2, p32_11_3, p32_11_4, p32_11_5, p32_11_6, p32_11_7]
def x32_11 : RC := .ops o32_11
def p32_14_0 : RO := ⟨none, some 21, .move (.tmp 5)⟩
def p32_14_1 : RO := ⟨none, some 4, .assign (.tmp 21)⟩
def o32_14 : List RO := [p32_14_0, p32_14_1]
def x32_14 : RC := .ops o32_14
def x32_13 : RC := .seq x32_14 .ret
def x32_12 : RC := .cond (.tmp 20) x32_13 .skip
def x32_10 : RC := .seq x32_11 x32_12
def p32_16_0 : RO := ⟨none, some 22, .move (.tmp 0)⟩
def p32_16_1 : RO := ⟨none, some 23, .call ⟨.value (.func 22), #[(.tmp 22)], #[23]⟩⟩
def o32_16 : List RO := [p32_16_0, p32_16_1]
def x32_16 : RC := .ops o32_16
def p32_17_0 : RO := ⟨none, some 24, .move (.tmp 5)⟩
def p32_17_1 : RO := ⟨none, some 25, .load 29 (.tmp 6)⟩
def p32_17_2 : RO := ⟨none, some 26, .buildSlice 22 1 #[(0, (.tmp 25))]⟩
def p32_17_3 : RO := ⟨none, some 27, .call ⟨.builtin .append, #[(.tmp 24), (.tmp 26)], #[22, 22]⟩⟩
def p32_17_4 : RO := ⟨none, some 5, .assign (.tmp 27)⟩
def o32_17 : List RO := [p32_17_0, p32_17_1, p32_17_2, p32_17_3, p32_17_4]
def x32_17 : RC := .ops o32_17
def x32_15 : RC := .seq x32_16 x32_17
def x32_9 : RC := .seq x32_10 x32_15
def x32_7 : RC := .seq x32_8 x32_9
def x32_6 : RC := .block 1 x32_7
def x32_5 : RC := .loop x32_6
def x32_4 : RC := .block 0 x32_5
def x32_2 : RC := .seq x32_3 x32_4
def x32_0 : RC := .seq x32_1 x32_2
theorem x32_eq : Try.f32.body.map rc = some x32_0 := by kernel_rfl
def p36_1_0 : RO := ⟨none, some 4, .assign (.const (.bool false))⟩
def o36_1 : List RO := [p36_1_0]
def x36_1 : RC := .ops o36_1
def p36_3_0 : RO := ⟨none, some 5, .assign (.const (.int .i64 (0)))⟩
def o36_3 : List RO := [p36_3_0]
def x36_3 : RC := .ops o36_3
def p36_6_0 : RO := ⟨none, some 6, .assign (.const (.int .i64 (0)))⟩
def o36_6 : List RO := [p36_6_0]
def x36_6 : RC := .ops o36_6
def p36_11_0 : RO := ⟨none, some 7, .move (.tmp 6)⟩
def p36_11_1 : RO := ⟨none, some 8, .move (.tmp 1)⟩
def p36_11_2 : RO := ⟨none, some 9, .call ⟨.builtin .len, #[(.tmp 8)], #[9]⟩⟩
def p36_11_3 : RO := ⟨none, some 10, .binOp .leq 3 (.tmp 7) (.tmp 9) 3⟩
def o36_11 : List RO := [p36_11_0, p36_11_1, p36_11_2, p36_11_3]
def x36_11 : RC := .ops o36_11
def x36_12 : RC := .cond (.tmp 10) .skip (.exit 0)
def x36_10 : RC := .seq x36_11 x36_12
def p36_16_0 : RO := ⟨none, some 13, .move (.tmp 6)⟩
def p36_16_1 : RO := ⟨none, some 14, .move (.tmp 1)⟩
def p36_16_2 : RO := ⟨none, some 15, .call ⟨.builtin .len, #[(.tmp 14)], #[9]⟩⟩
def p36_16_3 : RO := ⟨none, some 16, .binOp .eql 3 (.tmp 13) (.tmp 15) 3⟩
def p36_16_4 : RO := ⟨none, some 17, .move (.tmp 16)⟩
def p36_16_5 : RO := ⟨some (some 17, false), some 18, .move (.tmp 1)⟩
def p36_16_6 : RO := ⟨some (some 17, false), some 19, .move (.tmp 6)⟩
def p36_16_7 : RO := ⟨some (some 17, false), some 20, .index 9 (.tmp 18) (.tmp 19)⟩
def p36_16_8 : RO := ⟨some (some 17, false), some 21, .binOp .eql 5 (.tmp 20) (.const (.int .u8 (32))) 5⟩
def p36_16_9 : RO := ⟨none, some 22, .pick (.tmp 17) (.const (.bool true)) (.tmp 21)⟩
def o36_16 : List RO := [p36_16_0, p36_16_1, p36_16_2, p36_16_3, p36_16_4, p36_16_5, p36_16_6, p36_16_7, p36_16_8, p36_16_9]
def x36_16 : RC := .ops o36_16
def p36_20_0 : RO := ⟨none, some 23, .move (.tmp 1)⟩
def p36_20_1 : RO := ⟨none, some 24, .move (.tmp 5)⟩
def p36_20_2 : RO := ⟨none, some 25, .move (.tmp 6)⟩
def p36_20_3 : RO := ⟨none, some 26, .slice 9 (.tmp 23) (some (.tmp 24)) (some (.tmp 25)) none⟩
def p36_20_4 : RO := ⟨none, some 27, .move (.tmp 0)⟩
def p36_20_5 : RO := ⟨none, some 28, .binOp .eql 9 (.tmp 26) (.tmp 27) 9⟩
def p36_20_6 : RO := ⟨none, some 29, .move (.tmp 28)⟩
def p36_20_7 : RO := ⟨some (some 29, true), some 30, .move (.tmp 6)⟩
def p36_20_8 : RO := ⟨some (some 29, true), some 31, .move (.tmp 5)⟩
def p36_20_9 : RO := ⟨some (some 29, true), some 32, .binOp .gtr 3 (.tmp 30) (.tmp 31) 3⟩
def p36_20_10 : RO := ⟨none, some 33, .pick (.tmp 29) (.tmp 32) (.const (.bool false))⟩
def o36_20 : List RO := [p36_20_0, p36_20_1, p36_20_2, p36_20_3, p36_20_4, p36_20_5, p36_20_6, p36_20_7, p36_20_8, p36_20_9, p36_20_10]
def x36_20 : RC := .ops o36_20
def p36_23_0 : RO := ⟨none, some 4, .assign (.const (.bool true))⟩
def o36_23 : List RO := [p36_23_0]
def x36_23 : RC := .ops o36_23
def x36_22 : RC := .seq x36_23 .ret
def x36_21 : RC := .cond (.tmp 33) x36_22 .skip
def x36_19 : RC := .seq x36_20 x36_21
def p36_24_0 : RO := ⟨none, some 34, .move (.tmp 6)⟩
def p36_24_1 : RO := ⟨none, some 35, .binOp .add 3 (.tmp 34) (.const (.int .i64 (1))) 3⟩
def p36_24_2 : RO := ⟨none, some 5, .assign (.tmp 35)⟩
def o36_24 : List RO := [p36_24_0, p36_24_1, p36_24_2]
def x36_24 : RC := .ops o36_24
def x36_18 : RC := .seq x36_19 x36_24
def x36_17 : RC := .cond (.tmp 22) x36_18 .skip
def x36_15 : RC := .seq x36_16 x36_17
def x36_14 : RC := .block 1 x36_15
def p36_25_0 : RO := ⟨none, some 11, .move (.tmp 6)⟩
def p36_25_1 : RO := ⟨none, some 12, .binOp .add 3 (.tmp 11) (.const (.int .i64 (1))) 3⟩
def p36_25_2 : RO := ⟨none, some 6, .assign (.tmp 12)⟩
def o36_25 : List RO := [p36_25_0, p36_25_1, p36_25_2]
def x36_25 : RC := .ops o36_25
def x36_13 : RC := .seq x36_14 x36_25
def x36_9 : RC := .seq x36_10 x36_13
def x36_8 : RC := .loop x36_9
def x36_7 : RC := .block 0 x36_8
def x36_5 : RC := .seq x36_6 x36_7
def p36_27_0 : RO := ⟨none, some 4, .assign (.const (.bool false))⟩
def o36_27 : List RO := [p36_27_0]
def x36_27 : RC := .ops o36_27
def x36_26 : RC := .seq x36_27 .ret
def x36_4 : RC := .seq x36_5 x36_26
def x36_2 : RC := .seq x36_3 x36_4
def x36_0 : RC := .seq x36_1 x36_2
theorem x36_eq : Try.f36.body.map rc = some x36_0 := by kernel_rfl
def p53_1_0 : RO := ⟨none, some 4, .assign (.const (.bool false))⟩
def o53_1 : List RO := [p53_1_0]
def x53_1 : RC := .ops o53_1
def p53_3_0 : RO := ⟨none, some 5, .move (.tmp 1)⟩
def p53_3_1 : RO := ⟨none, some 6, .binOp .neq 9 (.tmp 5) (.const (.string ⟨#[]⟩)) 9⟩
def p53_3_2 : RO := ⟨none, some 7, .move (.tmp 6)⟩
def p53_3_3 : RO := ⟨some (some 7, true), some 8, .move (.tmp 1)⟩
def p53_3_4 : RO := ⟨some (some 7, true), some 9, .call ⟨.value (.func 52), #[(.tmp 8), (.const (.string ⟨#[32]⟩))], #[9, 9]⟩⟩
def p53_3_5 : RO := ⟨some (some 7, true), some 10, .unOp .not 4 (.tmp 9)⟩
def p53_3_6 : RO := ⟨none, some 11, .pick (.tmp 7) (.tmp 10) (.const (.bool false))⟩
def p53_3_7 : RO := ⟨none, some 12, .move (.tmp 11)⟩
def p53_3_8 : RO := ⟨some (some 12, true), some 13, .move (.tmp 0)⟩
def p53_3_9 : RO := ⟨some (some 12, true), some 14, .move (.tmp 1)⟩
def p53_3_10 : RO := ⟨some (some 12, true), some 15, .binOp .add 9 (.const (.string ⟨#[32]⟩)) (.tmp 14) 9⟩
def p53_3_11 : RO := ⟨some (some 12, true), some 16, .binOp .add 9 (.tmp 15) (.const (.string ⟨#[32]⟩)) 9⟩
def p53_3_12 : RO := ⟨some (some 12, true), some 17, .call ⟨.value (.func 52), #[(.tmp 13), (.tmp 16)], #[9, 9]⟩⟩
def p53_3_13 : RO := ⟨none, some 18, .pick (.tmp 12) (.tmp 17) (.const (.bool false))⟩
def p53_3_14 : RO := ⟨none, some 4, .assign (.tmp 18)⟩
def o53_3 : List RO := [p53_3_0, p53_3_1, p53_3_2, p53_3_3, p53_3_4, p53_3_5, p53_3_6, p53_3_7, p53_3_8, p53_3_9, p53_3_10, p53_3_11, p53_3_12, p53_3_13, p53_3_14]
def x53_3 : RC := .ops o53_3
def x53_2 : RC := .seq x53_3 .ret
def x53_0 : RC := .seq x53_1 x53_2
theorem x53_eq : Try.f53.body.map rc = some x53_0 := by kernel_rfl
noncomputable def tab : FuncId → Option (RC × List ResultVar × Nat)
  | 7 => some (x7_0, [.tmp 2], 88)
  | 10 => some (x10_0, [], 17)
  | 11 => some (x11_0, [.cell 6 4], 24)
  | 12 => some (x12_0, [.tmp 4], 8)
  | 13 => some (x13_0, [.tmp 2], 31)
  | 16 => some (x16_0, [.cell 2 29, .tmp 3], 28)
  | 21 => some (x21_0, [.tmp 2], 9)
  | 22 => some (x22_0, [.cell 2 29, .tmp 3], 33)
  | 23 => some (x23_0, [.tmp 4], 22)
  | 24 => some (x24_0, [.tmp 4], 22)
  | 25 => some (x25_0, [.cell 4 3], 21)
  | 26 => some (x26_0, [.tmp 6], 26)
  | 32 => some (x32_0, [.tmp 4], 28)
  | 36 => some (x36_0, [.tmp 4], 36)
  | 53 => some (x53_0, [.tmp 4], 19)
  | _ => none
theorem tab_ok : TabOK Try.prog tab := by
  intro f x rs n h
  unfold tab at h
  split at h
  · injection h with h; injection h with h1 h; injection h with h2 h3; subst h1; subst h2; subst h3; exact ⟨_, Try.func7, rfl, rfl, x7_eq⟩
  · injection h with h; injection h with h1 h; injection h with h2 h3; subst h1; subst h2; subst h3; exact ⟨_, Try.func10, rfl, rfl, x10_eq⟩
  · injection h with h; injection h with h1 h; injection h with h2 h3; subst h1; subst h2; subst h3; exact ⟨_, Try.func11, rfl, rfl, x11_eq⟩
  · injection h with h; injection h with h1 h; injection h with h2 h3; subst h1; subst h2; subst h3; exact ⟨_, Try.func12, rfl, rfl, x12_eq⟩
  · injection h with h; injection h with h1 h; injection h with h2 h3; subst h1; subst h2; subst h3; exact ⟨_, Try.func13, rfl, rfl, x13_eq⟩
  · injection h with h; injection h with h1 h; injection h with h2 h3; subst h1; subst h2; subst h3; exact ⟨_, Try.func16, rfl, rfl, x16_eq⟩
  · injection h with h; injection h with h1 h; injection h with h2 h3; subst h1; subst h2; subst h3; exact ⟨_, Try.func21, rfl, rfl, x21_eq⟩
  · injection h with h; injection h with h1 h; injection h with h2 h3; subst h1; subst h2; subst h3; exact ⟨_, Try.func22, rfl, rfl, x22_eq⟩
  · injection h with h; injection h with h1 h; injection h with h2 h3; subst h1; subst h2; subst h3; exact ⟨_, Try.func23, rfl, rfl, x23_eq⟩
  · injection h with h; injection h with h1 h; injection h with h2 h3; subst h1; subst h2; subst h3; exact ⟨_, Try.func24, rfl, rfl, x24_eq⟩
  · injection h with h; injection h with h1 h; injection h with h2 h3; subst h1; subst h2; subst h3; exact ⟨_, Try.func25, rfl, rfl, x25_eq⟩
  · injection h with h; injection h with h1 h; injection h with h2 h3; subst h1; subst h2; subst h3; exact ⟨_, Try.func26, rfl, rfl, x26_eq⟩
  · injection h with h; injection h with h1 h; injection h with h2 h3; subst h1; subst h2; subst h3; exact ⟨_, Try.func32, rfl, rfl, x32_eq⟩
  · injection h with h; injection h with h1 h; injection h with h2 h3; subst h1; subst h2; subst h3; exact ⟨_, Try.func36, rfl, rfl, x36_eq⟩
  · injection h with h; injection h with h1 h; injection h with h2 h3; subst h1; subst h2; subst h3; exact ⟨_, Try.func53, rfl, rfl, x53_eq⟩
  · cases h
def WOK (W : World) : Prop := SomeInt W 0
theorem wok_of {W : World} (h : W.ShapedOpen Try.prog) : WOK W := Try.laysM144.s1_3 W h
theorem base : Base Try.prog := ⟨by kernel_rfl, by kernel_rfl⟩
def prim0 : FuncId → Option (List V → H → Option (V × H)) := fun _ => none
theorem prim0s (W : World) (hW : WOK W) : Prims Try.prog W prim0 := fun _ _ => PrimOK.none
structure T29 where
  fId : Int
  fSpace : Int
  fName : (List UInt8)
  fAttrs : OpV
instance : Inhabited T29 := ⟨⟨default, default, default, default⟩⟩
def T29.cells (x : T29) : List V := [.int .i64 x.fId, .int .i64 x.fSpace, .str x.fName, .slice x.fAttrs.a x.fAttrs.n x.fAttrs.cap true]
structure T29.ok (W : World) (x : T29) : Prop where
  fId : (fun x => -9223372036854775808 ≤ x ∧ x ≤ 9223372036854775807) x.fId
  fSpace : (fun x => -9223372036854775808 ≤ x ∧ x ≤ 9223372036854775807) x.fSpace
  fName : (fun x => x.length ≤ 9223372036854775807) x.fName
  fAttrs : OpV.ok x.fAttrs
theorem T29_form {W : World} {n : Nat} {cs : List V} (h : Wf Try.prog W n 29 cs) : ∃ x : T29, cs = x.cells ∧ x.ok W := by
  have e3 : Try.prog.cellsOf 3 = 1 := by kernel_rfl
  have e9 : Try.prog.cellsOf 9 = 1 := by kernel_rfl
  have e27 : Try.prog.cellsOf 27 = 1 := by kernel_rfl
  have e29 : Try.prog.cellsOf 29 = 4 := by kernel_rfl
  cases n with
  | zero => exact h.elim
  | succ n =>
    simp only [Wf, Try.underlying29, e29] at h
    obtain ⟨hl, hf⟩ := h
    match cs, hl with
    | [c0, c1, c2, c3], _ =>
      simp only [List.mem_cons, forall_eq_or_imp, List.not_mem_nil, false_implies, implies_true, and_true, e3, e9, e27, e29, List.drop_zero, List.drop_succ_cons, List.take_succ_cons, List.take_zero] at hf
      obtain ⟨h0, h1, h2, h3⟩ := hf
      obtain ⟨v0, rfl, r0⟩ := wf_i64 Try.underlying3 h0
      obtain ⟨v1, rfl, r1⟩ := wf_i64 Try.underlying3 h1
      obtain ⟨v2, rfl, r2⟩ := wf_strR Try.underlying9 h2
      obtain ⟨v3, rfl, r3⟩ := wf_opV Try.underlying27 h3
      exact ⟨⟨v0, v1, v2, v3⟩, rfl, ⟨r0, r1, r2, r3⟩⟩
structure T46 where
  fKind : Int
  fAt : Int
  fScope : Int
  fE : T29
  fNames : OpV
instance : Inhabited T46 := ⟨⟨default, default, default, default, default⟩⟩
def T46.cells (x : T46) : List V := [.int .i64 x.fKind, .int .i64 x.fAt, .int .i64 x.fScope, .int .i64 x.fE.fId, .int .i64 x.fE.fSpace, .str x.fE.fName, .slice x.fE.fAttrs.a x.fE.fAttrs.n x.fE.fAttrs.cap true, .slice x.fNames.a x.fNames.n x.fNames.cap true]
structure T46.ok (W : World) (x : T46) : Prop where
  fKind : (fun x => -9223372036854775808 ≤ x ∧ x ≤ 9223372036854775807) x.fKind
  fAt : (fun x => -9223372036854775808 ≤ x ∧ x ≤ 9223372036854775807) x.fAt
  fScope : (fun x => -9223372036854775808 ≤ x ∧ x ≤ 9223372036854775807) x.fScope
  fE : (T29.ok W) x.fE
  fNames : OpV.ok x.fNames
theorem T46_form {W : World} {n : Nat} {cs : List V} (h : Wf Try.prog W n 46 cs) : ∃ x : T46, cs = x.cells ∧ x.ok W := by
  have e3 : Try.prog.cellsOf 3 = 1 := by kernel_rfl
  have e29 : Try.prog.cellsOf 29 = 4 := by kernel_rfl
  have e44 : Try.prog.cellsOf 44 = 1 := by kernel_rfl
  have e46 : Try.prog.cellsOf 46 = 8 := by kernel_rfl
  cases n with
  | zero => exact h.elim
  | succ n =>
    simp only [Wf, Try.underlying46, e46] at h
    obtain ⟨hl, hf⟩ := h
    match cs, hl with
    | [c0, c1, c2, c3, c4, c5, c6, c7], _ =>
      simp only [List.mem_cons, forall_eq_or_imp, List.not_mem_nil, false_implies, implies_true, and_true, e3, e29, e44, e46, List.drop_zero, List.drop_succ_cons, List.take_succ_cons, List.take_zero] at hf
      obtain ⟨h0, h1, h2, h3, h4⟩ := hf
      obtain ⟨v0, rfl, r0⟩ := wf_i64 Try.underlying3 h0
      obtain ⟨v1, rfl, r1⟩ := wf_i64 Try.underlying3 h1
      obtain ⟨v2, rfl, r2⟩ := wf_i64 Try.underlying3 h2
      obtain ⟨v3, g3, r3⟩ := T29_form h3
      simp only [T29.cells, List.cons.injEq, and_true] at g3
      obtain ⟨rfl, rfl, rfl, rfl⟩ := g3
      obtain ⟨v4, rfl, r4⟩ := wf_opV Try.underlying44 h4
      exact ⟨⟨v0, v1, v2, v3, v4⟩, rfl, ⟨r0, r1, r2, r3, r4⟩⟩
def q52 (l : List V) : Option V :=
  match l with
  | [.str s, .str t] => if s.length < 4294967281 then some (.bool (Lib.contains s t)) else none
  | _ => none
def prim1 : FuncId → Option (List V → H → Option (V × H)) := setPrim prim0 52 q52
theorem prim1s (W : World) (hW : WOK W) : Prims Try.prog W prim1 := by
  refine Prims.addC (prim0s W hW) ⟨_, _, Try.func52, rfl⟩ ?_
  intro w hb args v h μ args' hv
  unfold q52 at h
  split at h
  · split at h
    · rename_i hc
      injection h with h; subst h
      obtain ⟨a, b, rfl, rfl, rfl⟩ := hv.strs2
      obtain ⟨m, hm⟩ := SomeInt.below hW hb
      have hl : a.size = a.data.toList.length := by rw [Array.length_toList]; rfl
      refine (Try.strings_Contains a b m w (by omega) hm).mono ?_
      rintro e w' ⟨rfl, rfl⟩
      exact ⟨_, rfl, by simp [VR], rfl⟩
    · cases h
  · cases h
theorem vin_ok {W : World} {t s : List UInt8} (h1 : tableOk t = true) (h2 : t.length < 4294967281) (h3 : s.length < 4294967281) : WpF Try.prog W prim1 53 [.str t, .str s] H.empty (fun v _ => v = .bool (among s t)) := by
  refine WpF.m tab_ok (by kernel_rfl) rfl ?_
  refine WpM.cfg (c' := ⟨.code x53_0, [], (.str t :: .str s :: us 17), [], H.empty, none⟩) (by kernel_rfl) ?_
  refine WpM.run tab_ok 10 ⟨.ops (p53_3_3 :: o53_3.drop 4), [.seq .ret], (.str t :: .str s :: U :: U :: .bool false :: .str s :: .bool (!(s == [])) :: .bool (!(s == [])) :: us 11), [], H.empty, none⟩ (by kernel_rfl) ?_
  refine WpM.guard (b := (!(s == []))) (by kernel_rfl) (fun c1 => ?_) (fun c1 => ?_)
  · have c1p := nbeq_t c1
    refine WpM.run tab_ok 1 ⟨.ops (p53_3_4 :: o53_3.drop 5), [.seq .ret], (.str t :: .str s :: U :: U :: .bool false :: .str s :: .bool (!(s == [])) :: .bool true :: .str s :: us 10), [], H.empty, none⟩ (by kernel_rfl) ?_
    refine WpM.givenQ (f := 52) (args := [.str s, .str [32]]) (q := q52) (.bool (Lib.contains s [32])) (by kernel_rfl) (by kernel_rfl) (by kernel_rfl) (by simp only [q52]; rw [if_pos (by omega)]) ?_
    refine WpM.run tab_ok 3 ⟨.ops (p53_3_8 :: o53_3.drop 9), [.seq .ret], (.str t :: .str s :: U :: U :: .bool false :: .str s :: .bool (!(s == [])) :: .bool true :: .str s :: .bool (Lib.contains s [32]) :: .bool (!(Lib.contains s [32])) :: .bool (!(Lib.contains s [32])) :: .bool (!(Lib.contains s [32])) :: us 6), [], H.empty, none⟩ (by kernel_rfl) ?_
    refine WpM.guard (b := (!(Lib.contains s [32]))) (by kernel_rfl) (fun c2 => ?_) (fun c2 => ?_)
    · have c2p := not_t c2
      refine WpM.run tab_ok 2 ⟨.ops (p53_3_10 :: o53_3.drop 11), [.seq .ret], (.str t :: .str s :: U :: U :: .bool false :: .str s :: .bool (!(s == [])) :: .bool true :: .str s :: .bool (Lib.contains s [32]) :: .bool (!(Lib.contains s [32])) :: .bool (!(Lib.contains s [32])) :: .bool true :: .str t :: .str s :: us 4), [], H.empty, none⟩ (by kernel_rfl) ?_
      refine WpM.op (.str ([32] ++ s)) _ (by kernel_rfl) (concat_str (by kernel_rfl) (by kernel_rfl) (by simp only [List.length_append, List.length_cons, List.length_nil]; omega)) ?_
      refine WpM.run tab_ok 0 ⟨.ops (p53_3_11 :: o53_3.drop 12), [.seq .ret], (.str t :: .str s :: U :: U :: .bool false :: .str s :: .bool (!(s == [])) :: .bool true :: .str s :: .bool (Lib.contains s [32]) :: .bool (!(Lib.contains s [32])) :: .bool (!(Lib.contains s [32])) :: .bool true :: .str t :: .str s :: .str ([32] ++ s) :: U :: U :: U :: []), [], H.empty, none⟩ (by kernel_rfl) ?_
      refine WpM.op (.str (([32] ++ s) ++ [32])) _ (by kernel_rfl) (concat_str (by kernel_rfl) (by kernel_rfl) (by simp only [List.length_append, List.length_cons, List.length_nil]; omega)) ?_
      refine WpM.run tab_ok 0 ⟨.ops (p53_3_12 :: o53_3.drop 13), [.seq .ret], (.str t :: .str s :: U :: U :: .bool false :: .str s :: .bool (!(s == [])) :: .bool true :: .str s :: .bool (Lib.contains s [32]) :: .bool (!(Lib.contains s [32])) :: .bool (!(Lib.contains s [32])) :: .bool true :: .str t :: .str s :: .str ([32] ++ s) :: .str (([32] ++ s) ++ [32]) :: U :: U :: []), [], H.empty, none⟩ (by kernel_rfl) ?_
      refine WpM.givenQ (f := 52) (args := [.str t, .str (([32] ++ s) ++ [32])]) (q := q52) (.bool (Lib.contains t (([32] ++ s) ++ [32]))) (by kernel_rfl) (by kernel_rfl) (by kernel_rfl) (by simp only [q52]; rw [if_pos (by omega)]) ?_
      refine WpM.run tab_ok 5 ⟨.done .ret, [], (.str t :: .str s :: U :: U :: .bool (Lib.contains t (([32] ++ s) ++ [32])) :: .str s :: .bool (!(s == [])) :: .bool true :: .str s :: .bool (Lib.contains s [32]) :: .bool (!(Lib.contains s [32])) :: .bool (!(Lib.contains s [32])) :: .bool true :: .str t :: .str s :: .str ([32] ++ s) :: .str (([32] ++ s) ++ [32]) :: .bool (Lib.contains t (([32] ++ s) ++ [32])) :: .bool (Lib.contains t (([32] ++ s) ++ [32])) :: []), [], H.empty, none⟩ (by kernel_rfl) ?_
      refine WpM.ret (.bool (Lib.contains t (([32] ++ s) ++ [32]))) H.empty (by kernel_rfl) (by kernel_rfl) ?_
      rw [← among_in h1]; simp only [(of_not_t c1), (of_not_t c2), Bool.true_and, Bool.false_and, Bool.and_true, Bool.and_false, Bool.or_false, Bool.false_or, Bool.true_or, Bool.or_true, Bool.not_true, Bool.not_false, List.cons_append, List.nil_append]
    · have c2p := not_f c2
      refine WpM.run tab_ok 10 ⟨.done .ret, [], (.str t :: .str s :: U :: U :: .bool false :: .str s :: .bool (!(s == [])) :: .bool true :: .str s :: .bool (Lib.contains s [32]) :: .bool (!(Lib.contains s [32])) :: .bool (!(Lib.contains s [32])) :: .bool false :: U :: U :: U :: U :: U :: .bool false :: []), [], H.empty, none⟩ (by kernel_rfl) ?_
      refine WpM.ret (.bool false) H.empty (by kernel_rfl) (by kernel_rfl) ?_
      rw [← among_in h1]; simp only [(of_not_t c1), (of_not_f c2), Bool.true_and, Bool.false_and, Bool.and_true, Bool.and_false, Bool.or_false, Bool.false_or, Bool.true_or, Bool.or_true, Bool.not_true, Bool.not_false, List.cons_append, List.nil_append]
  · have c1p := nbeq_f c1
    refine WpM.run tab_ok 15 ⟨.done .ret, [], (.str t :: .str s :: U :: U :: .bool false :: .str s :: .bool (!(s == [])) :: .bool false :: U :: U :: U :: .bool false :: .bool false :: U :: U :: U :: U :: U :: .bool false :: []), [], H.empty, none⟩ (by kernel_rfl) ?_
    refine WpM.ret (.bool false) H.empty (by kernel_rfl) (by kernel_rfl) ?_
    rw [← among_in h1]; simp only [(of_not_f c1), Bool.true_and, Bool.false_and, Bool.and_true, Bool.and_false, Bool.or_false, Bool.false_or, Bool.true_or, Bool.or_true, Bool.not_true, Bool.not_false, List.cons_append, List.nil_append]
def q53 (l : List V) : Option V :=
  match l with
  | [.str t, .str s] => if tableOk t = true ∧ t.length < 4294967281 ∧ s.length < 4294967281 then some (.bool (among s t)) else none
  | _ => none
def prim2 : FuncId → Option (List V → H → Option (V × H)) := setPrim prim1 53 q53
theorem prim2s (W : World) (hW : WOK W) : Prims Try.prog W prim2 := by
  refine Prims.add base (prim1s W hW) ⟨_, _, Try.func53, rfl⟩ ?_
  intro w _ args v h
  unfold q53 at h
  split at h
  · split at h
    · rename_i hc; injection h with h; subst h; exact ⟨by simp only [old_cons, old_nil, old_int, old_str, old_bool, old_agg, old_tup, old_nils, Bool.and_true, Bool.true_and, hc], by simp only [old_cons, old_nil, old_int, old_str, old_bool, old_agg, old_tup, old_nils, Bool.and_true, Bool.true_and, hc], vin_ok hc.1 hc.2.1 hc.2.2⟩
    · cases h
  · cases h
def q9 (l : List V) : Option V :=
  match l with
  | [] => some (.bool true)
  | _ => none
def prim3 : FuncId → Option (List V → H → Option (V × H)) := setPrim prim2 9 q9
theorem prim3s (W : World) (hW : WOK W) : Prims Try.prog W prim3 := by
  refine Prims.add base (prim2s W hW) ⟨_, _, Try.func9, rfl⟩ ?_
  intro w _ args v h
  unfold q9 at h
  split at h
  · injection h with h; subst h; exact ⟨by simp only [old_cons, old_nil, old_int, old_str, old_bool, old_agg, old_tup, old_nils, Bool.and_true, Bool.true_and], by simp only [old_cons, old_nil, old_int, old_str, old_bool, old_agg, old_tup, old_nils, Bool.and_true, Bool.true_and], WpF.found (n := 100) (by kernel_rfl)⟩
  · cases h
end Go.Proofs.Ytchffnfhfojkeaa.Dg
