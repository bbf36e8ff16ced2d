/-
 The document on numbers behind &#; letters and digits.
-/
import Derived.Test.YtkhjmgchlbnkjaaDoorE0
set_option linter.unusedVariables false
set_option linter.unusedSimpArgs false
namespace Go.Proofs.YtkhjmgchlbnkjaaDoor.Dg
open Go Go.RowKit
set_option maxRecDepth 20000
set_option maxHeartbeats 8000000
def o4_1 : List RO := [⟨none, some 4, .assign (.const (.bool false))⟩]
def x4_1 : RC := .ops o4_1
def o4_4 : List RO := [⟨none, some 11, .move (.tmp 0)⟩, ⟨none, some 12, .call ⟨.builtin .len, #[(.tmp 11)], #[9]⟩⟩, ⟨none, some 13, .binOp .gtr 3 (.tmp 12) (.const (.int .i64 (3000))) 3⟩]
def x4_4 : RC := .ops o4_4
def p4_7_0 : RO := ⟨none, some 14, .call ⟨.value (.func 10), #[], #[]⟩⟩
def o4_7 : List RO := [p4_7_0, ⟨none, some 4, .assign (.tmp 14)⟩]
def x4_7 : RC := .ops o4_7
def x4_6 : RC := .seq x4_7 .ret
def x4_5 : RC := .cond (.tmp 13) x4_6 .skip
def x4_3 : RC := .seq x4_4 x4_5
def p4_9_2 : RO := ⟨none, some 18, .call ⟨.value (.func 11), #[(.tmp 16), (.tmp 17)], #[9, 4]⟩⟩
def o4_9 : List RO := [⟨none, some 16, .move (.tmp 0)⟩, ⟨none, some 17, .move (.tmp 1)⟩, p4_9_2, ⟨none, some 15, .move (.tmp 18)⟩, ⟨none, some 19, .extract (.tmp 15) 0⟩, ⟨none, some 20, .extract (.tmp 15) 1⟩, ⟨none, some 21, .extract (.tmp 15) 2⟩, ⟨none, some 5, .assign (.tmp 19)⟩, ⟨none, some 6, .assign (.tmp 20)⟩, ⟨none, some 7, .assign (.tmp 21)⟩]
def x4_9 : RC := .ops o4_9
def p4_11_2 : RO := ⟨none, some 25, .call ⟨.value (.func 12), #[(.tmp 23), (.tmp 24)], #[9, 4]⟩⟩
def o4_11 : List RO := [⟨none, some 23, .move (.tmp 0)⟩, ⟨none, some 24, .move (.tmp 1)⟩, p4_11_2, ⟨none, some 22, .move (.tmp 25)⟩, ⟨none, some 26, .extract (.tmp 22) 0⟩, ⟨none, some 27, .extract (.tmp 22) 1⟩, ⟨none, some 28, .extract (.tmp 22) 2⟩, ⟨none, some 8, .assign (.tmp 26)⟩, ⟨none, some 9, .assign (.tmp 27)⟩, ⟨none, some 10, .assign (.tmp 28)⟩]
def x4_11 : RC := .ops o4_11
def p4_13_4 : RO := ⟨some (some 32, true), some 33, .move (.tmp 6)⟩
def p4_13_9 : RO := ⟨some (some 37, true), some 38, .move (.tmp 7)⟩
def p4_13_11 : RO := ⟨some (some 37, true), some 40, .call ⟨.value (.func 13), #[(.tmp 38), (.tmp 39)], #[26, 26]⟩⟩
def p4_13_14 : RO := ⟨some (some 42, true), some 43, .call ⟨.value (.func 10), #[], #[]⟩⟩
def o4_13 : List RO := [⟨none, some 29, .move (.tmp 5)⟩, ⟨none, some 30, .move (.tmp 8)⟩, ⟨none, some 31, .binOp .eql 3 (.tmp 29) (.tmp 30) 3⟩, ⟨none, some 32, .move (.tmp 31)⟩, p4_13_4, ⟨some (some 32, true), some 34, .move (.tmp 9)⟩, ⟨some (some 32, true), some 35, .binOp .eql 3 (.tmp 33) (.tmp 34) 3⟩, ⟨none, some 36, .pick (.tmp 32) (.tmp 35) (.const (.bool false))⟩, ⟨none, some 37, .move (.tmp 36)⟩, p4_13_9, ⟨some (some 37, true), some 39, .move (.tmp 10)⟩, p4_13_11, ⟨none, some 41, .pick (.tmp 37) (.tmp 40) (.const (.bool false))⟩, ⟨none, some 42, .move (.tmp 41)⟩, p4_13_14, ⟨none, some 44, .pick (.tmp 42) (.tmp 43) (.const (.bool false))⟩, ⟨none, some 4, .assign (.tmp 44)⟩]
def x4_13 : RC := .ops o4_13
def x4_12 : RC := .seq x4_13 .ret
def x4_10 : RC := .seq x4_11 x4_12
def x4_8 : RC := .seq x4_9 x4_10
def x4_2 : RC := .seq x4_3 x4_8
def x4_0 : RC := .seq x4_1 x4_2
theorem x4_eq : Tryd.f4.body.map rc = some x4_0 := by kernel_rfl
def o12_1 : List RO := [⟨none, some 4, .assign (.const (.int .i64 (0)))⟩, ⟨none, some 5, .assign (.const (.int .i64 (0)))⟩, ⟨none, some 6, .assign (.const (.slice none 0 0))⟩]
def x12_1 : RC := .ops o12_1
def p12_4_3 : RO := ⟨some (some 13, false), some 14, .move (.tmp 0)⟩
def p12_4_4 : RO := ⟨some (some 13, false), some 15, .index 9 (.tmp 14) (.const (.int .i64 (0)))⟩
def o12_4 : List RO := [⟨none, some 11, .move (.tmp 0)⟩, ⟨none, some 12, .binOp .eql 9 (.tmp 11) (.const (.string ⟨#[]⟩)) 9⟩, ⟨none, some 13, .move (.tmp 12)⟩, p12_4_3, p12_4_4, ⟨some (some 13, false), some 16, .binOp .neq 5 (.tmp 15) (.const (.int .u8 (38))) 5⟩, ⟨none, some 17, .pick (.tmp 13) (.const (.bool true)) (.tmp 16)⟩]
def x12_4 : RC := .ops o12_4
def o12_7 : List RO := [⟨none, some 4, .assign (.const (.int .i64 (0)))⟩, ⟨none, some 5, .assign (.const (.int .i64 (0)))⟩, ⟨none, some 6, .assign (.const (.slice none 0 0))⟩]
def x12_7 : RC := .ops o12_7
def x12_6 : RC := .seq x12_7 .ret
def x12_5 : RC := .cond (.tmp 17) x12_6 .skip
def x12_3 : RC := .seq x12_4 x12_5
def p12_10_4 : RO := ⟨some (some 21, true), some 22, .move (.tmp 0)⟩
def p12_10_5 : RO := ⟨some (some 21, true), some 23, .index 9 (.tmp 22) (.const (.int .i64 (1)))⟩
def o12_10 : List RO := [⟨none, some 18, .move (.tmp 0)⟩, ⟨none, some 19, .call ⟨.builtin .len, #[(.tmp 18)], #[9]⟩⟩, ⟨none, some 20, .binOp .gtr 3 (.tmp 19) (.const (.int .i64 (1))) 3⟩, ⟨none, some 21, .move (.tmp 20)⟩, p12_10_4, p12_10_5, ⟨some (some 21, true), some 24, .binOp .eql 5 (.tmp 23) (.const (.int .u8 (35))) 5⟩, ⟨none, some 25, .pick (.tmp 21) (.tmp 24) (.const (.bool false))⟩]
def x12_10 : RC := .ops o12_10
def p12_13_1 : RO := ⟨none, some 27, .call ⟨.value (.func 25), #[(.tmp 26)], #[9]⟩⟩
def o12_13 : List RO := [⟨none, some 26, .move (.tmp 0)⟩, p12_13_1, ⟨none, some 28, .extract (.tmp 27) 0⟩, ⟨none, some 29, .extract (.tmp 27) 1⟩, ⟨none, some 30, .extract (.tmp 27) 2⟩, ⟨none, some 4, .assign (.tmp 28)⟩, ⟨none, some 5, .assign (.tmp 29)⟩, ⟨none, some 6, .assign (.tmp 30)⟩]
def x12_13 : RC := .ops o12_13
def x12_12 : RC := .seq x12_13 .ret
def x12_11 : RC := .cond (.tmp 25) x12_12 .skip
def x12_9 : RC := .seq x12_10 x12_11
def p12_15_0 : RO := ⟨none, some 31, .call ⟨.value (.func 24), #[], #[]⟩⟩
def p12_15_1 : RO := ⟨none, some 32, .call ⟨.value (.func 26), #[(.tmp 31)], #[41]⟩⟩
def o12_15 : List RO := [p12_15_0, p12_15_1, ⟨none, some 7, .assign (.tmp 32)⟩]
def x12_15 : RC := .ops o12_15
def p12_17_2 : RO := ⟨none, some 36, .slice 9 (.tmp 35) (some (.const (.int .i64 (1)))) none none⟩
def p12_17_3 : RO := ⟨none, some 37, .call ⟨.value (.func 27), #[(.tmp 34), (.tmp 36)], #[41, 9]⟩⟩
def o12_17 : List RO := [⟨none, some 34, .move (.tmp 7)⟩, ⟨none, some 35, .move (.tmp 0)⟩, p12_17_2, p12_17_3, ⟨none, some 33, .move (.tmp 37)⟩, ⟨none, some 38, .extract (.tmp 33) 0⟩, ⟨none, some 39, .extract (.tmp 33) 1⟩, ⟨none, some 8, .assign (.tmp 38)⟩, ⟨none, some 9, .assign (.tmp 39)⟩]
def x12_17 : RC := .ops o12_17
def o12_20 : List RO := [⟨none, some 40, .move (.tmp 9)⟩, ⟨none, some 41, .binOp .eql 3 (.tmp 40) (.const (.int .i64 (0))) 3⟩]
def x12_20 : RC := .ops o12_20
def o12_23 : List RO := [⟨none, some 10, .assign (.const (.int .i64 (1)))⟩]
def x12_23 : RC := .ops o12_23
def p12_29_5 : RO := ⟨some (some 46, true), some 47, .move (.tmp 0)⟩
def p12_29_7 : RO := ⟨some (some 46, true), some 49, .index 9 (.tmp 47) (.tmp 48)⟩
def p12_29_8 : RO := ⟨some (some 46, true), some 50, .call ⟨.value (.func 28), #[(.tmp 49)], #[5]⟩⟩
def p12_29_11 : RO := ⟨some (some 52, true), some 53, .move (.tmp 7)⟩
def p12_29_14 : RO := ⟨some (some 52, true), some 56, .binOp .add 3 (.tmp 55) (.const (.int .i64 (1))) 3⟩
def p12_29_15 : RO := ⟨some (some 52, true), some 57, .slice 9 (.tmp 54) (some (.const (.int .i64 (1)))) (some (.tmp 56)) none⟩
def p12_29_16 : RO := ⟨some (some 52, true), some 58, .call ⟨.value (.func 29), #[(.tmp 53), (.tmp 57)], #[41, 9]⟩⟩
def o12_29 : List RO := [⟨none, some 42, .move (.tmp 10)⟩, ⟨none, some 43, .move (.tmp 0)⟩, ⟨none, some 44, .call ⟨.builtin .len, #[(.tmp 43)], #[9]⟩⟩, ⟨none, some 45, .binOp .lss 3 (.tmp 42) (.tmp 44) 3⟩, ⟨none, some 46, .move (.tmp 45)⟩, p12_29_5, ⟨some (some 46, true), some 48, .move (.tmp 10)⟩, p12_29_7, p12_29_8, ⟨none, some 51, .pick (.tmp 46) (.tmp 50) (.const (.bool false))⟩, ⟨none, some 52, .move (.tmp 51)⟩, p12_29_11, ⟨some (some 52, true), some 54, .move (.tmp 0)⟩, ⟨some (some 52, true), some 55, .move (.tmp 10)⟩, p12_29_14, p12_29_15, p12_29_16, ⟨none, some 59, .pick (.tmp 52) (.tmp 58) (.const (.bool false))⟩]
def x12_29 : RC := .ops o12_29
def x12_30 : RC := .cond (.tmp 59) .skip (.exit 0)
def x12_28 : RC := .seq x12_29 x12_30
def p12_32_1 : RO := ⟨none, some 61, .binOp .add 3 (.tmp 60) (.const (.int .i64 (1))) 3⟩
def o12_32 : List RO := [⟨none, some 60, .move (.tmp 10)⟩, p12_32_1, ⟨none, some 10, .assign (.tmp 61)⟩]
def x12_32 : RC := .ops o12_32
def x12_31 : RC := .block 1 x12_32
def x12_27 : RC := .seq x12_28 x12_31
def x12_26 : RC := .loop x12_27
def x12_25 : RC := .block 0 x12_26
def p12_35_3 : RO := ⟨some (some 64, true), some 65, .move (.tmp 10)⟩
def p12_35_9 : RO := ⟨some (some 70, true), some 71, .move (.tmp 0)⟩
def p12_35_11 : RO := ⟨some (some 70, true), some 73, .index 9 (.tmp 71) (.tmp 72)⟩
def o12_35 : List RO := [⟨none, some 62, .move (.tmp 10)⟩, ⟨none, some 63, .binOp .gtr 3 (.tmp 62) (.const (.int .i64 (1))) 3⟩, ⟨none, some 64, .move (.tmp 63)⟩, p12_35_3, ⟨some (some 64, true), some 66, .move (.tmp 0)⟩, ⟨some (some 64, true), some 67, .call ⟨.builtin .len, #[(.tmp 66)], #[9]⟩⟩, ⟨some (some 64, true), some 68, .binOp .lss 3 (.tmp 65) (.tmp 67) 3⟩, ⟨none, some 69, .pick (.tmp 64) (.tmp 68) (.const (.bool false))⟩, ⟨none, some 70, .move (.tmp 69)⟩, p12_35_9, ⟨some (some 70, true), some 72, .move (.tmp 10)⟩, p12_35_11, ⟨some (some 70, true), some 74, .binOp .eql 5 (.tmp 73) (.const (.int .u8 (59))) 5⟩, ⟨none, some 75, .pick (.tmp 70) (.tmp 74) (.const (.bool false))⟩]
def x12_35 : RC := .ops o12_35
def p12_38_0 : RO := ⟨none, some 76, .buildSlice 26 1 #[(0, (.const (.int .i64 (19))))]⟩
def o12_38 : List RO := [p12_38_0, ⟨none, some 4, .assign (.const (.int .i64 (0)))⟩, ⟨none, some 5, .assign (.const (.int .i64 (0)))⟩, ⟨none, some 6, .assign (.tmp 76)⟩]
def x12_38 : RC := .ops o12_38
def x12_37 : RC := .seq x12_38 .ret
def x12_36 : RC := .cond (.tmp 75) x12_37 .skip
def x12_34 : RC := .seq x12_35 x12_36
def o12_40 : List RO := [⟨none, some 4, .assign (.const (.int .i64 (0)))⟩, ⟨none, some 5, .assign (.const (.int .i64 (0)))⟩, ⟨none, some 6, .assign (.const (.slice none 0 0))⟩]
def x12_40 : RC := .ops o12_40
def x12_39 : RC := .seq x12_40 .ret
def x12_33 : RC := .seq x12_34 x12_39
def x12_24 : RC := .seq x12_25 x12_33
def x12_22 : RC := .seq x12_23 x12_24
def x12_21 : RC := .cond (.tmp 41) x12_22 .skip
def x12_19 : RC := .seq x12_20 x12_21
def p12_43_2 : RO := ⟨none, some 79, .index 9 (.tmp 77) (.tmp 78)⟩
def o12_43 : List RO := [⟨none, some 77, .move (.tmp 0)⟩, ⟨none, some 78, .move (.tmp 9)⟩, p12_43_2, ⟨none, some 80, .binOp .eql 5 (.tmp 79) (.const (.int .u8 (59))) 5⟩]
def x12_43 : RC := .ops o12_43
def p12_46_2 : RO := ⟨none, some 83, .binOp .add 3 (.tmp 82) (.const (.int .i64 (1))) 3⟩
def o12_46 : List RO := [⟨none, some 81, .move (.tmp 8)⟩, ⟨none, some 82, .move (.tmp 9)⟩, p12_46_2, ⟨none, some 4, .assign (.tmp 81)⟩, ⟨none, some 5, .assign (.tmp 83)⟩, ⟨none, some 6, .assign (.const (.slice none 0 0))⟩]
def x12_46 : RC := .ops o12_46
def x12_45 : RC := .seq x12_46 .ret
def x12_44 : RC := .cond (.tmp 80) x12_45 .skip
def x12_42 : RC := .seq x12_43 x12_44
def p12_49_2 : RO := ⟨some (some 85, true), some 86, .move (.tmp 9)⟩
def p12_49_3 : RO := ⟨some (some 85, true), some 87, .binOp .add 3 (.tmp 86) (.const (.int .i64 (1))) 3⟩
def p12_49_9 : RO := ⟨some (some 92, true), some 93, .move (.tmp 0)⟩
def p12_49_11 : RO := ⟨some (some 92, true), some 95, .binOp .add 3 (.tmp 94) (.const (.int .i64 (1))) 3⟩
def p12_49_12 : RO := ⟨some (some 92, true), some 96, .index 9 (.tmp 93) (.tmp 95)⟩
def p12_49_15 : RO := ⟨some (some 98, false), some 99, .move (.tmp 0)⟩
def p12_49_17 : RO := ⟨some (some 98, false), some 101, .binOp .add 3 (.tmp 100) (.const (.int .i64 (1))) 3⟩
def p12_49_18 : RO := ⟨some (some 98, false), some 102, .index 9 (.tmp 99) (.tmp 101)⟩
def p12_49_19 : RO := ⟨some (some 98, false), some 103, .call ⟨.value (.func 28), #[(.tmp 102)], #[5]⟩⟩
def o12_49 : List RO := [⟨none, some 84, .move (.tmp 1)⟩, ⟨none, some 85, .move (.tmp 84)⟩, p12_49_2, p12_49_3, ⟨some (some 85, true), some 88, .move (.tmp 0)⟩, ⟨some (some 85, true), some 89, .call ⟨.builtin .len, #[(.tmp 88)], #[9]⟩⟩, ⟨some (some 85, true), some 90, .binOp .lss 3 (.tmp 87) (.tmp 89) 3⟩, ⟨none, some 91, .pick (.tmp 85) (.tmp 90) (.const (.bool false))⟩, ⟨none, some 92, .move (.tmp 91)⟩, p12_49_9, ⟨some (some 92, true), some 94, .move (.tmp 9)⟩, p12_49_11, p12_49_12, ⟨some (some 92, true), some 97, .binOp .eql 5 (.tmp 96) (.const (.int .u8 (61))) 5⟩, ⟨some (some 92, true), some 98, .move (.tmp 97)⟩, p12_49_15, ⟨some (some 98, false), some 100, .move (.tmp 9)⟩, p12_49_17, p12_49_18, p12_49_19, ⟨some (some 92, true), some 104, .pick (.tmp 98) (.const (.bool true)) (.tmp 103)⟩, ⟨none, some 105, .pick (.tmp 92) (.tmp 104) (.const (.bool false))⟩]
def x12_49 : RC := .ops o12_49
def o12_52 : List RO := [⟨none, some 4, .assign (.const (.int .i64 (0)))⟩, ⟨none, some 5, .assign (.const (.int .i64 (0)))⟩, ⟨none, some 6, .assign (.const (.slice none 0 0))⟩]
def x12_52 : RC := .ops o12_52
def x12_51 : RC := .seq x12_52 .ret
def x12_50 : RC := .cond (.tmp 105) x12_51 .skip
def x12_48 : RC := .seq x12_49 x12_50
def p12_54_2 : RO := ⟨none, some 108, .binOp .add 3 (.tmp 107) (.const (.int .i64 (1))) 3⟩
def p12_54_3 : RO := ⟨none, some 109, .buildSlice 26 1 #[(0, (.const (.int .i64 (18))))]⟩
def o12_54 : List RO := [⟨none, some 106, .move (.tmp 8)⟩, ⟨none, some 107, .move (.tmp 9)⟩, p12_54_2, p12_54_3, ⟨none, some 4, .assign (.tmp 106)⟩, ⟨none, some 5, .assign (.tmp 108)⟩, ⟨none, some 6, .assign (.tmp 109)⟩]
def x12_54 : RC := .ops o12_54
def x12_53 : RC := .seq x12_54 .ret
def x12_47 : RC := .seq x12_48 x12_53
def x12_41 : RC := .seq x12_42 x12_47
def x12_18 : RC := .seq x12_19 x12_41
def x12_16 : RC := .seq x12_17 x12_18
def x12_14 : RC := .seq x12_15 x12_16
def x12_8 : RC := .seq x12_9 x12_14
def x12_2 : RC := .seq x12_3 x12_8
def x12_0 : RC := .seq x12_1 x12_2
theorem x12_eq : Tryd.f12.body.map rc = some x12_0 := by kernel_rfl
def o13_1 : List RO := [⟨none, some 4, .assign (.const (.bool false))⟩]
def x13_1 : RC := .ops o13_1
def o13_4 : List RO := [⟨none, some 6, .move (.tmp 0)⟩, ⟨none, some 7, .call ⟨.builtin .len, #[(.tmp 6)], #[26]⟩⟩, ⟨none, some 8, .move (.tmp 1)⟩, ⟨none, some 9, .call ⟨.builtin .len, #[(.tmp 8)], #[26]⟩⟩, ⟨none, some 10, .binOp .neq 3 (.tmp 7) (.tmp 9) 3⟩]
def x13_4 : RC := .ops o13_4
def o13_7 : List RO := [⟨none, some 4, .assign (.const (.bool false))⟩]
def x13_7 : RC := .ops o13_7
def x13_6 : RC := .seq x13_7 .ret
def x13_5 : RC := .cond (.tmp 10) x13_6 .skip
def x13_3 : RC := .seq x13_4 x13_5
def o13_10 : List RO := [⟨none, some 5, .assign (.const (.int .i64 (0)))⟩]
def x13_10 : RC := .ops o13_10
def o13_15 : List RO := [⟨none, some 11, .move (.tmp 5)⟩, ⟨none, some 12, .move (.tmp 0)⟩, ⟨none, some 13, .call ⟨.builtin .len, #[(.tmp 12)], #[26]⟩⟩, ⟨none, some 14, .binOp .lss 3 (.tmp 11) (.tmp 13) 3⟩]
def x13_15 : RC := .ops o13_15
def x13_16 : RC := .cond (.tmp 14) .skip (.exit 0)
def x13_14 : RC := .seq x13_15 x13_16
def p13_20_2 : RO := ⟨none, some 19, .indexAddr 26 (.tmp 17) (.tmp 18)⟩
def p13_20_3 : RO := ⟨none, some 20, .load 3 (.tmp 19)⟩
def p13_20_6 : RO := ⟨none, some 23, .indexAddr 26 (.tmp 21) (.tmp 22)⟩
def p13_20_7 : RO := ⟨none, some 24, .load 3 (.tmp 23)⟩
def o13_20 : List (Nat × RO) := [(0, ⟨none, some 17, .move (.tmp 0)⟩), (1, ⟨none, some 18, .move (.tmp 5)⟩), (2, p13_20_2), (3, p13_20_3), (4, ⟨none, some 21, .move (.tmp 1)⟩), (5, ⟨none, some 22, .move (.tmp 5)⟩), (6, p13_20_6), (7, p13_20_7), (8, ⟨none, some 25, .binOp .neq 3 (.tmp 20) (.tmp 24) 3⟩)]
def m13_20 : List Nat := [0, 0, 3, 7, 0, 0, 48, 112, 255]
def x13_20 : RC := .draw o13_20 m13_20
def o13_23 : List RO := [⟨none, some 4, .assign (.const (.bool false))⟩]
def x13_23 : RC := .ops o13_23
def x13_22 : RC := .seq x13_23 .ret
def x13_21 : RC := .cond (.tmp 25) x13_22 .skip
def x13_19 : RC := .seq x13_20 x13_21
def x13_18 : RC := .block 1 x13_19
def p13_24_1 : RO := ⟨none, some 16, .binOp .add 3 (.tmp 15) (.const (.int .i64 (1))) 3⟩
def o13_24 : List RO := [⟨none, some 15, .move (.tmp 5)⟩, p13_24_1, ⟨none, some 5, .assign (.tmp 16)⟩]
def x13_24 : RC := .ops o13_24
def x13_17 : RC := .seq x13_18 x13_24
def x13_13 : RC := .seq x13_14 x13_17
def x13_12 : RC := .loop x13_13
def x13_11 : RC := .block 0 x13_12
def x13_9 : RC := .seq x13_10 x13_11
def o13_26 : List RO := [⟨none, some 4, .assign (.const (.bool true))⟩]
def x13_26 : RC := .ops o13_26
def x13_25 : RC := .seq x13_26 .ret
def x13_8 : RC := .seq x13_9 x13_25
def x13_2 : RC := .seq x13_3 x13_8
def x13_0 : RC := .seq x13_1 x13_2
theorem x13_eq : Tryd.f13.body.map rc = some x13_0 := by kernel_rfl
def o25_1 : List RO := [⟨none, some 2, .assign (.const (.int .i64 (0)))⟩, ⟨none, some 3, .assign (.const (.int .i64 (0)))⟩, ⟨none, some 4, .assign (.const (.slice none 0 0))⟩]
def x25_1 : RC := .ops o25_1
def o25_3 : List RO := [⟨none, some 5, .assign (.const (.int .i64 (2)))⟩]
def x25_3 : RC := .ops o25_3
def p25_5_4 : RO := ⟨some (some 16, true), some 17, .move (.tmp 0)⟩
def p25_5_5 : RO := ⟨some (some 16, true), some 18, .index 9 (.tmp 17) (.const (.int .i64 (2)))⟩
def p25_5_8 : RO := ⟨some (some 20, false), some 21, .move (.tmp 0)⟩
def p25_5_9 : RO := ⟨some (some 20, false), some 22, .index 9 (.tmp 21) (.const (.int .i64 (2)))⟩
def o25_5 : List RO := [⟨none, some 13, .move (.tmp 0)⟩, ⟨none, some 14, .call ⟨.builtin .len, #[(.tmp 13)], #[9]⟩⟩, ⟨none, some 15, .binOp .gtr 3 (.tmp 14) (.const (.int .i64 (2))) 3⟩, ⟨none, some 16, .move (.tmp 15)⟩, p25_5_4, p25_5_5, ⟨some (some 16, true), some 19, .binOp .eql 5 (.tmp 18) (.const (.int .u8 (120))) 5⟩, ⟨some (some 16, true), some 20, .move (.tmp 19)⟩, p25_5_8, p25_5_9, ⟨some (some 20, false), some 23, .binOp .eql 5 (.tmp 22) (.const (.int .u8 (88))) 5⟩, ⟨some (some 16, true), some 24, .pick (.tmp 20) (.const (.bool true)) (.tmp 23)⟩, ⟨none, some 25, .pick (.tmp 16) (.tmp 24) (.const (.bool false))⟩, ⟨none, some 6, .assign (.tmp 25)⟩]
def x25_5 : RC := .ops o25_5
def o25_7 : List RO := [⟨none, some 7, .assign (.const (.int .i64 (10)))⟩]
def x25_7 : RC := .ops o25_7
def o25_10 : List RO := [⟨none, some 26, .move (.tmp 6)⟩]
def x25_10 : RC := .ops o25_10
def o25_12 : List RO := [⟨none, some 5, .assign (.const (.int .i64 (3)))⟩, ⟨none, some 7, .assign (.const (.int .i64 (16)))⟩]
def x25_12 : RC := .ops o25_12
def x25_11 : RC := .cond (.tmp 26) x25_12 .skip
def x25_9 : RC := .seq x25_10 x25_11
def o25_14 : List RO := [⟨none, some 27, .move (.tmp 5)⟩, ⟨none, some 8, .assign (.tmp 27)⟩, ⟨none, some 9, .assign (.const (.int .i64 (0)))⟩]
def x25_14 : RC := .ops o25_14
def p25_20_5 : RO := ⟨some (some 32, true), some 33, .move (.tmp 0)⟩
def p25_20_7 : RO := ⟨some (some 32, true), some 35, .index 9 (.tmp 33) (.tmp 34)⟩
def p25_20_9 : RO := ⟨some (some 32, true), some 37, .call ⟨.value (.func 43), #[(.tmp 35), (.tmp 36)], #[5, 4]⟩⟩
def o25_20 : List RO := [⟨none, some 28, .move (.tmp 5)⟩, ⟨none, some 29, .move (.tmp 0)⟩, ⟨none, some 30, .call ⟨.builtin .len, #[(.tmp 29)], #[9]⟩⟩, ⟨none, some 31, .binOp .lss 3 (.tmp 28) (.tmp 30) 3⟩, ⟨none, some 32, .move (.tmp 31)⟩, p25_20_5, ⟨some (some 32, true), some 34, .move (.tmp 5)⟩, p25_20_7, ⟨some (some 32, true), some 36, .move (.tmp 6)⟩, p25_20_9, ⟨some (some 32, true), some 38, .binOp .geq 3 (.tmp 37) (.const (.int .i64 (0))) 3⟩, ⟨none, some 39, .pick (.tmp 32) (.tmp 38) (.const (.bool false))⟩]
def x25_20 : RC := .ops o25_20
def x25_21 : RC := .cond (.tmp 39) .skip (.exit 0)
def x25_19 : RC := .seq x25_20 x25_21
def p25_24_2 : RO := ⟨none, some 42, .binOp .mul 3 (.tmp 40) (.tmp 41) 3⟩
def p25_24_5 : RO := ⟨none, some 45, .index 9 (.tmp 43) (.tmp 44)⟩
def p25_24_7 : RO := ⟨none, some 47, .call ⟨.value (.func 43), #[(.tmp 45), (.tmp 46)], #[5, 4]⟩⟩
def p25_24_8 : RO := ⟨none, some 48, .binOp .add 3 (.tmp 42) (.tmp 47) 3⟩
def o25_24 : List RO := [⟨none, some 40, .move (.tmp 7)⟩, ⟨none, some 41, .move (.tmp 9)⟩, p25_24_2, ⟨none, some 43, .move (.tmp 0)⟩, ⟨none, some 44, .move (.tmp 5)⟩, p25_24_5, ⟨none, some 46, .move (.tmp 6)⟩, p25_24_7, p25_24_8, ⟨none, some 49, .call ⟨.builtin .min, #[(.tmp 48), (.const (.int .i64 (16777216)))], #[3, 3]⟩⟩, ⟨none, some 9, .assign (.tmp 49)⟩]
def x25_24 : RC := .ops o25_24
def p25_25_1 : RO := ⟨none, some 51, .binOp .add 3 (.tmp 50) (.const (.int .i64 (1))) 3⟩
def o25_25 : List RO := [⟨none, some 50, .move (.tmp 5)⟩, p25_25_1, ⟨none, some 5, .assign (.tmp 51)⟩]
def x25_25 : RC := .ops o25_25
def x25_23 : RC := .seq x25_24 x25_25
def x25_22 : RC := .block 1 x25_23
def x25_18 : RC := .seq x25_19 x25_22
def x25_17 : RC := .loop x25_18
def x25_16 : RC := .block 0 x25_17
def o25_28 : List RO := [⟨none, some 52, .move (.tmp 5)⟩, ⟨none, some 53, .move (.tmp 8)⟩, ⟨none, some 54, .binOp .eql 3 (.tmp 52) (.tmp 53) 3⟩]
def x25_28 : RC := .ops o25_28
def p25_31_0 : RO := ⟨none, some 55, .buildSlice 26 1 #[(0, (.const (.int .i64 (20))))]⟩
def o25_31 : List RO := [p25_31_0, ⟨none, some 2, .assign (.const (.int .i64 (0)))⟩, ⟨none, some 3, .assign (.const (.int .i64 (0)))⟩, ⟨none, some 4, .assign (.tmp 55)⟩]
def x25_31 : RC := .ops o25_31
def x25_30 : RC := .seq x25_31 .ret
def x25_29 : RC := .cond (.tmp 54) x25_30 .skip
def x25_27 : RC := .seq x25_28 x25_29
def o25_33 : List RO := [⟨none, some 10, .assign (.const (.slice none 0 0))⟩]
def x25_33 : RC := .ops o25_33
def p25_35_1 : RO := ⟨none, some 58, .call ⟨.value (.func 9), #[(.tmp 57)], #[3]⟩⟩
def o25_35 : List RO := [⟨none, some 57, .move (.tmp 9)⟩, p25_35_1, ⟨none, some 56, .move (.tmp 58)⟩, ⟨none, some 59, .extract (.tmp 56) 0⟩, ⟨none, some 60, .extract (.tmp 56) 1⟩, ⟨none, some 11, .assign (.tmp 59)⟩, ⟨none, some 12, .assign (.tmp 60)⟩]
def x25_35 : RC := .ops o25_35
def o25_38 : List RO := [⟨none, some 61, .move (.tmp 12)⟩, ⟨none, some 62, .binOp .neq 3 (.tmp 61) (.const (.int .i64 (0))) 3⟩]
def x25_38 : RC := .ops o25_38
def p25_40_2 : RO := ⟨none, some 65, .buildSlice 26 1 #[(0, (.tmp 64))]⟩
def p25_40_3 : RO := ⟨none, some 66, .call ⟨.builtin .append, #[(.tmp 63), (.tmp 65)], #[26, 26]⟩⟩
def o25_40 : List RO := [⟨none, some 63, .move (.tmp 10)⟩, ⟨none, some 64, .move (.tmp 12)⟩, p25_40_2, p25_40_3, ⟨none, some 10, .assign (.tmp 66)⟩]
def x25_40 : RC := .ops o25_40
def x25_39 : RC := .cond (.tmp 62) x25_40 .skip
def x25_37 : RC := .seq x25_38 x25_39
def p25_43_5 : RO := ⟨some (some 71, true), some 72, .move (.tmp 0)⟩
def p25_43_7 : RO := ⟨some (some 71, true), some 74, .index 9 (.tmp 72) (.tmp 73)⟩
def o25_43 : List RO := [⟨none, some 67, .move (.tmp 5)⟩, ⟨none, some 68, .move (.tmp 0)⟩, ⟨none, some 69, .call ⟨.builtin .len, #[(.tmp 68)], #[9]⟩⟩, ⟨none, some 70, .binOp .lss 3 (.tmp 67) (.tmp 69) 3⟩, ⟨none, some 71, .move (.tmp 70)⟩, p25_43_5, ⟨some (some 71, true), some 73, .move (.tmp 5)⟩, p25_43_7, ⟨some (some 71, true), some 75, .binOp .eql 5 (.tmp 74) (.const (.int .u8 (59))) 5⟩, ⟨none, some 76, .pick (.tmp 71) (.tmp 75) (.const (.bool false))⟩]
def x25_43 : RC := .ops o25_43
def p25_46_2 : RO := ⟨none, some 79, .binOp .add 3 (.tmp 78) (.const (.int .i64 (1))) 3⟩
def o25_46 : List RO := [⟨none, some 77, .move (.tmp 11)⟩, ⟨none, some 78, .move (.tmp 5)⟩, p25_46_2, ⟨none, some 80, .move (.tmp 10)⟩, ⟨none, some 2, .assign (.tmp 77)⟩, ⟨none, some 3, .assign (.tmp 79)⟩, ⟨none, some 4, .assign (.tmp 80)⟩]
def x25_46 : RC := .ops o25_46
def x25_45 : RC := .seq x25_46 .ret
def x25_44 : RC := .cond (.tmp 76) x25_45 .skip
def x25_42 : RC := .seq x25_43 x25_44
def p25_48_3 : RO := ⟨none, some 84, .buildSlice 26 1 #[(0, (.const (.int .i64 (18))))]⟩
def p25_48_4 : RO := ⟨none, some 85, .call ⟨.builtin .append, #[(.tmp 83), (.tmp 84)], #[26, 26]⟩⟩
def o25_48 : List RO := [⟨none, some 81, .move (.tmp 11)⟩, ⟨none, some 82, .move (.tmp 5)⟩, ⟨none, some 83, .move (.tmp 10)⟩, p25_48_3, p25_48_4, ⟨none, some 2, .assign (.tmp 81)⟩, ⟨none, some 3, .assign (.tmp 82)⟩, ⟨none, some 4, .assign (.tmp 85)⟩]
def x25_48 : RC := .ops o25_48
def x25_47 : RC := .seq x25_48 .ret
def x25_41 : RC := .seq x25_42 x25_47
def x25_36 : RC := .seq x25_37 x25_41
def x25_34 : RC := .seq x25_35 x25_36
def x25_32 : RC := .seq x25_33 x25_34
def x25_26 : RC := .seq x25_27 x25_32
def x25_15 : RC := .seq x25_16 x25_26
def x25_13 : RC := .seq x25_14 x25_15
def x25_8 : RC := .seq x25_9 x25_13
def x25_6 : RC := .seq x25_7 x25_8
def x25_4 : RC := .seq x25_5 x25_6
def x25_2 : RC := .seq x25_3 x25_4
def x25_0 : RC := .seq x25_1 x25_2
theorem x25_eq : Tryd.f25.body.map rc = some x25_0 := by kernel_rfl
def o26_1 : List RO := [⟨none, some 2, .assign (.const (.slice none 0 0))⟩]
def x26_1 : RC := .ops o26_1
def o26_3 : List RO := [⟨none, some 3, .assign (.const (.slice none 0 0))⟩]
def x26_3 : RC := .ops o26_3
def o26_6 : List RO := [⟨none, some 4, .assign (.const (.int .i64 (0)))⟩]
def x26_6 : RC := .ops o26_6
def o26_11 : List RO := [⟨none, some 6, .move (.tmp 4)⟩, ⟨none, some 7, .move (.tmp 0)⟩, ⟨none, some 8, .call ⟨.builtin .len, #[(.tmp 7)], #[41]⟩⟩, ⟨none, some 9, .binOp .lss 3 (.tmp 6) (.tmp 8) 3⟩]
def x26_11 : RC := .ops o26_11
def x26_12 : RC := .cond (.tmp 9) .skip (.exit 0)
def x26_10 : RC := .seq x26_11 x26_12
def p26_17_2 : RO := ⟨none, some 14, .indexAddr 41 (.tmp 12) (.tmp 13)⟩
def p26_17_4 : RO := ⟨none, some 16, .load 9 (.tmp 15)⟩
def p26_17_7 : RO := ⟨some (some 18, false), some 19, .move (.tmp 0)⟩
def p26_17_9 : RO := ⟨some (some 18, false), some 21, .indexAddr 41 (.tmp 19) (.tmp 20)⟩
def p26_17_11 : RO := ⟨some (some 18, false), some 23, .load 9 (.tmp 22)⟩
def o26_17 : List RO := [⟨none, some 12, .move (.tmp 0)⟩, ⟨none, some 13, .move (.tmp 4)⟩, p26_17_2, ⟨none, some 15, .fieldAddr 74 (.tmp 14) 0⟩, p26_17_4, ⟨none, some 17, .binOp .eql 9 (.tmp 16) (.const (.string ⟨#[]⟩)) 9⟩, ⟨none, some 18, .move (.tmp 17)⟩, p26_17_7, ⟨some (some 18, false), some 20, .move (.tmp 4)⟩, p26_17_9, ⟨some (some 18, false), some 22, .fieldAddr 74 (.tmp 21) 0⟩, p26_17_11, ⟨some (some 18, false), some 24, .call ⟨.builtin .len, #[(.tmp 23)], #[9]⟩⟩, ⟨some (some 18, false), some 25, .binOp .gtr 3 (.tmp 24) (.const (.int .i64 (8))) 3⟩, ⟨none, some 26, .pick (.tmp 18) (.const (.bool true)) (.tmp 25)⟩]
def x26_17 : RC := .ops o26_17
def x26_18 : RC := .cond (.tmp 26) (.exit 1) .skip
def x26_16 : RC := .seq x26_17 x26_18
def o26_20 : List RO := [⟨none, some 5, .assign (.const (.int .i64 (0)))⟩]
def x26_20 : RC := .ops o26_20
def p26_26_5 : RO := ⟨some (some 31, true), some 32, .move (.tmp 3)⟩
def p26_26_7 : RO := ⟨some (some 31, true), some 34, .indexAddr 41 (.tmp 32) (.tmp 33)⟩
def p26_26_9 : RO := ⟨some (some 31, true), some 36, .load 9 (.tmp 35)⟩
def p26_26_12 : RO := ⟨some (some 31, true), some 39, .indexAddr 41 (.tmp 37) (.tmp 38)⟩
def p26_26_14 : RO := ⟨some (some 31, true), some 41, .load 9 (.tmp 40)⟩
def o26_26 : List (Nat × RO) := [(0, ⟨none, some 27, .move (.tmp 5)⟩), (1, ⟨none, some 28, .move (.tmp 3)⟩), (2, ⟨none, some 29, .call ⟨.builtin .len, #[(.tmp 28)], #[41]⟩⟩), (3, ⟨none, some 30, .binOp .lss 3 (.tmp 27) (.tmp 29) 3⟩), (4, ⟨none, some 31, .move (.tmp 30)⟩), (5, p26_26_5), (6, ⟨some (some 31, true), some 33, .move (.tmp 5)⟩), (7, p26_26_7), (8, ⟨some (some 31, true), some 35, .fieldAddr 74 (.tmp 34) 0⟩), (9, p26_26_9), (10, ⟨some (some 31, true), some 37, .move (.tmp 0)⟩), (11, ⟨some (some 31, true), some 38, .move (.tmp 4)⟩), (12, p26_26_12), (13, ⟨some (some 31, true), some 40, .fieldAddr 74 (.tmp 39) 0⟩), (14, p26_26_14), (15, ⟨some (some 31, true), some 42, .binOp .lss 9 (.tmp 36) (.tmp 41) 9⟩), (16, ⟨none, some 43, .pick (.tmp 31) (.tmp 42) (.const (.bool false))⟩)]
def m26_26 : List Nat := [0, 0, 2, 7, 15, 31, 31, 127, 255, 511, 31, 31, 3103, 7199, 15391, 32767, 65535]
def x26_26 : RC := .draw o26_26 m26_26
def x26_27 : RC := .cond (.tmp 43) .skip (.exit 2)
def x26_25 : RC := .seq x26_26 x26_27
def p26_29_1 : RO := ⟨none, some 45, .binOp .add 3 (.tmp 44) (.const (.int .i64 (1))) 3⟩
def o26_29 : List RO := [⟨none, some 44, .move (.tmp 5)⟩, p26_29_1, ⟨none, some 5, .assign (.tmp 45)⟩]
def x26_29 : RC := .ops o26_29
def x26_28 : RC := .block 3 x26_29
def x26_24 : RC := .seq x26_25 x26_28
def x26_23 : RC := .loop x26_24
def x26_22 : RC := .block 2 x26_23
def p26_32_5 : RO := ⟨some (some 50, true), some 51, .move (.tmp 3)⟩
def o26_32 : List (Nat × RO) := [(0, ⟨none, some 46, .move (.tmp 5)⟩), (1, ⟨none, some 47, .move (.tmp 3)⟩), (2, ⟨none, some 48, .call ⟨.builtin .len, #[(.tmp 47)], #[41]⟩⟩), (3, ⟨none, some 49, .binOp .lss 3 (.tmp 46) (.tmp 48) 3⟩), (4, ⟨none, some 50, .move (.tmp 49)⟩), (5, p26_32_5), (6, ⟨some (some 50, true), some 52, .move (.tmp 5)⟩), (7, ⟨some (some 50, true), some 53, .indexAddr 41 (.tmp 51) (.tmp 52)⟩), (8, ⟨some (some 50, true), some 54, .fieldAddr 74 (.tmp 53) 0⟩), (9, ⟨some (some 50, true), some 55, .load 9 (.tmp 54)⟩), (10, ⟨some (some 50, true), some 56, .move (.tmp 0)⟩), (11, ⟨some (some 50, true), some 57, .move (.tmp 4)⟩), (12, ⟨some (some 50, true), some 58, .indexAddr 41 (.tmp 56) (.tmp 57)⟩), (13, ⟨some (some 50, true), some 59, .fieldAddr 74 (.tmp 58) 0⟩), (14, ⟨some (some 50, true), some 60, .load 9 (.tmp 59)⟩), (15, ⟨some (some 50, true), some 61, .binOp .eql 9 (.tmp 55) (.tmp 60) 9⟩), (16, ⟨none, some 62, .pick (.tmp 50) (.tmp 61) (.const (.bool false))⟩)]
def m26_32 : List Nat := [0, 0, 2, 7, 15, 31, 31, 127, 255, 511, 31, 31, 3103, 7199, 15391, 32767, 65535]
def x26_32 : RC := .draw o26_32 m26_32
def x26_33 : RC := .cond (.tmp 62) (.exit 1) .skip
def x26_31 : RC := .seq x26_32 x26_33
def p26_34_2 : RO := ⟨none, some 65, .slice 41 (.tmp 63) none (some (.tmp 64)) none⟩
def p26_34_3 : RO := ⟨none, some 66, .call ⟨.builtin .append, #[(.const (.slice none 0 0)), (.tmp 65)], #[41, 41]⟩⟩
def p26_34_6 : RO := ⟨none, some 69, .indexAddr 41 (.tmp 67) (.tmp 68)⟩
def p26_34_7 : RO := ⟨none, some 70, .load 74 (.tmp 69)⟩
def p26_34_8 : RO := ⟨none, some 71, .buildSlice 41 1 #[(0, (.tmp 70))]⟩
def p26_34_9 : RO := ⟨none, some 72, .call ⟨.builtin .append, #[(.tmp 66), (.tmp 71)], #[41, 41]⟩⟩
def p26_34_12 : RO := ⟨none, some 75, .slice 41 (.tmp 73) (some (.tmp 74)) none none⟩
def p26_34_13 : RO := ⟨none, some 76, .call ⟨.builtin .append, #[(.tmp 72), (.tmp 75)], #[41, 41]⟩⟩
def o26_34 : List (Nat × RO) := [(0, ⟨none, some 63, .move (.tmp 3)⟩), (1, ⟨none, some 64, .move (.tmp 5)⟩), (2, p26_34_2), (3, p26_34_3), (4, ⟨none, some 67, .move (.tmp 0)⟩), (5, ⟨none, some 68, .move (.tmp 4)⟩), (6, p26_34_6), (7, p26_34_7), (8, p26_34_8), (9, p26_34_9), (10, ⟨none, some 73, .move (.tmp 3)⟩), (11, ⟨none, some 74, .move (.tmp 5)⟩), (12, p26_34_12), (13, p26_34_13), (14, ⟨none, some 3, .assign (.tmp 76)⟩)]
def m26_34 : List Nat := [0, 0, 3, 7, 0, 0, 48, 112, 240, 511, 0, 0, 3072, 8191, 16383]
def x26_34 : RC := .draw o26_34 m26_34
def x26_30 : RC := .seq x26_31 x26_34
def x26_21 : RC := .seq x26_22 x26_30
def x26_19 : RC := .seq x26_20 x26_21
def x26_15 : RC := .seq x26_16 x26_19
def x26_14 : RC := .block 1 x26_15
def p26_35_1 : RO := ⟨none, some 11, .binOp .add 3 (.tmp 10) (.const (.int .i64 (1))) 3⟩
def o26_35 : List RO := [⟨none, some 10, .move (.tmp 4)⟩, p26_35_1, ⟨none, some 4, .assign (.tmp 11)⟩]
def x26_35 : RC := .ops o26_35
def x26_13 : RC := .seq x26_14 x26_35
def x26_9 : RC := .seq x26_10 x26_13
def x26_8 : RC := .loop x26_9
def x26_7 : RC := .block 0 x26_8
def x26_5 : RC := .seq x26_6 x26_7
def o26_37 : List RO := [⟨none, some 77, .move (.tmp 3)⟩, ⟨none, some 2, .assign (.tmp 77)⟩]
def x26_37 : RC := .ops o26_37
def x26_36 : RC := .seq x26_37 .ret
def x26_4 : RC := .seq x26_5 x26_36
def x26_2 : RC := .seq x26_3 x26_4
def x26_0 : RC := .seq x26_1 x26_2
theorem x26_eq : Tryd.f26.body.map rc = some x26_0 := by kernel_rfl
def o27_1 : List RO := [⟨none, some 4, .assign (.const (.int .i64 (0)))⟩, ⟨none, some 5, .assign (.const (.int .i64 (0)))⟩]
def x27_1 : RC := .ops o27_1
def o27_3 : List RO := [⟨none, some 6, .assign (.const (.int .i64 (0)))⟩, ⟨none, some 7, .assign (.const (.int .i64 (0)))⟩]
def x27_3 : RC := .ops o27_3
def o27_6 : List RO := [⟨none, some 8, .assign (.const (.int .i64 (0)))⟩]
def x27_6 : RC := .ops o27_6
def o27_11 : List RO := [⟨none, some 9, .move (.tmp 8)⟩, ⟨none, some 10, .move (.tmp 0)⟩, ⟨none, some 11, .call ⟨.builtin .len, #[(.tmp 10)], #[41]⟩⟩, ⟨none, some 12, .binOp .lss 3 (.tmp 9) (.tmp 11) 3⟩]
def x27_11 : RC := .ops o27_11
def x27_12 : RC := .cond (.tmp 12) .skip (.exit 0)
def x27_10 : RC := .seq x27_11 x27_12
def p27_16_2 : RO := ⟨none, some 17, .indexAddr 41 (.tmp 15) (.tmp 16)⟩
def p27_16_4 : RO := ⟨none, some 19, .load 9 (.tmp 18)⟩
def p27_16_9 : RO := ⟨some (some 23, true), some 24, .move (.tmp 1)⟩
def p27_16_12 : RO := ⟨some (some 23, true), some 27, .indexAddr 41 (.tmp 25) (.tmp 26)⟩
def p27_16_14 : RO := ⟨some (some 23, true), some 29, .load 9 (.tmp 28)⟩
def p27_16_15 : RO := ⟨some (some 23, true), some 30, .call ⟨.value (.func 44), #[(.tmp 24), (.tmp 29)], #[9, 9]⟩⟩
def o27_16 : List RO := [⟨none, some 15, .move (.tmp 0)⟩, ⟨none, some 16, .move (.tmp 8)⟩, p27_16_2, ⟨none, some 18, .fieldAddr 74 (.tmp 17) 0⟩, p27_16_4, ⟨none, some 20, .call ⟨.builtin .len, #[(.tmp 19)], #[9]⟩⟩, ⟨none, some 21, .move (.tmp 7)⟩, ⟨none, some 22, .binOp .gtr 3 (.tmp 20) (.tmp 21) 3⟩, ⟨none, some 23, .move (.tmp 22)⟩, p27_16_9, ⟨some (some 23, true), some 25, .move (.tmp 0)⟩, ⟨some (some 23, true), some 26, .move (.tmp 8)⟩, p27_16_12, ⟨some (some 23, true), some 28, .fieldAddr 74 (.tmp 27) 0⟩, p27_16_14, p27_16_15, ⟨none, some 31, .pick (.tmp 23) (.tmp 30) (.const (.bool false))⟩]
def x27_16 : RC := .ops o27_16
def p27_18_2 : RO := ⟨none, some 34, .indexAddr 41 (.tmp 32) (.tmp 33)⟩
def p27_18_4 : RO := ⟨none, some 36, .load 3 (.tmp 35)⟩
def p27_18_7 : RO := ⟨none, some 39, .indexAddr 41 (.tmp 37) (.tmp 38)⟩
def p27_18_9 : RO := ⟨none, some 41, .load 9 (.tmp 40)⟩
def o27_18 : List (Nat × RO) := [(0, ⟨none, some 32, .move (.tmp 0)⟩), (1, ⟨none, some 33, .move (.tmp 8)⟩), (2, p27_18_2), (3, ⟨none, some 35, .fieldAddr 74 (.tmp 34) 1⟩), (4, p27_18_4), (5, ⟨none, some 37, .move (.tmp 0)⟩), (6, ⟨none, some 38, .move (.tmp 8)⟩), (7, p27_18_7), (8, ⟨none, some 40, .fieldAddr 74 (.tmp 39) 0⟩), (9, p27_18_9), (10, ⟨none, some 42, .call ⟨.builtin .len, #[(.tmp 41)], #[9]⟩⟩), (11, ⟨none, some 6, .assign (.tmp 36)⟩), (12, ⟨none, some 7, .assign (.tmp 42)⟩)]
def m27_18 : List Nat := [0, 0, 3, 7, 15, 0, 0, 96, 224, 480, 992, 31, 4095]
def x27_18 : RC := .draw o27_18 m27_18
def x27_17 : RC := .cond (.tmp 31) x27_18 .skip
def x27_15 : RC := .seq x27_16 x27_17
def x27_14 : RC := .block 1 x27_15
def p27_19_1 : RO := ⟨none, some 14, .binOp .add 3 (.tmp 13) (.const (.int .i64 (1))) 3⟩
def o27_19 : List RO := [⟨none, some 13, .move (.tmp 8)⟩, p27_19_1, ⟨none, some 8, .assign (.tmp 14)⟩]
def x27_19 : RC := .ops o27_19
def x27_13 : RC := .seq x27_14 x27_19
def x27_9 : RC := .seq x27_10 x27_13
def x27_8 : RC := .loop x27_9
def x27_7 : RC := .block 0 x27_8
def x27_5 : RC := .seq x27_6 x27_7
def o27_21 : List RO := [⟨none, some 43, .move (.tmp 6)⟩, ⟨none, some 44, .move (.tmp 7)⟩, ⟨none, some 4, .assign (.tmp 43)⟩, ⟨none, some 5, .assign (.tmp 44)⟩]
def x27_21 : RC := .ops o27_21
def x27_20 : RC := .seq x27_21 .ret
def x27_4 : RC := .seq x27_5 x27_20
def x27_2 : RC := .seq x27_3 x27_4
def x27_0 : RC := .seq x27_1 x27_2
theorem x27_eq : Tryd.f27.body.map rc = some x27_0 := by kernel_rfl
def o28_1 : List RO := [⟨none, some 2, .assign (.const (.bool false))⟩]
def x28_1 : RC := .ops o28_1
def p28_3_3 : RO := ⟨some (some 5, true), some 6, .move (.tmp 0)⟩
def p28_3_7 : RO := ⟨some (some 9, false), some 10, .move (.tmp 0)⟩
def p28_3_10 : RO := ⟨some (some 12, true), some 13, .move (.tmp 0)⟩
def p28_3_15 : RO := ⟨some (some 17, false), some 18, .move (.tmp 0)⟩
def p28_3_18 : RO := ⟨some (some 20, true), some 21, .move (.tmp 0)⟩
def o28_3 : List RO := [⟨none, some 3, .move (.tmp 0)⟩, ⟨none, some 4, .binOp .geq 5 (.tmp 3) (.const (.int .u8 (48))) 5⟩, ⟨none, some 5, .move (.tmp 4)⟩, p28_3_3, ⟨some (some 5, true), some 7, .binOp .leq 5 (.tmp 6) (.const (.int .u8 (57))) 5⟩, ⟨none, some 8, .pick (.tmp 5) (.tmp 7) (.const (.bool false))⟩, ⟨none, some 9, .move (.tmp 8)⟩, p28_3_7, ⟨some (some 9, false), some 11, .binOp .geq 5 (.tmp 10) (.const (.int .u8 (97))) 5⟩, ⟨some (some 9, false), some 12, .move (.tmp 11)⟩, p28_3_10, ⟨some (some 12, true), some 14, .binOp .leq 5 (.tmp 13) (.const (.int .u8 (122))) 5⟩, ⟨some (some 9, false), some 15, .pick (.tmp 12) (.tmp 14) (.const (.bool false))⟩, ⟨none, some 16, .pick (.tmp 9) (.const (.bool true)) (.tmp 15)⟩, ⟨none, some 17, .move (.tmp 16)⟩, p28_3_15, ⟨some (some 17, false), some 19, .binOp .geq 5 (.tmp 18) (.const (.int .u8 (65))) 5⟩, ⟨some (some 17, false), some 20, .move (.tmp 19)⟩, p28_3_18, ⟨some (some 20, true), some 22, .binOp .leq 5 (.tmp 21) (.const (.int .u8 (90))) 5⟩, ⟨some (some 17, false), some 23, .pick (.tmp 20) (.tmp 22) (.const (.bool false))⟩, ⟨none, some 24, .pick (.tmp 17) (.const (.bool true)) (.tmp 23)⟩, ⟨none, some 2, .assign (.tmp 24)⟩]
def x28_3 : RC := .ops o28_3
def x28_2 : RC := .seq x28_3 .ret
def x28_0 : RC := .seq x28_1 x28_2
theorem x28_eq : Tryd.f28.body.map rc = some x28_0 := by kernel_rfl
def o29_1 : List RO := [⟨none, some 4, .assign (.const (.bool false))⟩]
def x29_1 : RC := .ops o29_1
def o29_4 : List RO := [⟨none, some 5, .assign (.const (.int .i64 (0)))⟩]
def x29_4 : RC := .ops o29_4
def o29_9 : List RO := [⟨none, some 6, .move (.tmp 5)⟩, ⟨none, some 7, .move (.tmp 0)⟩, ⟨none, some 8, .call ⟨.builtin .len, #[(.tmp 7)], #[41]⟩⟩, ⟨none, some 9, .binOp .lss 3 (.tmp 6) (.tmp 8) 3⟩]
def x29_9 : RC := .ops o29_9
def x29_10 : RC := .cond (.tmp 9) .skip (.exit 0)
def x29_8 : RC := .seq x29_9 x29_10
def p29_14_2 : RO := ⟨none, some 14, .indexAddr 41 (.tmp 12) (.tmp 13)⟩
def p29_14_4 : RO := ⟨none, some 16, .load 9 (.tmp 15)⟩
def p29_14_6 : RO := ⟨none, some 18, .call ⟨.value (.func 44), #[(.tmp 16), (.tmp 17)], #[9, 9]⟩⟩
def o29_14 : List RO := [⟨none, some 12, .move (.tmp 0)⟩, ⟨none, some 13, .move (.tmp 5)⟩, p29_14_2, ⟨none, some 15, .fieldAddr 74 (.tmp 14) 0⟩, p29_14_4, ⟨none, some 17, .move (.tmp 1)⟩, p29_14_6]
def x29_14 : RC := .ops o29_14
def o29_17 : List RO := [⟨none, some 4, .assign (.const (.bool true))⟩]
def x29_17 : RC := .ops o29_17
def x29_16 : RC := .seq x29_17 .ret
def x29_15 : RC := .cond (.tmp 18) x29_16 .skip
def x29_13 : RC := .seq x29_14 x29_15
def x29_12 : RC := .block 1 x29_13
def p29_18_1 : RO := ⟨none, some 11, .binOp .add 3 (.tmp 10) (.const (.int .i64 (1))) 3⟩
def o29_18 : List RO := [⟨none, some 10, .move (.tmp 5)⟩, p29_18_1, ⟨none, some 5, .assign (.tmp 11)⟩]
def x29_18 : RC := .ops o29_18
def x29_11 : RC := .seq x29_12 x29_18
def x29_7 : RC := .seq x29_8 x29_11
def x29_6 : RC := .loop x29_7
def x29_5 : RC := .block 0 x29_6
def x29_3 : RC := .seq x29_4 x29_5
def o29_20 : List RO := [⟨none, some 4, .assign (.const (.bool false))⟩]
def x29_20 : RC := .ops o29_20
def x29_19 : RC := .seq x29_20 .ret
def x29_2 : RC := .seq x29_3 x29_19
def x29_0 : RC := .seq x29_1 x29_2
theorem x29_eq : Tryd.f29.body.map rc = some x29_0 := by kernel_rfl
def o43_1 : List RO := [⟨none, some 4, .assign (.const (.int .i64 (0)))⟩]
def x43_1 : RC := .ops o43_1
def p43_5_3 : RO := ⟨some (some 8, true), some 9, .move (.tmp 0)⟩
def o43_5 : List RO := [⟨none, some 6, .move (.tmp 0)⟩, ⟨none, some 7, .binOp .geq 5 (.tmp 6) (.const (.int .u8 (48))) 5⟩, ⟨none, some 8, .move (.tmp 7)⟩, p43_5_3, ⟨some (some 8, true), some 10, .binOp .leq 5 (.tmp 9) (.const (.int .u8 (57))) 5⟩, ⟨none, some 11, .pick (.tmp 8) (.tmp 10) (.const (.bool false))⟩, ⟨none, some 5, .assign (.tmp 11)⟩]
def x43_5 : RC := .ops o43_5
def p43_8_1 : RO := ⟨none, some 13, .binOp .sub 5 (.tmp 12) (.const (.int .u8 (48))) 5⟩
def p43_8_2 : RO := ⟨none, some 14, .convert 5 3 (.tmp 13)⟩
def o43_8 : List RO := [⟨none, some 12, .move (.tmp 0)⟩, p43_8_1, p43_8_2, ⟨none, some 4, .assign (.tmp 14)⟩]
def x43_8 : RC := .ops o43_8
def x43_7 : RC := .seq x43_8 .ret
def p43_10_6 : RO := ⟨some (some 21, true), some 22, .move (.tmp 0)⟩
def o43_10 : List RO := [⟨none, some 16, .move (.tmp 1)⟩, ⟨none, some 17, .move (.tmp 16)⟩, ⟨some (some 17, true), some 18, .move (.tmp 0)⟩, ⟨some (some 17, true), some 19, .binOp .geq 5 (.tmp 18) (.const (.int .u8 (97))) 5⟩, ⟨none, some 20, .pick (.tmp 17) (.tmp 19) (.const (.bool false))⟩, ⟨none, some 21, .move (.tmp 20)⟩, p43_10_6, ⟨some (some 21, true), some 23, .binOp .leq 5 (.tmp 22) (.const (.int .u8 (102))) 5⟩, ⟨none, some 24, .pick (.tmp 21) (.tmp 23) (.const (.bool false))⟩, ⟨none, some 15, .assign (.tmp 24)⟩]
def x43_10 : RC := .ops o43_10
def p43_13_1 : RO := ⟨none, some 26, .binOp .sub 5 (.tmp 25) (.const (.int .u8 (97))) 5⟩
def p43_13_2 : RO := ⟨none, some 27, .convert 5 3 (.tmp 26)⟩
def p43_13_3 : RO := ⟨none, some 28, .binOp .add 3 (.tmp 27) (.const (.int .i64 (10))) 3⟩
def o43_13 : List RO := [⟨none, some 25, .move (.tmp 0)⟩, p43_13_1, p43_13_2, p43_13_3, ⟨none, some 4, .assign (.tmp 28)⟩]
def x43_13 : RC := .ops o43_13
def x43_12 : RC := .seq x43_13 .ret
def p43_15_6 : RO := ⟨some (some 35, true), some 36, .move (.tmp 0)⟩
def o43_15 : List RO := [⟨none, some 30, .move (.tmp 1)⟩, ⟨none, some 31, .move (.tmp 30)⟩, ⟨some (some 31, true), some 32, .move (.tmp 0)⟩, ⟨some (some 31, true), some 33, .binOp .geq 5 (.tmp 32) (.const (.int .u8 (65))) 5⟩, ⟨none, some 34, .pick (.tmp 31) (.tmp 33) (.const (.bool false))⟩, ⟨none, some 35, .move (.tmp 34)⟩, p43_15_6, ⟨some (some 35, true), some 37, .binOp .leq 5 (.tmp 36) (.const (.int .u8 (70))) 5⟩, ⟨none, some 38, .pick (.tmp 35) (.tmp 37) (.const (.bool false))⟩, ⟨none, some 29, .assign (.tmp 38)⟩]
def x43_15 : RC := .ops o43_15
def p43_18_1 : RO := ⟨none, some 40, .binOp .sub 5 (.tmp 39) (.const (.int .u8 (65))) 5⟩
def p43_18_2 : RO := ⟨none, some 41, .convert 5 3 (.tmp 40)⟩
def p43_18_3 : RO := ⟨none, some 42, .binOp .add 3 (.tmp 41) (.const (.int .i64 (10))) 3⟩
def o43_18 : List RO := [⟨none, some 39, .move (.tmp 0)⟩, p43_18_1, p43_18_2, p43_18_3, ⟨none, some 4, .assign (.tmp 42)⟩]
def x43_18 : RC := .ops o43_18
def x43_17 : RC := .seq x43_18 .ret
def x43_16 : RC := .cond (.tmp 29) x43_17 .skip
def x43_14 : RC := .seq x43_15 x43_16
def x43_11 : RC := .cond (.tmp 15) x43_12 x43_14
def x43_9 : RC := .seq x43_10 x43_11
def x43_6 : RC := .cond (.tmp 5) x43_7 x43_9
def x43_4 : RC := .seq x43_5 x43_6
def x43_3 : RC := .block 0 x43_4
def o43_20 : List RO := [⟨none, some 4, .assign (.const (.int .i64 (-1)))⟩]
def x43_20 : RC := .ops o43_20
def x43_19 : RC := .seq x43_20 .ret
def x43_2 : RC := .seq x43_3 x43_19
def x43_0 : RC := .seq x43_1 x43_2
theorem x43_eq : Tryd.f43.body.map rc = some x43_0 := by kernel_rfl
def o44_1 : List RO := [⟨none, some 4, .assign (.const (.bool false))⟩]
def x44_1 : RC := .ops o44_1
def p44_3_6 : RO := ⟨some (some 10, true), some 11, .move (.tmp 0)⟩
def p44_3_9 : RO := ⟨some (some 10, true), some 14, .slice 9 (.tmp 11) none (some (.tmp 13)) none⟩
def o44_3 : List RO := [⟨none, some 5, .move (.tmp 0)⟩, ⟨none, some 6, .call ⟨.builtin .len, #[(.tmp 5)], #[9]⟩⟩, ⟨none, some 7, .move (.tmp 1)⟩, ⟨none, some 8, .call ⟨.builtin .len, #[(.tmp 7)], #[9]⟩⟩, ⟨none, some 9, .binOp .geq 3 (.tmp 6) (.tmp 8) 3⟩, ⟨none, some 10, .move (.tmp 9)⟩, p44_3_6, ⟨some (some 10, true), some 12, .move (.tmp 1)⟩, ⟨some (some 10, true), some 13, .call ⟨.builtin .len, #[(.tmp 12)], #[9]⟩⟩, p44_3_9, ⟨some (some 10, true), some 15, .move (.tmp 1)⟩, ⟨some (some 10, true), some 16, .binOp .eql 9 (.tmp 14) (.tmp 15) 9⟩, ⟨none, some 17, .pick (.tmp 10) (.tmp 16) (.const (.bool false))⟩, ⟨none, some 4, .assign (.tmp 17)⟩]
def x44_3 : RC := .ops o44_3
def x44_2 : RC := .seq x44_3 .ret
def x44_0 : RC := .seq x44_1 x44_2
theorem x44_eq : Tryd.f44.body.map rc = some x44_0 := by kernel_rfl
def tab4 : FuncId → Option (RC × List ResultVar × Nat)
 | 4 => some (x4_0, [.tmp 4], 45)
 | 12 => some (x12_0, [.tmp 4, .tmp 5, .tmp 6], 110)
 | 13 => some (x13_0, [.tmp 4], 26)
 | 25 => some (x25_0, [.tmp 2, .tmp 3, .tmp 4], 86)
 | 26 => some (x26_0, [.tmp 2], 78)
 | 27 => some (x27_0, [.tmp 4, .tmp 5], 45)
 | 28 => some (x28_0, [.tmp 2], 25)
 | 29 => some (x29_0, [.tmp 4], 19)
 | 43 => some (x43_0, [.tmp 4], 43)
 | 44 => some (x44_0, [.tmp 4], 18)
 | 8 => some (x8_0, [.tmp 2, .tmp 3], 60)
 | 9 => some (x9_0, [.tmp 2, .tmp 3], 33)
 | 10 => some (x10_0, [.tmp 0], 122)
 | 11 => some (x11_0, [.tmp 4, .tmp 5, .tmp 6], 15)
 | 16 => some (x16_0, [.tmp 4], 15)
 | 19 => some (x19_0, [.tmp 0], 2)
 | 20 => some (x20_0, [.tmp 2], 17)
 | 21 => some (x21_0, [.tmp 2], 57)
 | 22 => some (x22_0, [.tmp 6, .tmp 7, .tmp 8], 98)
 | 23 => some (x23_0, [.tmp 2], 89)
 | 38 => some (x38_0, [.tmp 4], 8)
 | 39 => some (x39_0, [.tmp 2, .tmp 3, .tmp 4], 97)
 | 40 => some (x40_0, [.tmp 4, .tmp 5], 45)
 | 41 => some (x41_0, [.tmp 2], 19)
 | 42 => some (x42_0, [.tmp 4], 36)
 | 50 => some (x50_0, [.tmp 4], 18)
 | _ => none
theorem tab4_ok : TabOK Tryd.prog tab4 := by
 intro f x rs n h
 unfold tab4 at h
 split at h
 ·injection h with h; injection h with h1 h; injection h with h2 h3; subst h1; subst h2; subst h3; exact ⟨_, Tryd.func4, rfl, rfl, x4_eq⟩
 ·injection h with h; injection h with h1 h; injection h with h2 h3; subst h1; subst h2; subst h3; exact ⟨_, Tryd.func12, rfl, rfl, x12_eq⟩
 ·injection h with h; injection h with h1 h; injection h with h2 h3; subst h1; subst h2; subst h3; exact ⟨_, Tryd.func13, rfl, rfl, x13_eq⟩
 ·injection h with h; injection h with h1 h; injection h with h2 h3; subst h1; subst h2; subst h3; exact ⟨_, Tryd.func25, rfl, rfl, x25_eq⟩
 ·injection h with h; injection h with h1 h; injection h with h2 h3; subst h1; subst h2; subst h3; exact ⟨_, Tryd.func26, rfl, rfl, x26_eq⟩
 ·injection h with h; injection h with h1 h; injection h with h2 h3; subst h1; subst h2; subst h3; exact ⟨_, Tryd.func27, rfl, rfl, x27_eq⟩
 ·injection h with h; injection h with h1 h; injection h with h2 h3; subst h1; subst h2; subst h3; exact ⟨_, Tryd.func28, rfl, rfl, x28_eq⟩
 ·injection h with h; injection h with h1 h; injection h with h2 h3; subst h1; subst h2; subst h3; exact ⟨_, Tryd.func29, rfl, rfl, x29_eq⟩
 ·injection h with h; injection h with h1 h; injection h with h2 h3; subst h1; subst h2; subst h3; exact ⟨_, Tryd.func43, rfl, rfl, x43_eq⟩
 ·injection h with h; injection h with h1 h; injection h with h2 h3; subst h1; subst h2; subst h3; exact ⟨_, Tryd.func44, rfl, rfl, x44_eq⟩
 ·injection h with h; injection h with h1 h; injection h with h2 h3; subst h1; subst h2; subst h3; exact ⟨_, Tryd.func8, rfl, rfl, x8_eq⟩
 ·injection h with h; injection h with h1 h; injection h with h2 h3; subst h1; subst h2; subst h3; exact ⟨_, Tryd.func9, rfl, rfl, x9_eq⟩
 ·injection h with h; injection h with h1 h; injection h with h2 h3; subst h1; subst h2; subst h3; exact ⟨_, Tryd.func10, rfl, rfl, x10_eq⟩
 ·injection h with h; injection h with h1 h; injection h with h2 h3; subst h1; subst h2; subst h3; exact ⟨_, Tryd.func11, rfl, rfl, x11_eq⟩
 ·injection h with h; injection h with h1 h; injection h with h2 h3; subst h1; subst h2; subst h3; exact ⟨_, Tryd.func16, rfl, rfl, x16_eq⟩
 ·injection h with h; injection h with h1 h; injection h with h2 h3; subst h1; subst h2; subst h3; exact ⟨_, Tryd.func19, rfl, rfl, x19_eq⟩
 ·injection h with h; injection h with h1 h; injection h with h2 h3; subst h1; subst h2; subst h3; exact ⟨_, Tryd.func20, rfl, rfl, x20_eq⟩
 ·injection h with h; injection h with h1 h; injection h with h2 h3; subst h1; subst h2; subst h3; exact ⟨_, Tryd.func21, rfl, rfl, x21_eq⟩
 ·injection h with h; injection h with h1 h; injection h with h2 h3; subst h1; subst h2; subst h3; exact ⟨_, Tryd.func22, rfl, rfl, x22_eq⟩
 ·injection h with h; injection h with h1 h; injection h with h2 h3; subst h1; subst h2; subst h3; exact ⟨_, Tryd.func23, rfl, rfl, x23_eq⟩
 ·injection h with h; injection h with h1 h; injection h with h2 h3; subst h1; subst h2; subst h3; exact ⟨_, Tryd.func38, rfl, rfl, x38_eq⟩
 ·injection h with h; injection h with h1 h; injection h with h2 h3; subst h1; subst h2; subst h3; exact ⟨_, Tryd.func39, rfl, rfl, x39_eq⟩
 ·injection h with h; injection h with h1 h; injection h with h2 h3; subst h1; subst h2; subst h3; exact ⟨_, Tryd.func40, rfl, rfl, x40_eq⟩
 ·injection h with h; injection h with h1 h; injection h with h2 h3; subst h1; subst h2; subst h3; exact ⟨_, Tryd.func41, rfl, rfl, x41_eq⟩
 ·injection h with h; injection h with h1 h; injection h with h2 h3; subst h1; subst h2; subst h3; exact ⟨_, Tryd.func42, rfl, rfl, x42_eq⟩
 ·injection h with h; injection h with h1 h; injection h with h2 h3; subst h1; subst h2; subst h3; exact ⟨_, Tryd.func50, rfl, rfl, x50_eq⟩
 ·cases h
theorem rn4 {W : World} {c : Cfg} {Q : Ex → St → Prop} (n : Nat) (c' : Cfg) (k : WpM Tryd.prog W prim2 c' Q) (h : stepsM Tryd.prog W prim2 tab4 n c = some c' := by kernel_rfl) : WpM Tryd.prog W prim2 c Q := WpM.run tab4_ok n c' h k
def alnB (c : Int) : Bool := decide ((48 ≤ c ∧ c ≤ 57) ∨ (97 ≤ c ∧ c ≤ 122) ∨ (65 ≤ c ∧ c ≤ 90))
def orlOK (n : Nat) : Bool := (let u := IntKind.wrap .u8 (BitVec.ofInt (IntKind.bits .u8) (n : Int) ||| BitVec.ofInt (IntKind.bits .u8) 32).toNat
 decide (97 ≤ u ∧ u ≤ 122) == decide ((97 ≤ n ∧ n ≤ 122) ∨ (65 ≤ n ∧ n ≤ 90)))
theorem orl_all : (List.range 256).all orlOK = true := by kernel_rfl
theorem orl {c : Int} (h0 : 0 ≤ c) (h1 : c ≤ 255) : (97 ≤ IntKind.wrap .u8 (BitVec.ofInt (IntKind.bits .u8) c ||| BitVec.ofInt (IntKind.bits .u8) 32).toNat ∧ IntKind.wrap .u8 (BitVec.ofInt (IntKind.bits .u8) c ||| BitVec.ofInt (IntKind.bits .u8) 32).toNat ≤ 122) ↔ ((97 ≤ c ∧ c ≤ 122) ∨ (65 ≤ c ∧ c ≤ 90)) := by
 obtain ⟨n, rfl⟩ := Int.eq_ofNat_of_zero_le h0
 have := List.all_eq_true.1 orl_all n (List.mem_range.2 (by omega))
 unfold orlOK at this
 rw [beq_iff_eq, decide_eq_decide] at this
 omega
def E61 (c : Int) : List V := (.int .u8 c :: U :: .bool false :: .int .u8 c :: .int .u8 (IntKind.wrap .u8 (BitVec.ofInt (IntKind.bits .u8) c ||| BitVec.ofInt (IntKind.bits .u8) 32).toNat) :: .bool (decide ((IntKind.wrap .u8 (BitVec.ofInt (IntKind.bits .u8) c ||| BitVec.ofInt (IntKind.bits .u8) 32).toNat) ≥ 97)) :: .bool (decide ((IntKind.wrap .u8 (BitVec.ofInt (IntKind.bits .u8) c ||| BitVec.ofInt (IntKind.bits .u8) 32).toNat) ≥ 97)) :: us 12)
def E62 (c : Int) : List V := (.int .u8 c :: U :: .bool false :: .int .u8 c :: .int .u8 (IntKind.wrap .u8 (BitVec.ofInt (IntKind.bits .u8) c ||| BitVec.ofInt (IntKind.bits .u8) 32).toNat) :: .bool (decide ((IntKind.wrap .u8 (BitVec.ofInt (IntKind.bits .u8) c ||| BitVec.ofInt (IntKind.bits .u8) 32).toNat) ≥ 97)) :: .bool true :: .int .u8 c :: .int .u8 (IntKind.wrap .u8 (BitVec.ofInt (IntKind.bits .u8) c ||| BitVec.ofInt (IntKind.bits .u8) 32).toNat) :: .bool (decide ((IntKind.wrap .u8 (BitVec.ofInt (IntKind.bits .u8) c ||| BitVec.ofInt (IntKind.bits .u8) 32).toNat) ≤ 122)) :: .bool (decide ((IntKind.wrap .u8 (BitVec.ofInt (IntKind.bits .u8) c ||| BitVec.ofInt (IntKind.bits .u8) 32).toNat) ≤ 122)) :: .bool (decide ((IntKind.wrap .u8 (BitVec.ofInt (IntKind.bits .u8) c ||| BitVec.ofInt (IntKind.bits .u8) 32).toNat) ≤ 122)) :: us 7)
theorem aln_ok {W : World} {c : Int} {h : H} (hc : 0 ≤ c ∧ c ≤ 255) : WpF Tryd.prog W prim2 41 [.int .u8 c] h (fun v h' => h = h' ∧ v = .bool (alnB c)) := by
 refine WpF.m tab4_ok (by kernel_rfl) rfl ?_
 refine WpM.cfg (c' := ⟨.code x41_0, [], (.int .u8 c :: us 18), [], h, none⟩) (by kernel_rfl) ?_
 refine rn4 11 ⟨.ops (p41_3_4 :: o41_3.drop 5), [.seq .ret], (E61 c), [], h, none⟩ ?_
 refine WpM.guard (b := (decide ((IntKind.wrap .u8 (BitVec.ofInt (IntKind.bits .u8) c ||| BitVec.ofInt (IntKind.bits .u8) 32).toNat) ≥ 97))) (by kernel_rfl) (fun c1 => ?_) (fun c1 => ?_)
 ·have c1p := dec_t c1
  refine rn4 5 ⟨.ops (p41_3_9 :: o41_3.drop 10), [.seq .ret], (E62 c), [], h, none⟩ ?_
  refine WpM.guard (b := (decide ((IntKind.wrap .u8 (BitVec.ofInt (IntKind.bits .u8) c ||| BitVec.ofInt (IntKind.bits .u8) 32).toNat) ≤ 122))) (by kernel_rfl) (fun c2 => ?_) (fun c2 => ?_)
  ·have c2p := dec_t c2
   refine rn4 11 ⟨.done .ret, [], (ss (E62 c) [(2, .bool true), (11, .bool true), (18, .bool true)]), [], h, none⟩ ?_
   refine WpM.ret (.bool true) h (by kernel_rfl) (by kernel_rfl) ?_
   have hu := orl hc.1 hc.2
   exact ⟨rfl, congrArg V.bool (by unfold alnB; first | exact (decide_eq_true (by omega)).symm | exact (decide_eq_false (by omega)).symm | (apply decide_eq_decide.2; omega))⟩
  ·have c2p := dec_f c2
   refine rn4 3 ⟨.ops (p41_3_12 :: o41_3.drop 13), [.seq .ret], (ss (E62 c) [(11, .bool false), (12, .int .u8 c), (13, .bool (decide (c ≥ 48))), (14, .bool (decide (c ≥ 48)))]), [], h, none⟩ ?_
   refine WpM.guard (b := (decide (c ≥ 48))) (by kernel_rfl) (fun c3 => ?_) (fun c3 => ?_)
   ·have c3p := dec_t c3
    refine rn4 8 ⟨.done .ret, [], (ss (E62 c) [(2, .bool (decide (c ≤ 57))), (11, .bool false), (12, .int .u8 c), (13, .bool (decide (c ≥ 48))), (14, .bool true), (15, .int .u8 c), (16, .bool (decide (c ≤ 57))), (17, .bool (decide (c ≤ 57))), (18, .bool (decide (c ≤ 57)))]), [], h, none⟩ ?_
    refine WpM.ret (.bool (decide (c ≤ 57))) h (by kernel_rfl) (by kernel_rfl) ?_
    have hu := orl hc.1 hc.2
    exact ⟨rfl, congrArg V.bool (by unfold alnB; first | exact (decide_eq_true (by omega)).symm | exact (decide_eq_false (by omega)).symm | (apply decide_eq_decide.2; omega))⟩
   ·have c3p := dec_f c3
    refine rn4 8 ⟨.done .ret, [], (ss (E62 c) [(11, .bool false), (12, .int .u8 c), (13, .bool (decide (c ≥ 48))), (14, .bool false), (17, .bool false), (18, .bool false)]), [], h, none⟩ ?_
    refine WpM.ret (.bool false) h (by kernel_rfl) (by kernel_rfl) ?_
    have hu := orl hc.1 hc.2
    exact ⟨rfl, congrArg V.bool (by unfold alnB; first | exact (decide_eq_true (by omega)).symm | exact (decide_eq_false (by omega)).symm | (apply decide_eq_decide.2; omega))⟩
 ·have c1p := dec_f c1
  refine rn4 8 ⟨.ops (p41_3_12 :: o41_3.drop 13), [.seq .ret], (ss (E61 c) [(6, .bool false), (10, .bool false), (11, .bool false), (12, .int .u8 c), (13, .bool (decide (c ≥ 48))), (14, .bool (decide (c ≥ 48)))]), [], h, none⟩ ?_
  refine WpM.guard (b := (decide (c ≥ 48))) (by kernel_rfl) (fun c4 => ?_) (fun c4 => ?_)
  ·have c4p := dec_t c4
   refine rn4 8 ⟨.done .ret, [], (ss (E61 c) [(2, .bool (decide (c ≤ 57))), (6, .bool false), (10, .bool false), (11, .bool false), (12, .int .u8 c), (13, .bool (decide (c ≥ 48))), (14, .bool true), (15, .int .u8 c), (16, .bool (decide (c ≤ 57))), (17, .bool (decide (c ≤ 57))), (18, .bool (decide (c ≤ 57)))]), [], h, none⟩ ?_
   refine WpM.ret (.bool (decide (c ≤ 57))) h (by kernel_rfl) (by kernel_rfl) ?_
   have hu := orl hc.1 hc.2
   exact ⟨rfl, congrArg V.bool (by unfold alnB; first | exact (decide_eq_true (by omega)).symm | exact (decide_eq_false (by omega)).symm | (apply decide_eq_decide.2; omega))⟩
  ·have c4p := dec_f c4
   refine rn4 8 ⟨.done .ret, [], (ss (E61 c) [(6, .bool false), (10, .bool false), (11, .bool false), (12, .int .u8 c), (13, .bool (decide (c ≥ 48))), (14, .bool false), (17, .bool false), (18, .bool false)]), [], h, none⟩ ?_
   refine WpM.ret (.bool false) h (by kernel_rfl) (by kernel_rfl) ?_
   have hu := orl hc.1 hc.2
   exact ⟨rfl, congrArg V.bool (by unfold alnB; first | exact (decide_eq_true (by omega)).symm | exact (decide_eq_false (by omega)).symm | (apply decide_eq_decide.2; omega))⟩
def E63 (c : Int) : List V := (.int .u8 c :: U :: .bool false :: .int .u8 c :: .bool (decide (c ≥ 48)) :: .bool true :: .int .u8 c :: .bool (decide (c ≤ 57)) :: .bool (decide (c ≤ 57)) :: .bool (decide (c ≤ 57)) :: us 15)
def E64 (c : Int) : List V := (.int .u8 c :: U :: .bool false :: .int .u8 c :: .bool (decide (c ≥ 48)) :: .bool true :: .int .u8 c :: .bool (decide (c ≤ 57)) :: .bool (decide (c ≤ 57)) :: .bool false :: .int .u8 c :: .bool (decide (c ≥ 97)) :: .bool true :: .int .u8 c :: .bool (decide (c ≤ 122)) :: .bool (decide (c ≤ 122)) :: .bool (decide (c ≤ 122)) :: .bool (decide (c ≤ 122)) :: us 7)
def E65 (c : Int) : List V := (.int .u8 c :: U :: .bool (decide (c ≤ 90)) :: .int .u8 c :: .bool (decide (c ≥ 48)) :: .bool true :: .int .u8 c :: .bool (decide (c ≤ 57)) :: .bool (decide (c ≤ 57)) :: .bool false :: .int .u8 c :: .bool (decide (c ≥ 97)) :: .bool false :: U :: U :: .bool false :: .bool false :: .bool false :: .int .u8 c :: .bool (decide (c ≥ 65)) :: .bool true :: .int .u8 c :: .bool (decide (c ≤ 90)) :: .bool (decide (c ≤ 90)) :: .bool (decide (c ≤ 90)) :: [])
def E66 (c : Int) : List V := (.int .u8 c :: U :: .bool false :: .int .u8 c :: .bool (decide (c ≥ 48)) :: .bool false :: U :: U :: .bool false :: .bool false :: .int .u8 c :: .bool (decide (c ≥ 97)) :: .bool (decide (c ≥ 97)) :: us 12)
theorem raln_ok {W : World} {c : Int} {h : H} (hc : 0 ≤ c ∧ c ≤ 255) : WpF Tryd.prog W prim2 28 [.int .u8 c] h (fun v h' => h = h' ∧ v = .bool (alnB c)) := by
 refine WpF.m tab4_ok (by kernel_rfl) rfl ?_
 refine WpM.cfg (c' := ⟨.code x28_0, [], (.int .u8 c :: us 24), [], h, none⟩) (by kernel_rfl) ?_
 refine rn4 10 ⟨.ops (p28_3_3 :: o28_3.drop 4), [.seq .ret], (.int .u8 c :: U :: .bool false :: .int .u8 c :: .bool (decide (c ≥ 48)) :: .bool (decide (c ≥ 48)) :: us 19), [], h, none⟩ ?_
 refine WpM.guard (b := (decide (c ≥ 48))) (by kernel_rfl) (fun c1 => ?_) (fun c1 => ?_)
 ·have c1p := dec_t c1
  refine rn4 4 ⟨.ops (p28_3_7 :: o28_3.drop 8), [.seq .ret], (E63 c), [], h, none⟩ ?_
  refine WpM.guard (b := (decide (c ≤ 57))) (by kernel_rfl) (fun c2 => ?_) (fun c2 => ?_)
  ·have c2p := dec_t c2
   refine rn4 19 ⟨.done .ret, [], (ss (E63 c) [(2, .bool true), (9, .bool true), (16, .bool true), (17, .bool true), (24, .bool true)]), [], h, none⟩ ?_
   refine WpM.ret (.bool true) h (by kernel_rfl) (by kernel_rfl) ?_
   exact ⟨rfl, congrArg V.bool (by unfold alnB; first | exact (decide_eq_true (by omega)).symm | exact (decide_eq_false (by omega)).symm | (apply decide_eq_decide.2; omega))⟩
  ·have c2p := dec_f c2
   refine rn4 3 ⟨.ops (p28_3_10 :: o28_3.drop 11), [.seq .ret], (ss (E63 c) [(9, .bool false), (10, .int .u8 c), (11, .bool (decide (c ≥ 97))), (12, .bool (decide (c ≥ 97)))]), [], h, none⟩ ?_
   refine WpM.guard (b := (decide (c ≥ 97))) (by kernel_rfl) (fun c3 => ?_) (fun c3 => ?_)
   ·have c3p := dec_t c3
    refine rn4 5 ⟨.ops (p28_3_15 :: o28_3.drop 16), [.seq .ret], (E64 c), [], h, none⟩ ?_
    refine WpM.guard (b := (decide (c ≤ 122))) (by kernel_rfl) (fun c4 => ?_) (fun c4 => ?_)
    ·have c4p := dec_t c4
     refine rn4 11 ⟨.done .ret, [], (ss (E64 c) [(2, .bool true), (17, .bool true), (24, .bool true)]), [], h, none⟩ ?_
     refine WpM.ret (.bool true) h (by kernel_rfl) (by kernel_rfl) ?_
     exact ⟨rfl, congrArg V.bool (by unfold alnB; first | exact (decide_eq_true (by omega)).symm | exact (decide_eq_false (by omega)).symm | (apply decide_eq_decide.2; omega))⟩
    ·have c4p := dec_f c4
     refine rn4 3 ⟨.ops (p28_3_18 :: o28_3.drop 19), [.seq .ret], (ss (E64 c) [(17, .bool false), (18, .int .u8 c), (19, .bool (decide (c ≥ 65))), (20, .bool (decide (c ≥ 65)))]), [], h, none⟩ ?_
     refine WpM.guard (b := (decide (c ≥ 65))) (by kernel_rfl) (fun c5 => ?_) (fun c5 => ?_)
     ·have c5p := dec_t c5
      refine rn4 8 ⟨.done .ret, [], (ss (E64 c) [(2, .bool (decide (c ≤ 90))), (17, .bool false), (18, .int .u8 c), (19, .bool (decide (c ≥ 65))), (20, .bool true), (21, .int .u8 c), (22, .bool (decide (c ≤ 90))), (23, .bool (decide (c ≤ 90))), (24, .bool (decide (c ≤ 90)))]), [], h, none⟩ ?_
      refine WpM.ret (.bool (decide (c ≤ 90))) h (by kernel_rfl) (by kernel_rfl) ?_
      exact ⟨rfl, congrArg V.bool (by unfold alnB; first | exact (decide_eq_true (by omega)).symm | exact (decide_eq_false (by omega)).symm | (apply decide_eq_decide.2; omega))⟩
     ·have c5p := dec_f c5
      refine rn4 8 ⟨.done .ret, [], (ss (E64 c) [(17, .bool false), (18, .int .u8 c), (19, .bool (decide (c ≥ 65))), (20, .bool false), (23, .bool false), (24, .bool false)]), [], h, none⟩ ?_
      refine WpM.ret (.bool false) h (by kernel_rfl) (by kernel_rfl) ?_
      exact ⟨rfl, congrArg V.bool (by unfold alnB; first | exact (decide_eq_true (by omega)).symm | exact (decide_eq_false (by omega)).symm | (apply decide_eq_decide.2; omega))⟩
   ·have c3p := dec_f c3
    refine rn4 8 ⟨.ops (p28_3_18 :: o28_3.drop 19), [.seq .ret], (ss (E64 c) [(12, .bool false), (13, U), (14, U), (15, .bool false), (16, .bool false), (17, .bool false), (18, .int .u8 c), (19, .bool (decide (c ≥ 65))), (20, .bool (decide (c ≥ 65)))]), [], h, none⟩ ?_
    refine WpM.guard (b := (decide (c ≥ 65))) (by kernel_rfl) (fun c6 => ?_) (fun c6 => ?_)
    ·have c6p := dec_t c6
     refine rn4 8 ⟨.done .ret, [], (E65 c), [], h, none⟩ ?_
     refine WpM.ret (.bool (decide (c ≤ 90))) h (by kernel_rfl) (by kernel_rfl) ?_
     exact ⟨rfl, congrArg V.bool (by unfold alnB; first | exact (decide_eq_true (by omega)).symm | exact (decide_eq_false (by omega)).symm | (apply decide_eq_decide.2; omega))⟩
    ·have c6p := dec_f c6
     refine rn4 8 ⟨.done .ret, [], (ss (E65 c) [(2, .bool false), (20, .bool false), (21, U), (22, U), (23, .bool false), (24, .bool false)]), [], h, none⟩ ?_
     refine WpM.ret (.bool false) h (by kernel_rfl) (by kernel_rfl) ?_
     exact ⟨rfl, congrArg V.bool (by unfold alnB; first | exact (decide_eq_true (by omega)).symm | exact (decide_eq_false (by omega)).symm | (apply decide_eq_decide.2; omega))⟩
 ·have c1p := dec_f c1
  refine rn4 7 ⟨.ops (p28_3_10 :: o28_3.drop 11), [.seq .ret], (E66 c), [], h, none⟩ ?_
  refine WpM.guard (b := (decide (c ≥ 97))) (by kernel_rfl) (fun c7 => ?_) (fun c7 => ?_)
  ·have c7p := dec_t c7
   refine rn4 5 ⟨.ops (p28_3_15 :: o28_3.drop 16), [.seq .ret], (ss (E66 c) [(12, .bool true), (13, .int .u8 c), (14, .bool (decide (c ≤ 122))), (15, .bool (decide (c ≤ 122))), (16, .bool (decide (c ≤ 122))), (17, .bool (decide (c ≤ 122)))]), [], h, none⟩ ?_
   refine WpM.guard (b := (decide (c ≤ 122))) (by kernel_rfl) (fun c8 => ?_) (fun c8 => ?_)
   ·have c8p := dec_t c8
    refine rn4 11 ⟨.done .ret, [], (ss (E64 c) [(2, .bool true), (5, .bool false), (6, U), (7, U), (8, .bool false), (17, .bool true), (24, .bool true)]), [], h, none⟩ ?_
    refine WpM.ret (.bool true) h (by kernel_rfl) (by kernel_rfl) ?_
    exact ⟨rfl, congrArg V.bool (by unfold alnB; first | exact (decide_eq_true (by omega)).symm | exact (decide_eq_false (by omega)).symm | (apply decide_eq_decide.2; omega))⟩
   ·have c8p := dec_f c8
    refine rn4 3 ⟨.ops (p28_3_18 :: o28_3.drop 19), [.seq .ret], (ss (E64 c) [(5, .bool false), (6, U), (7, U), (8, .bool false), (17, .bool false), (18, .int .u8 c), (19, .bool (decide (c ≥ 65))), (20, .bool (decide (c ≥ 65)))]), [], h, none⟩ ?_
    refine WpM.guard (b := (decide (c ≥ 65))) (by kernel_rfl) (fun c9 => ?_) (fun c9 => ?_)
    ·have c9p := dec_t c9
     refine rn4 8 ⟨.done .ret, [], (ss (E65 c) [(5, .bool false), (6, U), (7, U), (8, .bool false), (12, .bool true), (13, .int .u8 c), (14, .bool (decide (c ≤ 122))), (15, .bool (decide (c ≤ 122))), (16, .bool (decide (c ≤ 122)))]), [], h, none⟩ ?_
     refine WpM.ret (.bool (decide (c ≤ 90))) h (by kernel_rfl) (by kernel_rfl) ?_
     exact ⟨rfl, congrArg V.bool (by unfold alnB; first | exact (decide_eq_true (by omega)).symm | exact (decide_eq_false (by omega)).symm | (apply decide_eq_decide.2; omega))⟩
    ·have c9p := dec_f c9
     refine rn4 8 ⟨.done .ret, [], (ss (E64 c) [(5, .bool false), (6, U), (7, U), (8, .bool false), (17, .bool false), (18, .int .u8 c), (19, .bool (decide (c ≥ 65))), (20, .bool false), (23, .bool false), (24, .bool false)]), [], h, none⟩ ?_
     refine WpM.ret (.bool false) h (by kernel_rfl) (by kernel_rfl) ?_
     exact ⟨rfl, congrArg V.bool (by unfold alnB; first | exact (decide_eq_true (by omega)).symm | exact (decide_eq_false (by omega)).symm | (apply decide_eq_decide.2; omega))⟩
  ·have c7p := dec_f c7
   refine rn4 8 ⟨.ops (p28_3_18 :: o28_3.drop 19), [.seq .ret], (ss (E66 c) [(12, .bool false), (15, .bool false), (16, .bool false), (17, .bool false), (18, .int .u8 c), (19, .bool (decide (c ≥ 65))), (20, .bool (decide (c ≥ 65)))]), [], h, none⟩ ?_
   refine WpM.guard (b := (decide (c ≥ 65))) (by kernel_rfl) (fun c10 => ?_) (fun c10 => ?_)
   ·have c10p := dec_t c10
    refine rn4 8 ⟨.done .ret, [], (ss (E65 c) [(5, .bool false), (6, U), (7, U), (8, .bool false)]), [], h, none⟩ ?_
    refine WpM.ret (.bool (decide (c ≤ 90))) h (by kernel_rfl) (by kernel_rfl) ?_
    exact ⟨rfl, congrArg V.bool (by unfold alnB; first | exact (decide_eq_true (by omega)).symm | exact (decide_eq_false (by omega)).symm | (apply decide_eq_decide.2; omega))⟩
   ·have c10p := dec_f c10
    refine rn4 8 ⟨.done .ret, [], (ss (E66 c) [(12, .bool false), (15, .bool false), (16, .bool false), (17, .bool false), (18, .int .u8 c), (19, .bool (decide (c ≥ 65))), (20, .bool false), (23, .bool false), (24, .bool false)]), [], h, none⟩ ?_
    refine WpM.ret (.bool false) h (by kernel_rfl) (by kernel_rfl) ?_
    exact ⟨rfl, congrArg V.bool (by unfold alnB; first | exact (decide_eq_true (by omega)).symm | exact (decide_eq_false (by omega)).symm | (apply decide_eq_decide.2; omega))⟩
def E67 (c : Int) : List V := (.int .u8 c :: .bool false :: U :: U :: iv 0 :: .bool (decide (c ≤ 57)) :: .int .u8 c :: .bool (decide (c ≥ 48)) :: .bool true :: .int .u8 c :: .bool (decide (c ≤ 57)) :: .bool (decide (c ≤ 57)) :: us 31)
def E68 (c : Int) : List V := (.int .u8 c :: .bool false :: U :: U :: iv (-1) :: .bool false :: .int .u8 c :: .bool (decide (c ≥ 48)) :: .bool false :: U :: U :: .bool false :: U :: U :: U :: .bool false :: .bool false :: .bool false :: U :: U :: .bool false :: .bool false :: U :: U :: .bool false :: U :: U :: U :: U :: .bool false :: .bool false :: .bool false :: U :: U :: .bool false :: .bool false :: U :: U :: .bool false :: us 4)
theorem dig_false {W : World} {c : Int} {h : H} (hc : 0 ≤ c ∧ c ≤ 255) : WpF Tryd.prog W prim2 43 [.int .u8 c, .bool false] h (fun v h' => h = h' ∧ v = iv (dgt false c)) := by
 refine WpF.m tab4_ok (by kernel_rfl) rfl ?_
 refine WpM.cfg (c' := ⟨.code x43_0, [], (.int .u8 c :: .bool false :: us 41), [], h, none⟩) (by kernel_rfl) ?_
 refine rn4 12 ⟨.ops (p43_5_3 :: o43_5.drop 4), [.seq x43_6, .blk 0, .seq x43_19], (.int .u8 c :: .bool false :: U :: U :: iv 0 :: U :: .int .u8 c :: .bool (decide (c ≥ 48)) :: .bool (decide (c ≥ 48)) :: us 34), [], h, none⟩ ?_
 refine WpM.guard (b := (decide (c ≥ 48))) (by kernel_rfl) (fun c1 => ?_) (fun c1 => ?_)
 ·have c1p := dec_t c1
  refine rn4 6 ⟨.code x43_6, [.blk 0, .seq x43_19], (E67 c), [], h, none⟩ ?_
  refine WpM.cond (t := (decide (c ≤ 57))) (by kernel_rfl) (fun c2 => ?_) (fun c2 => ?_)
  ·have c2p := dec_t c2
   refine rn4 3 ⟨.ops (p43_8_1 :: o43_8.drop 2), [.seq .ret, .blk 0, .seq x43_19], (ss (E67 c) [(12, .int .u8 c)]), [], h, none⟩ ?_
   refine WpM.op (.int .u8 (c - 48)) _ (by kernel_rfl) (arith_subU (by kernel_rfl) (by kernel_rfl) (by omega)) ?_
   refine rn4 0 ⟨.ops (p43_8_2 :: o43_8.drop 3), [.seq .ret, .blk 0, .seq x43_19], (ss (E67 c) [(12, .int .u8 c), (13, .int .u8 (c - 48))]), [], h, none⟩ ?_
   refine WpM.op (iv (c - 48)) _ (by kernel_rfl) (conv_i64 (k := .u8) (ht := rfl) (hu := by kernel_rfl) (hx := by kernel_rfl) (hn := by omega)) ?_
   refine rn4 6 ⟨.done .ret, [], (ss (E67 c) [(4, iv (c - 48)), (12, .int .u8 c), (13, .int .u8 (c - 48)), (14, iv (c - 48))]), [], h, none⟩ ?_
   refine WpM.ret (iv (c - 48)) h (by kernel_rfl) (by kernel_rfl) ?_
   exact ⟨rfl, congrArg (V.int .i64) (by unfold dgt; first | (rw [if_pos (by omega)]; done) | (rw [if_neg (by omega), if_pos (by first | exact ⟨rfl, by omega, by omega⟩ | omega)]; omega) | (rw [if_neg (by omega), if_neg (by first | omega | (intro e; exact absurd e.1 (by decide))), if_pos (by first | exact ⟨rfl, by omega, by omega⟩ | omega)]; omega) | (rw [if_neg (by omega), if_neg (by first | omega | (intro e; exact absurd e.1 (by decide)) | (intro e; omega)), if_neg (by first | omega | (intro e; exact absurd e.1 (by decide)) | (intro e; omega))]))⟩
  ·have c2p := dec_f c2
   refine rn4 39 ⟨.done .ret, [], (ss (E67 c) [(4, iv (-1)), (15, .bool false), (16, .bool false), (17, .bool false), (20, .bool false), (21, .bool false), (24, .bool false), (29, .bool false), (30, .bool false), (31, .bool false), (34, .bool false), (35, .bool false), (38, .bool false)]), [], h, none⟩ ?_
   refine WpM.ret (iv (-1)) h (by kernel_rfl) (by kernel_rfl) ?_
   exact ⟨rfl, congrArg (V.int .i64) (by unfold dgt; first | (rw [if_pos (by omega)]; done) | (rw [if_neg (by omega), if_pos (by first | exact ⟨rfl, by omega, by omega⟩ | omega)]; omega) | (rw [if_neg (by omega), if_neg (by first | omega | (intro e; exact absurd e.1 (by decide))), if_pos (by first | exact ⟨rfl, by omega, by omega⟩ | omega)]; omega) | (rw [if_neg (by omega), if_neg (by first | omega | (intro e; exact absurd e.1 (by decide)) | (intro e; omega)), if_neg (by first | omega | (intro e; exact absurd e.1 (by decide)) | (intro e; omega))]))⟩
 ·have c1p := dec_f c1
  refine rn4 46 ⟨.done .ret, [], (E68 c), [], h, none⟩ ?_
  refine WpM.ret (iv (-1)) h (by kernel_rfl) (by kernel_rfl) ?_
  exact ⟨rfl, congrArg (V.int .i64) (by unfold dgt; first | (rw [if_pos (by omega)]; done) | (rw [if_neg (by omega), if_pos (by first | exact ⟨rfl, by omega, by omega⟩ | omega)]; omega) | (rw [if_neg (by omega), if_neg (by first | omega | (intro e; exact absurd e.1 (by decide))), if_pos (by first | exact ⟨rfl, by omega, by omega⟩ | omega)]; omega) | (rw [if_neg (by omega), if_neg (by first | omega | (intro e; exact absurd e.1 (by decide)) | (intro e; omega)), if_neg (by first | omega | (intro e; exact absurd e.1 (by decide)) | (intro e; omega))]))⟩
def E69 (c : Int) : List V := (.int .u8 c :: .bool true :: U :: U :: iv 0 :: .bool (decide (c ≤ 57)) :: .int .u8 c :: .bool (decide (c ≥ 48)) :: .bool true :: .int .u8 c :: .bool (decide (c ≤ 57)) :: .bool (decide (c ≤ 57)) :: us 31)
def E70 (c : Int) : List V := (.int .u8 c :: .bool true :: U :: U :: iv 0 :: .bool (decide (c ≤ 57)) :: .int .u8 c :: .bool (decide (c ≥ 48)) :: .bool true :: .int .u8 c :: .bool (decide (c ≤ 57)) :: .bool (decide (c ≤ 57)) :: U :: U :: U :: .bool (decide (c ≤ 102)) :: .bool true :: .bool true :: .int .u8 c :: .bool (decide (c ≥ 97)) :: .bool (decide (c ≥ 97)) :: .bool true :: .int .u8 c :: .bool (decide (c ≤ 102)) :: .bool (decide (c ≤ 102)) :: us 18)
def E71 (c : Int) : List V := (.int .u8 c :: .bool true :: U :: U :: iv ((c - 65) + 10) :: .bool (decide (c ≤ 57)) :: .int .u8 c :: .bool (decide (c ≥ 48)) :: .bool true :: .int .u8 c :: .bool (decide (c ≤ 57)) :: .bool (decide (c ≤ 57)) :: U :: U :: U :: .bool (decide (c ≤ 102)) :: .bool true :: .bool true :: .int .u8 c :: .bool (decide (c ≥ 97)) :: .bool (decide (c ≥ 97)) :: .bool true :: .int .u8 c :: .bool (decide (c ≤ 102)) :: .bool (decide (c ≤ 102)) :: U :: U :: U :: U :: .bool (decide (c ≤ 70)) :: .bool true :: .bool true :: .int .u8 c :: .bool (decide (c ≥ 65)) :: .bool (decide (c ≥ 65)) :: .bool true :: .int .u8 c :: .bool (decide (c ≤ 70)) :: .bool (decide (c ≤ 70)) :: .int .u8 c :: .int .u8 (c - 65) :: iv (c - 65) :: iv ((c - 65) + 10) :: [])
def E72 (c : Int) : List V := (.int .u8 c :: .bool true :: U :: U :: iv 0 :: .bool false :: .int .u8 c :: .bool (decide (c ≥ 48)) :: .bool false :: U :: U :: .bool false :: U :: U :: U :: .bool false :: .bool true :: .bool true :: .int .u8 c :: .bool (decide (c ≥ 97)) :: .bool (decide (c ≥ 97)) :: .bool false :: U :: U :: .bool false :: U :: U :: U :: U :: U :: .bool true :: .bool true :: .int .u8 c :: .bool (decide (c ≥ 65)) :: .bool (decide (c ≥ 65)) :: .bool (decide (c ≥ 65)) :: us 7)
theorem dig_true {W : World} {c : Int} {h : H} (hc : 0 ≤ c ∧ c ≤ 255) : WpF Tryd.prog W prim2 43 [.int .u8 c, .bool true] h (fun v h' => h = h' ∧ v = iv (dgt true c)) := by
 refine WpF.m tab4_ok (by kernel_rfl) rfl ?_
 refine WpM.cfg (c' := ⟨.code x43_0, [], (.int .u8 c :: .bool true :: us 41), [], h, none⟩) (by kernel_rfl) ?_
 refine rn4 12 ⟨.ops (p43_5_3 :: o43_5.drop 4), [.seq x43_6, .blk 0, .seq x43_19], (.int .u8 c :: .bool true :: U :: U :: iv 0 :: U :: .int .u8 c :: .bool (decide (c ≥ 48)) :: .bool (decide (c ≥ 48)) :: us 34), [], h, none⟩ ?_
 refine WpM.guard (b := (decide (c ≥ 48))) (by kernel_rfl) (fun c1 => ?_) (fun c1 => ?_)
 ·have c1p := dec_t c1
  refine rn4 6 ⟨.code x43_6, [.blk 0, .seq x43_19], (E69 c), [], h, none⟩ ?_
  refine WpM.cond (t := (decide (c ≤ 57))) (by kernel_rfl) (fun c2 => ?_) (fun c2 => ?_)
  ·have c2p := dec_t c2
   refine rn4 3 ⟨.ops (p43_8_1 :: o43_8.drop 2), [.seq .ret, .blk 0, .seq x43_19], (ss (E69 c) [(12, .int .u8 c)]), [], h, none⟩ ?_
   refine WpM.op (.int .u8 (c - 48)) _ (by kernel_rfl) (arith_subU (by kernel_rfl) (by kernel_rfl) (by omega)) ?_
   refine rn4 0 ⟨.ops (p43_8_2 :: o43_8.drop 3), [.seq .ret, .blk 0, .seq x43_19], (ss (E69 c) [(12, .int .u8 c), (13, .int .u8 (c - 48))]), [], h, none⟩ ?_
   refine WpM.op (iv (c - 48)) _ (by kernel_rfl) (conv_i64 (k := .u8) (ht := rfl) (hu := by kernel_rfl) (hx := by kernel_rfl) (hn := by omega)) ?_
   refine rn4 6 ⟨.done .ret, [], (ss (E69 c) [(4, iv (c - 48)), (12, .int .u8 c), (13, .int .u8 (c - 48)), (14, iv (c - 48))]), [], h, none⟩ ?_
   refine WpM.ret (iv (c - 48)) h (by kernel_rfl) (by kernel_rfl) ?_
   exact ⟨rfl, congrArg (V.int .i64) (by unfold dgt; first | (rw [if_pos (by omega)]; done) | (rw [if_neg (by omega), if_pos (by first | exact ⟨rfl, by omega, by omega⟩ | omega)]; omega) | (rw [if_neg (by omega), if_neg (by first | omega | (intro e; exact absurd e.1 (by decide))), if_pos (by first | exact ⟨rfl, by omega, by omega⟩ | omega)]; omega) | (rw [if_neg (by omega), if_neg (by first | omega | (intro e; exact absurd e.1 (by decide)) | (intro e; omega)), if_neg (by first | omega | (intro e; exact absurd e.1 (by decide)) | (intro e; omega))]))⟩
  ·have c2p := dec_f c2
   refine rn4 8 ⟨.ops (p43_10_6 :: o43_10.drop 7), [.seq x43_11, .blk 0, .seq x43_19], (ss (E69 c) [(16, .bool true), (17, .bool true), (18, .int .u8 c), (19, .bool (decide (c ≥ 97))), (20, .bool (decide (c ≥ 97))), (21, .bool (decide (c ≥ 97)))]), [], h, none⟩ ?_
   refine WpM.guard (b := (decide (c ≥ 97))) (by kernel_rfl) (fun c3 => ?_) (fun c3 => ?_)
   ·have c3p := dec_t c3
    refine rn4 6 ⟨.code x43_11, [.blk 0, .seq x43_19], (E70 c), [], h, none⟩ ?_
    refine WpM.cond (t := (decide (c ≤ 102))) (by kernel_rfl) (fun c4 => ?_) (fun c4 => ?_)
    ·have c4p := dec_t c4
     refine rn4 3 ⟨.ops (p43_13_1 :: o43_13.drop 2), [.seq .ret, .blk 0, .seq x43_19], (ss (E70 c) [(25, .int .u8 c)]), [], h, none⟩ ?_
     refine WpM.op (.int .u8 (c - 97)) _ (by kernel_rfl) (arith_subU (by kernel_rfl) (by kernel_rfl) (by omega)) ?_
     refine rn4 0 ⟨.ops (p43_13_2 :: o43_13.drop 3), [.seq .ret, .blk 0, .seq x43_19], (ss (E70 c) [(25, .int .u8 c), (26, .int .u8 (c - 97))]), [], h, none⟩ ?_
     refine WpM.op (iv (c - 97)) _ (by kernel_rfl) (conv_i64 (k := .u8) (ht := rfl) (hu := by kernel_rfl) (hx := by kernel_rfl) (hn := by omega)) ?_
     refine rn4 0 ⟨.ops (p43_13_3 :: o43_13.drop 4), [.seq .ret, .blk 0, .seq x43_19], (ss (E70 c) [(25, .int .u8 c), (26, .int .u8 (c - 97)), (27, iv (c - 97))]), [], h, none⟩ ?_
     refine WpM.op (iv ((c - 97) + 10)) _ (by kernel_rfl) (arith_add (by kernel_rfl) (by kernel_rfl) (by omega)) ?_
     refine rn4 6 ⟨.done .ret, [], (ss (E70 c) [(4, iv ((c - 97) + 10)), (25, .int .u8 c), (26, .int .u8 (c - 97)), (27, iv (c - 97)), (28, iv ((c - 97) + 10))]), [], h, none⟩ ?_
     refine WpM.ret (iv ((c - 97) + 10)) h (by kernel_rfl) (by kernel_rfl) ?_
     exact ⟨rfl, congrArg (V.int .i64) (by unfold dgt; first | (rw [if_pos (by omega)]; done) | (rw [if_neg (by omega), if_pos (by first | exact ⟨rfl, by omega, by omega⟩ | omega)]; omega) | (rw [if_neg (by omega), if_neg (by first | omega | (intro e; exact absurd e.1 (by decide))), if_pos (by first | exact ⟨rfl, by omega, by omega⟩ | omega)]; omega) | (rw [if_neg (by omega), if_neg (by first | omega | (intro e; exact absurd e.1 (by decide)) | (intro e; omega)), if_neg (by first | omega | (intro e; exact absurd e.1 (by decide)) | (intro e; omega))]))⟩
    ·have c4p := dec_f c4
     refine rn4 8 ⟨.ops (p43_15_6 :: o43_15.drop 7), [.seq x43_16, .blk 0, .seq x43_19], (ss (E70 c) [(30, .bool true), (31, .bool true), (32, .int .u8 c), (33, .bool (decide (c ≥ 65))), (34, .bool (decide (c ≥ 65))), (35, .bool (decide (c ≥ 65)))]), [], h, none⟩ ?_
     refine WpM.guard (b := (decide (c ≥ 65))) (by kernel_rfl) (fun c5 => ?_) (fun c5 => ?_)
     ·have c5p := dec_t c5
      refine rn4 6 ⟨.code x43_16, [.blk 0, .seq x43_19], (ss (E70 c) [(29, .bool (decide (c ≤ 70))), (30, .bool true), (31, .bool true), (32, .int .u8 c), (33, .bool (decide (c ≥ 65))), (34, .bool (decide (c ≥ 65))), (35, .bool true), (36, .int .u8 c), (37, .bool (decide (c ≤ 70))), (38, .bool (decide (c ≤ 70)))]), [], h, none⟩ ?_
      refine WpM.cond (t := (decide (c ≤ 70))) (by kernel_rfl) (fun c6 => ?_) (fun c6 => ?_)
      ·have c6p := dec_t c6
       refine rn4 3 ⟨.ops (p43_18_1 :: o43_18.drop 2), [.seq .ret, .blk 0, .seq x43_19], (ss (E70 c) [(29, .bool (decide (c ≤ 70))), (30, .bool true), (31, .bool true), (32, .int .u8 c), (33, .bool (decide (c ≥ 65))), (34, .bool (decide (c ≥ 65))), (35, .bool true), (36, .int .u8 c), (37, .bool (decide (c ≤ 70))), (38, .bool (decide (c ≤ 70))), (39, .int .u8 c)]), [], h, none⟩ ?_
       refine WpM.op (.int .u8 (c - 65)) _ (by kernel_rfl) (arith_subU (by kernel_rfl) (by kernel_rfl) (by omega)) ?_
       refine rn4 0 ⟨.ops (p43_18_2 :: o43_18.drop 3), [.seq .ret, .blk 0, .seq x43_19], (ss (E70 c) [(29, .bool (decide (c ≤ 70))), (30, .bool true), (31, .bool true), (32, .int .u8 c), (33, .bool (decide (c ≥ 65))), (34, .bool (decide (c ≥ 65))), (35, .bool true), (36, .int .u8 c), (37, .bool (decide (c ≤ 70))), (38, .bool (decide (c ≤ 70))), (39, .int .u8 c), (40, .int .u8 (c - 65))]), [], h, none⟩ ?_
       refine WpM.op (iv (c - 65)) _ (by kernel_rfl) (conv_i64 (k := .u8) (ht := rfl) (hu := by kernel_rfl) (hx := by kernel_rfl) (hn := by omega)) ?_
       refine rn4 0 ⟨.ops (p43_18_3 :: o43_18.drop 4), [.seq .ret, .blk 0, .seq x43_19], (ss (E70 c) [(29, .bool (decide (c ≤ 70))), (30, .bool true), (31, .bool true), (32, .int .u8 c), (33, .bool (decide (c ≥ 65))), (34, .bool (decide (c ≥ 65))), (35, .bool true), (36, .int .u8 c), (37, .bool (decide (c ≤ 70))), (38, .bool (decide (c ≤ 70))), (39, .int .u8 c), (40, .int .u8 (c - 65)), (41, iv (c - 65))]), [], h, none⟩ ?_
       refine WpM.op (iv ((c - 65) + 10)) _ (by kernel_rfl) (arith_add (by kernel_rfl) (by kernel_rfl) (by omega)) ?_
       refine rn4 6 ⟨.done .ret, [], (E71 c), [], h, none⟩ ?_
       refine WpM.ret (iv ((c - 65) + 10)) h (by kernel_rfl) (by kernel_rfl) ?_
       exact ⟨rfl, congrArg (V.int .i64) (by unfold dgt; first | (rw [if_pos (by omega)]; done) | (rw [if_neg (by omega), if_pos (by first | exact ⟨rfl, by omega, by omega⟩ | omega)]; omega) | (rw [if_neg (by omega), if_neg (by first | omega | (intro e; exact absurd e.1 (by decide))), if_pos (by first | exact ⟨rfl, by omega, by omega⟩ | omega)]; omega) | (rw [if_neg (by omega), if_neg (by first | omega | (intro e; exact absurd e.1 (by decide)) | (intro e; omega)), if_neg (by first | omega | (intro e; exact absurd e.1 (by decide)) | (intro e; omega))]))⟩
      ·have c6p := dec_f c6
       refine rn4 9 ⟨.done .ret, [], (ss (E71 c) [(4, iv (-1)), (39, U), (40, U), (41, U), (42, U)]), [], h, none⟩ ?_
       refine WpM.ret (iv (-1)) h (by kernel_rfl) (by kernel_rfl) ?_
       exact ⟨rfl, congrArg (V.int .i64) (by unfold dgt; first | (rw [if_pos (by omega)]; done) | (rw [if_neg (by omega), if_pos (by first | exact ⟨rfl, by omega, by omega⟩ | omega)]; omega) | (rw [if_neg (by omega), if_neg (by first | omega | (intro e; exact absurd e.1 (by decide))), if_pos (by first | exact ⟨rfl, by omega, by omega⟩ | omega)]; omega) | (rw [if_neg (by omega), if_neg (by first | omega | (intro e; exact absurd e.1 (by decide)) | (intro e; omega)), if_neg (by first | omega | (intro e; exact absurd e.1 (by decide)) | (intro e; omega))]))⟩
     ·have c5p := dec_f c5
      refine rn4 16 ⟨.done .ret, [], (ss (E70 c) [(4, iv (-1)), (29, .bool false), (30, .bool true), (31, .bool true), (32, .int .u8 c), (33, .bool (decide (c ≥ 65))), (34, .bool (decide (c ≥ 65))), (35, .bool false), (38, .bool false)]), [], h, none⟩ ?_
      refine WpM.ret (iv (-1)) h (by kernel_rfl) (by kernel_rfl) ?_
      exact ⟨rfl, congrArg (V.int .i64) (by unfold dgt; first | (rw [if_pos (by omega)]; done) | (rw [if_neg (by omega), if_pos (by first | exact ⟨rfl, by omega, by omega⟩ | omega)]; omega) | (rw [if_neg (by omega), if_neg (by first | omega | (intro e; exact absurd e.1 (by decide))), if_pos (by first | exact ⟨rfl, by omega, by omega⟩ | omega)]; omega) | (rw [if_neg (by omega), if_neg (by first | omega | (intro e; exact absurd e.1 (by decide)) | (intro e; omega)), if_neg (by first | omega | (intro e; exact absurd e.1 (by decide)) | (intro e; omega))]))⟩
   ·have c3p := dec_f c3
    refine rn4 15 ⟨.ops (p43_15_6 :: o43_15.drop 7), [.seq x43_16, .blk 0, .seq x43_19], (ss (E70 c) [(15, .bool false), (21, .bool false), (22, U), (23, U), (24, .bool false), (30, .bool true), (31, .bool true), (32, .int .u8 c), (33, .bool (decide (c ≥ 65))), (34, .bool (decide (c ≥ 65))), (35, .bool (decide (c ≥ 65)))]), [], h, none⟩ ?_
    refine WpM.guard (b := (decide (c ≥ 65))) (by kernel_rfl) (fun c7 => ?_) (fun c7 => ?_)
    ·have c7p := dec_t c7
     refine rn4 6 ⟨.code x43_16, [.blk 0, .seq x43_19], (ss (E71 c) [(4, iv 0), (15, .bool false), (21, .bool false), (22, U), (23, U), (24, .bool false), (39, U), (40, U), (41, U), (42, U)]), [], h, none⟩ ?_
     refine WpM.cond (t := (decide (c ≤ 70))) (by kernel_rfl) (fun c8 => ?_) (fun c8 => ?_)
     ·have c8p := dec_t c8
      refine rn4 3 ⟨.ops (p43_18_1 :: o43_18.drop 2), [.seq .ret, .blk 0, .seq x43_19], (ss (E71 c) [(4, iv 0), (15, .bool false), (21, .bool false), (22, U), (23, U), (24, .bool false), (40, U), (41, U), (42, U)]), [], h, none⟩ ?_
      refine WpM.op (.int .u8 (c - 65)) _ (by kernel_rfl) (arith_subU (by kernel_rfl) (by kernel_rfl) (by omega)) ?_
      refine rn4 0 ⟨.ops (p43_18_2 :: o43_18.drop 3), [.seq .ret, .blk 0, .seq x43_19], (ss (E71 c) [(4, iv 0), (15, .bool false), (21, .bool false), (22, U), (23, U), (24, .bool false), (41, U), (42, U)]), [], h, none⟩ ?_
      refine WpM.op (iv (c - 65)) _ (by kernel_rfl) (conv_i64 (k := .u8) (ht := rfl) (hu := by kernel_rfl) (hx := by kernel_rfl) (hn := by omega)) ?_
      refine rn4 0 ⟨.ops (p43_18_3 :: o43_18.drop 4), [.seq .ret, .blk 0, .seq x43_19], (ss (E71 c) [(4, iv 0), (15, .bool false), (21, .bool false), (22, U), (23, U), (24, .bool false), (42, U)]), [], h, none⟩ ?_
      refine WpM.op (iv ((c - 65) + 10)) _ (by kernel_rfl) (arith_add (by kernel_rfl) (by kernel_rfl) (by omega)) ?_
      refine rn4 6 ⟨.done .ret, [], (ss (E71 c) [(15, .bool false), (21, .bool false), (22, U), (23, U), (24, .bool false)]), [], h, none⟩ ?_
      refine WpM.ret (iv ((c - 65) + 10)) h (by kernel_rfl) (by kernel_rfl) ?_
      exact ⟨rfl, congrArg (V.int .i64) (by unfold dgt; first | (rw [if_pos (by omega)]; done) | (rw [if_neg (by omega), if_pos (by first | exact ⟨rfl, by omega, by omega⟩ | omega)]; omega) | (rw [if_neg (by omega), if_neg (by first | omega | (intro e; exact absurd e.1 (by decide))), if_pos (by first | exact ⟨rfl, by omega, by omega⟩ | omega)]; omega) | (rw [if_neg (by omega), if_neg (by first | omega | (intro e; exact absurd e.1 (by decide)) | (intro e; omega)), if_neg (by first | omega | (intro e; exact absurd e.1 (by decide)) | (intro e; omega))]))⟩
     ·have c8p := dec_f c8
      refine rn4 9 ⟨.done .ret, [], (ss (E71 c) [(4, iv (-1)), (15, .bool false), (21, .bool false), (22, U), (23, U), (24, .bool false), (39, U), (40, U), (41, U), (42, U)]), [], h, none⟩ ?_
      refine WpM.ret (iv (-1)) h (by kernel_rfl) (by kernel_rfl) ?_
      exact ⟨rfl, congrArg (V.int .i64) (by unfold dgt; first | (rw [if_pos (by omega)]; done) | (rw [if_neg (by omega), if_pos (by first | exact ⟨rfl, by omega, by omega⟩ | omega)]; omega) | (rw [if_neg (by omega), if_neg (by first | omega | (intro e; exact absurd e.1 (by decide))), if_pos (by first | exact ⟨rfl, by omega, by omega⟩ | omega)]; omega) | (rw [if_neg (by omega), if_neg (by first | omega | (intro e; exact absurd e.1 (by decide)) | (intro e; omega)), if_neg (by first | omega | (intro e; exact absurd e.1 (by decide)) | (intro e; omega))]))⟩
    ·have c7p := dec_f c7
     refine rn4 16 ⟨.done .ret, [], (ss (E70 c) [(4, iv (-1)), (15, .bool false), (21, .bool false), (22, U), (23, U), (24, .bool false), (29, .bool false), (30, .bool true), (31, .bool true), (32, .int .u8 c), (33, .bool (decide (c ≥ 65))), (34, .bool (decide (c ≥ 65))), (35, .bool false), (38, .bool false)]), [], h, none⟩ ?_
     refine WpM.ret (iv (-1)) h (by kernel_rfl) (by kernel_rfl) ?_
     exact ⟨rfl, congrArg (V.int .i64) (by unfold dgt; first | (rw [if_pos (by omega)]; done) | (rw [if_neg (by omega), if_pos (by first | exact ⟨rfl, by omega, by omega⟩ | omega)]; omega) | (rw [if_neg (by omega), if_neg (by first | omega | (intro e; exact absurd e.1 (by decide))), if_pos (by first | exact ⟨rfl, by omega, by omega⟩ | omega)]; omega) | (rw [if_neg (by omega), if_neg (by first | omega | (intro e; exact absurd e.1 (by decide)) | (intro e; omega)), if_neg (by first | omega | (intro e; exact absurd e.1 (by decide)) | (intro e; omega))]))⟩
 ·have c1p := dec_f c1
  refine rn4 15 ⟨.ops (p43_10_6 :: o43_10.drop 7), [.seq x43_11, .blk 0, .seq x43_19], (ss (E70 c) [(5, .bool false), (8, .bool false), (9, U), (10, U), (11, .bool false), (15, U), (21, .bool (decide (c ≥ 97))), (22, U), (23, U), (24, U)]), [], h, none⟩ ?_
  refine WpM.guard (b := (decide (c ≥ 97))) (by kernel_rfl) (fun c9 => ?_) (fun c9 => ?_)
  ·have c9p := dec_t c9
   refine rn4 6 ⟨.code x43_11, [.blk 0, .seq x43_19], (ss (E70 c) [(5, .bool false), (8, .bool false), (9, U), (10, U), (11, .bool false)]), [], h, none⟩ ?_
   refine WpM.cond (t := (decide (c ≤ 102))) (by kernel_rfl) (fun c10 => ?_) (fun c10 => ?_)
   ·have c10p := dec_t c10
    refine rn4 3 ⟨.ops (p43_13_1 :: o43_13.drop 2), [.seq .ret, .blk 0, .seq x43_19], (ss (E70 c) [(5, .bool false), (8, .bool false), (9, U), (10, U), (11, .bool false), (25, .int .u8 c)]), [], h, none⟩ ?_
    refine WpM.op (.int .u8 (c - 97)) _ (by kernel_rfl) (arith_subU (by kernel_rfl) (by kernel_rfl) (by omega)) ?_
    refine rn4 0 ⟨.ops (p43_13_2 :: o43_13.drop 3), [.seq .ret, .blk 0, .seq x43_19], (ss (E70 c) [(5, .bool false), (8, .bool false), (9, U), (10, U), (11, .bool false), (25, .int .u8 c), (26, .int .u8 (c - 97))]), [], h, none⟩ ?_
    refine WpM.op (iv (c - 97)) _ (by kernel_rfl) (conv_i64 (k := .u8) (ht := rfl) (hu := by kernel_rfl) (hx := by kernel_rfl) (hn := by omega)) ?_
    refine rn4 0 ⟨.ops (p43_13_3 :: o43_13.drop 4), [.seq .ret, .blk 0, .seq x43_19], (ss (E70 c) [(5, .bool false), (8, .bool false), (9, U), (10, U), (11, .bool false), (25, .int .u8 c), (26, .int .u8 (c - 97)), (27, iv (c - 97))]), [], h, none⟩ ?_
    refine WpM.op (iv ((c - 97) + 10)) _ (by kernel_rfl) (arith_add (by kernel_rfl) (by kernel_rfl) (by omega)) ?_
    refine rn4 6 ⟨.done .ret, [], (ss (E70 c) [(4, iv ((c - 97) + 10)), (5, .bool false), (8, .bool false), (9, U), (10, U), (11, .bool false), (25, .int .u8 c), (26, .int .u8 (c - 97)), (27, iv (c - 97)), (28, iv ((c - 97) + 10))]), [], h, none⟩ ?_
    refine WpM.ret (iv ((c - 97) + 10)) h (by kernel_rfl) (by kernel_rfl) ?_
    exact ⟨rfl, congrArg (V.int .i64) (by unfold dgt; first | (rw [if_pos (by omega)]; done) | (rw [if_neg (by omega), if_pos (by first | exact ⟨rfl, by omega, by omega⟩ | omega)]; omega) | (rw [if_neg (by omega), if_neg (by first | omega | (intro e; exact absurd e.1 (by decide))), if_pos (by first | exact ⟨rfl, by omega, by omega⟩ | omega)]; omega) | (rw [if_neg (by omega), if_neg (by first | omega | (intro e; exact absurd e.1 (by decide)) | (intro e; omega)), if_neg (by first | omega | (intro e; exact absurd e.1 (by decide)) | (intro e; omega))]))⟩
   ·have c10p := dec_f c10
    refine rn4 8 ⟨.ops (p43_15_6 :: o43_15.drop 7), [.seq x43_16, .blk 0, .seq x43_19], (ss (E70 c) [(5, .bool false), (8, .bool false), (9, U), (10, U), (11, .bool false), (30, .bool true), (31, .bool true), (32, .int .u8 c), (33, .bool (decide (c ≥ 65))), (34, .bool (decide (c ≥ 65))), (35, .bool (decide (c ≥ 65)))]), [], h, none⟩ ?_
    refine WpM.guard (b := (decide (c ≥ 65))) (by kernel_rfl) (fun c11 => ?_) (fun c11 => ?_)
    ·have c11p := dec_t c11
     refine rn4 6 ⟨.code x43_16, [.blk 0, .seq x43_19], (ss (E71 c) [(4, iv 0), (5, .bool false), (8, .bool false), (9, U), (10, U), (11, .bool false), (39, U), (40, U), (41, U), (42, U)]), [], h, none⟩ ?_
     refine WpM.cond (t := (decide (c ≤ 70))) (by kernel_rfl) (fun c12 => ?_) (fun c12 => ?_)
     ·have c12p := dec_t c12
      refine rn4 3 ⟨.ops (p43_18_1 :: o43_18.drop 2), [.seq .ret, .blk 0, .seq x43_19], (ss (E71 c) [(4, iv 0), (5, .bool false), (8, .bool false), (9, U), (10, U), (11, .bool false), (40, U), (41, U), (42, U)]), [], h, none⟩ ?_
      refine WpM.op (.int .u8 (c - 65)) _ (by kernel_rfl) (arith_subU (by kernel_rfl) (by kernel_rfl) (by omega)) ?_
      refine rn4 0 ⟨.ops (p43_18_2 :: o43_18.drop 3), [.seq .ret, .blk 0, .seq x43_19], (ss (E71 c) [(4, iv 0), (5, .bool false), (8, .bool false), (9, U), (10, U), (11, .bool false), (41, U), (42, U)]), [], h, none⟩ ?_
      refine WpM.op (iv (c - 65)) _ (by kernel_rfl) (conv_i64 (k := .u8) (ht := rfl) (hu := by kernel_rfl) (hx := by kernel_rfl) (hn := by omega)) ?_
      refine rn4 0 ⟨.ops (p43_18_3 :: o43_18.drop 4), [.seq .ret, .blk 0, .seq x43_19], (ss (E71 c) [(4, iv 0), (5, .bool false), (8, .bool false), (9, U), (10, U), (11, .bool false), (42, U)]), [], h, none⟩ ?_
      refine WpM.op (iv ((c - 65) + 10)) _ (by kernel_rfl) (arith_add (by kernel_rfl) (by kernel_rfl) (by omega)) ?_
      refine rn4 6 ⟨.done .ret, [], (ss (E71 c) [(5, .bool false), (8, .bool false), (9, U), (10, U), (11, .bool false)]), [], h, none⟩ ?_
      refine WpM.ret (iv ((c - 65) + 10)) h (by kernel_rfl) (by kernel_rfl) ?_
      exact ⟨rfl, congrArg (V.int .i64) (by unfold dgt; first | (rw [if_pos (by omega)]; done) | (rw [if_neg (by omega), if_pos (by first | exact ⟨rfl, by omega, by omega⟩ | omega)]; omega) | (rw [if_neg (by omega), if_neg (by first | omega | (intro e; exact absurd e.1 (by decide))), if_pos (by first | exact ⟨rfl, by omega, by omega⟩ | omega)]; omega) | (rw [if_neg (by omega), if_neg (by first | omega | (intro e; exact absurd e.1 (by decide)) | (intro e; omega)), if_neg (by first | omega | (intro e; exact absurd e.1 (by decide)) | (intro e; omega))]))⟩
     ·have c12p := dec_f c12
      refine rn4 9 ⟨.done .ret, [], (ss (E71 c) [(4, iv (-1)), (5, .bool false), (8, .bool false), (9, U), (10, U), (11, .bool false), (39, U), (40, U), (41, U), (42, U)]), [], h, none⟩ ?_
      refine WpM.ret (iv (-1)) h (by kernel_rfl) (by kernel_rfl) ?_
      exact ⟨rfl, congrArg (V.int .i64) (by unfold dgt; first | (rw [if_pos (by omega)]; done) | (rw [if_neg (by omega), if_pos (by first | exact ⟨rfl, by omega, by omega⟩ | omega)]; omega) | (rw [if_neg (by omega), if_neg (by first | omega | (intro e; exact absurd e.1 (by decide))), if_pos (by first | exact ⟨rfl, by omega, by omega⟩ | omega)]; omega) | (rw [if_neg (by omega), if_neg (by first | omega | (intro e; exact absurd e.1 (by decide)) | (intro e; omega)), if_neg (by first | omega | (intro e; exact absurd e.1 (by decide)) | (intro e; omega))]))⟩
    ·have c11p := dec_f c11
     refine rn4 16 ⟨.done .ret, [], (ss (E70 c) [(4, iv (-1)), (5, .bool false), (8, .bool false), (9, U), (10, U), (11, .bool false), (29, .bool false), (30, .bool true), (31, .bool true), (32, .int .u8 c), (33, .bool (decide (c ≥ 65))), (34, .bool (decide (c ≥ 65))), (35, .bool false), (38, .bool false)]), [], h, none⟩ ?_
     refine WpM.ret (iv (-1)) h (by kernel_rfl) (by kernel_rfl) ?_
     exact ⟨rfl, congrArg (V.int .i64) (by unfold dgt; first | (rw [if_pos (by omega)]; done) | (rw [if_neg (by omega), if_pos (by first | exact ⟨rfl, by omega, by omega⟩ | omega)]; omega) | (rw [if_neg (by omega), if_neg (by first | omega | (intro e; exact absurd e.1 (by decide))), if_pos (by first | exact ⟨rfl, by omega, by omega⟩ | omega)]; omega) | (rw [if_neg (by omega), if_neg (by first | omega | (intro e; exact absurd e.1 (by decide)) | (intro e; omega)), if_neg (by first | omega | (intro e; exact absurd e.1 (by decide)) | (intro e; omega))]))⟩
  ·have c9p := dec_f c9
   refine rn4 15 ⟨.ops (p43_15_6 :: o43_15.drop 7), [.seq x43_16, .blk 0, .seq x43_19], (E72 c), [], h, none⟩ ?_
   refine WpM.guard (b := (decide (c ≥ 65))) (by kernel_rfl) (fun c13 => ?_) (fun c13 => ?_)
   ·have c13p := dec_t c13
    refine rn4 6 ⟨.code x43_16, [.blk 0, .seq x43_19], (ss (E72 c) [(29, .bool (decide (c ≤ 70))), (35, .bool true), (36, .int .u8 c), (37, .bool (decide (c ≤ 70))), (38, .bool (decide (c ≤ 70)))]), [], h, none⟩ ?_
    refine WpM.cond (t := (decide (c ≤ 70))) (by kernel_rfl) (fun c14 => ?_) (fun c14 => ?_)
    ·have c14p := dec_t c14
     refine rn4 3 ⟨.ops (p43_18_1 :: o43_18.drop 2), [.seq .ret, .blk 0, .seq x43_19], (ss (E72 c) [(29, .bool (decide (c ≤ 70))), (35, .bool true), (36, .int .u8 c), (37, .bool (decide (c ≤ 70))), (38, .bool (decide (c ≤ 70))), (39, .int .u8 c)]), [], h, none⟩ ?_
     refine WpM.op (.int .u8 (c - 65)) _ (by kernel_rfl) (arith_subU (by kernel_rfl) (by kernel_rfl) (by omega)) ?_
     refine rn4 0 ⟨.ops (p43_18_2 :: o43_18.drop 3), [.seq .ret, .blk 0, .seq x43_19], (ss (E72 c) [(29, .bool (decide (c ≤ 70))), (35, .bool true), (36, .int .u8 c), (37, .bool (decide (c ≤ 70))), (38, .bool (decide (c ≤ 70))), (39, .int .u8 c), (40, .int .u8 (c - 65))]), [], h, none⟩ ?_
     refine WpM.op (iv (c - 65)) _ (by kernel_rfl) (conv_i64 (k := .u8) (ht := rfl) (hu := by kernel_rfl) (hx := by kernel_rfl) (hn := by omega)) ?_
     refine rn4 0 ⟨.ops (p43_18_3 :: o43_18.drop 4), [.seq .ret, .blk 0, .seq x43_19], (ss (E72 c) [(29, .bool (decide (c ≤ 70))), (35, .bool true), (36, .int .u8 c), (37, .bool (decide (c ≤ 70))), (38, .bool (decide (c ≤ 70))), (39, .int .u8 c), (40, .int .u8 (c - 65)), (41, iv (c - 65))]), [], h, none⟩ ?_
     refine WpM.op (iv ((c - 65) + 10)) _ (by kernel_rfl) (arith_add (by kernel_rfl) (by kernel_rfl) (by omega)) ?_
     refine rn4 6 ⟨.done .ret, [], (ss (E72 c) [(4, iv ((c - 65) + 10)), (29, .bool (decide (c ≤ 70))), (35, .bool true), (36, .int .u8 c), (37, .bool (decide (c ≤ 70))), (38, .bool (decide (c ≤ 70))), (39, .int .u8 c), (40, .int .u8 (c - 65)), (41, iv (c - 65)), (42, iv ((c - 65) + 10))]), [], h, none⟩ ?_
     refine WpM.ret (iv ((c - 65) + 10)) h (by kernel_rfl) (by kernel_rfl) ?_
     exact ⟨rfl, congrArg (V.int .i64) (by unfold dgt; first | (rw [if_pos (by omega)]; done) | (rw [if_neg (by omega), if_pos (by first | exact ⟨rfl, by omega, by omega⟩ | omega)]; omega) | (rw [if_neg (by omega), if_neg (by first | omega | (intro e; exact absurd e.1 (by decide))), if_pos (by first | exact ⟨rfl, by omega, by omega⟩ | omega)]; omega) | (rw [if_neg (by omega), if_neg (by first | omega | (intro e; exact absurd e.1 (by decide)) | (intro e; omega)), if_neg (by first | omega | (intro e; exact absurd e.1 (by decide)) | (intro e; omega))]))⟩
    ·have c14p := dec_f c14
     refine rn4 9 ⟨.done .ret, [], (ss (E72 c) [(4, iv (-1)), (29, .bool (decide (c ≤ 70))), (35, .bool true), (36, .int .u8 c), (37, .bool (decide (c ≤ 70))), (38, .bool (decide (c ≤ 70)))]), [], h, none⟩ ?_
     refine WpM.ret (iv (-1)) h (by kernel_rfl) (by kernel_rfl) ?_
     exact ⟨rfl, congrArg (V.int .i64) (by unfold dgt; first | (rw [if_pos (by omega)]; done) | (rw [if_neg (by omega), if_pos (by first | exact ⟨rfl, by omega, by omega⟩ | omega)]; omega) | (rw [if_neg (by omega), if_neg (by first | omega | (intro e; exact absurd e.1 (by decide))), if_pos (by first | exact ⟨rfl, by omega, by omega⟩ | omega)]; omega) | (rw [if_neg (by omega), if_neg (by first | omega | (intro e; exact absurd e.1 (by decide)) | (intro e; omega)), if_neg (by first | omega | (intro e; exact absurd e.1 (by decide)) | (intro e; omega))]))⟩
   ·have c13p := dec_f c13
    refine rn4 16 ⟨.done .ret, [], (ss (E72 c) [(4, iv (-1)), (29, .bool false), (35, .bool false), (38, .bool false)]), [], h, none⟩ ?_
    refine WpM.ret (iv (-1)) h (by kernel_rfl) (by kernel_rfl) ?_
    exact ⟨rfl, congrArg (V.int .i64) (by unfold dgt; first | (rw [if_pos (by omega)]; done) | (rw [if_neg (by omega), if_pos (by first | exact ⟨rfl, by omega, by omega⟩ | omega)]; omega) | (rw [if_neg (by omega), if_neg (by first | omega | (intro e; exact absurd e.1 (by decide))), if_pos (by first | exact ⟨rfl, by omega, by omega⟩ | omega)]; omega) | (rw [if_neg (by omega), if_neg (by first | omega | (intro e; exact absurd e.1 (by decide)) | (intro e; omega)), if_neg (by first | omega | (intro e; exact absurd e.1 (by decide)) | (intro e; omega))]))⟩
theorem beg_e {s t : List UInt8} (h : t.length ≤ s.length) : t.isPrefixOf s = (s.take t.length == t) := by
 rw [Bool.eq_iff_iff, List.isPrefixOf_iff_prefix, beq_iff_eq, List.prefix_iff_eq_take]
 exact eq_comm
theorem beg_f {s t : List UInt8} (h : ¬ t.length ≤ s.length) : t.isPrefixOf s = false := by
 cases e : t.isPrefixOf s
 ·rfl
 ·exact absurd (List.isPrefixOf_iff_prefix.1 e).length_le h
def E73 (s : List UInt8) (t : List UInt8) : List V := (.str s :: .str t :: U :: U :: .bool false :: .str s :: iv ((s.length : Int)) :: .str t :: iv ((t.length : Int)) :: .bool (decide (((s.length : Int)) ≥ ((t.length : Int)))) :: .bool (decide (((s.length : Int)) ≥ ((t.length : Int)))) :: us 7)
def E74 (s : List UInt8) (t : List UInt8) : List V := (.str s :: .str t :: U :: U :: .bool ((s.take (((t.length : Int)).toNat)) == t) :: .str s :: iv ((s.length : Int)) :: .str t :: iv ((t.length : Int)) :: .bool (decide (((s.length : Int)) ≥ ((t.length : Int)))) :: .bool true :: .str s :: .str t :: iv ((t.length : Int)) :: .str (s.take (((t.length : Int)).toNat)) :: .str t :: .bool ((s.take (((t.length : Int)).toNat)) == t) :: .bool ((s.take (((t.length : Int)).toNat)) == t) :: [])
theorem beg_ok {W : World} {s t : List UInt8} {h : H} (hs : s.length ≤ 140737488351232) (ht : t.length ≤ 140737488351232) : WpF Tryd.prog W prim2 44 [.str s, .str t] h (fun v h' => h = h' ∧ v = .bool (t.isPrefixOf s)) := by
 refine WpF.m tab4_ok (by kernel_rfl) rfl ?_
 refine WpM.cfg (c' := ⟨.code x44_0, [], (.str s :: .str t :: us 16), [], h, none⟩) (by kernel_rfl) ?_
 refine rn4 13 ⟨.ops (p44_3_6 :: o44_3.drop 7), [.seq .ret], (E73 s t), [], h, none⟩ ?_
 refine WpM.guard (b := (decide (((s.length : Int)) ≥ ((t.length : Int))))) (by kernel_rfl) (fun c1 => ?_) (fun c1 => ?_)
 ·have c1p := dec_t c1
  refine rn4 3 ⟨.ops (p44_3_9 :: o44_3.drop 10), [.seq .ret], (ss (E73 s t) [(10, .bool true), (11, .str s), (12, .str t), (13, iv ((t.length : Int)))]), [], h, none⟩ ?_
  refine WpM.op (.str (s.take (((t.length : Int)).toNat))) _ (by kernel_rfl) (slice_to (s := s) (m := (((t.length : Int)).toNat)) (by kernel_rfl) (by kernel_rfl) (by kernel_rfl) (optNat_lit (k := .i64) (n := ((t.length : Int)).toNat) (i := ((t.length : Int))) (by first | rfl | omega)) (by omega)) ?_
  refine rn4 7 ⟨.done .ret, [], (E74 s t), [], h, none⟩ ?_
  refine WpM.ret (.bool ((s.take (((t.length : Int)).toNat)) == t)) h (by kernel_rfl) (by kernel_rfl) ?_
  exact ⟨rfl, congrArg V.bool (by first | exact (beg_t (by omega) (by assumption)).symm | exact (beg_f (by omega)).symm | exact (beg_e (by omega)).symm)⟩
 ·have c1p := dec_f c1
  refine rn4 11 ⟨.done .ret, [], (ss (E73 s t) [(10, .bool false), (17, .bool false)]), [], h, none⟩ ?_
  refine WpM.ret (.bool false) h (by kernel_rfl) (by kernel_rfl) ?_
  exact ⟨rfl, congrArg V.bool (by first | exact (beg_t (by omega) (by assumption)).symm | exact (beg_f (by omega)).symm | exact (beg_e (by omega)).symm)⟩
theorem numV_min {m : Int} : numV (min m 16777216) = numV m := by
 by_cases h : m ≤ 16777216
 ·rw [Int.min_eq_left h]
 ·rw [numV_odd (by omega), numV_odd (by omega)]
theorem numF_nn (n : Int) : 0 ≤ numF n := by unfold numF; split <;> omega
theorem numF_min {m : Int} : numF (min m 16777216) = numF m := by
 by_cases h : m ≤ 16777216
 ·rw [Int.min_eq_left h]
 ·rw [numF_bad (by omega), numF_bad (by omega)]
def E75 (s : List UInt8) (i : Int) (v6 : V) (v7 : V) (l : Int) (z : Int) (o13 : V) (o14 : V) (o15 : V) (o16 : V) (o17 : V) (o18 : V) (o19 : V) (o20 : V) (o21 : V) (o22 : V) (o23 : V) (o24 : V) (o25 : V) (o26 : V) (o27 : V) (d28 : V) (d29 : V) (d30 : V) (d31 : V) (d32 : V) (d33 : V) (d34 : V) (d35 : V) (d36 : V) (d37 : V) (d38 : V) (d39 : V) (d40 : V) (d41 : V) (d42 : V) (d43 : V) (d44 : V) (d45 : V) (d46 : V) (d47 : V) (d48 : V) (d49 : V) (d50 : V) (d51 : V) : List V := (.str s :: U :: iv 0 :: iv 0 :: .slice none 0 0 true :: iv i :: v6 :: v7 :: iv l :: iv z :: U :: U :: U :: o13 :: o14 :: o15 :: o16 :: o17 :: o18 :: o19 :: o20 :: o21 :: o22 :: o23 :: o24 :: o25 :: o26 :: o27 :: d28 :: d29 :: d30 :: d31 :: d32 :: d33 :: d34 :: d35 :: d36 :: d37 :: d38 :: d39 :: d40 :: d41 :: d42 :: d43 :: d44 :: d45 :: d46 :: d47 :: d48 :: d49 :: d50 :: d51 :: us 34)
def E76 (s : List UInt8) (p102 : Nat) (i : Int) (v6 : V) (v7 : V) (l : Int) (z : Int) (o13 : V) (o14 : V) (o15 : V) (o16 : V) (o17 : V) (o18 : V) (o19 : V) (o20 : V) (o21 : V) (o22 : V) (o23 : V) (o24 : V) (o25 : V) (o26 : V) (o27 : V) (d28 : V) (d29 : V) (d30 : V) (d31 : V) (d32 : V) (d33 : V) (d34 : V) (d35 : V) (d36 : V) (d37 : V) (d38 : V) (d39 : V) (d40 : V) (d41 : V) (d42 : V) (d43 : V) (d44 : V) (d45 : V) (d46 : V) (d47 : V) (d48 : V) (d49 : V) (d50 : V) (d51 : V) : List V := (.str s :: U :: iv 0 :: iv 0 :: .slice (nw p102) 1 1 true :: iv i :: v6 :: v7 :: iv l :: iv z :: U :: U :: U :: o13 :: o14 :: o15 :: o16 :: o17 :: o18 :: o19 :: o20 :: o21 :: o22 :: o23 :: o24 :: o25 :: o26 :: o27 :: d28 :: d29 :: d30 :: d31 :: d32 :: d33 :: d34 :: d35 :: d36 :: d37 :: d38 :: d39 :: d40 :: d41 :: d42 :: d43 :: d44 :: d45 :: d46 :: d47 :: d48 :: d49 :: d50 :: d51 :: iv i :: iv l :: .bool (i == l) :: .slice (nw p102) 1 1 true :: us 30)
def E77 (s : List UInt8) (i : Int) (v6 : V) (v7 : V) (l : Int) (z : Int) (o13 : V) (o14 : V) (o15 : V) (o16 : V) (o17 : V) (o18 : V) (o19 : V) (o20 : V) (o21 : V) (o22 : V) (o23 : V) (o24 : V) (o25 : V) (o26 : V) (o27 : V) (d28 : V) (d29 : V) (d30 : V) (d31 : V) (d32 : V) (d33 : V) (d34 : V) (d35 : V) (d36 : V) (d37 : V) (d38 : V) (d39 : V) (d40 : V) (d41 : V) (d42 : V) (d43 : V) (d44 : V) (d45 : V) (d46 : V) (d47 : V) (d48 : V) (d49 : V) (d50 : V) (d51 : V) : List V := (.str s :: U :: iv 0 :: iv 0 :: .slice none 0 0 true :: iv i :: v6 :: v7 :: iv l :: iv z :: .slice none 0 0 true :: iv (numV z) :: iv (numF z) :: o13 :: o14 :: o15 :: o16 :: o17 :: o18 :: o19 :: o20 :: o21 :: o22 :: o23 :: o24 :: o25 :: o26 :: o27 :: d28 :: d29 :: d30 :: d31 :: d32 :: d33 :: d34 :: d35 :: d36 :: d37 :: d38 :: d39 :: d40 :: d41 :: d42 :: d43 :: d44 :: d45 :: d46 :: d47 :: d48 :: d49 :: d50 :: d51 :: iv i :: iv l :: .bool (i == l) :: U :: .tup [iv (numV z), iv (numF z)] :: iv z :: .tup [iv (numV z), iv (numF z)] :: iv (numV z) :: iv (numF z) :: iv (numF z) :: .bool (!((numF z) == 0)) :: us 23)
def E78 (s : List UInt8) (i : Int) (v6 : V) (v7 : V) (l : Int) (z : Int) (p111 : Nat) (o13 : V) (o14 : V) (o15 : V) (o16 : V) (o17 : V) (o18 : V) (o19 : V) (o20 : V) (o21 : V) (o22 : V) (o23 : V) (o24 : V) (o25 : V) (o26 : V) (o27 : V) (d28 : V) (d29 : V) (d30 : V) (d31 : V) (d32 : V) (d33 : V) (d34 : V) (d35 : V) (d36 : V) (d37 : V) (d38 : V) (d39 : V) (d40 : V) (d41 : V) (d42 : V) (d43 : V) (d44 : V) (d45 : V) (d46 : V) (d47 : V) (d48 : V) (d49 : V) (d50 : V) (d51 : V) (p108 : Nat) : List V := (.str s :: U :: iv 0 :: iv 0 :: .slice none 0 0 true :: iv i :: v6 :: v7 :: iv l :: iv z :: .slice (nw p111) 1 1 false :: iv (numV z) :: iv (numF z) :: o13 :: o14 :: o15 :: o16 :: o17 :: o18 :: o19 :: o20 :: o21 :: o22 :: o23 :: o24 :: o25 :: o26 :: o27 :: d28 :: d29 :: d30 :: d31 :: d32 :: d33 :: d34 :: d35 :: d36 :: d37 :: d38 :: d39 :: d40 :: d41 :: d42 :: d43 :: d44 :: d45 :: d46 :: d47 :: d48 :: d49 :: d50 :: d51 :: iv i :: iv l :: .bool (i == l) :: U :: .tup [iv (numV z), iv (numF z)] :: iv z :: .tup [iv (numV z), iv (numF z)] :: iv (numV z) :: iv (numF z) :: iv (numF z) :: .bool (!((numF z) == 0)) :: .slice none 0 0 true :: iv (numF z) :: .slice (nw p108) 1 1 true :: .slice (nw p111) 1 1 false :: iv i :: .str s :: iv ((s.length : Int)) :: .bool (decide (i < ((s.length : Int)))) :: .bool true :: .str s :: iv i :: .int .u8 (bt s i) :: .bool ((bt s i) == 59) :: .bool ((bt s i) == 59) :: us 9)
theorem rnum_rest {W : World} {v6 v7 d28 d29 d30 d31 d32 d33 d34 d35 d36 d37 d38 d39 d40 d41 d42 d43 d44 d45 d46 d47 d48 d49 d50 d51 : V} {i l z m9 : Int} {h : H} {s : List UInt8} {h0 : H} {o13 o14 o15 o16 o17 o18 o19 o20 o21 o22 o23 o24 o25 o26 o27 : V} (hs : s.length ≤ 140737488351232) (hl0 : 0 ≤ l) (h0i : l ≤ i) (h1i : i ≤ (s.length : Int)) (hzm : z = min m9 16777216) (hX : HX h0 h) : WpM Tryd.prog W prim2 ⟨.done .norm, [.seq x25_26], (E75 s i v6 v7 l z o13 o14 o15 o16 o17 o18 o19 o20 o21 o22 o23 o24 o25 o26 o27 d28 d29 d30 d31 d32 d33 d34 d35 d36 d37 d38 d39 d40 d41 d42 d43 d44 d45 d46 d47 d48 d49 d50 d51), [], h, none⟩ (retQ Tryd.prog W [.tmp 2, .tmp 3, .tmp 4] (fun v h' => HX h0 h' ∧ ∃ r e cs w, numRes s l (i - l, m9) = (r, e, cs) ∧ v = .tup [iv r, iv e, w] ∧ CodesAt h' w cs)) := by
 refine rn4 9 ⟨.code x25_29, [.seq x25_32], (ss (E75 s i v6 v7 l z o13 o14 o15 o16 o17 o18 o19 o20 o21 o22 o23 o24 o25 o26 o27 d28 d29 d30 d31 d32 d33 d34 d35 d36 d37 d38 d39 d40 d41 d42 d43 d44 d45 d46 d47 d48 d49 d50 d51) [(52, iv i), (53, iv l), (54, .bool (i == l))]), [], h, none⟩ ?_
 refine WpM.cond (t := (i == l)) (by kernel_rfl) (fun c101 => ?_) (fun c101 => ?_)
 ·have c101p := beq_t c101
  refine rn4 2 ⟨.ops (p25_31_0 :: o25_31.drop 1), [.seq .ret, .seq x25_32], (ss (E75 s i v6 v7 l z o13 o14 o15 o16 o17 o18 o19 o20 o21 o22 o23 o24 o25 o26 o27 d28 d29 d30 d31 d32 d33 d34 d35 d36 d37 d38 d39 d40 d41 d42 d43 d44 d45 d46 d47 d48 d49 d50 d51) [(52, iv i), (53, iv l), (54, .bool (i == l))]), [], h, none⟩ ?_
  refine WpM.opA (fun p => .slice (nw p) 1 1 true) (.cells [iv 20] 3) (by kernel_rfl) (by kernel_rfl) (fun p102 h103 a104 => ?_)
  refine rn4 7 ⟨.done .ret, [], (E76 s p102 i v6 v7 l z o13 o14 o15 o16 o17 o18 o19 o20 o21 o22 o23 o24 o25 o26 o27 d28 d29 d30 d31 d32 d33 d34 d35 d36 d37 d38 d39 d40 d41 d42 d43 d44 d45 d46 d47 d48 d49 d50 d51), [], h103, none⟩ ?_
  refine WpM.ret (.tup [iv 0, iv 0, .slice (nw p102) 1 1 true]) h103 (by kernel_rfl) (by kernel_rfl) ?_
  exact ⟨(hX.alloc a104), 0, 0, [20], _, by rw [show i - l = 0 from by omega]; exact numRes_zero, rfl, .inr ⟨p102, 1, true, rfl, a104.lt, a104.get⟩⟩
 ·have c101p := beq_f c101
  refine rn4 10 ⟨.ops (p25_35_1 :: o25_35.drop 2), [.seq x25_36], (ss (E76 s 0 i v6 v7 l z o13 o14 o15 o16 o17 o18 o19 o20 o21 o22 o23 o24 o25 o26 o27 d28 d29 d30 d31 d32 d33 d34 d35 d36 d37 d38 d39 d40 d41 d42 d43 d44 d45 d46 d47 d48 d49 d50 d51) [(4, .slice none 0 0 true), (10, .slice none 0 0 true), (55, U), (57, iv z)]), [], h, none⟩ ?_
  refine WpM.call 9 [iv z] (by kernel_rfl) (by kernel_rfl) ?_
  refine WpF.mono (rnum_ok (n := z) _) ?_
  rintro _ h105 ⟨a106, rfl⟩
  refine rn4 14 ⟨.code x25_39, [.seq x25_41], (E77 s i v6 v7 l z o13 o14 o15 o16 o17 o18 o19 o20 o21 o22 o23 o24 o25 o26 o27 d28 d29 d30 d31 d32 d33 d34 d35 d36 d37 d38 d39 d40 d41 d42 d43 d44 d45 d46 d47 d48 d49 d50 d51), [], h105, none⟩ ?_
  refine WpM.cond (t := (!((numF z) == 0))) (by kernel_rfl) (fun c107 => ?_) (fun c107 => ?_)
  ·have c107p := nbeq_t c107
   refine rn4 3 ⟨.ops (p25_40_2 :: o25_40.drop 3), [.seq x25_41], (ss (E77 s i v6 v7 l z o13 o14 o15 o16 o17 o18 o19 o20 o21 o22 o23 o24 o25 o26 o27 d28 d29 d30 d31 d32 d33 d34 d35 d36 d37 d38 d39 d40 d41 d42 d43 d44 d45 d46 d47 d48 d49 d50 d51) [(63, .slice none 0 0 true), (64, iv (numF z))]), [], h105, none⟩ ?_
   refine WpM.opA (fun p => .slice (nw p) 1 1 true) (.cells [iv (numF z)] 3) (by kernel_rfl) (by kernel_rfl) (fun p108 h109 a110 => ?_)
   refine rn4 0 ⟨.ops (p25_40_3 :: o25_40.drop 4), [.seq x25_41], (ss (E77 s i v6 v7 l z o13 o14 o15 o16 o17 o18 o19 o20 o21 o22 o23 o24 o25 o26 o27 d28 d29 d30 d31 d32 d33 d34 d35 d36 d37 d38 d39 d40 d41 d42 d43 d44 d45 d46 d47 d48 d49 d50 d51) [(63, .slice none 0 0 true), (64, iv (numF z)), (65, .slice (nw p108) 1 1 true)]), [], h109, none⟩ ?_
   refine WpM.opA (fun p => .slice (nw p) 1 1 false) (.cells [iv (numF z)] 3) (by kernel_rfl) (app_step (s := .slice none 0 0 true) (x := .slice (nw p108) 1 1 true) (by kernel_rfl) (by kernel_rfl) (app_op (at0 := 26) (at1 := 26) (e := 3) (size := 1) (bytes := 8) (n := 1) (z0 := iv 0) (nc := [iv (numF z)]) (by kernel_rfl) (by kernel_rfl) (by kernel_rfl) (by kernel_rfl) rfl rfl rfl (first_at a110.get (by decide) (Nat.le_of_ble_eq_true rfl) (by kernel_rfl)) (app_nilR (by decide) rfl (by kernel_rfl) (by decide) (by decide)))) (fun p111 h112 a113 => ?_)
   refine rn4 11 ⟨.ops (p25_43_5 :: o25_43.drop 6), [.seq x25_44, .seq x25_47], (ss (E77 s i v6 v7 l z o13 o14 o15 o16 o17 o18 o19 o20 o21 o22 o23 o24 o25 o26 o27 d28 d29 d30 d31 d32 d33 d34 d35 d36 d37 d38 d39 d40 d41 d42 d43 d44 d45 d46 d47 d48 d49 d50 d51) [(10, .slice (nw p111) 1 1 false), (63, .slice none 0 0 true), (64, iv (numF z)), (65, .slice (nw p108) 1 1 true), (66, .slice (nw p111) 1 1 false), (67, iv i), (68, .str s), (69, iv ((s.length : Int))), (70, .bool (decide (i < ((s.length : Int))))), (71, .bool (decide (i < ((s.length : Int)))))]), [], h112, none⟩ ?_
   refine WpM.guard (b := (decide (i < ((s.length : Int))))) (by kernel_rfl) (fun c114 => ?_) (fun c114 => ?_)
   ·have c114p := dec_t c114
    refine rn4 2 ⟨.ops (p25_43_7 :: o25_43.drop 8), [.seq x25_44, .seq x25_47], (ss (E77 s i v6 v7 l z o13 o14 o15 o16 o17 o18 o19 o20 o21 o22 o23 o24 o25 o26 o27 d28 d29 d30 d31 d32 d33 d34 d35 d36 d37 d38 d39 d40 d41 d42 d43 d44 d45 d46 d47 d48 d49 d50 d51) [(10, .slice (nw p111) 1 1 false), (63, .slice none 0 0 true), (64, iv (numF z)), (65, .slice (nw p108) 1 1 true), (66, .slice (nw p111) 1 1 false), (67, iv i), (68, .str s), (69, iv ((s.length : Int))), (70, .bool (decide (i < ((s.length : Int))))), (71, .bool true), (72, .str s), (73, iv i)]), [], h112, none⟩ ?_
    refine WpM.op (.int .u8 (bt s i)) _ (by kernel_rfl) (index_str (k := .i64) (by kernel_rfl) (by kernel_rfl) (by kernel_rfl) (by omega)) ?_
    refine rn4 4 ⟨.code x25_44, [.seq x25_47], (E78 s i v6 v7 l z p111 o13 o14 o15 o16 o17 o18 o19 o20 o21 o22 o23 o24 o25 o26 o27 d28 d29 d30 d31 d32 d33 d34 d35 d36 d37 d38 d39 d40 d41 d42 d43 d44 d45 d46 d47 d48 d49 d50 d51 p108), [], h112, none⟩ ?_
    refine WpM.cond (t := ((bt s i) == 59)) (by kernel_rfl) (fun c115 => ?_) (fun c115 => ?_)
    ·have c115p := beq_t c115
     refine rn4 4 ⟨.ops (p25_46_2 :: o25_46.drop 3), [.seq .ret, .seq x25_47], (ss (E78 s i v6 v7 l z p111 o13 o14 o15 o16 o17 o18 o19 o20 o21 o22 o23 o24 o25 o26 o27 d28 d29 d30 d31 d32 d33 d34 d35 d36 d37 d38 d39 d40 d41 d42 d43 d44 d45 d46 d47 d48 d49 d50 d51 p108) [(77, iv (numV z)), (78, iv i)]), [], h112, none⟩ ?_
     refine WpM.op (iv (i + 1)) _ (by kernel_rfl) (arith_add (by kernel_rfl) (by kernel_rfl) (by omega)) ?_
     refine rn4 8 ⟨.done .ret, [], (ss (E78 s i v6 v7 l z p111 o13 o14 o15 o16 o17 o18 o19 o20 o21 o22 o23 o24 o25 o26 o27 d28 d29 d30 d31 d32 d33 d34 d35 d36 d37 d38 d39 d40 d41 d42 d43 d44 d45 d46 d47 d48 d49 d50 d51 p108) [(2, iv (numV z)), (3, iv (i + 1)), (4, .slice (nw p111) 1 1 false), (77, iv (numV z)), (78, iv i), (79, iv (i + 1)), (80, .slice (nw p111) 1 1 false)]), [], h112, none⟩ ?_
     refine WpM.ret (.tup [iv (numV z), iv (i + 1), .slice (nw p111) 1 1 false]) h112 (by kernel_rfl) (by kernel_rfl) ?_
     have hi9 : l + (i - l) = i := by omega
     refine ⟨(((hX.trans a106).alloc a110).alloc a113), _, _, _, _, by skip; exact numRes_semi (by omega) (by omega) (by rw [hi9]; omega), by rw [hi9, hzm, numV_min], ?_⟩
     have hF9 : numF z = numF m9 := by rw [hzm, numF_min]
     have hnn := numF_nn z
     rw [← hF9]
     (first | rw [if_pos (by omega)] | rw [if_neg (by omega)])
     exact .inr ⟨p111, 1, false, rfl, a113.lt, a113.get⟩
    ·have c115p := beq_f c115
     refine rn4 7 ⟨.ops (p25_48_3 :: o25_48.drop 4), [.seq .ret], (ss (E78 s i v6 v7 l z p111 o13 o14 o15 o16 o17 o18 o19 o20 o21 o22 o23 o24 o25 o26 o27 d28 d29 d30 d31 d32 d33 d34 d35 d36 d37 d38 d39 d40 d41 d42 d43 d44 d45 d46 d47 d48 d49 d50 d51 p108) [(81, iv (numV z)), (82, iv i), (83, .slice (nw p111) 1 1 false)]), [], h112, none⟩ ?_
     refine WpM.opA (fun p => .slice (nw p) 1 1 true) (.cells [iv 18] 3) (by kernel_rfl) (by kernel_rfl) (fun p116 h117 a118 => ?_)
     refine rn4 0 ⟨.ops (p25_48_4 :: o25_48.drop 5), [.seq .ret], (ss (E78 s i v6 v7 l z p111 o13 o14 o15 o16 o17 o18 o19 o20 o21 o22 o23 o24 o25 o26 o27 d28 d29 d30 d31 d32 d33 d34 d35 d36 d37 d38 d39 d40 d41 d42 d43 d44 d45 d46 d47 d48 d49 d50 d51 p108) [(81, iv (numV z)), (82, iv i), (83, .slice (nw p111) 1 1 false), (84, .slice (nw p116) 1 1 true)]), [], h117, none⟩ ?_
     refine WpM.opR (fun p => .slice (nw p) 2 2 false) p111 (.cells [iv (numF z), iv 18] 3) (by kernel_rfl) (app_step (s := .slice (nw p111) 1 1 false) (x := .slice (nw p116) 1 1 true) (by kernel_rfl) (by kernel_rfl) (app_op (at0 := 26) (at1 := 26) (e := 3) (size := 1) (bytes := 8) (n := 1) (z0 := iv 0) (nc := [iv 18]) (by kernel_rfl) (by kernel_rfl) (by kernel_rfl) (by kernel_rfl) rfl rfl rfl (first_at a118.get (by decide) (Nat.le_of_ble_eq_true rfl) (by kernel_rfl)) (app_growR (a118.keep a113.lt a113.get) (by decide) (by decide) (Nat.le_of_ble_eq_true rfl) rfl (by kernel_rfl) (by decide) (by decide) (by kernel_rfl)))) (fun h119 a120 p121 h122 a123 => ?_)
     refine rn4 6 ⟨.done .ret, [], (ss (E78 s i v6 v7 l z p111 o13 o14 o15 o16 o17 o18 o19 o20 o21 o22 o23 o24 o25 o26 o27 d28 d29 d30 d31 d32 d33 d34 d35 d36 d37 d38 d39 d40 d41 d42 d43 d44 d45 d46 d47 d48 d49 d50 d51 p108) [(2, iv (numV z)), (3, iv i), (4, .slice (nw p121) 2 2 false), (81, iv (numV z)), (82, iv i), (83, .slice (nw p111) 1 1 false), (84, .slice (nw p116) 1 1 true), (85, .slice (nw p121) 2 2 false)]), [], h122, none⟩ ?_
     refine WpM.ret (.tup [iv (numV z), iv i, .slice (nw p121) 2 2 false]) h122 (by kernel_rfl) (by kernel_rfl) ?_
     have hi9 : l + (i - l) = i := by omega
     refine ⟨((((((hX.trans a106).alloc a110).alloc a113).alloc a118).put a120 (by have := (hX).nx; have := a106.nx; have := a110.eq; have := a110.nx; have := a113.eq; have := a113.nx; have := a118.eq; have := a118.nx; have := a120.nx; have := a123.eq; have := a123.nx; omega)).alloc a123), _, _, _, _, by skip; exact numRes_none (by omega) (by rw [hi9]; omega), by rw [hi9, hzm, numV_min], ?_⟩
     have hF9 : numF z = numF m9 := by rw [hzm, numF_min]
     have hnn := numF_nn z
     rw [← hF9]
     (first | rw [if_pos (by omega)] | rw [if_neg (by omega)])
     exact .inr ⟨p121, 2, false, rfl, a123.lt, a123.get⟩
   ·have c114p := dec_f c114
    refine rn4 15 ⟨.ops (p25_48_3 :: o25_48.drop 4), [.seq .ret], (ss (E78 s i v6 v7 l z p111 o13 o14 o15 o16 o17 o18 o19 o20 o21 o22 o23 o24 o25 o26 o27 d28 d29 d30 d31 d32 d33 d34 d35 d36 d37 d38 d39 d40 d41 d42 d43 d44 d45 d46 d47 d48 d49 d50 d51 p108) [(71, .bool false), (72, U), (73, U), (74, U), (75, U), (76, .bool false), (81, iv (numV z)), (82, iv i), (83, .slice (nw p111) 1 1 false)]), [], h112, none⟩ ?_
    refine WpM.opA (fun p => .slice (nw p) 1 1 true) (.cells [iv 18] 3) (by kernel_rfl) (by kernel_rfl) (fun p124 h125 a126 => ?_)
    refine rn4 0 ⟨.ops (p25_48_4 :: o25_48.drop 5), [.seq .ret], (ss (E78 s i v6 v7 l z p111 o13 o14 o15 o16 o17 o18 o19 o20 o21 o22 o23 o24 o25 o26 o27 d28 d29 d30 d31 d32 d33 d34 d35 d36 d37 d38 d39 d40 d41 d42 d43 d44 d45 d46 d47 d48 d49 d50 d51 p108) [(71, .bool false), (72, U), (73, U), (74, U), (75, U), (76, .bool false), (81, iv (numV z)), (82, iv i), (83, .slice (nw p111) 1 1 false), (84, .slice (nw p124) 1 1 true)]), [], h125, none⟩ ?_
    refine WpM.opR (fun p => .slice (nw p) 2 2 false) p111 (.cells [iv (numF z), iv 18] 3) (by kernel_rfl) (app_step (s := .slice (nw p111) 1 1 false) (x := .slice (nw p124) 1 1 true) (by kernel_rfl) (by kernel_rfl) (app_op (at0 := 26) (at1 := 26) (e := 3) (size := 1) (bytes := 8) (n := 1) (z0 := iv 0) (nc := [iv 18]) (by kernel_rfl) (by kernel_rfl) (by kernel_rfl) (by kernel_rfl) rfl rfl rfl (first_at a126.get (by decide) (Nat.le_of_ble_eq_true rfl) (by kernel_rfl)) (app_growR (a126.keep a113.lt a113.get) (by decide) (by decide) (Nat.le_of_ble_eq_true rfl) rfl (by kernel_rfl) (by decide) (by decide) (by kernel_rfl)))) (fun h127 a128 p129 h130 a131 => ?_)
    refine rn4 6 ⟨.done .ret, [], (ss (E78 s i v6 v7 l z p111 o13 o14 o15 o16 o17 o18 o19 o20 o21 o22 o23 o24 o25 o26 o27 d28 d29 d30 d31 d32 d33 d34 d35 d36 d37 d38 d39 d40 d41 d42 d43 d44 d45 d46 d47 d48 d49 d50 d51 p108) [(2, iv (numV z)), (3, iv i), (4, .slice (nw p129) 2 2 false), (71, .bool false), (72, U), (73, U), (74, U), (75, U), (76, .bool false), (81, iv (numV z)), (82, iv i), (83, .slice (nw p111) 1 1 false), (84, .slice (nw p124) 1 1 true), (85, .slice (nw p129) 2 2 false)]), [], h130, none⟩ ?_
    refine WpM.ret (.tup [iv (numV z), iv i, .slice (nw p129) 2 2 false]) h130 (by kernel_rfl) (by kernel_rfl) ?_
    have hi9 : l + (i - l) = i := by omega
    refine ⟨((((((hX.trans a106).alloc a110).alloc a113).alloc a126).put a128 (by have := (hX).nx; have := a106.nx; have := a110.eq; have := a110.nx; have := a113.eq; have := a113.nx; have := a126.eq; have := a126.nx; have := a128.nx; have := a131.eq; have := a131.nx; omega)).alloc a131), _, _, _, _, by skip; exact numRes_none (by omega) (by rw [hi9]; omega), by rw [hi9, hzm, numV_min], ?_⟩
    have hF9 : numF z = numF m9 := by rw [hzm, numF_min]
    have hnn := numF_nn z
    rw [← hF9]
    (first | rw [if_pos (by omega)] | rw [if_neg (by omega)])
    exact .inr ⟨p129, 2, false, rfl, a131.lt, a131.get⟩
  ·have c107p := nbeq_f c107
   refine rn4 10 ⟨.ops (p25_43_5 :: o25_43.drop 6), [.seq x25_44, .seq x25_47], (ss (E77 s i v6 v7 l z o13 o14 o15 o16 o17 o18 o19 o20 o21 o22 o23 o24 o25 o26 o27 d28 d29 d30 d31 d32 d33 d34 d35 d36 d37 d38 d39 d40 d41 d42 d43 d44 d45 d46 d47 d48 d49 d50 d51) [(67, iv i), (68, .str s), (69, iv ((s.length : Int))), (70, .bool (decide (i < ((s.length : Int))))), (71, .bool (decide (i < ((s.length : Int)))))]), [], h105, none⟩ ?_
   refine WpM.guard (b := (decide (i < ((s.length : Int))))) (by kernel_rfl) (fun c132 => ?_) (fun c132 => ?_)
   ·have c132p := dec_t c132
    refine rn4 2 ⟨.ops (p25_43_7 :: o25_43.drop 8), [.seq x25_44, .seq x25_47], (ss (E77 s i v6 v7 l z o13 o14 o15 o16 o17 o18 o19 o20 o21 o22 o23 o24 o25 o26 o27 d28 d29 d30 d31 d32 d33 d34 d35 d36 d37 d38 d39 d40 d41 d42 d43 d44 d45 d46 d47 d48 d49 d50 d51) [(67, iv i), (68, .str s), (69, iv ((s.length : Int))), (70, .bool (decide (i < ((s.length : Int))))), (71, .bool true), (72, .str s), (73, iv i)]), [], h105, none⟩ ?_
    refine WpM.op (.int .u8 (bt s i)) _ (by kernel_rfl) (index_str (k := .i64) (by kernel_rfl) (by kernel_rfl) (by kernel_rfl) (by omega)) ?_
    refine rn4 4 ⟨.code x25_44, [.seq x25_47], (ss (E78 s i v6 v7 l z 0 o13 o14 o15 o16 o17 o18 o19 o20 o21 o22 o23 o24 o25 o26 o27 d28 d29 d30 d31 d32 d33 d34 d35 d36 d37 d38 d39 d40 d41 d42 d43 d44 d45 d46 d47 d48 d49 d50 d51 0) [(10, .slice none 0 0 true), (63, U), (64, U), (65, U), (66, U)]), [], h105, none⟩ ?_
    refine WpM.cond (t := ((bt s i) == 59)) (by kernel_rfl) (fun c133 => ?_) (fun c133 => ?_)
    ·have c133p := beq_t c133
     refine rn4 4 ⟨.ops (p25_46_2 :: o25_46.drop 3), [.seq .ret, .seq x25_47], (ss (E78 s i v6 v7 l z 0 o13 o14 o15 o16 o17 o18 o19 o20 o21 o22 o23 o24 o25 o26 o27 d28 d29 d30 d31 d32 d33 d34 d35 d36 d37 d38 d39 d40 d41 d42 d43 d44 d45 d46 d47 d48 d49 d50 d51 0) [(10, .slice none 0 0 true), (63, U), (64, U), (65, U), (66, U), (77, iv (numV z)), (78, iv i)]), [], h105, none⟩ ?_
     refine WpM.op (iv (i + 1)) _ (by kernel_rfl) (arith_add (by kernel_rfl) (by kernel_rfl) (by omega)) ?_
     refine rn4 8 ⟨.done .ret, [], (ss (E78 s i v6 v7 l z 0 o13 o14 o15 o16 o17 o18 o19 o20 o21 o22 o23 o24 o25 o26 o27 d28 d29 d30 d31 d32 d33 d34 d35 d36 d37 d38 d39 d40 d41 d42 d43 d44 d45 d46 d47 d48 d49 d50 d51 0) [(2, iv (numV z)), (3, iv (i + 1)), (10, .slice none 0 0 true), (63, U), (64, U), (65, U), (66, U), (77, iv (numV z)), (78, iv i), (79, iv (i + 1)), (80, .slice none 0 0 true)]), [], h105, none⟩ ?_
     refine WpM.ret (.tup [iv (numV z), iv (i + 1), .slice none 0 0 true]) h105 (by kernel_rfl) (by kernel_rfl) ?_
     have hi9 : l + (i - l) = i := by omega
     refine ⟨(hX.trans a106), _, _, _, _, by skip; exact numRes_semi (by omega) (by omega) (by rw [hi9]; omega), by rw [hi9, hzm, numV_min], ?_⟩
     have hF9 : numF z = numF m9 := by rw [hzm, numF_min]
     have hnn := numF_nn z
     rw [← hF9]
     (first | rw [if_pos (by omega)] | rw [if_neg (by omega)])
     exact .inl ⟨rfl, rfl⟩
    ·have c133p := beq_f c133
     refine rn4 7 ⟨.ops (p25_48_3 :: o25_48.drop 4), [.seq .ret], (ss (E78 s i v6 v7 l z 0 o13 o14 o15 o16 o17 o18 o19 o20 o21 o22 o23 o24 o25 o26 o27 d28 d29 d30 d31 d32 d33 d34 d35 d36 d37 d38 d39 d40 d41 d42 d43 d44 d45 d46 d47 d48 d49 d50 d51 0) [(10, .slice none 0 0 true), (63, U), (64, U), (65, U), (66, U), (81, iv (numV z)), (82, iv i), (83, .slice none 0 0 true)]), [], h105, none⟩ ?_
     refine WpM.opA (fun p => .slice (nw p) 1 1 true) (.cells [iv 18] 3) (by kernel_rfl) (by kernel_rfl) (fun p134 h135 a136 => ?_)
     refine rn4 0 ⟨.ops (p25_48_4 :: o25_48.drop 5), [.seq .ret], (ss (E78 s i v6 v7 l z 0 o13 o14 o15 o16 o17 o18 o19 o20 o21 o22 o23 o24 o25 o26 o27 d28 d29 d30 d31 d32 d33 d34 d35 d36 d37 d38 d39 d40 d41 d42 d43 d44 d45 d46 d47 d48 d49 d50 d51 0) [(10, .slice none 0 0 true), (63, U), (64, U), (65, U), (66, U), (81, iv (numV z)), (82, iv i), (83, .slice none 0 0 true), (84, .slice (nw p134) 1 1 true)]), [], h135, none⟩ ?_
     refine WpM.opA (fun p => .slice (nw p) 1 1 false) (.cells [iv 18] 3) (by kernel_rfl) (app_step (s := .slice none 0 0 true) (x := .slice (nw p134) 1 1 true) (by kernel_rfl) (by kernel_rfl) (app_op (at0 := 26) (at1 := 26) (e := 3) (size := 1) (bytes := 8) (n := 1) (z0 := iv 0) (nc := [iv 18]) (by kernel_rfl) (by kernel_rfl) (by kernel_rfl) (by kernel_rfl) rfl rfl rfl (first_at a136.get (by decide) (Nat.le_of_ble_eq_true rfl) (by kernel_rfl)) (app_nilR (by decide) rfl (by kernel_rfl) (by decide) (by decide)))) (fun p137 h138 a139 => ?_)
     refine rn4 6 ⟨.done .ret, [], (ss (E78 s i v6 v7 l z 0 o13 o14 o15 o16 o17 o18 o19 o20 o21 o22 o23 o24 o25 o26 o27 d28 d29 d30 d31 d32 d33 d34 d35 d36 d37 d38 d39 d40 d41 d42 d43 d44 d45 d46 d47 d48 d49 d50 d51 0) [(2, iv (numV z)), (3, iv i), (4, .slice (nw p137) 1 1 false), (10, .slice none 0 0 true), (63, U), (64, U), (65, U), (66, U), (81, iv (numV z)), (82, iv i), (83, .slice none 0 0 true), (84, .slice (nw p134) 1 1 true), (85, .slice (nw p137) 1 1 false)]), [], h138, none⟩ ?_
     refine WpM.ret (.tup [iv (numV z), iv i, .slice (nw p137) 1 1 false]) h138 (by kernel_rfl) (by kernel_rfl) ?_
     have hi9 : l + (i - l) = i := by omega
     refine ⟨(((hX.trans a106).alloc a136).alloc a139), _, _, _, _, by skip; exact numRes_none (by omega) (by rw [hi9]; omega), by rw [hi9, hzm, numV_min], ?_⟩
     have hF9 : numF z = numF m9 := by rw [hzm, numF_min]
     have hnn := numF_nn z
     rw [← hF9]
     (first | rw [if_pos (by omega)] | rw [if_neg (by omega)])
     exact .inr ⟨p137, 1, false, rfl, a139.lt, a139.get⟩
   ·have c132p := dec_f c132
    refine rn4 15 ⟨.ops (p25_48_3 :: o25_48.drop 4), [.seq .ret], (ss (E77 s i v6 v7 l z o13 o14 o15 o16 o17 o18 o19 o20 o21 o22 o23 o24 o25 o26 o27 d28 d29 d30 d31 d32 d33 d34 d35 d36 d37 d38 d39 d40 d41 d42 d43 d44 d45 d46 d47 d48 d49 d50 d51) [(67, iv i), (68, .str s), (69, iv ((s.length : Int))), (70, .bool (decide (i < ((s.length : Int))))), (71, .bool false), (76, .bool false), (81, iv (numV z)), (82, iv i), (83, .slice none 0 0 true)]), [], h105, none⟩ ?_
    refine WpM.opA (fun p => .slice (nw p) 1 1 true) (.cells [iv 18] 3) (by kernel_rfl) (by kernel_rfl) (fun p140 h141 a142 => ?_)
    refine rn4 0 ⟨.ops (p25_48_4 :: o25_48.drop 5), [.seq .ret], (ss (E77 s i v6 v7 l z o13 o14 o15 o16 o17 o18 o19 o20 o21 o22 o23 o24 o25 o26 o27 d28 d29 d30 d31 d32 d33 d34 d35 d36 d37 d38 d39 d40 d41 d42 d43 d44 d45 d46 d47 d48 d49 d50 d51) [(67, iv i), (68, .str s), (69, iv ((s.length : Int))), (70, .bool (decide (i < ((s.length : Int))))), (71, .bool false), (76, .bool false), (81, iv (numV z)), (82, iv i), (83, .slice none 0 0 true), (84, .slice (nw p140) 1 1 true)]), [], h141, none⟩ ?_
    refine WpM.opA (fun p => .slice (nw p) 1 1 false) (.cells [iv 18] 3) (by kernel_rfl) (app_step (s := .slice none 0 0 true) (x := .slice (nw p140) 1 1 true) (by kernel_rfl) (by kernel_rfl) (app_op (at0 := 26) (at1 := 26) (e := 3) (size := 1) (bytes := 8) (n := 1) (z0 := iv 0) (nc := [iv 18]) (by kernel_rfl) (by kernel_rfl) (by kernel_rfl) (by kernel_rfl) rfl rfl rfl (first_at a142.get (by decide) (Nat.le_of_ble_eq_true rfl) (by kernel_rfl)) (app_nilR (by decide) rfl (by kernel_rfl) (by decide) (by decide)))) (fun p143 h144 a145 => ?_)
    refine rn4 6 ⟨.done .ret, [], (ss (E77 s i v6 v7 l z o13 o14 o15 o16 o17 o18 o19 o20 o21 o22 o23 o24 o25 o26 o27 d28 d29 d30 d31 d32 d33 d34 d35 d36 d37 d38 d39 d40 d41 d42 d43 d44 d45 d46 d47 d48 d49 d50 d51) [(2, iv (numV z)), (3, iv i), (4, .slice (nw p143) 1 1 false), (67, iv i), (68, .str s), (69, iv ((s.length : Int))), (70, .bool (decide (i < ((s.length : Int))))), (71, .bool false), (76, .bool false), (81, iv (numV z)), (82, iv i), (83, .slice none 0 0 true), (84, .slice (nw p140) 1 1 true), (85, .slice (nw p143) 1 1 false)]), [], h144, none⟩ ?_
    refine WpM.ret (.tup [iv (numV z), iv i, .slice (nw p143) 1 1 false]) h144 (by kernel_rfl) (by kernel_rfl) ?_
    have hi9 : l + (i - l) = i := by omega
    refine ⟨(((hX.trans a106).alloc a142).alloc a145), _, _, _, _, by skip; exact numRes_none (by omega) (by rw [hi9]; omega), by rw [hi9, hzm, numV_min], ?_⟩
    have hF9 : numF z = numF m9 := by rw [hzm, numF_min]
    have hnn := numF_nn z
    rw [← hF9]
    (first | rw [if_pos (by omega)] | rw [if_neg (by omega)])
    exact .inr ⟨p143, 1, false, rfl, a145.lt, a145.get⟩
theorem rscan_step {hex : Bool} {s : List UInt8} {i k m : Int} (h0 : 0 ≤ i) (h : i < (s.length : Int)) (hd : 0 ≤ dgt hex (bt s i)) : dscan hex (s.drop i.toNat) (k, m) = dscan hex (s.drop (i + 1).toNat) (k + 1, if m < 16777216 then m * dbase hex + dgt hex (bt s i) else m) := by
 rw [drop_bt h0 h]
 show (if 0 ≤ dgt hex (bt s i) then _ else _) = _
 rw [if_pos hd]
 rfl
theorem rscan_stop {hex : Bool} {s : List UInt8} {i : Int} {a : Int × Int} (h0 : 0 ≤ i) (h : ¬ i < (s.length : Int) ∨ dgt hex (bt s i) < 0) : dscan hex (s.drop i.toNat) a = a := by
 by_cases hl : i < (s.length : Int)
 ·rw [drop_bt h0 hl]
  show (if 0 ≤ dgt hex (bt s i) then _ else _) = _
  rw [if_neg (by omega)]
 ·rw [List.drop_eq_nil_of_le (by omega)]; rfl
theorem min_step {b m z d : Int} (hb : 10 ≤ b) (hm : 0 ≤ m) (hd : 0 ≤ d) (hz : z = min m 16777216) : min (b * z + d) 16777216 = min (if m < 16777216 then m * b + d else m) 16777216 := by
 by_cases h : m < 16777216
 ·have e : z = m := by omega
  rw [if_pos h, e, Int.mul_comm]
 ·have e : z = 16777216 := by omega
  rw [if_neg h, e]
  have : 10 * 16777216 ≤ b * 16777216 := Int.mul_le_mul_of_nonneg_right hb (by decide)
  omega
def E79 (s : List UInt8) (i : Int) (z : Int) (o13 : V) (o14 : V) (o15 : V) (o16 : V) (o17 : V) (o18 : V) (o19 : V) (o20 : V) (o21 : V) (o22 : V) (o23 : V) (o24 : V) (o25 : V) (o26 : V) (o27 : V) (d33 : V) (d34 : V) (d35 : V) (d36 : V) (d37 : V) (d38 : V) (d39 : V) (d40 : V) (d41 : V) (d42 : V) (d43 : V) (d44 : V) (d45 : V) (d46 : V) (d47 : V) (d48 : V) (d49 : V) (d50 : V) (d51 : V) : List V := (.str s :: U :: iv 0 :: iv 0 :: .slice none 0 0 true :: iv i :: .bool false :: iv 10 :: iv 2 :: iv z :: U :: U :: U :: o13 :: o14 :: o15 :: o16 :: o17 :: o18 :: o19 :: o20 :: o21 :: o22 :: o23 :: o24 :: o25 :: o26 :: o27 :: iv i :: .str s :: iv ((s.length : Int)) :: .bool (decide (i < ((s.length : Int)))) :: .bool (decide (i < ((s.length : Int)))) :: d33 :: d34 :: d35 :: d36 :: d37 :: d38 :: d39 :: d40 :: d41 :: d42 :: d43 :: d44 :: d45 :: d46 :: d47 :: d48 :: d49 :: d50 :: d51 :: us 34)
def E80 (s : List UInt8) (i : Int) (z : Int) (o13 : V) (o14 : V) (o15 : V) (o16 : V) (o17 : V) (o18 : V) (o19 : V) (o20 : V) (o21 : V) (o22 : V) (o23 : V) (o24 : V) (o25 : V) (o26 : V) (o27 : V) (d42 : V) (d43 : V) (d44 : V) (d45 : V) (d46 : V) (d47 : V) (d48 : V) (d49 : V) (d50 : V) (d51 : V) : List V := (.str s :: U :: iv 0 :: iv 0 :: .slice none 0 0 true :: iv i :: .bool false :: iv 10 :: iv 2 :: iv z :: U :: U :: U :: o13 :: o14 :: o15 :: o16 :: o17 :: o18 :: o19 :: o20 :: o21 :: o22 :: o23 :: o24 :: o25 :: o26 :: o27 :: iv i :: .str s :: iv ((s.length : Int)) :: .bool (decide (i < ((s.length : Int)))) :: .bool true :: .str s :: iv i :: .int .u8 (bt s i) :: .bool false :: iv (dgt false (bt s i)) :: .bool (decide ((dgt false (bt s i)) ≥ 0)) :: .bool (decide ((dgt false (bt s i)) ≥ 0)) :: iv 10 :: iv z :: d42 :: d43 :: d44 :: d45 :: d46 :: d47 :: d48 :: d49 :: d50 :: d51 :: us 34)
theorem rnum_loop10 {W : World} {s : List UInt8} {h0 : H} {o13 o14 o15 o16 o17 o18 o19 o20 o21 o22 o23 o24 o25 o26 o27 : V} (hs : s.length ≤ 140737488351232) (nn : Nat) : ∀ (i : Int) (h : H) (z m9 : Int) (d28 d29 d30 d31 d32 d33 d34 d35 d36 d37 d38 d39 d40 d41 d42 d43 d44 d45 d46 d47 d48 d49 d50 d51 : V), nn = ((s.length : Int) - i).toNat → (2 ≤ i) → (i ≤ (s.length : Int)) → (0 ≤ m9 ∧ m9 ≤ 268435471) → (z = min m9 16777216) → (dscan false (s.drop i.toNat) (i - 2, m9) = dscan false (s.drop 2) (0, 0)) → (HX h0 h) → WpM Tryd.prog W prim2 ⟨.code x25_18, [.loop x25_18, .blk 0, .seq x25_26], (.str s :: U :: iv 0 :: iv 0 :: .slice none 0 0 true :: iv i :: .bool false :: iv 10 :: iv 2 :: iv z :: U :: U :: U :: o13 :: o14 :: o15 :: o16 :: o17 :: o18 :: o19 :: o20 :: o21 :: o22 :: o23 :: o24 :: o25 :: o26 :: o27 :: d28 :: d29 :: d30 :: d31 :: d32 :: d33 :: d34 :: d35 :: d36 :: d37 :: d38 :: d39 :: d40 :: d41 :: d42 :: d43 :: d44 :: d45 :: d46 :: d47 :: d48 :: d49 :: d50 :: d51 :: us 34), [], h, none⟩ (retQ Tryd.prog W [.tmp 2, .tmp 3, .tmp 4] (fun v h' => HX h0 h' ∧ ∃ r e cs w, numRes s 2 (dscan false (s.drop 2) (0, 0)) = (r, e, cs) ∧ v = .tup [iv r, iv e, w] ∧ CodesAt h' w cs)) := by
 induction nn using Nat.strongRecOn with
 | _ nn ih =>
  intro i h z m9 d28 d29 d30 d31 d32 d33 d34 d35 d36 d37 d38 d39 d40 d41 d42 d43 d44 d45 d46 d47 d48 d49 d50 d51 hn9 h0i h1i hm0 hzm hA hX
  have hbt := bt_range s i
  have hdg := dgt_range false (bt s i)
  have hba : dbase false = 10 := rfl
  have hmz : ∀ x : Int, (if (16777216 : Int) < x then (16777216 : Int) else x) = min x 16777216 := fun x => by split <;> omega
  skip
  refine rn4 8 ⟨.ops (p25_20_5 :: o25_20.drop 6), [.seq x25_21, .seq x25_22, .loop x25_18, .blk 0, .seq x25_26], (E79 s i z o13 o14 o15 o16 o17 o18 o19 o20 o21 o22 o23 o24 o25 o26 o27 d33 d34 d35 d36 d37 d38 d39 d40 d41 d42 d43 d44 d45 d46 d47 d48 d49 d50 d51), [], h, none⟩ ?_
  refine WpM.guard (b := (decide (i < ((s.length : Int))))) (by kernel_rfl) (fun c101 => ?_) (fun c101 => ?_)
  ·have c101p := dec_t c101
   refine rn4 2 ⟨.ops (p25_20_7 :: o25_20.drop 8), [.seq x25_21, .seq x25_22, .loop x25_18, .blk 0, .seq x25_26], (ss (E79 s i z o13 o14 o15 o16 o17 o18 o19 o20 o21 o22 o23 o24 o25 o26 o27 d33 d34 d35 d36 d37 d38 d39 d40 d41 d42 d43 d44 d45 d46 d47 d48 d49 d50 d51) [(32, .bool true), (33, .str s), (34, iv i)]), [], h, none⟩ ?_
   refine WpM.op (.int .u8 (bt s i)) _ (by kernel_rfl) (index_str (k := .i64) (by kernel_rfl) (by kernel_rfl) (by kernel_rfl) (by omega)) ?_
   refine rn4 1 ⟨.ops (p25_20_9 :: o25_20.drop 10), [.seq x25_21, .seq x25_22, .loop x25_18, .blk 0, .seq x25_26], (ss (E79 s i z o13 o14 o15 o16 o17 o18 o19 o20 o21 o22 o23 o24 o25 o26 o27 d33 d34 d35 d36 d37 d38 d39 d40 d41 d42 d43 d44 d45 d46 d47 d48 d49 d50 d51) [(32, .bool true), (33, .str s), (34, iv i), (35, .int .u8 (bt s i)), (36, .bool false)]), [], h, none⟩ ?_
   refine WpM.call 43 [.int .u8 (bt s i), .bool false] (by kernel_rfl) (by kernel_rfl) ?_
   refine WpF.mono (dig_false (c := bt s i) (bt_range _ _)) ?_
   rintro _ _ ⟨rfl, rfl⟩
   refine rn4 4 ⟨.code x25_21, [.seq x25_22, .loop x25_18, .blk 0, .seq x25_26], (ss (E79 s i z o13 o14 o15 o16 o17 o18 o19 o20 o21 o22 o23 o24 o25 o26 o27 d33 d34 d35 d36 d37 d38 d39 d40 d41 d42 d43 d44 d45 d46 d47 d48 d49 d50 d51) [(32, .bool true), (33, .str s), (34, iv i), (35, .int .u8 (bt s i)), (36, .bool false), (37, iv (dgt false (bt s i))), (38, .bool (decide ((dgt false (bt s i)) ≥ 0))), (39, .bool (decide ((dgt false (bt s i)) ≥ 0)))]), [], h, none⟩ ?_
   refine WpM.cond (t := (decide ((dgt false (bt s i)) ≥ 0))) (by kernel_rfl) (fun c102 => ?_) (fun c102 => ?_)
   ·have c102p := dec_t c102
    refine rn4 7 ⟨.ops (p25_24_2 :: o25_24.drop 3), [.seq x25_25, .blk 1, .loop x25_18, .blk 0, .seq x25_26], (E80 s i z o13 o14 o15 o16 o17 o18 o19 o20 o21 o22 o23 o24 o25 o26 o27 d42 d43 d44 d45 d46 d47 d48 d49 d50 d51), [], h, none⟩ ?_
    refine WpM.op (iv (10 * z)) _ (by kernel_rfl) (arith_mul (by kernel_rfl) (by kernel_rfl) (by omega)) ?_
    refine rn4 2 ⟨.ops (p25_24_5 :: o25_24.drop 6), [.seq x25_25, .blk 1, .loop x25_18, .blk 0, .seq x25_26], (ss (E80 s i z o13 o14 o15 o16 o17 o18 o19 o20 o21 o22 o23 o24 o25 o26 o27 d42 d43 d44 d45 d46 d47 d48 d49 d50 d51) [(42, iv (10 * z)), (43, .str s), (44, iv i)]), [], h, none⟩ ?_
    refine WpM.op (.int .u8 (bt s i)) _ (by kernel_rfl) (index_str (k := .i64) (by kernel_rfl) (by kernel_rfl) (by kernel_rfl) (by omega)) ?_
    refine rn4 1 ⟨.ops (p25_24_7 :: o25_24.drop 8), [.seq x25_25, .blk 1, .loop x25_18, .blk 0, .seq x25_26], (ss (E80 s i z o13 o14 o15 o16 o17 o18 o19 o20 o21 o22 o23 o24 o25 o26 o27 d42 d43 d44 d45 d46 d47 d48 d49 d50 d51) [(42, iv (10 * z)), (43, .str s), (44, iv i), (45, .int .u8 (bt s i)), (46, .bool false)]), [], h, none⟩ ?_
    refine WpM.call 43 [.int .u8 (bt s i), .bool false] (by kernel_rfl) (by kernel_rfl) ?_
    refine WpF.mono (dig_false (c := bt s i) (bt_range _ _)) ?_
    rintro _ _ ⟨rfl, rfl⟩
    refine rn4 0 ⟨.ops (p25_24_8 :: o25_24.drop 9), [.seq x25_25, .blk 1, .loop x25_18, .blk 0, .seq x25_26], (ss (E80 s i z o13 o14 o15 o16 o17 o18 o19 o20 o21 o22 o23 o24 o25 o26 o27 d42 d43 d44 d45 d46 d47 d48 d49 d50 d51) [(42, iv (10 * z)), (43, .str s), (44, iv i), (45, .int .u8 (bt s i)), (46, .bool false), (47, iv (dgt false (bt s i)))]), [], h, none⟩ ?_
    refine WpM.op (iv ((10 * z) + (dgt false (bt s i)))) _ (by kernel_rfl) (arith_add (by kernel_rfl) (by kernel_rfl) (by omega)) ?_
    refine rn4 6 ⟨.ops (p25_25_1 :: o25_25.drop 2), [.blk 1, .loop x25_18, .blk 0, .seq x25_26], (ss (E80 s i z o13 o14 o15 o16 o17 o18 o19 o20 o21 o22 o23 o24 o25 o26 o27 d42 d43 d44 d45 d46 d47 d48 d49 d50 d51) [(9, iv (if 16777216 < ((10 * z) + (dgt false (bt s i))) then 16777216 else ((10 * z) + (dgt false (bt s i))))), (42, iv (10 * z)), (43, .str s), (44, iv i), (45, .int .u8 (bt s i)), (46, .bool false), (47, iv (dgt false (bt s i))), (48, iv ((10 * z) + (dgt false (bt s i)))), (49, iv (if 16777216 < ((10 * z) + (dgt false (bt s i))) then 16777216 else ((10 * z) + (dgt false (bt s i))))), (50, iv i)]), [], h, none⟩ ?_
    refine WpM.op (iv (i + 1)) _ (by kernel_rfl) (arith_add (by kernel_rfl) (by kernel_rfl) (by omega)) ?_
    refine rn4 4 ⟨.code x25_18, [.loop x25_18, .blk 0, .seq x25_26], (.str s :: U :: iv 0 :: iv 0 :: .slice none 0 0 true :: iv (i + 1) :: .bool false :: iv 10 :: iv 2 :: iv (if 16777216 < ((10 * z) + (dgt false (bt s i))) then 16777216 else ((10 * z) + (dgt false (bt s i)))) :: U :: U :: U :: o13 :: o14 :: o15 :: o16 :: o17 :: o18 :: o19 :: o20 :: o21 :: o22 :: o23 :: o24 :: o25 :: o26 :: o27 :: iv i :: .str s :: iv ((s.length : Int)) :: .bool (decide (i < ((s.length : Int)))) :: .bool true :: .str s :: iv i :: .int .u8 (bt s i) :: .bool false :: iv (dgt false (bt s i)) :: .bool (decide ((dgt false (bt s i)) ≥ 0)) :: .bool (decide ((dgt false (bt s i)) ≥ 0)) :: iv 10 :: iv z :: iv (10 * z) :: .str s :: iv i :: .int .u8 (bt s i) :: .bool false :: iv (dgt false (bt s i)) :: iv ((10 * z) + (dgt false (bt s i))) :: iv (if 16777216 < ((10 * z) + (dgt false (bt s i))) then 16777216 else ((10 * z) + (dgt false (bt s i)))) :: iv i :: iv (i + 1) :: us 34), [], h, none⟩ ?_
    refine ih _ ?_ _ h (if 16777216 < ((10 * z) + (dgt false (bt s i))) then 16777216 else ((10 * z) + (dgt false (bt s i)))) (if m9 < 16777216 then m9 * dbase false + dgt false (bt s i) else m9) _ _ _ _ _ _ _ _ _ _ _ _ _ _ _ _ _ _ _ _ _ _ _ _ rfl ?_ ?_ ?_ ?_ ?_ ?_
    ·omega
    ·omega
    ·omega
    ·rw [hba]; split <;> omega
    ·exact (by rw [hmz]; exact min_step (by decide) hm0.1 (by omega) hzm)
    ·rw [rscan_step (by omega) (by omega) (by omega)] at hA
     rw [← hA]
     rw [show i - 2 + 1 = i + 1 - 2 from by omega]
    ·exact hX
   ·have c102p := dec_f c102
    refine rn4 4 ⟨.done .norm, [.seq x25_26], (ss (E79 s i z o13 o14 o15 o16 o17 o18 o19 o20 o21 o22 o23 o24 o25 o26 o27 d33 d34 d35 d36 d37 d38 d39 d40 d41 d42 d43 d44 d45 d46 d47 d48 d49 d50 d51) [(32, .bool true), (33, .str s), (34, iv i), (35, .int .u8 (bt s i)), (36, .bool false), (37, iv (dgt false (bt s i))), (38, .bool (decide ((dgt false (bt s i)) ≥ 0))), (39, .bool (decide ((dgt false (bt s i)) ≥ 0)))]), [], h, none⟩ ?_
    have hB : (i - 2, m9) = dscan false (s.drop 2) (0, 0) := (rscan_stop (by omega) (by omega)).symm.trans hA
    rw [← hB]
    exact rnum_rest hs (by omega) h0i h1i hzm hX
  ·have c101p := dec_f c101
   refine rn4 14 ⟨.done .norm, [.seq x25_26], (ss (E79 s i z o13 o14 o15 o16 o17 o18 o19 o20 o21 o22 o23 o24 o25 o26 o27 d33 d34 d35 d36 d37 d38 d39 d40 d41 d42 d43 d44 d45 d46 d47 d48 d49 d50 d51) [(32, .bool false), (33, U), (34, U), (35, U), (36, U), (37, U), (38, U), (39, .bool false)]), [], h, none⟩ ?_
   have hB : (i - 2, m9) = dscan false (s.drop 2) (0, 0) := (rscan_stop (by omega) (by omega)).symm.trans hA
   rw [← hB]
   exact rnum_rest hs (by omega) h0i h1i hzm hX
def E81 (s : List UInt8) (i : Int) (z : Int) (o13 : V) (o14 : V) (o15 : V) (o16 : V) (o17 : V) (o18 : V) (o19 : V) (o20 : V) (o21 : V) (o22 : V) (o23 : V) (o24 : V) (o25 : V) (o26 : V) (o27 : V) (d33 : V) (d34 : V) (d35 : V) (d36 : V) (d37 : V) (d38 : V) (d39 : V) (d40 : V) (d41 : V) (d42 : V) (d43 : V) (d44 : V) (d45 : V) (d46 : V) (d47 : V) (d48 : V) (d49 : V) (d50 : V) (d51 : V) : List V := (.str s :: U :: iv 0 :: iv 0 :: .slice none 0 0 true :: iv i :: .bool true :: iv 16 :: iv 3 :: iv z :: U :: U :: U :: o13 :: o14 :: o15 :: o16 :: o17 :: o18 :: o19 :: o20 :: o21 :: o22 :: o23 :: o24 :: o25 :: o26 :: o27 :: iv i :: .str s :: iv ((s.length : Int)) :: .bool (decide (i < ((s.length : Int)))) :: .bool (decide (i < ((s.length : Int)))) :: d33 :: d34 :: d35 :: d36 :: d37 :: d38 :: d39 :: d40 :: d41 :: d42 :: d43 :: d44 :: d45 :: d46 :: d47 :: d48 :: d49 :: d50 :: d51 :: us 34)
def E82 (s : List UInt8) (i : Int) (z : Int) (o13 : V) (o14 : V) (o15 : V) (o16 : V) (o17 : V) (o18 : V) (o19 : V) (o20 : V) (o21 : V) (o22 : V) (o23 : V) (o24 : V) (o25 : V) (o26 : V) (o27 : V) (d42 : V) (d43 : V) (d44 : V) (d45 : V) (d46 : V) (d47 : V) (d48 : V) (d49 : V) (d50 : V) (d51 : V) : List V := (.str s :: U :: iv 0 :: iv 0 :: .slice none 0 0 true :: iv i :: .bool true :: iv 16 :: iv 3 :: iv z :: U :: U :: U :: o13 :: o14 :: o15 :: o16 :: o17 :: o18 :: o19 :: o20 :: o21 :: o22 :: o23 :: o24 :: o25 :: o26 :: o27 :: iv i :: .str s :: iv ((s.length : Int)) :: .bool (decide (i < ((s.length : Int)))) :: .bool true :: .str s :: iv i :: .int .u8 (bt s i) :: .bool true :: iv (dgt true (bt s i)) :: .bool (decide ((dgt true (bt s i)) ≥ 0)) :: .bool (decide ((dgt true (bt s i)) ≥ 0)) :: iv 16 :: iv z :: d42 :: d43 :: d44 :: d45 :: d46 :: d47 :: d48 :: d49 :: d50 :: d51 :: us 34)
theorem rnum_loop16 {W : World} {s : List UInt8} {h0 : H} {o13 o14 o15 o16 o17 o18 o19 o20 o21 o22 o23 o24 o25 o26 o27 : V} (hs : s.length ≤ 140737488351232) (nn : Nat) : ∀ (i : Int) (h : H) (z m9 : Int) (d28 d29 d30 d31 d32 d33 d34 d35 d36 d37 d38 d39 d40 d41 d42 d43 d44 d45 d46 d47 d48 d49 d50 d51 : V), nn = ((s.length : Int) - i).toNat → (3 ≤ i) → (i ≤ (s.length : Int)) → (0 ≤ m9 ∧ m9 ≤ 268435471) → (z = min m9 16777216) → (dscan true (s.drop i.toNat) (i - 3, m9) = dscan true (s.drop 3) (0, 0)) → (HX h0 h) → WpM Tryd.prog W prim2 ⟨.code x25_18, [.loop x25_18, .blk 0, .seq x25_26], (.str s :: U :: iv 0 :: iv 0 :: .slice none 0 0 true :: iv i :: .bool true :: iv 16 :: iv 3 :: iv z :: U :: U :: U :: o13 :: o14 :: o15 :: o16 :: o17 :: o18 :: o19 :: o20 :: o21 :: o22 :: o23 :: o24 :: o25 :: o26 :: o27 :: d28 :: d29 :: d30 :: d31 :: d32 :: d33 :: d34 :: d35 :: d36 :: d37 :: d38 :: d39 :: d40 :: d41 :: d42 :: d43 :: d44 :: d45 :: d46 :: d47 :: d48 :: d49 :: d50 :: d51 :: us 34), [], h, none⟩ (retQ Tryd.prog W [.tmp 2, .tmp 3, .tmp 4] (fun v h' => HX h0 h' ∧ ∃ r e cs w, numRes s 3 (dscan true (s.drop 3) (0, 0)) = (r, e, cs) ∧ v = .tup [iv r, iv e, w] ∧ CodesAt h' w cs)) := by
 induction nn using Nat.strongRecOn with
 | _ nn ih =>
  intro i h z m9 d28 d29 d30 d31 d32 d33 d34 d35 d36 d37 d38 d39 d40 d41 d42 d43 d44 d45 d46 d47 d48 d49 d50 d51 hn9 h0i h1i hm0 hzm hA hX
  have hbt := bt_range s i
  have hdg := dgt_range true (bt s i)
  have hba : dbase true = 16 := rfl
  have hmz : ∀ x : Int, (if (16777216 : Int) < x then (16777216 : Int) else x) = min x 16777216 := fun x => by split <;> omega
  skip
  refine rn4 8 ⟨.ops (p25_20_5 :: o25_20.drop 6), [.seq x25_21, .seq x25_22, .loop x25_18, .blk 0, .seq x25_26], (E81 s i z o13 o14 o15 o16 o17 o18 o19 o20 o21 o22 o23 o24 o25 o26 o27 d33 d34 d35 d36 d37 d38 d39 d40 d41 d42 d43 d44 d45 d46 d47 d48 d49 d50 d51), [], h, none⟩ ?_
  refine WpM.guard (b := (decide (i < ((s.length : Int))))) (by kernel_rfl) (fun c101 => ?_) (fun c101 => ?_)
  ·have c101p := dec_t c101
   refine rn4 2 ⟨.ops (p25_20_7 :: o25_20.drop 8), [.seq x25_21, .seq x25_22, .loop x25_18, .blk 0, .seq x25_26], (ss (E81 s i z o13 o14 o15 o16 o17 o18 o19 o20 o21 o22 o23 o24 o25 o26 o27 d33 d34 d35 d36 d37 d38 d39 d40 d41 d42 d43 d44 d45 d46 d47 d48 d49 d50 d51) [(32, .bool true), (33, .str s), (34, iv i)]), [], h, none⟩ ?_
   refine WpM.op (.int .u8 (bt s i)) _ (by kernel_rfl) (index_str (k := .i64) (by kernel_rfl) (by kernel_rfl) (by kernel_rfl) (by omega)) ?_
   refine rn4 1 ⟨.ops (p25_20_9 :: o25_20.drop 10), [.seq x25_21, .seq x25_22, .loop x25_18, .blk 0, .seq x25_26], (ss (E81 s i z o13 o14 o15 o16 o17 o18 o19 o20 o21 o22 o23 o24 o25 o26 o27 d33 d34 d35 d36 d37 d38 d39 d40 d41 d42 d43 d44 d45 d46 d47 d48 d49 d50 d51) [(32, .bool true), (33, .str s), (34, iv i), (35, .int .u8 (bt s i)), (36, .bool true)]), [], h, none⟩ ?_
   refine WpM.call 43 [.int .u8 (bt s i), .bool true] (by kernel_rfl) (by kernel_rfl) ?_
   refine WpF.mono (dig_true (c := bt s i) (bt_range _ _)) ?_
   rintro _ _ ⟨rfl, rfl⟩
   refine rn4 4 ⟨.code x25_21, [.seq x25_22, .loop x25_18, .blk 0, .seq x25_26], (ss (E81 s i z o13 o14 o15 o16 o17 o18 o19 o20 o21 o22 o23 o24 o25 o26 o27 d33 d34 d35 d36 d37 d38 d39 d40 d41 d42 d43 d44 d45 d46 d47 d48 d49 d50 d51) [(32, .bool true), (33, .str s), (34, iv i), (35, .int .u8 (bt s i)), (36, .bool true), (37, iv (dgt true (bt s i))), (38, .bool (decide ((dgt true (bt s i)) ≥ 0))), (39, .bool (decide ((dgt true (bt s i)) ≥ 0)))]), [], h, none⟩ ?_
   refine WpM.cond (t := (decide ((dgt true (bt s i)) ≥ 0))) (by kernel_rfl) (fun c102 => ?_) (fun c102 => ?_)
   ·have c102p := dec_t c102
    refine rn4 7 ⟨.ops (p25_24_2 :: o25_24.drop 3), [.seq x25_25, .blk 1, .loop x25_18, .blk 0, .seq x25_26], (E82 s i z o13 o14 o15 o16 o17 o18 o19 o20 o21 o22 o23 o24 o25 o26 o27 d42 d43 d44 d45 d46 d47 d48 d49 d50 d51), [], h, none⟩ ?_
    refine WpM.op (iv (16 * z)) _ (by kernel_rfl) (arith_mul (by kernel_rfl) (by kernel_rfl) (by omega)) ?_
    refine rn4 2 ⟨.ops (p25_24_5 :: o25_24.drop 6), [.seq x25_25, .blk 1, .loop x25_18, .blk 0, .seq x25_26], (ss (E82 s i z o13 o14 o15 o16 o17 o18 o19 o20 o21 o22 o23 o24 o25 o26 o27 d42 d43 d44 d45 d46 d47 d48 d49 d50 d51) [(42, iv (16 * z)), (43, .str s), (44, iv i)]), [], h, none⟩ ?_
    refine WpM.op (.int .u8 (bt s i)) _ (by kernel_rfl) (index_str (k := .i64) (by kernel_rfl) (by kernel_rfl) (by kernel_rfl) (by omega)) ?_
    refine rn4 1 ⟨.ops (p25_24_7 :: o25_24.drop 8), [.seq x25_25, .blk 1, .loop x25_18, .blk 0, .seq x25_26], (ss (E82 s i z o13 o14 o15 o16 o17 o18 o19 o20 o21 o22 o23 o24 o25 o26 o27 d42 d43 d44 d45 d46 d47 d48 d49 d50 d51) [(42, iv (16 * z)), (43, .str s), (44, iv i), (45, .int .u8 (bt s i)), (46, .bool true)]), [], h, none⟩ ?_
    refine WpM.call 43 [.int .u8 (bt s i), .bool true] (by kernel_rfl) (by kernel_rfl) ?_
    refine WpF.mono (dig_true (c := bt s i) (bt_range _ _)) ?_
    rintro _ _ ⟨rfl, rfl⟩
    refine rn4 0 ⟨.ops (p25_24_8 :: o25_24.drop 9), [.seq x25_25, .blk 1, .loop x25_18, .blk 0, .seq x25_26], (ss (E82 s i z o13 o14 o15 o16 o17 o18 o19 o20 o21 o22 o23 o24 o25 o26 o27 d42 d43 d44 d45 d46 d47 d48 d49 d50 d51) [(42, iv (16 * z)), (43, .str s), (44, iv i), (45, .int .u8 (bt s i)), (46, .bool true), (47, iv (dgt true (bt s i)))]), [], h, none⟩ ?_
    refine WpM.op (iv ((16 * z) + (dgt true (bt s i)))) _ (by kernel_rfl) (arith_add (by kernel_rfl) (by kernel_rfl) (by omega)) ?_
    refine rn4 6 ⟨.ops (p25_25_1 :: o25_25.drop 2), [.blk 1, .loop x25_18, .blk 0, .seq x25_26], (ss (E82 s i z o13 o14 o15 o16 o17 o18 o19 o20 o21 o22 o23 o24 o25 o26 o27 d42 d43 d44 d45 d46 d47 d48 d49 d50 d51) [(9, iv (if 16777216 < ((16 * z) + (dgt true (bt s i))) then 16777216 else ((16 * z) + (dgt true (bt s i))))), (42, iv (16 * z)), (43, .str s), (44, iv i), (45, .int .u8 (bt s i)), (46, .bool true), (47, iv (dgt true (bt s i))), (48, iv ((16 * z) + (dgt true (bt s i)))), (49, iv (if 16777216 < ((16 * z) + (dgt true (bt s i))) then 16777216 else ((16 * z) + (dgt true (bt s i))))), (50, iv i)]), [], h, none⟩ ?_
    refine WpM.op (iv (i + 1)) _ (by kernel_rfl) (arith_add (by kernel_rfl) (by kernel_rfl) (by omega)) ?_
    refine rn4 4 ⟨.code x25_18, [.loop x25_18, .blk 0, .seq x25_26], (.str s :: U :: iv 0 :: iv 0 :: .slice none 0 0 true :: iv (i + 1) :: .bool true :: iv 16 :: iv 3 :: iv (if 16777216 < ((16 * z) + (dgt true (bt s i))) then 16777216 else ((16 * z) + (dgt true (bt s i)))) :: U :: U :: U :: o13 :: o14 :: o15 :: o16 :: o17 :: o18 :: o19 :: o20 :: o21 :: o22 :: o23 :: o24 :: o25 :: o26 :: o27 :: iv i :: .str s :: iv ((s.length : Int)) :: .bool (decide (i < ((s.length : Int)))) :: .bool true :: .str s :: iv i :: .int .u8 (bt s i) :: .bool true :: iv (dgt true (bt s i)) :: .bool (decide ((dgt true (bt s i)) ≥ 0)) :: .bool (decide ((dgt true (bt s i)) ≥ 0)) :: iv 16 :: iv z :: iv (16 * z) :: .str s :: iv i :: .int .u8 (bt s i) :: .bool true :: iv (dgt true (bt s i)) :: iv ((16 * z) + (dgt true (bt s i))) :: iv (if 16777216 < ((16 * z) + (dgt true (bt s i))) then 16777216 else ((16 * z) + (dgt true (bt s i)))) :: iv i :: iv (i + 1) :: us 34), [], h, none⟩ ?_
    refine ih _ ?_ _ h (if 16777216 < ((16 * z) + (dgt true (bt s i))) then 16777216 else ((16 * z) + (dgt true (bt s i)))) (if m9 < 16777216 then m9 * dbase true + dgt true (bt s i) else m9) _ _ _ _ _ _ _ _ _ _ _ _ _ _ _ _ _ _ _ _ _ _ _ _ rfl ?_ ?_ ?_ ?_ ?_ ?_
    ·omega
    ·omega
    ·omega
    ·rw [hba]; split <;> omega
    ·exact (by rw [hmz]; exact min_step (by decide) hm0.1 (by omega) hzm)
    ·rw [rscan_step (by omega) (by omega) (by omega)] at hA
     rw [← hA]
     rw [show i - 3 + 1 = i + 1 - 3 from by omega]
    ·exact hX
   ·have c102p := dec_f c102
    refine rn4 4 ⟨.done .norm, [.seq x25_26], (ss (E81 s i z o13 o14 o15 o16 o17 o18 o19 o20 o21 o22 o23 o24 o25 o26 o27 d33 d34 d35 d36 d37 d38 d39 d40 d41 d42 d43 d44 d45 d46 d47 d48 d49 d50 d51) [(32, .bool true), (33, .str s), (34, iv i), (35, .int .u8 (bt s i)), (36, .bool true), (37, iv (dgt true (bt s i))), (38, .bool (decide ((dgt true (bt s i)) ≥ 0))), (39, .bool (decide ((dgt true (bt s i)) ≥ 0)))]), [], h, none⟩ ?_
    have hB : (i - 3, m9) = dscan true (s.drop 3) (0, 0) := (rscan_stop (by omega) (by omega)).symm.trans hA
    rw [← hB]
    exact rnum_rest hs (by omega) h0i h1i hzm hX
  ·have c101p := dec_f c101
   refine rn4 14 ⟨.done .norm, [.seq x25_26], (ss (E81 s i z o13 o14 o15 o16 o17 o18 o19 o20 o21 o22 o23 o24 o25 o26 o27 d33 d34 d35 d36 d37 d38 d39 d40 d41 d42 d43 d44 d45 d46 d47 d48 d49 d50 d51) [(32, .bool false), (33, U), (34, U), (35, U), (36, U), (37, U), (38, U), (39, .bool false)]), [], h, none⟩ ?_
   have hB : (i - 3, m9) = dscan true (s.drop 3) (0, 0) := (rscan_stop (by omega) (by omega)).symm.trans hA
   rw [← hB]
   exact rnum_rest hs (by omega) h0i h1i hzm hX
def E83 (s : List UInt8) : List V := (.str s :: U :: iv 0 :: iv 0 :: .slice none 0 0 true :: iv 2 :: U :: U :: U :: U :: U :: U :: U :: .str s :: iv ((s.length : Int)) :: .bool (decide (((s.length : Int)) > 2)) :: .bool (decide (((s.length : Int)) > 2)) :: us 69)
def E84 (s : List UInt8) : List V := (.str s :: U :: iv 0 :: iv 0 :: .slice none 0 0 true :: iv 2 :: .bool ((bt s 2) == 88) :: iv 10 :: U :: U :: U :: U :: U :: .str s :: iv ((s.length : Int)) :: .bool (decide (((s.length : Int)) > 2)) :: .bool true :: .str s :: .int .u8 (bt s 2) :: .bool ((bt s 2) == 120) :: .bool false :: .str s :: .int .u8 (bt s 2) :: .bool ((bt s 2) == 88) :: .bool ((bt s 2) == 88) :: .bool ((bt s 2) == 88) :: .bool ((bt s 2) == 88) :: us 59)
theorem rnumber_ok {W : World} {s : List UInt8} {h0 : H} (hs : s.length ≤ 140737488351232) (h2 : 2 ≤ s.length) : WpF Tryd.prog W prim2 25 [.str s] h0 (fun v h' => HX h0 h' ∧ ∃ r e cs w, numP s = (r, e, cs) ∧ v = .tup [iv r, iv e, w] ∧ CodesAt h' w cs) := by
 have hb2 : bt (s.drop 2) 0 = bt s 2 := by unfold bt; rw [List.getD_eq_getElem?_getD, List.getElem?_drop, List.getD_eq_getElem?_getD]; rfl
 refine WpF.m tab4_ok (by kernel_rfl) rfl ?_
 refine WpM.cfg (c' := ⟨.code x25_0, [], (.str s :: us 85), [], h0, none⟩) (by kernel_rfl) ?_
 refine rn4 18 ⟨.ops (p25_5_4 :: o25_5.drop 5), [.seq x25_6], (E83 s), [], h0, none⟩ ?_
 refine WpM.guard (b := (decide (((s.length : Int)) > 2))) (by kernel_rfl) (fun c1 => ?_) (fun c1 => ?_)
 ·have c1p := dec_t c1
  refine rn4 1 ⟨.ops (p25_5_5 :: o25_5.drop 6), [.seq x25_6], (ss (E83 s) [(16, .bool true), (17, .str s)]), [], h0, none⟩ ?_
  refine WpM.op (.int .u8 (bt s 2)) _ (by kernel_rfl) (index_str (k := .i64) (by kernel_rfl) (by kernel_rfl) (by kernel_rfl) (by omega)) ?_
  refine rn4 2 ⟨.ops (p25_5_8 :: o25_5.drop 9), [.seq x25_6], (ss (E83 s) [(16, .bool true), (17, .str s), (18, .int .u8 (bt s 2)), (19, .bool ((bt s 2) == 120)), (20, .bool ((bt s 2) == 120))]), [], h0, none⟩ ?_
  refine WpM.guard (b := ((bt s 2) == 120)) (by kernel_rfl) (fun c2 => ?_) (fun c2 => ?_)
  ·have c2p := beq_t c2
   refine rn4 35 ⟨.code x25_18, [.loop x25_18, .blk 0, .seq x25_26], (.str s :: U :: iv 0 :: iv 0 :: .slice none 0 0 true :: iv 3 :: .bool true :: iv 16 :: iv 3 :: iv 0 :: U :: U :: U :: .str s :: iv ((s.length : Int)) :: .bool (decide (((s.length : Int)) > 2)) :: .bool true :: .str s :: .int .u8 (bt s 2) :: .bool ((bt s 2) == 120) :: .bool true :: U :: U :: U :: .bool true :: .bool true :: .bool true :: iv 3 :: us 58), [], h0, none⟩ ?_
   have hN : numP s = numRes s 3 (dscan true (s.drop 3) (0, 0)) := by unfold numP; rw [if_pos (by unfold hexQ; simp only [Bool.and_eq_true, Bool.or_eq_true, decide_eq_true_eq]; rw [hb2]; exact ⟨by omega, by omega⟩)]; rw [List.drop_drop]
   rw [hN]
   exact rnum_loop16 hs _ 3 _ 0 0 _ _ _ _ _ _ _ _ _ _ _ _ _ _ _ _ _ _ _ _ _ _ _ _ rfl (by omega) (by omega) (by omega) rfl rfl (HX.refl h0)
  ·have c2p := beq_f c2
   refine rn4 1 ⟨.ops (p25_5_9 :: o25_5.drop 10), [.seq x25_6], (ss (E83 s) [(16, .bool true), (17, .str s), (18, .int .u8 (bt s 2)), (19, .bool ((bt s 2) == 120)), (20, .bool false), (21, .str s)]), [], h0, none⟩ ?_
   refine WpM.op (.int .u8 (bt s 2)) _ (by kernel_rfl) (index_str (k := .i64) (by kernel_rfl) (by kernel_rfl) (by kernel_rfl) (by omega)) ?_
   refine rn4 17 ⟨.code x25_11, [.seq x25_13], (E84 s), [], h0, none⟩ ?_
   refine WpM.cond (t := ((bt s 2) == 88)) (by kernel_rfl) (fun c3 => ?_) (fun c3 => ?_)
   ·have c3p := beq_t c3
    refine rn4 15 ⟨.code x25_18, [.loop x25_18, .blk 0, .seq x25_26], (.str s :: U :: iv 0 :: iv 0 :: .slice none 0 0 true :: iv 3 :: .bool ((bt s 2) == 88) :: iv 16 :: iv 3 :: iv 0 :: U :: U :: U :: .str s :: iv ((s.length : Int)) :: .bool (decide (((s.length : Int)) > 2)) :: .bool true :: .str s :: .int .u8 (bt s 2) :: .bool ((bt s 2) == 120) :: .bool false :: .str s :: .int .u8 (bt s 2) :: .bool ((bt s 2) == 88) :: .bool ((bt s 2) == 88) :: .bool ((bt s 2) == 88) :: .bool ((bt s 2) == 88) :: iv 3 :: us 58), [], h0, none⟩ ?_
    rw [c3]
    have hN : numP s = numRes s 3 (dscan true (s.drop 3) (0, 0)) := by unfold numP; rw [if_pos (by unfold hexQ; simp only [Bool.and_eq_true, Bool.or_eq_true, decide_eq_true_eq]; rw [hb2]; exact ⟨by omega, by omega⟩)]; rw [List.drop_drop]
    rw [hN]
    exact rnum_loop16 hs _ 3 _ 0 0 _ _ _ _ _ _ _ _ _ _ _ _ _ _ _ _ _ _ _ _ _ _ _ _ rfl (by omega) (by omega) (by omega) rfl rfl (HX.refl h0)
   ·have c3p := beq_f c3
    refine rn4 12 ⟨.code x25_18, [.loop x25_18, .blk 0, .seq x25_26], (.str s :: U :: iv 0 :: iv 0 :: .slice none 0 0 true :: iv 2 :: .bool ((bt s 2) == 88) :: iv 10 :: iv 2 :: iv 0 :: U :: U :: U :: .str s :: iv ((s.length : Int)) :: .bool (decide (((s.length : Int)) > 2)) :: .bool true :: .str s :: .int .u8 (bt s 2) :: .bool ((bt s 2) == 120) :: .bool false :: .str s :: .int .u8 (bt s 2) :: .bool ((bt s 2) == 88) :: .bool ((bt s 2) == 88) :: .bool ((bt s 2) == 88) :: .bool ((bt s 2) == 88) :: iv 2 :: us 58), [], h0, none⟩ ?_
    rw [c3]
    have hN : numP s = numRes s 2 (dscan false (s.drop 2) (0, 0)) := by unfold numP; rw [if_neg (by unfold hexQ; simp only [Bool.and_eq_true, Bool.or_eq_true, decide_eq_true_eq]; rw [hb2]; omega)]
    rw [hN]
    exact rnum_loop10 hs _ 2 _ 0 0 _ _ _ _ _ _ _ _ _ _ _ _ _ _ _ _ _ _ _ _ _ _ _ _ rfl (by omega) (by omega) (by omega) rfl rfl (HX.refl h0)
 ·have c1p := dec_f c1
  refine rn4 36 ⟨.code x25_18, [.loop x25_18, .blk 0, .seq x25_26], (.str s :: U :: iv 0 :: iv 0 :: .slice none 0 0 true :: iv 2 :: .bool false :: iv 10 :: iv 2 :: iv 0 :: U :: U :: U :: .str s :: iv ((s.length : Int)) :: .bool (decide (((s.length : Int)) > 2)) :: .bool false :: U :: U :: U :: U :: U :: U :: U :: U :: .bool false :: .bool false :: iv 2 :: us 58), [], h0, none⟩ ?_
  have hN : numP s = numRes s 2 (dscan false (s.drop 2) (0, 0)) := by unfold numP; rw [if_neg (by unfold hexQ; simp only [Bool.and_eq_true, Bool.or_eq_true, decide_eq_true_eq]; rw [hb2]; omega)]
  rw [hN]
  exact rnum_loop10 hs _ 2 _ 0 0 _ _ _ _ _ _ _ _ _ _ _ _ _ _ _ _ _ _ _ _ _ _ _ _ rfl (by omega) (by omega) (by omega) rfl rfl (HX.refl h0)
end Go.Proofs.YtkhjmgchlbnkjaaDoor.Dg
