/-
  The code of chapter 17 that the law of the ark reaches; the plain law; attributes among attributes.
-/
import Derived.Test.YtplcallbihapdaaChecked
import Derived.Test.YtplcallbihapdaaDgS38
set_option linter.unusedVariables false
set_option linter.unusedSimpArgs false
namespace Go.Proofs.Ytplcallbihapdaa.Dg
open Go Go.RowKit
set_option maxRecDepth 20000
def p3_1_0 : RO := ⟨none, some 4, .assign (.const (.bool false))⟩
def o3_1 : List RO := [p3_1_0]
def x3_1 : RC := .ops o3_1
def p3_3_0 : RO := ⟨none, some 13, .call ⟨.value (.func 6), #[], #[]⟩⟩
def p3_3_1 : RO := ⟨none, some 5, .assign (.tmp 13)⟩
def o3_3 : List RO := [p3_3_0, p3_3_1]
def x3_3 : RC := .ops o3_3
def p3_6_0 : RO := ⟨none, some 14, .move (.tmp 5)⟩
def p3_6_1 : RO := ⟨none, some 15, .binOp .eql 23 (.tmp 14) (.const (.pointer none)) 23⟩
def p3_6_2 : RO := ⟨none, some 16, .move (.tmp 15)⟩
def p3_6_3 : RO := ⟨some (some 16, false), some 17, .move (.tmp 0)⟩
def p3_6_4 : RO := ⟨some (some 16, false), some 18, .call ⟨.builtin .len, #[(.tmp 17)], #[22]⟩⟩
def p3_6_5 : RO := ⟨some (some 16, false), some 19, .binOp .gtr 3 (.tmp 18) (.const (.int .i64 (200))) 3⟩
def p3_6_6 : RO := ⟨none, some 20, .pick (.tmp 16) (.const (.bool true)) (.tmp 19)⟩
def o3_6 : List RO := [p3_6_0, p3_6_1, p3_6_2, p3_6_3, p3_6_4, p3_6_5, p3_6_6]
def x3_6 : RC := .ops o3_6
def p3_9_0 : RO := ⟨none, some 21, .move (.tmp 5)⟩
def p3_9_1 : RO := ⟨none, some 22, .binOp .neq 23 (.tmp 21) (.const (.pointer none)) 23⟩
def p3_9_2 : RO := ⟨none, some 23, .move (.tmp 22)⟩
def p3_9_3 : RO := ⟨some (some 23, true), some 24, .call ⟨.value (.func 7), #[], #[]⟩⟩
def p3_9_4 : RO := ⟨none, some 25, .pick (.tmp 23) (.tmp 24) (.const (.bool false))⟩
def p3_9_5 : RO := ⟨none, some 4, .assign (.tmp 25)⟩
def o3_9 : List RO := [p3_9_0, p3_9_1, p3_9_2, p3_9_3, p3_9_4, p3_9_5]
def x3_9 : RC := .ops o3_9
def x3_8 : RC := .seq x3_9 .ret
def x3_7 : RC := .cond (.tmp 20) x3_8 .skip
def x3_5 : RC := .seq x3_6 x3_7
def p3_12_0 : RO := ⟨none, some 6, .assign (.const (.int .i64 (0)))⟩
def o3_12 : List RO := [p3_12_0]
def x3_12 : RC := .ops o3_12
def p3_17_0 : RO := ⟨none, some 26, .move (.tmp 6)⟩
def p3_17_1 : RO := ⟨none, some 27, .move (.tmp 0)⟩
def p3_17_2 : RO := ⟨none, some 28, .call ⟨.builtin .len, #[(.tmp 27)], #[22]⟩⟩
def p3_17_3 : RO := ⟨none, some 29, .binOp .lss 3 (.tmp 26) (.tmp 28) 3⟩
def o3_17 : List RO := [p3_17_0, p3_17_1, p3_17_2, p3_17_3]
def x3_17 : RC := .ops o3_17
def x3_18 : RC := .cond (.tmp 29) .skip (.exit 0)
def x3_16 : RC := .seq x3_17 x3_18
def p3_23_0 : RO := ⟨none, some 32, .move (.tmp 6)⟩
def p3_23_1 : RO := ⟨none, some 33, .move (.tmp 1)⟩
def p3_23_2 : RO := ⟨none, some 34, .binOp .eql 3 (.tmp 32) (.tmp 33) 3⟩
def o3_23 : List RO := [p3_23_0, p3_23_1, p3_23_2]
def x3_23 : RC := .ops o3_23
def p3_25_0 : RO := ⟨none, some 35, .move (.tmp 5)⟩
def p3_25_1 : RO := ⟨none, some 36, .call ⟨.value (.func 8), #[(.tmp 35)], #[23]⟩⟩
def o3_25 : List RO := [p3_25_0, p3_25_1]
def x3_25 : RC := .ops o3_25
def x3_24 : RC := .cond (.tmp 34) x3_25 .skip
def x3_22 : RC := .seq x3_23 x3_24
def p3_26_0 : RO := ⟨none, some 37, .move (.tmp 5)⟩
def p3_26_1 : RO := ⟨none, some 38, .move (.tmp 0)⟩
def p3_26_2 : RO := ⟨none, some 39, .move (.tmp 6)⟩
def p3_26_3 : RO := ⟨none, some 40, .indexAddr 22 (.tmp 38) (.tmp 39)⟩
def p3_26_4 : RO := ⟨none, some 41, .load 29 (.tmp 40)⟩
def p3_26_5 : RO := ⟨none, some 42, .call ⟨.value (.func 9), #[(.tmp 37), (.tmp 41)], #[23, 29]⟩⟩
def o3_26 : List RO := [p3_26_0, p3_26_1, p3_26_2, p3_26_3, p3_26_4, p3_26_5]
def x3_26 : RC := .ops o3_26
def x3_21 : RC := .seq x3_22 x3_26
def x3_20 : RC := .block 1 x3_21
def p3_27_0 : RO := ⟨none, some 30, .move (.tmp 6)⟩
def p3_27_1 : RO := ⟨none, some 31, .binOp .add 3 (.tmp 30) (.const (.int .i64 (1))) 3⟩
def p3_27_2 : RO := ⟨none, some 6, .assign (.tmp 31)⟩
def o3_27 : List RO := [p3_27_0, p3_27_1, p3_27_2]
def x3_27 : RC := .ops o3_27
def x3_19 : RC := .seq x3_20 x3_27
def x3_15 : RC := .seq x3_16 x3_19
def x3_14 : RC := .loop x3_15
def x3_13 : RC := .block 0 x3_14
def x3_11 : RC := .seq x3_12 x3_13
def p3_29_0 : RO := ⟨none, some 43, .move (.tmp 5)⟩
def p3_29_1 : RO := ⟨none, some 44, .call ⟨.value (.func 10), #[(.tmp 43)], #[23]⟩⟩
def p3_29_2 : RO := ⟨none, some 7, .assign (.tmp 44)⟩
def o3_29 : List RO := [p3_29_0, p3_29_1, p3_29_2]
def x3_29 : RC := .ops o3_29
def p3_31_0 : RO := ⟨none, some 8, .assign (.const (.int .i64 (0)))⟩
def o3_31 : List RO := [p3_31_0]
def x3_31 : RC := .ops o3_31
def p3_34_0 : RO := ⟨none, some 9, .assign (.const (.int .i64 (0)))⟩
def o3_34 : List RO := [p3_34_0]
def x3_34 : RC := .ops o3_34
def p3_39_0 : RO := ⟨none, some 45, .move (.tmp 9)⟩
def p3_39_1 : RO := ⟨none, some 46, .move (.tmp 7)⟩
def p3_39_2 : RO := ⟨none, some 47, .call ⟨.builtin .len, #[(.tmp 46)], #[22]⟩⟩
def p3_39_3 : RO := ⟨none, some 48, .binOp .lss 3 (.tmp 45) (.tmp 47) 3⟩
def o3_39 : List RO := [p3_39_0, p3_39_1, p3_39_2, p3_39_3]
def x3_39 : RC := .ops o3_39
def x3_40 : RC := .cond (.tmp 48) .skip (.exit 2)
def x3_38 : RC := .seq x3_39 x3_40
def p3_44_0 : RO := ⟨none, some 51, .move (.tmp 7)⟩
def p3_44_1 : RO := ⟨none, some 52, .move (.tmp 9)⟩
def p3_44_2 : RO := ⟨none, some 53, .indexAddr 22 (.tmp 51) (.tmp 52)⟩
def p3_44_3 : RO := ⟨none, some 54, .fieldAddr 29 (.tmp 53) 0⟩
def p3_44_4 : RO := ⟨none, some 55, .load 3 (.tmp 54)⟩
def p3_44_5 : RO := ⟨none, some 56, .binOp .lss 3 (.tmp 55) (.const (.int .i64 (0))) 3⟩
def o3_44 : List RO := [p3_44_0, p3_44_1, p3_44_2, p3_44_3, p3_44_4, p3_44_5]
def x3_44 : RC := .ops o3_44
def p3_46_0 : RO := ⟨none, some 57, .move (.tmp 9)⟩
def p3_46_1 : RO := ⟨none, some 58, .binOp .add 3 (.tmp 57) (.const (.int .i64 (1))) 3⟩
def p3_46_2 : RO := ⟨none, some 8, .assign (.tmp 58)⟩
def o3_46 : List RO := [p3_46_0, p3_46_1, p3_46_2]
def x3_46 : RC := .ops o3_46
def x3_45 : RC := .cond (.tmp 56) x3_46 .skip
def x3_43 : RC := .seq x3_44 x3_45
def x3_42 : RC := .block 3 x3_43
def p3_47_0 : RO := ⟨none, some 49, .move (.tmp 9)⟩
def p3_47_1 : RO := ⟨none, some 50, .binOp .add 3 (.tmp 49) (.const (.int .i64 (1))) 3⟩
def p3_47_2 : RO := ⟨none, some 9, .assign (.tmp 50)⟩
def o3_47 : List RO := [p3_47_0, p3_47_1, p3_47_2]
def x3_47 : RC := .ops o3_47
def x3_41 : RC := .seq x3_42 x3_47
def x3_37 : RC := .seq x3_38 x3_41
def x3_36 : RC := .loop x3_37
def x3_35 : RC := .block 2 x3_36
def x3_33 : RC := .seq x3_34 x3_35
def p3_50_0 : RO := ⟨none, some 59, .move (.tmp 8)⟩
def p3_50_1 : RO := ⟨none, some 10, .assign (.tmp 59)⟩
def o3_50 : List RO := [p3_50_0, p3_50_1]
def x3_50 : RC := .ops o3_50
def p3_55_0 : RO := ⟨none, some 60, .move (.tmp 10)⟩
def p3_55_1 : RO := ⟨none, some 61, .move (.tmp 7)⟩
def p3_55_2 : RO := ⟨none, some 62, .call ⟨.builtin .len, #[(.tmp 61)], #[22]⟩⟩
def p3_55_3 : RO := ⟨none, some 63, .binOp .lss 3 (.tmp 60) (.tmp 62) 3⟩
def o3_55 : List RO := [p3_55_0, p3_55_1, p3_55_2, p3_55_3]
def x3_55 : RC := .ops o3_55
def x3_56 : RC := .cond (.tmp 63) .skip (.exit 4)
def x3_54 : RC := .seq x3_55 x3_56
def p3_60_0 : RO := ⟨none, some 11, .assign (.const (.int .i64 (0)))⟩
def o3_60 : List RO := [p3_60_0]
def x3_60 : RC := .ops o3_60
def p3_63_0 : RO := ⟨none, some 66, .move (.tmp 8)⟩
def p3_63_1 : RO := ⟨none, some 12, .assign (.tmp 66)⟩
def o3_63 : List RO := [p3_63_0, p3_63_1]
def x3_63 : RC := .ops o3_63
def p3_68_0 : RO := ⟨none, some 67, .move (.tmp 12)⟩
def p3_68_1 : RO := ⟨none, some 68, .move (.tmp 7)⟩
def p3_68_2 : RO := ⟨none, some 69, .call ⟨.builtin .len, #[(.tmp 68)], #[22]⟩⟩
def p3_68_3 : RO := ⟨none, some 70, .binOp .lss 3 (.tmp 67) (.tmp 69) 3⟩
def o3_68 : List RO := [p3_68_0, p3_68_1, p3_68_2, p3_68_3]
def x3_68 : RC := .ops o3_68
def x3_69 : RC := .cond (.tmp 70) .skip (.exit 6)
def x3_67 : RC := .seq x3_68 x3_69
def p3_73_0 : RO := ⟨none, some 73, .move (.tmp 7)⟩
def p3_73_1 : RO := ⟨none, some 74, .move (.tmp 10)⟩
def p3_73_2 : RO := ⟨none, some 75, .indexAddr 22 (.tmp 73) (.tmp 74)⟩
def p3_73_3 : RO := ⟨none, some 76, .fieldAddr 29 (.tmp 75) 1⟩
def p3_73_4 : RO := ⟨none, some 77, .load 3 (.tmp 76)⟩
def p3_73_5 : RO := ⟨none, some 78, .move (.tmp 7)⟩
def p3_73_6 : RO := ⟨none, some 79, .move (.tmp 12)⟩
def p3_73_7 : RO := ⟨none, some 80, .indexAddr 22 (.tmp 78) (.tmp 79)⟩
def p3_73_8 : RO := ⟨none, some 81, .fieldAddr 29 (.tmp 80) 1⟩
def p3_73_9 : RO := ⟨none, some 82, .load 3 (.tmp 81)⟩
def p3_73_10 : RO := ⟨none, some 83, .binOp .eql 3 (.tmp 77) (.tmp 82) 3⟩
def p3_73_11 : RO := ⟨none, some 84, .move (.tmp 83)⟩
def p3_73_12 : RO := ⟨some (some 84, true), some 85, .move (.tmp 7)⟩
def p3_73_13 : RO := ⟨some (some 84, true), some 86, .move (.tmp 10)⟩
def p3_73_14 : RO := ⟨some (some 84, true), some 87, .indexAddr 22 (.tmp 85) (.tmp 86)⟩
def p3_73_15 : RO := ⟨some (some 84, true), some 88, .fieldAddr 29 (.tmp 87) 2⟩
def p3_73_16 : RO := ⟨some (some 84, true), some 89, .load 9 (.tmp 88)⟩
def p3_73_17 : RO := ⟨some (some 84, true), some 90, .move (.tmp 7)⟩
def p3_73_18 : RO := ⟨some (some 84, true), some 91, .move (.tmp 12)⟩
def p3_73_19 : RO := ⟨some (some 84, true), some 92, .indexAddr 22 (.tmp 90) (.tmp 91)⟩
def p3_73_20 : RO := ⟨some (some 84, true), some 93, .fieldAddr 29 (.tmp 92) 2⟩
def p3_73_21 : RO := ⟨some (some 84, true), some 94, .load 9 (.tmp 93)⟩
def p3_73_22 : RO := ⟨some (some 84, true), some 95, .binOp .eql 9 (.tmp 89) (.tmp 94) 9⟩
def p3_73_23 : RO := ⟨none, some 96, .pick (.tmp 84) (.tmp 95) (.const (.bool false))⟩
def p3_73_24 : RO := ⟨none, some 97, .move (.tmp 96)⟩
def p3_73_25 : RO := ⟨some (some 97, true), some 98, .move (.tmp 7)⟩
def p3_73_26 : RO := ⟨some (some 97, true), some 99, .move (.tmp 10)⟩
def p3_73_27 : RO := ⟨some (some 97, true), some 100, .indexAddr 22 (.tmp 98) (.tmp 99)⟩
def p3_73_28 : RO := ⟨some (some 97, true), some 101, .fieldAddr 29 (.tmp 100) 3⟩
def p3_73_29 : RO := ⟨some (some 97, true), some 102, .load 27 (.tmp 101)⟩
def p3_73_30 : RO := ⟨some (some 97, true), some 103, .move (.tmp 7)⟩
def p3_73_31 : RO := ⟨some (some 97, true), some 104, .move (.tmp 12)⟩
def p3_73_32 : RO := ⟨some (some 97, true), some 105, .indexAddr 22 (.tmp 103) (.tmp 104)⟩
def p3_73_33 : RO := ⟨some (some 97, true), some 106, .fieldAddr 29 (.tmp 105) 3⟩
def p3_73_34 : RO := ⟨some (some 97, true), some 107, .load 27 (.tmp 106)⟩
def p3_73_35 : RO := ⟨some (some 97, true), some 108, .call ⟨.value (.func 11), #[(.tmp 102), (.tmp 107)], #[27, 27]⟩⟩
def p3_73_36 : RO := ⟨none, some 109, .pick (.tmp 97) (.tmp 108) (.const (.bool false))⟩
def o3_73 : List (Nat × RO) := [(0, p3_73_0), (1, p3_73_1), (2, p3_73_2), (3, p3_73_3), (4, p3_73_4), (5, p3_73_5), (6, p3_73_6), (7, p3_73_7), (8, p3_73_8), (9, p3_73_9), (10, p3_73_10), (11, p3_73_11), (12, p3_73_12), (13, p3_73_13), (14, p3_73_14), (15, p3_73_15), (16, p3_73_16), (17, p3_73_17), (18, p3_73_18), (19, p3_73_19), (20, p3_73_20), (21, p3_73_21), (22, p3_73_22), (23, p3_73_23), (24, p3_73_24), (25, p3_73_25), (26, p3_73_26), (27, p3_73_27), (28, p3_73_28), (29, p3_73_29), (30, p3_73_30), (31, p3_73_31), (32, p3_73_32), (33, p3_73_33), (34, p3_73_34), (35, p3_73_35), (36, p3_73_36)]
def m3_73 : List Nat := [0, 0, 3, 7, 15, 0, 0, 96, 224, 480, 1023, 2047, 4095, 4095, 16383, 32767, 65535, 4095, 4095, 397311, 921599, 1970175, 4194303, 8388607, 16777215, 33554431, 33554431, 134217727, 268435455, 536870911, 33554431, 33554431, 3254779903, 7549747199, 16139681791, 34359738367, 68719476735]
def x3_73 : RC := .draw o3_73 m3_73
def p3_75_0 : RO := ⟨none, some 110, .move (.tmp 11)⟩
def p3_75_1 : RO := ⟨none, some 111, .binOp .add 3 (.tmp 110) (.const (.int .i64 (1))) 3⟩
def p3_75_2 : RO := ⟨none, some 11, .assign (.tmp 111)⟩
def o3_75 : List RO := [p3_75_0, p3_75_1, p3_75_2]
def x3_75 : RC := .ops o3_75
def x3_74 : RC := .cond (.tmp 109) x3_75 .skip
def x3_72 : RC := .seq x3_73 x3_74
def x3_71 : RC := .block 7 x3_72
def p3_76_0 : RO := ⟨none, some 71, .move (.tmp 12)⟩
def p3_76_1 : RO := ⟨none, some 72, .binOp .add 3 (.tmp 71) (.const (.int .i64 (1))) 3⟩
def p3_76_2 : RO := ⟨none, some 12, .assign (.tmp 72)⟩
def o3_76 : List RO := [p3_76_0, p3_76_1, p3_76_2]
def x3_76 : RC := .ops o3_76
def x3_70 : RC := .seq x3_71 x3_76
def x3_66 : RC := .seq x3_67 x3_70
def x3_65 : RC := .loop x3_66
def x3_64 : RC := .block 6 x3_65
def x3_62 : RC := .seq x3_63 x3_64
def p3_78_0 : RO := ⟨none, some 112, .move (.tmp 11)⟩
def p3_78_1 : RO := ⟨none, some 113, .binOp .gtr 3 (.tmp 112) (.const (.int .i64 (3))) 3⟩
def o3_78 : List RO := [p3_78_0, p3_78_1]
def x3_78 : RC := .ops o3_78
def p3_81_0 : RO := ⟨none, some 4, .assign (.const (.bool false))⟩
def o3_81 : List RO := [p3_81_0]
def x3_81 : RC := .ops o3_81
def x3_80 : RC := .seq x3_81 .ret
def x3_79 : RC := .cond (.tmp 113) x3_80 .skip
def x3_77 : RC := .seq x3_78 x3_79
def x3_61 : RC := .seq x3_62 x3_77
def x3_59 : RC := .seq x3_60 x3_61
def x3_58 : RC := .block 5 x3_59
def p3_82_0 : RO := ⟨none, some 64, .move (.tmp 10)⟩
def p3_82_1 : RO := ⟨none, some 65, .binOp .add 3 (.tmp 64) (.const (.int .i64 (1))) 3⟩
def p3_82_2 : RO := ⟨none, some 10, .assign (.tmp 65)⟩
def o3_82 : List RO := [p3_82_0, p3_82_1, p3_82_2]
def x3_82 : RC := .ops o3_82
def x3_57 : RC := .seq x3_58 x3_82
def x3_53 : RC := .seq x3_54 x3_57
def x3_52 : RC := .loop x3_53
def x3_51 : RC := .block 4 x3_52
def x3_49 : RC := .seq x3_50 x3_51
def p3_84_0 : RO := ⟨none, some 114, .call ⟨.value (.func 7), #[], #[]⟩⟩
def p3_84_1 : RO := ⟨none, some 4, .assign (.tmp 114)⟩
def o3_84 : List RO := [p3_84_0, p3_84_1]
def x3_84 : RC := .ops o3_84
def x3_83 : RC := .seq x3_84 .ret
def x3_48 : RC := .seq x3_49 x3_83
def x3_32 : RC := .seq x3_33 x3_48
def x3_30 : RC := .seq x3_31 x3_32
def x3_28 : RC := .seq x3_29 x3_30
def x3_10 : RC := .seq x3_11 x3_28
def x3_4 : RC := .seq x3_5 x3_10
def x3_2 : RC := .seq x3_3 x3_4
def x3_0 : RC := .seq x3_1 x3_2
theorem x3_eq : Try.f3.body.map rc = some x3_0 := by kernel_rfl
def p6_1_0 : RO := ⟨none, some 0, .assign (.const (.pointer none))⟩
def o6_1 : List RO := [p6_1_0]
def x6_1 : RC := .ops o6_1
def p6_3_0 : RO := ⟨none, some 1, .build 47 #[]⟩
def p6_3_1 : RO := ⟨none, some 2, .box 47 (.tmp 1)⟩
def p6_3_2 : RO := ⟨none, some 0, .assign (.tmp 2)⟩
def o6_3 : List RO := [p6_3_0, p6_3_1, p6_3_2]
def x6_3 : RC := .ops o6_3
def x6_2 : RC := .seq x6_3 .ret
def x6_0 : RC := .seq x6_1 x6_2
theorem x6_eq : Try.f6.body.map rc = some x6_0 := by kernel_rfl
def p8_1_0 : RO := ⟨none, some 2, .move (.tmp 0)⟩
def p8_1_1 : RO := ⟨none, some 3, .binOp .neq 23 (.tmp 2) (.const (.pointer none)) 23⟩
def o8_1 : List RO := [p8_1_0, p8_1_1]
def x8_1 : RC := .ops o8_1
def p8_3_0 : RO := ⟨none, some 4, .move (.tmp 0)⟩
def p8_3_1 : RO := ⟨none, some 5, .nilCheck (.tmp 4)⟩
def p8_3_2 : RO := ⟨none, some 6, .fieldAddr 47 (.tmp 5) 0⟩
def p8_3_3 : RO := ⟨none, some 7, .move (.tmp 0)⟩
def p8_3_4 : RO := ⟨none, some 8, .nilCheck (.tmp 7)⟩
def p8_3_5 : RO := ⟨none, some 9, .fieldAddr 47 (.tmp 8) 0⟩
def p8_3_6 : RO := ⟨none, some 10, .fieldAddr 45 (.tmp 9) 0⟩
def p8_3_7 : RO := ⟨none, some 11, .load 22 (.tmp 10)⟩
def p8_3_8 : RO := ⟨none, some 12, .call ⟨.builtin .len, #[(.tmp 11)], #[22]⟩⟩
def p8_3_9 : RO := ⟨none, some 13, .build 29 #[(0, (.const (.int .i64 (-1))))]⟩
def p8_3_10 : RO := ⟨none, some 14, .call ⟨.value (.func 21), #[(.tmp 6), (.tmp 12), (.tmp 13)], #[45, 3, 29]⟩⟩
def o8_3 : List (Nat × RO) := [(0, p8_3_0), (1, p8_3_1), (2, p8_3_2), (3, p8_3_3), (4, p8_3_4), (5, p8_3_5), (6, p8_3_6), (7, p8_3_7), (8, p8_3_8), (9, p8_3_9), (10, p8_3_10)]
def m8_3 : List Nat := [0, 1, 3, 0, 8, 24, 56, 120, 248, 0, 1023]
def x8_3 : RC := .draw o8_3 m8_3
def x8_2 : RC := .cond (.tmp 3) x8_3 .skip
def x8_0 : RC := .seq x8_1 x8_2
theorem x8_eq : Try.f8.body.map rc = some x8_0 := by kernel_rfl
def p9_1_0 : RO := ⟨none, some 3, .box 29 (.tmp 1)⟩
def o9_1 : List RO := [p9_1_0]
def x9_1 : RC := .ops o9_1
def p9_4_0 : RO := ⟨none, some 7, .move (.tmp 0)⟩
def p9_4_1 : RO := ⟨none, some 8, .binOp .eql 23 (.tmp 7) (.const (.pointer none)) 23⟩
def p9_4_2 : RO := ⟨none, some 9, .move (.tmp 8)⟩
def p9_4_3 : RO := ⟨some (some 9, false), some 10, .fieldAddr 29 (.tmp 3) 0⟩
def p9_4_4 : RO := ⟨some (some 9, false), some 11, .load 3 (.tmp 10)⟩
def p9_4_5 : RO := ⟨some (some 9, false), some 12, .binOp .lss 3 (.tmp 11) (.const (.int .i64 (0))) 3⟩
def p9_4_6 : RO := ⟨none, some 13, .pick (.tmp 9) (.const (.bool true)) (.tmp 12)⟩
def o9_4 : List RO := [p9_4_0, p9_4_1, p9_4_2, p9_4_3, p9_4_4, p9_4_5, p9_4_6]
def x9_4 : RC := .ops o9_4
def x9_5 : RC := .cond (.tmp 13) .ret .skip
def x9_3 : RC := .seq x9_4 x9_5
def p9_7_0 : RO := ⟨none, some 4, .assign (.const (.slice none 0 0))⟩
def o9_7 : List RO := [p9_7_0]
def x9_7 : RC := .ops o9_7
def p9_10_0 : RO := ⟨none, some 14, .move (.tmp 0)⟩
def p9_10_1 : RO := ⟨none, some 15, .call ⟨.value (.func 22), #[(.tmp 14)], #[23]⟩⟩
def p9_10_2 : RO := ⟨none, some 5, .assign (.tmp 15)⟩
def o9_10 : List RO := [p9_10_0, p9_10_1, p9_10_2]
def x9_10 : RC := .ops o9_10
def p9_15_0 : RO := ⟨none, some 16, .move (.tmp 5)⟩
def p9_15_1 : RO := ⟨none, some 17, .move (.tmp 0)⟩
def p9_15_2 : RO := ⟨none, some 18, .nilCheck (.tmp 17)⟩
def p9_15_3 : RO := ⟨none, some 19, .fieldAddr 47 (.tmp 18) 0⟩
def p9_15_4 : RO := ⟨none, some 20, .fieldAddr 45 (.tmp 19) 0⟩
def p9_15_5 : RO := ⟨none, some 21, .load 22 (.tmp 20)⟩
def p9_15_6 : RO := ⟨none, some 22, .call ⟨.builtin .len, #[(.tmp 21)], #[22]⟩⟩
def p9_15_7 : RO := ⟨none, some 23, .binOp .lss 3 (.tmp 16) (.tmp 22) 3⟩
def o9_15 : List RO := [p9_15_0, p9_15_1, p9_15_2, p9_15_3, p9_15_4, p9_15_5, p9_15_6, p9_15_7]
def x9_15 : RC := .ops o9_15
def x9_16 : RC := .cond (.tmp 23) .skip (.exit 0)
def x9_14 : RC := .seq x9_15 x9_16
def p9_20_0 : RO := ⟨none, some 26, .move (.tmp 0)⟩
def p9_20_1 : RO := ⟨none, some 27, .nilCheck (.tmp 26)⟩
def p9_20_2 : RO := ⟨none, some 28, .fieldAddr 47 (.tmp 27) 0⟩
def p9_20_3 : RO := ⟨none, some 29, .fieldAddr 45 (.tmp 28) 0⟩
def p9_20_4 : RO := ⟨none, some 30, .load 22 (.tmp 29)⟩
def p9_20_5 : RO := ⟨none, some 31, .move (.tmp 5)⟩
def p9_20_6 : RO := ⟨none, some 32, .indexAddr 22 (.tmp 30) (.tmp 31)⟩
def p9_20_7 : RO := ⟨none, some 33, .load 29 (.tmp 32)⟩
def p9_20_8 : RO := ⟨none, some 6, .alloc 29⟩
def p9_20_9 : RO := ⟨none, none, .store 29 (.tmp 6) (.tmp 33)⟩
def o9_20 : List RO := [p9_20_0, p9_20_1, p9_20_2, p9_20_3, p9_20_4, p9_20_5, p9_20_6, p9_20_7, p9_20_8, p9_20_9]
def x9_20 : RC := .ops o9_20
def p9_22_0 : RO := ⟨none, some 34, .fieldAddr 29 (.tmp 6) 1⟩
def p9_22_1 : RO := ⟨none, some 35, .load 3 (.tmp 34)⟩
def p9_22_2 : RO := ⟨none, some 36, .fieldAddr 29 (.tmp 3) 1⟩
def p9_22_3 : RO := ⟨none, some 37, .load 3 (.tmp 36)⟩
def p9_22_4 : RO := ⟨none, some 38, .binOp .eql 3 (.tmp 35) (.tmp 37) 3⟩
def p9_22_5 : RO := ⟨none, some 39, .move (.tmp 38)⟩
def p9_22_6 : RO := ⟨some (some 39, true), some 40, .fieldAddr 29 (.tmp 6) 2⟩
def p9_22_7 : RO := ⟨some (some 39, true), some 41, .load 9 (.tmp 40)⟩
def p9_22_8 : RO := ⟨some (some 39, true), some 42, .fieldAddr 29 (.tmp 3) 2⟩
def p9_22_9 : RO := ⟨some (some 39, true), some 43, .load 9 (.tmp 42)⟩
def p9_22_10 : RO := ⟨some (some 39, true), some 44, .binOp .eql 9 (.tmp 41) (.tmp 43) 9⟩
def p9_22_11 : RO := ⟨none, some 45, .pick (.tmp 39) (.tmp 44) (.const (.bool false))⟩
def p9_22_12 : RO := ⟨none, some 46, .move (.tmp 45)⟩
def p9_22_13 : RO := ⟨some (some 46, true), some 47, .fieldAddr 29 (.tmp 6) 3⟩
def p9_22_14 : RO := ⟨some (some 46, true), some 48, .load 27 (.tmp 47)⟩
def p9_22_15 : RO := ⟨some (some 46, true), some 49, .fieldAddr 29 (.tmp 3) 3⟩
def p9_22_16 : RO := ⟨some (some 46, true), some 50, .load 27 (.tmp 49)⟩
def p9_22_17 : RO := ⟨some (some 46, true), some 51, .call ⟨.value (.func 23), #[(.tmp 48), (.tmp 50)], #[27, 27]⟩⟩
def p9_22_18 : RO := ⟨none, some 52, .pick (.tmp 46) (.tmp 51) (.const (.bool false))⟩
def o9_22 : List RO := [p9_22_0, p9_22_1, p9_22_2, p9_22_3, p9_22_4, p9_22_5, p9_22_6, p9_22_7, p9_22_8, p9_22_9, p9_22_10, p9_22_11, p9_22_12, p9_22_13, p9_22_14, p9_22_15, p9_22_16, p9_22_17, p9_22_18]
def x9_22 : RC := .ops o9_22
def p9_24_0 : RO := ⟨none, some 53, .move (.tmp 4)⟩
def p9_24_1 : RO := ⟨none, some 54, .move (.tmp 5)⟩
def p9_24_2 : RO := ⟨none, some 55, .buildSlice 41 1 #[(0, (.tmp 54))]⟩
def p9_24_3 : RO := ⟨none, some 56, .call ⟨.builtin .append, #[(.tmp 53), (.tmp 55)], #[41, 41]⟩⟩
def p9_24_4 : RO := ⟨none, some 4, .assign (.tmp 56)⟩
def o9_24 : List RO := [p9_24_0, p9_24_1, p9_24_2, p9_24_3, p9_24_4]
def x9_24 : RC := .ops o9_24
def x9_23 : RC := .cond (.tmp 52) x9_24 .skip
def x9_21 : RC := .seq x9_22 x9_23
def x9_19 : RC := .seq x9_20 x9_21
def x9_18 : RC := .block 1 x9_19
def p9_25_0 : RO := ⟨none, some 24, .move (.tmp 5)⟩
def p9_25_1 : RO := ⟨none, some 25, .binOp .add 3 (.tmp 24) (.const (.int .i64 (1))) 3⟩
def p9_25_2 : RO := ⟨none, some 5, .assign (.tmp 25)⟩
def o9_25 : List RO := [p9_25_0, p9_25_1, p9_25_2]
def x9_25 : RC := .ops o9_25
def x9_17 : RC := .seq x9_18 x9_25
def x9_13 : RC := .seq x9_14 x9_17
def x9_12 : RC := .loop x9_13
def x9_11 : RC := .block 0 x9_12
def x9_9 : RC := .seq x9_10 x9_11
def p9_28_0 : RO := ⟨none, some 57, .move (.tmp 4)⟩
def p9_28_1 : RO := ⟨none, some 58, .call ⟨.builtin .len, #[(.tmp 57)], #[41]⟩⟩
def p9_28_2 : RO := ⟨none, some 59, .binOp .geq 3 (.tmp 58) (.const (.int .i64 (3))) 3⟩
def o9_28 : List RO := [p9_28_0, p9_28_1, p9_28_2]
def x9_28 : RC := .ops o9_28
def p9_30_0 : RO := ⟨none, some 60, .move (.tmp 0)⟩
def p9_30_1 : RO := ⟨none, some 61, .nilCheck (.tmp 60)⟩
def p9_30_2 : RO := ⟨none, some 62, .fieldAddr 47 (.tmp 61) 0⟩
def p9_30_3 : RO := ⟨none, some 63, .move (.tmp 4)⟩
def p9_30_4 : RO := ⟨none, some 64, .indexAddr 41 (.tmp 63) (.const (.int .i64 (0)))⟩
def p9_30_5 : RO := ⟨none, some 65, .load 3 (.tmp 64)⟩
def p9_30_6 : RO := ⟨none, some 66, .call ⟨.value (.func 24), #[(.tmp 62), (.tmp 65)], #[45, 3]⟩⟩
def o9_30 : List (Nat × RO) := [(0, p9_30_0), (1, p9_30_1), (2, p9_30_2), (3, p9_30_3), (4, p9_30_4), (5, p9_30_5), (6, p9_30_6)]
def m9_30 : List Nat := [0, 1, 3, 0, 8, 24, 63]
def x9_30 : RC := .draw o9_30 m9_30
def x9_29 : RC := .cond (.tmp 59) x9_30 .skip
def x9_27 : RC := .seq x9_28 x9_29
def p9_31_0 : RO := ⟨none, some 76, .load 29 (.tmp 3)⟩
def p9_31_1 : RO := ⟨none, some 77, .call ⟨.value (.func 25), #[(.tmp 76)], #[29]⟩⟩
def p9_31_2 : RO := ⟨none, some 67, .move (.tmp 0)⟩
def p9_31_3 : RO := ⟨none, some 68, .nilCheck (.tmp 67)⟩
def p9_31_4 : RO := ⟨none, some 69, .fieldAddr 47 (.tmp 68) 0⟩
def p9_31_5 : RO := ⟨none, some 70, .move (.tmp 0)⟩
def p9_31_6 : RO := ⟨none, some 71, .nilCheck (.tmp 70)⟩
def p9_31_7 : RO := ⟨none, some 72, .fieldAddr 47 (.tmp 71) 0⟩
def p9_31_8 : RO := ⟨none, some 73, .fieldAddr 45 (.tmp 72) 0⟩
def p9_31_9 : RO := ⟨none, some 74, .load 22 (.tmp 73)⟩
def p9_31_10 : RO := ⟨none, some 75, .call ⟨.builtin .len, #[(.tmp 74)], #[22]⟩⟩
def p9_31_11 : RO := ⟨none, some 78, .call ⟨.value (.func 21), #[(.tmp 69), (.tmp 75), (.tmp 77)], #[45, 3, 29]⟩⟩
def o9_31 : List (Nat × RO) := [(9, p9_31_0), (10, p9_31_1), (0, p9_31_2), (1, p9_31_3), (2, p9_31_4), (3, p9_31_5), (4, p9_31_6), (5, p9_31_7), (6, p9_31_8), (7, p9_31_9), (8, p9_31_10), (11, p9_31_11)]
def m9_31 : List Nat := [0, 1, 3, 0, 8, 24, 56, 120, 248, 0, 512, 2047]
def x9_31 : RC := .draw o9_31 m9_31
def x9_26 : RC := .seq x9_27 x9_31
def x9_8 : RC := .seq x9_9 x9_26
def x9_6 : RC := .seq x9_7 x9_8
def x9_2 : RC := .seq x9_3 x9_6
def x9_0 : RC := .seq x9_1 x9_2
theorem x9_eq : Try.f9.body.map rc = some x9_0 := by kernel_rfl
def p10_1_0 : RO := ⟨none, some 2, .assign (.const (.slice none 0 0))⟩
def o10_1 : List RO := [p10_1_0]
def x10_1 : RC := .ops o10_1
def p10_4_0 : RO := ⟨none, some 6, .move (.tmp 0)⟩
def p10_4_1 : RO := ⟨none, some 7, .binOp .eql 23 (.tmp 6) (.const (.pointer none)) 23⟩
def o10_4 : List RO := [p10_4_0, p10_4_1]
def x10_4 : RC := .ops o10_4
def p10_7_0 : RO := ⟨none, some 2, .assign (.const (.slice none 0 0))⟩
def o10_7 : List RO := [p10_7_0]
def x10_7 : RC := .ops o10_7
def x10_6 : RC := .seq x10_7 .ret
def x10_5 : RC := .cond (.tmp 7) x10_6 .skip
def x10_3 : RC := .seq x10_4 x10_5
def p10_9_0 : RO := ⟨none, some 8, .move (.tmp 0)⟩
def p10_9_1 : RO := ⟨none, some 9, .nilCheck (.tmp 8)⟩
def p10_9_2 : RO := ⟨none, some 10, .fieldAddr 47 (.tmp 9) 0⟩
def p10_9_3 : RO := ⟨none, some 11, .fieldAddr 45 (.tmp 10) 0⟩
def p10_9_4 : RO := ⟨none, some 12, .load 22 (.tmp 11)⟩
def p10_9_5 : RO := ⟨none, some 13, .call ⟨.builtin .len, #[(.tmp 12)], #[22]⟩⟩
def p10_9_6 : RO := ⟨none, some 14, .makeSlice 22 (.tmp 13) (.tmp 13)⟩
def p10_9_7 : RO := ⟨none, some 3, .assign (.tmp 14)⟩
def o10_9 : List RO := [p10_9_0, p10_9_1, p10_9_2, p10_9_3, p10_9_4, p10_9_5, p10_9_6, p10_9_7]
def x10_9 : RC := .ops o10_9
def p10_12_0 : RO := ⟨none, some 15, .move (.tmp 0)⟩
def p10_12_1 : RO := ⟨none, some 16, .nilCheck (.tmp 15)⟩
def p10_12_2 : RO := ⟨none, some 17, .fieldAddr 47 (.tmp 16) 0⟩
def p10_12_3 : RO := ⟨none, some 18, .fieldAddr 45 (.tmp 17) 0⟩
def p10_12_4 : RO := ⟨none, some 19, .load 22 (.tmp 18)⟩
def p10_12_5 : RO := ⟨none, some 20, .call ⟨.builtin .len, #[(.tmp 19)], #[22]⟩⟩
def p10_12_6 : RO := ⟨none, some 21, .move (.const (.int .i64 (0)))⟩
def o10_12 : List RO := [p10_12_0, p10_12_1, p10_12_2, p10_12_3, p10_12_4, p10_12_5, p10_12_6]
def x10_12 : RC := .ops o10_12
def p10_16_0 : RO := ⟨none, some 22, .binOp .lss 3 (.tmp 21) (.tmp 20) 3⟩
def o10_16 : List RO := [p10_16_0]
def x10_16 : RC := .ops o10_16
def x10_18 : RC := .cond (.tmp 22) .skip (.exit 0)
def p10_22_0 : RO := ⟨none, some 23, .move (.tmp 21)⟩
def p10_22_1 : RO := ⟨none, some 24, .indexAddr 22 (.tmp 19) (.tmp 21)⟩
def p10_22_2 : RO := ⟨none, some 25, .load 29 (.tmp 24)⟩
def p10_22_3 : RO := ⟨none, some 5, .alloc 29⟩
def p10_22_4 : RO := ⟨none, some 4, .assign (.tmp 23)⟩
def p10_22_5 : RO := ⟨none, none, .store 29 (.tmp 5) (.tmp 25)⟩
def o10_22 : List RO := [p10_22_0, p10_22_1, p10_22_2, p10_22_3, p10_22_4, p10_22_5]
def x10_22 : RC := .ops o10_22
def p10_23_0 : RO := ⟨none, some 26, .move (.tmp 3)⟩
def p10_23_1 : RO := ⟨none, some 27, .move (.tmp 4)⟩
def p10_23_2 : RO := ⟨none, some 28, .load 29 (.tmp 5)⟩
def p10_23_3 : RO := ⟨none, some 29, .call ⟨.value (.func 25), #[(.tmp 28)], #[29]⟩⟩
def p10_23_4 : RO := ⟨none, some 30, .indexAddr 22 (.tmp 26) (.tmp 27)⟩
def p10_23_5 : RO := ⟨none, none, .store 29 (.tmp 30) (.tmp 29)⟩
def o10_23 : List RO := [p10_23_0, p10_23_1, p10_23_2, p10_23_3, p10_23_4, p10_23_5]
def x10_23 : RC := .ops o10_23
def x10_21 : RC := .seq x10_22 x10_23
def x10_20 : RC := .block 1 x10_21
def p10_24_0 : RO := ⟨none, some 31, .binOp .add 3 (.tmp 21) (.const (.int .i64 (1))) 3⟩
def p10_24_1 : RO := ⟨none, some 21, .move (.tmp 31)⟩
def o10_24 : List RO := [p10_24_0, p10_24_1]
def x10_24 : RC := .ops o10_24
def x10_19 : RC := .seq x10_20 x10_24
def x10_17 : RC := .seq x10_18 x10_19
def x10_15 : RC := .seq x10_16 x10_17
def x10_14 : RC := .loop x10_15
def x10_13 : RC := .block 0 x10_14
def x10_11 : RC := .seq x10_12 x10_13
def p10_26_0 : RO := ⟨none, some 32, .move (.tmp 3)⟩
def p10_26_1 : RO := ⟨none, some 2, .assign (.tmp 32)⟩
def o10_26 : List RO := [p10_26_0, p10_26_1]
def x10_26 : RC := .ops o10_26
def x10_25 : RC := .seq x10_26 .ret
def x10_10 : RC := .seq x10_11 x10_25
def x10_8 : RC := .seq x10_9 x10_10
def x10_2 : RC := .seq x10_3 x10_8
def x10_0 : RC := .seq x10_1 x10_2
theorem x10_eq : Try.f10.body.map rc = some x10_0 := by kernel_rfl
def p11_1_0 : RO := ⟨none, some 4, .assign (.const (.bool false))⟩
def o11_1 : List RO := [p11_1_0]
def x11_1 : RC := .ops o11_1
def p11_4_0 : RO := ⟨none, some 6, .move (.tmp 0)⟩
def p11_4_1 : RO := ⟨none, some 7, .call ⟨.builtin .len, #[(.tmp 6)], #[27]⟩⟩
def p11_4_2 : RO := ⟨none, some 8, .move (.tmp 1)⟩
def p11_4_3 : RO := ⟨none, some 9, .call ⟨.builtin .len, #[(.tmp 8)], #[27]⟩⟩
def p11_4_4 : RO := ⟨none, some 10, .binOp .neq 3 (.tmp 7) (.tmp 9) 3⟩
def o11_4 : List RO := [p11_4_0, p11_4_1, p11_4_2, p11_4_3, p11_4_4]
def x11_4 : RC := .ops o11_4
def p11_7_0 : RO := ⟨none, some 4, .assign (.const (.bool false))⟩
def o11_7 : List RO := [p11_7_0]
def x11_7 : RC := .ops o11_7
def x11_6 : RC := .seq x11_7 .ret
def x11_5 : RC := .cond (.tmp 10) x11_6 .skip
def x11_3 : RC := .seq x11_4 x11_5
def p11_10_0 : RO := ⟨none, some 5, .assign (.const (.int .i64 (0)))⟩
def o11_10 : List RO := [p11_10_0]
def x11_10 : RC := .ops o11_10
def p11_15_0 : RO := ⟨none, some 11, .move (.tmp 5)⟩
def p11_15_1 : RO := ⟨none, some 12, .move (.tmp 0)⟩
def p11_15_2 : RO := ⟨none, some 13, .call ⟨.builtin .len, #[(.tmp 12)], #[27]⟩⟩
def p11_15_3 : RO := ⟨none, some 14, .binOp .lss 3 (.tmp 11) (.tmp 13) 3⟩
def o11_15 : List RO := [p11_15_0, p11_15_1, p11_15_2, p11_15_3]
def x11_15 : RC := .ops o11_15
def x11_16 : RC := .cond (.tmp 14) .skip (.exit 0)
def x11_14 : RC := .seq x11_15 x11_16
def p11_20_0 : RO := ⟨none, some 17, .move (.tmp 0)⟩
def p11_20_1 : RO := ⟨none, some 18, .move (.tmp 5)⟩
def p11_20_2 : RO := ⟨none, some 19, .indexAddr 27 (.tmp 17) (.tmp 18)⟩
def p11_20_3 : RO := ⟨none, some 20, .load 54 (.tmp 19)⟩
def p11_20_4 : RO := ⟨none, some 21, .move (.tmp 1)⟩
def p11_20_5 : RO := ⟨none, some 22, .call ⟨.value (.func 26), #[(.tmp 20), (.tmp 21)], #[54, 27]⟩⟩
def p11_20_6 : RO := ⟨none, some 23, .unOp .not 4 (.tmp 22)⟩
def p11_20_7 : RO := ⟨none, some 24, .move (.tmp 23)⟩
def p11_20_8 : RO := ⟨some (some 24, false), some 25, .move (.tmp 1)⟩
def p11_20_9 : RO := ⟨some (some 24, false), some 26, .move (.tmp 5)⟩
def p11_20_10 : RO := ⟨some (some 24, false), some 27, .indexAddr 27 (.tmp 25) (.tmp 26)⟩
def p11_20_11 : RO := ⟨some (some 24, false), some 28, .load 54 (.tmp 27)⟩
def p11_20_12 : RO := ⟨some (some 24, false), some 29, .move (.tmp 0)⟩
def p11_20_13 : RO := ⟨some (some 24, false), some 30, .call ⟨.value (.func 26), #[(.tmp 28), (.tmp 29)], #[54, 27]⟩⟩
def p11_20_14 : RO := ⟨some (some 24, false), some 31, .unOp .not 4 (.tmp 30)⟩
def p11_20_15 : RO := ⟨none, some 32, .pick (.tmp 24) (.const (.bool true)) (.tmp 31)⟩
def o11_20 : List RO := [p11_20_0, p11_20_1, p11_20_2, p11_20_3, p11_20_4, p11_20_5, p11_20_6, p11_20_7, p11_20_8, p11_20_9, p11_20_10, p11_20_11, p11_20_12, p11_20_13, p11_20_14, p11_20_15]
def x11_20 : RC := .ops o11_20
def p11_23_0 : RO := ⟨none, some 4, .assign (.const (.bool false))⟩
def o11_23 : List RO := [p11_23_0]
def x11_23 : RC := .ops o11_23
def x11_22 : RC := .seq x11_23 .ret
def x11_21 : RC := .cond (.tmp 32) x11_22 .skip
def x11_19 : RC := .seq x11_20 x11_21
def x11_18 : RC := .block 1 x11_19
def p11_24_0 : RO := ⟨none, some 15, .move (.tmp 5)⟩
def p11_24_1 : RO := ⟨none, some 16, .binOp .add 3 (.tmp 15) (.const (.int .i64 (1))) 3⟩
def p11_24_2 : RO := ⟨none, some 5, .assign (.tmp 16)⟩
def o11_24 : List RO := [p11_24_0, p11_24_1, p11_24_2]
def x11_24 : RC := .ops o11_24
def x11_17 : RC := .seq x11_18 x11_24
def x11_13 : RC := .seq x11_14 x11_17
def x11_12 : RC := .loop x11_13
def x11_11 : RC := .block 0 x11_12
def x11_9 : RC := .seq x11_10 x11_11
def p11_26_0 : RO := ⟨none, some 4, .assign (.const (.bool true))⟩
def o11_26 : List RO := [p11_26_0]
def x11_26 : RC := .ops o11_26
def x11_25 : RC := .seq x11_26 .ret
def x11_8 : RC := .seq x11_9 x11_25
def x11_2 : RC := .seq x11_3 x11_8
def x11_0 : RC := .seq x11_1 x11_2
theorem x11_eq : Try.f11.body.map rc = some x11_0 := by kernel_rfl
def p21_1_0 : RO := ⟨none, some 5, .box 29 (.tmp 2)⟩
def o21_1 : List RO := [p21_1_0]
def x21_1 : RC := .ops o21_1
def p21_2_0 : RO := ⟨none, some 7, .move (.tmp 0)⟩
def p21_2_1 : RO := ⟨none, some 8, .nilCheck (.tmp 7)⟩
def p21_2_2 : RO := ⟨none, some 9, .fieldAddr 45 (.tmp 8) 0⟩
def p21_2_3 : RO := ⟨none, some 10, .load 22 (.tmp 9)⟩
def p21_2_4 : RO := ⟨none, some 11, .move (.tmp 1)⟩
def p21_2_5 : RO := ⟨none, some 12, .load 29 (.tmp 5)⟩
def p21_2_6 : RO := ⟨none, some 13, .buildSlice 22 1 #[(0, (.tmp 12))]⟩
def p21_2_7 : RO := ⟨none, some 14, .call ⟨.value (.func 36), #[(.tmp 10), (.tmp 11), (.tmp 13)], #[22, 3, 22]⟩⟩
def p21_2_8 : RO := ⟨none, some 6, .move (.tmp 0)⟩
def p21_2_9 : RO := ⟨none, some 15, .nilCheck (.tmp 6)⟩
def p21_2_10 : RO := ⟨none, some 16, .fieldAddr 45 (.tmp 15) 0⟩
def p21_2_11 : RO := ⟨none, none, .store 22 (.tmp 16) (.tmp 14)⟩
def o21_2 : List (Nat × RO) := [(1, p21_2_0), (2, p21_2_1), (3, p21_2_2), (4, p21_2_3), (5, p21_2_4), (6, p21_2_5), (7, p21_2_6), (8, p21_2_7), (0, p21_2_8), (9, p21_2_9), (10, p21_2_10), (11, p21_2_11)]
def m21_2 : List Nat := [0, 0, 2, 6, 14, 0, 0, 64, 254, 511, 1023, 2047]
def x21_2 : RC := .draw o21_2 m21_2
def x21_0 : RC := .seq x21_1 x21_2
theorem x21_eq : Try.f21.body.map rc = some x21_0 := by kernel_rfl
def p22_1_0 : RO := ⟨none, some 2, .assign (.const (.int .i64 (0)))⟩
def o22_1 : List RO := [p22_1_0]
def x22_1 : RC := .ops o22_1
def p22_3_0 : RO := ⟨none, some 3, .move (.tmp 0)⟩
def p22_3_1 : RO := ⟨none, some 4, .nilCheck (.tmp 3)⟩
def p22_3_2 : RO := ⟨none, some 5, .fieldAddr 47 (.tmp 4) 0⟩
def p22_3_3 : RO := ⟨none, some 6, .call ⟨.value (.func 29), #[(.tmp 5), (.const (.int .i64 (0))), (.func 33)], #[45, 3, 58]⟩⟩
def p22_3_4 : RO := ⟨none, some 7, .binOp .add 3 (.tmp 6) (.const (.int .i64 (1))) 3⟩
def p22_3_5 : RO := ⟨none, some 2, .assign (.tmp 7)⟩
def o22_3 : List RO := [p22_3_0, p22_3_1, p22_3_2, p22_3_3, p22_3_4, p22_3_5]
def x22_3 : RC := .ops o22_3
def x22_2 : RC := .seq x22_3 .ret
def x22_0 : RC := .seq x22_1 x22_2
theorem x22_eq : Try.f22.body.map rc = some x22_0 := by kernel_rfl
def p23_1_0 : RO := ⟨none, some 4, .assign (.const (.bool false))⟩
def o23_1 : List RO := [p23_1_0]
def x23_1 : RC := .ops o23_1
def p23_4_0 : RO := ⟨none, some 6, .move (.tmp 0)⟩
def p23_4_1 : RO := ⟨none, some 7, .call ⟨.builtin .len, #[(.tmp 6)], #[27]⟩⟩
def p23_4_2 : RO := ⟨none, some 8, .move (.tmp 1)⟩
def p23_4_3 : RO := ⟨none, some 9, .call ⟨.builtin .len, #[(.tmp 8)], #[27]⟩⟩
def p23_4_4 : RO := ⟨none, some 10, .binOp .neq 3 (.tmp 7) (.tmp 9) 3⟩
def o23_4 : List RO := [p23_4_0, p23_4_1, p23_4_2, p23_4_3, p23_4_4]
def x23_4 : RC := .ops o23_4
def p23_7_0 : RO := ⟨none, some 4, .assign (.const (.bool false))⟩
def o23_7 : List RO := [p23_7_0]
def x23_7 : RC := .ops o23_7
def x23_6 : RC := .seq x23_7 .ret
def x23_5 : RC := .cond (.tmp 10) x23_6 .skip
def x23_3 : RC := .seq x23_4 x23_5
def p23_10_0 : RO := ⟨none, some 11, .move (.tmp 0)⟩
def p23_10_1 : RO := ⟨none, some 12, .call ⟨.builtin .len, #[(.tmp 11)], #[27]⟩⟩
def p23_10_2 : RO := ⟨none, some 13, .move (.const (.int .i64 (0)))⟩
def o23_10 : List RO := [p23_10_0, p23_10_1, p23_10_2]
def x23_10 : RC := .ops o23_10
def p23_14_0 : RO := ⟨none, some 14, .binOp .lss 3 (.tmp 13) (.tmp 12) 3⟩
def o23_14 : List RO := [p23_14_0]
def x23_14 : RC := .ops o23_14
def x23_16 : RC := .cond (.tmp 14) .skip (.exit 0)
def p23_20_0 : RO := ⟨none, some 15, .move (.tmp 13)⟩
def p23_20_1 : RO := ⟨none, some 5, .assign (.tmp 15)⟩
def o23_20 : List RO := [p23_20_0, p23_20_1]
def x23_20 : RC := .ops o23_20
def p23_22_0 : RO := ⟨none, some 16, .move (.tmp 1)⟩
def p23_22_1 : RO := ⟨none, some 17, .move (.tmp 0)⟩
def p23_22_2 : RO := ⟨none, some 18, .move (.tmp 5)⟩
def p23_22_3 : RO := ⟨none, some 19, .indexAddr 27 (.tmp 17) (.tmp 18)⟩
def p23_22_4 : RO := ⟨none, some 20, .load 54 (.tmp 19)⟩
def p23_22_5 : RO := ⟨none, some 21, .call ⟨.value (.func 37), #[(.tmp 16), (.tmp 20)], #[27, 54]⟩⟩
def p23_22_6 : RO := ⟨none, some 22, .unOp .not 4 (.tmp 21)⟩
def p23_22_7 : RO := ⟨none, some 23, .move (.tmp 22)⟩
def p23_22_8 : RO := ⟨some (some 23, false), some 24, .move (.tmp 0)⟩
def p23_22_9 : RO := ⟨some (some 23, false), some 25, .move (.tmp 1)⟩
def p23_22_10 : RO := ⟨some (some 23, false), some 26, .move (.tmp 5)⟩
def p23_22_11 : RO := ⟨some (some 23, false), some 27, .indexAddr 27 (.tmp 25) (.tmp 26)⟩
def p23_22_12 : RO := ⟨some (some 23, false), some 28, .load 54 (.tmp 27)⟩
def p23_22_13 : RO := ⟨some (some 23, false), some 29, .call ⟨.value (.func 37), #[(.tmp 24), (.tmp 28)], #[27, 54]⟩⟩
def p23_22_14 : RO := ⟨some (some 23, false), some 30, .unOp .not 4 (.tmp 29)⟩
def p23_22_15 : RO := ⟨none, some 31, .pick (.tmp 23) (.const (.bool true)) (.tmp 30)⟩
def o23_22 : List RO := [p23_22_0, p23_22_1, p23_22_2, p23_22_3, p23_22_4, p23_22_5, p23_22_6, p23_22_7, p23_22_8, p23_22_9, p23_22_10, p23_22_11, p23_22_12, p23_22_13, p23_22_14, p23_22_15]
def x23_22 : RC := .ops o23_22
def p23_25_0 : RO := ⟨none, some 4, .assign (.const (.bool false))⟩
def o23_25 : List RO := [p23_25_0]
def x23_25 : RC := .ops o23_25
def x23_24 : RC := .seq x23_25 .ret
def x23_23 : RC := .cond (.tmp 31) x23_24 .skip
def x23_21 : RC := .seq x23_22 x23_23
def x23_19 : RC := .seq x23_20 x23_21
def x23_18 : RC := .block 1 x23_19
def p23_26_0 : RO := ⟨none, some 32, .binOp .add 3 (.tmp 13) (.const (.int .i64 (1))) 3⟩
def p23_26_1 : RO := ⟨none, some 13, .move (.tmp 32)⟩
def o23_26 : List RO := [p23_26_0, p23_26_1]
def x23_26 : RC := .ops o23_26
def x23_17 : RC := .seq x23_18 x23_26
def x23_15 : RC := .seq x23_16 x23_17
def x23_13 : RC := .seq x23_14 x23_15
def x23_12 : RC := .loop x23_13
def x23_11 : RC := .block 0 x23_12
def x23_9 : RC := .seq x23_10 x23_11
def p23_28_0 : RO := ⟨none, some 4, .assign (.const (.bool true))⟩
def o23_28 : List RO := [p23_28_0]
def x23_28 : RC := .ops o23_28
def x23_27 : RC := .seq x23_28 .ret
def x23_8 : RC := .seq x23_9 x23_27
def x23_2 : RC := .seq x23_3 x23_8
def x23_0 : RC := .seq x23_1 x23_2
theorem x23_eq : Try.f23.body.map rc = some x23_0 := by kernel_rfl
def p24_0_0 : RO := ⟨none, some 4, .move (.tmp 0)⟩
def p24_0_1 : RO := ⟨none, some 5, .move (.tmp 0)⟩
def p24_0_2 : RO := ⟨none, some 6, .nilCheck (.tmp 5)⟩
def p24_0_3 : RO := ⟨none, some 7, .fieldAddr 45 (.tmp 6) 0⟩
def p24_0_4 : RO := ⟨none, some 8, .load 22 (.tmp 7)⟩
def p24_0_5 : RO := ⟨none, some 9, .move (.tmp 1)⟩
def p24_0_6 : RO := ⟨none, some 10, .move (.tmp 1)⟩
def p24_0_7 : RO := ⟨none, some 11, .binOp .add 3 (.tmp 10) (.const (.int .i64 (1))) 3⟩
def p24_0_8 : RO := ⟨none, some 12, .call ⟨.value (.func 27), #[(.tmp 8), (.tmp 9), (.tmp 11)], #[22, 3, 3]⟩⟩
def p24_0_9 : RO := ⟨none, some 13, .nilCheck (.tmp 4)⟩
def p24_0_10 : RO := ⟨none, some 14, .fieldAddr 45 (.tmp 13) 0⟩
def p24_0_11 : RO := ⟨none, none, .store 22 (.tmp 14) (.tmp 12)⟩
def o24_0 : List RO := [p24_0_0, p24_0_1, p24_0_2, p24_0_3, p24_0_4, p24_0_5, p24_0_6, p24_0_7, p24_0_8, p24_0_9, p24_0_10, p24_0_11]
def x24_0 : RC := .ops o24_0
theorem x24_eq : Try.f24.body.map rc = some x24_0 := by kernel_rfl
def p25_1_0 : RO := ⟨none, some 1, .box 29 (.tmp 0)⟩
def p25_1_1 : RO := ⟨none, some 2, .alloc 29⟩
def o25_1 : List RO := [p25_1_0, p25_1_1]
def x25_1 : RC := .ops o25_1
def p25_3_0 : RO := ⟨none, some 3, .fieldAddr 29 (.tmp 1) 3⟩
def p25_3_1 : RO := ⟨none, some 4, .load 27 (.tmp 3)⟩
def p25_3_2 : RO := ⟨none, some 5, .call ⟨.value (.func 38), #[(.tmp 4)], #[27]⟩⟩
def p25_3_3 : RO := ⟨none, some 6, .fieldAddr 29 (.tmp 1) 3⟩
def p25_3_4 : RO := ⟨none, none, .store 27 (.tmp 6) (.tmp 5)⟩
def o25_3 : List RO := [p25_3_0, p25_3_1, p25_3_2, p25_3_3, p25_3_4]
def x25_3 : RC := .ops o25_3
def p25_5_0 : RO := ⟨none, some 7, .load 29 (.tmp 1)⟩
def p25_5_1 : RO := ⟨none, none, .store 29 (.tmp 2) (.tmp 7)⟩
def o25_5 : List RO := [p25_5_0, p25_5_1]
def x25_5 : RC := .ops o25_5
def x25_4 : RC := .seq x25_5 .ret
def x25_2 : RC := .seq x25_3 x25_4
def x25_0 : RC := .seq x25_1 x25_2
theorem x25_eq : Try.f25.body.map rc = some x25_0 := by kernel_rfl
def p26_1_0 : RO := ⟨none, some 2, .box 54 (.tmp 0)⟩
def p26_1_1 : RO := ⟨none, some 4, .assign (.const (.bool false))⟩
def o26_1 : List RO := [p26_1_0, p26_1_1]
def x26_1 : RC := .ops o26_1
def p26_4_0 : RO := ⟨none, some 5, .assign (.const (.int .i64 (0)))⟩
def o26_4 : List RO := [p26_4_0]
def x26_4 : RC := .ops o26_4
def p26_9_0 : RO := ⟨none, some 6, .move (.tmp 5)⟩
def p26_9_1 : RO := ⟨none, some 7, .move (.tmp 1)⟩
def p26_9_2 : RO := ⟨none, some 8, .call ⟨.builtin .len, #[(.tmp 7)], #[27]⟩⟩
def p26_9_3 : RO := ⟨none, some 9, .binOp .lss 3 (.tmp 6) (.tmp 8) 3⟩
def o26_9 : List RO := [p26_9_0, p26_9_1, p26_9_2, p26_9_3]
def x26_9 : RC := .ops o26_9
def x26_10 : RC := .cond (.tmp 9) .skip (.exit 0)
def x26_8 : RC := .seq x26_9 x26_10
def p26_14_0 : RO := ⟨none, some 12, .move (.tmp 1)⟩
def p26_14_1 : RO := ⟨none, some 13, .move (.tmp 5)⟩
def p26_14_2 : RO := ⟨none, some 14, .indexAddr 27 (.tmp 12) (.tmp 13)⟩
def p26_14_3 : RO := ⟨none, some 15, .load 54 (.tmp 14)⟩
def p26_14_4 : RO := ⟨none, some 16, .load 54 (.tmp 2)⟩
def p26_14_5 : RO := ⟨none, some 17, .binOp .eql 54 (.tmp 15) (.tmp 16) 54⟩
def o26_14 : List (Nat × RO) := [(0, p26_14_0), (1, p26_14_1), (2, p26_14_2), (3, p26_14_3), (4, p26_14_4), (5, p26_14_5)]
def m26_14 : List Nat := [0, 0, 3, 7, 0, 31]
def x26_14 : RC := .draw o26_14 m26_14
def p26_17_0 : RO := ⟨none, some 4, .assign (.const (.bool true))⟩
def o26_17 : List RO := [p26_17_0]
def x26_17 : RC := .ops o26_17
def x26_16 : RC := .seq x26_17 .ret
def x26_15 : RC := .cond (.tmp 17) x26_16 .skip
def x26_13 : RC := .seq x26_14 x26_15
def x26_12 : RC := .block 1 x26_13
def p26_18_0 : RO := ⟨none, some 10, .move (.tmp 5)⟩
def p26_18_1 : RO := ⟨none, some 11, .binOp .add 3 (.tmp 10) (.const (.int .i64 (1))) 3⟩
def p26_18_2 : RO := ⟨none, some 5, .assign (.tmp 11)⟩
def o26_18 : List RO := [p26_18_0, p26_18_1, p26_18_2]
def x26_18 : RC := .ops o26_18
def x26_11 : RC := .seq x26_12 x26_18
def x26_7 : RC := .seq x26_8 x26_11
def x26_6 : RC := .loop x26_7
def x26_5 : RC := .block 0 x26_6
def x26_3 : RC := .seq x26_4 x26_5
def p26_20_0 : RO := ⟨none, some 4, .assign (.const (.bool false))⟩
def o26_20 : List RO := [p26_20_0]
def x26_20 : RC := .ops o26_20
def x26_19 : RC := .seq x26_20 .ret
def x26_2 : RC := .seq x26_3 x26_19
def x26_0 : RC := .seq x26_1 x26_2
theorem x26_eq : Try.f26.body.map rc = some x26_0 := by kernel_rfl
def p27_1_0 : RO := ⟨none, some 6, .assign (.const (.slice none 0 0))⟩
def o27_1 : List RO := [p27_1_0]
def x27_1 : RC := .ops o27_1
def p27_3_0 : RO := ⟨none, some 8, .move (.tmp 0)⟩
def p27_3_1 : RO := ⟨none, some 9, .move (.tmp 1)⟩
def p27_3_2 : RO := ⟨none, some 10, .move (.tmp 2)⟩
def p27_3_3 : RO := ⟨none, some 11, .move (.tmp 0)⟩
def p27_3_4 : RO := ⟨none, some 12, .call ⟨.builtin .len, #[(.tmp 11)], #[22]⟩⟩
def p27_3_5 : RO := ⟨none, some 13, .slice 22 (.tmp 8) (some (.tmp 9)) (some (.tmp 10)) (some (.tmp 12))⟩
def o27_3 : List RO := [p27_3_0, p27_3_1, p27_3_2, p27_3_3, p27_3_4, p27_3_5]
def x27_3 : RC := .ops o27_3
def p27_6_0 : RO := ⟨none, some 14, .move (.tmp 1)⟩
def p27_6_1 : RO := ⟨none, some 15, .move (.tmp 2)⟩
def p27_6_2 : RO := ⟨none, some 16, .binOp .eql 3 (.tmp 14) (.tmp 15) 3⟩
def o27_6 : List RO := [p27_6_0, p27_6_1, p27_6_2]
def x27_6 : RC := .ops o27_6
def p27_9_0 : RO := ⟨none, some 17, .move (.tmp 0)⟩
def p27_9_1 : RO := ⟨none, some 6, .assign (.tmp 17)⟩
def o27_9 : List RO := [p27_9_0, p27_9_1]
def x27_9 : RC := .ops o27_9
def x27_8 : RC := .seq x27_9 .ret
def x27_7 : RC := .cond (.tmp 16) x27_8 .skip
def x27_5 : RC := .seq x27_6 x27_7
def p27_11_0 : RO := ⟨none, some 18, .move (.tmp 0)⟩
def p27_11_1 : RO := ⟨none, some 19, .call ⟨.builtin .len, #[(.tmp 18)], #[22]⟩⟩
def p27_11_2 : RO := ⟨none, some 7, .assign (.tmp 19)⟩
def o27_11 : List RO := [p27_11_0, p27_11_1, p27_11_2]
def x27_11 : RC := .ops o27_11
def p27_13_0 : RO := ⟨none, some 20, .move (.tmp 0)⟩
def p27_13_1 : RO := ⟨none, some 21, .move (.tmp 1)⟩
def p27_13_2 : RO := ⟨none, some 22, .slice 22 (.tmp 20) none (some (.tmp 21)) none⟩
def p27_13_3 : RO := ⟨none, some 23, .move (.tmp 0)⟩
def p27_13_4 : RO := ⟨none, some 24, .move (.tmp 2)⟩
def p27_13_5 : RO := ⟨none, some 25, .slice 22 (.tmp 23) (some (.tmp 24)) none none⟩
def p27_13_6 : RO := ⟨none, some 26, .call ⟨.builtin .append, #[(.tmp 22), (.tmp 25)], #[22, 22]⟩⟩
def p27_13_7 : RO := ⟨none, some 0, .assign (.tmp 26)⟩
def o27_13 : List (Nat × RO) := [(0, p27_13_0), (1, p27_13_1), (2, p27_13_2), (3, p27_13_3), (4, p27_13_4), (5, p27_13_5), (6, p27_13_6), (7, p27_13_7)]
def m27_13 : List Nat := [0, 0, 3, 0, 0, 24, 63, 127]
def x27_13 : RC := .draw o27_13 m27_13
def p27_15_0 : RO := ⟨none, some 27, .move (.tmp 0)⟩
def p27_15_1 : RO := ⟨none, some 28, .move (.tmp 0)⟩
def p27_15_2 : RO := ⟨none, some 29, .call ⟨.builtin .len, #[(.tmp 28)], #[22]⟩⟩
def p27_15_3 : RO := ⟨none, some 30, .move (.tmp 7)⟩
def p27_15_4 : RO := ⟨none, some 31, .slice 22 (.tmp 27) (some (.tmp 29)) (some (.tmp 30)) none⟩
def p27_15_5 : RO := ⟨none, none, .call ⟨.builtin .clear, #[(.tmp 31)], #[22]⟩⟩
def o27_15 : List RO := [p27_15_0, p27_15_1, p27_15_2, p27_15_3, p27_15_4, p27_15_5]
def x27_15 : RC := .ops o27_15
def p27_17_0 : RO := ⟨none, some 32, .move (.tmp 0)⟩
def p27_17_1 : RO := ⟨none, some 6, .assign (.tmp 32)⟩
def o27_17 : List RO := [p27_17_0, p27_17_1]
def x27_17 : RC := .ops o27_17
def x27_16 : RC := .seq x27_17 .ret
def x27_14 : RC := .seq x27_15 x27_16
def x27_12 : RC := .seq x27_13 x27_14
def x27_10 : RC := .seq x27_11 x27_12
def x27_4 : RC := .seq x27_5 x27_10
def x27_2 : RC := .seq x27_3 x27_4
def x27_0 : RC := .seq x27_1 x27_2
theorem x27_eq : Try.f27.body.map rc = some x27_0 := by kernel_rfl
def p29_1_0 : RO := ⟨none, some 6, .assign (.const (.int .i64 (0)))⟩
def o29_1 : List RO := [p29_1_0]
def x29_1 : RC := .ops o29_1
def p29_4_0 : RO := ⟨none, some 8, .move (.tmp 0)⟩
def p29_4_1 : RO := ⟨none, some 9, .nilCheck (.tmp 8)⟩
def p29_4_2 : RO := ⟨none, some 10, .fieldAddr 45 (.tmp 9) 0⟩
def p29_4_3 : RO := ⟨none, some 11, .load 22 (.tmp 10)⟩
def p29_4_4 : RO := ⟨none, some 12, .call ⟨.builtin .len, #[(.tmp 11)], #[22]⟩⟩
def p29_4_5 : RO := ⟨none, some 13, .binOp .sub 3 (.tmp 12) (.const (.int .i64 (1))) 3⟩
def p29_4_6 : RO := ⟨none, some 7, .assign (.tmp 13)⟩
def o29_4 : List RO := [p29_4_0, p29_4_1, p29_4_2, p29_4_3, p29_4_4, p29_4_5, p29_4_6]
def x29_4 : RC := .ops o29_4
def p29_9_0 : RO := ⟨none, some 14, .move (.tmp 7)⟩
def p29_9_1 : RO := ⟨none, some 15, .move (.tmp 1)⟩
def p29_9_2 : RO := ⟨none, some 16, .binOp .geq 3 (.tmp 14) (.tmp 15) 3⟩
def o29_9 : List RO := [p29_9_0, p29_9_1, p29_9_2]
def x29_9 : RC := .ops o29_9
def x29_10 : RC := .cond (.tmp 16) .skip (.exit 0)
def x29_8 : RC := .seq x29_9 x29_10
def p29_14_0 : RO := ⟨none, some 19, .move (.tmp 2)⟩
def p29_14_1 : RO := ⟨none, some 20, .move (.tmp 0)⟩
def p29_14_2 : RO := ⟨none, some 21, .nilCheck (.tmp 20)⟩
def p29_14_3 : RO := ⟨none, some 22, .fieldAddr 45 (.tmp 21) 0⟩
def p29_14_4 : RO := ⟨none, some 23, .load 22 (.tmp 22)⟩
def p29_14_5 : RO := ⟨none, some 24, .move (.tmp 7)⟩
def p29_14_6 : RO := ⟨none, some 25, .indexAddr 22 (.tmp 23) (.tmp 24)⟩
def p29_14_7 : RO := ⟨none, some 26, .load 29 (.tmp 25)⟩
def p29_14_8 : RO := ⟨none, some 27, .call ⟨.value (.tmp 19), #[(.tmp 26)], #[29]⟩⟩
def o29_14 : List RO := [p29_14_0, p29_14_1, p29_14_2, p29_14_3, p29_14_4, p29_14_5, p29_14_6, p29_14_7, p29_14_8]
def x29_14 : RC := .ops o29_14
def p29_17_0 : RO := ⟨none, some 28, .move (.tmp 7)⟩
def p29_17_1 : RO := ⟨none, some 6, .assign (.tmp 28)⟩
def o29_17 : List RO := [p29_17_0, p29_17_1]
def x29_17 : RC := .ops o29_17
def x29_16 : RC := .seq x29_17 .ret
def x29_15 : RC := .cond (.tmp 27) x29_16 .skip
def x29_13 : RC := .seq x29_14 x29_15
def x29_12 : RC := .block 1 x29_13
def p29_18_0 : RO := ⟨none, some 17, .move (.tmp 7)⟩
def p29_18_1 : RO := ⟨none, some 18, .binOp .sub 3 (.tmp 17) (.const (.int .i64 (1))) 3⟩
def p29_18_2 : RO := ⟨none, some 7, .assign (.tmp 18)⟩
def o29_18 : List RO := [p29_18_0, p29_18_1, p29_18_2]
def x29_18 : RC := .ops o29_18
def x29_11 : RC := .seq x29_12 x29_18
def x29_7 : RC := .seq x29_8 x29_11
def x29_6 : RC := .loop x29_7
def x29_5 : RC := .block 0 x29_6
def x29_3 : RC := .seq x29_4 x29_5
def p29_20_0 : RO := ⟨none, some 6, .assign (.const (.int .i64 (-1)))⟩
def o29_20 : List RO := [p29_20_0]
def x29_20 : RC := .ops o29_20
def x29_19 : RC := .seq x29_20 .ret
def x29_2 : RC := .seq x29_3 x29_19
def x29_0 : RC := .seq x29_1 x29_2
theorem x29_eq : Try.f29.body.map rc = some x29_0 := by kernel_rfl
def p33_1_0 : RO := ⟨none, some 1, .box 29 (.tmp 0)⟩
def p33_1_1 : RO := ⟨none, some 2, .assign (.const (.bool false))⟩
def o33_1 : List RO := [p33_1_0, p33_1_1]
def x33_1 : RC := .ops o33_1
def p33_3_0 : RO := ⟨none, some 3, .fieldAddr 29 (.tmp 1) 0⟩
def p33_3_1 : RO := ⟨none, some 4, .load 3 (.tmp 3)⟩
def p33_3_2 : RO := ⟨none, some 5, .binOp .lss 3 (.tmp 4) (.const (.int .i64 (0))) 3⟩
def p33_3_3 : RO := ⟨none, some 2, .assign (.tmp 5)⟩
def o33_3 : List RO := [p33_3_0, p33_3_1, p33_3_2, p33_3_3]
def x33_3 : RC := .ops o33_3
def x33_2 : RC := .seq x33_3 .ret
def x33_0 : RC := .seq x33_1 x33_2
theorem x33_eq : Try.f33.body.map rc = some x33_0 := by kernel_rfl
def p36_1_0 : RO := ⟨none, some 6, .assign (.const (.slice none 0 0))⟩
def o36_1 : List RO := [p36_1_0]
def x36_1 : RC := .ops o36_1
def p36_3_0 : RO := ⟨none, some 10, .move (.tmp 0)⟩
def p36_3_1 : RO := ⟨none, some 11, .move (.tmp 1)⟩
def p36_3_2 : RO := ⟨none, some 12, .slice 22 (.tmp 10) (some (.tmp 11)) none none⟩
def o36_3 : List RO := [p36_3_0, p36_3_1, p36_3_2]
def x36_3 : RC := .ops o36_3
def p36_5_0 : RO := ⟨none, some 13, .move (.tmp 2)⟩
def p36_5_1 : RO := ⟨none, some 14, .call ⟨.builtin .len, #[(.tmp 13)], #[22]⟩⟩
def p36_5_2 : RO := ⟨none, some 7, .assign (.tmp 14)⟩
def o36_5 : List RO := [p36_5_0, p36_5_1, p36_5_2]
def x36_5 : RC := .ops o36_5
def p36_8_0 : RO := ⟨none, some 15, .move (.tmp 7)⟩
def p36_8_1 : RO := ⟨none, some 16, .binOp .eql 3 (.tmp 15) (.const (.int .i64 (0))) 3⟩
def o36_8 : List RO := [p36_8_0, p36_8_1]
def x36_8 : RC := .ops o36_8
def p36_11_0 : RO := ⟨none, some 17, .move (.tmp 0)⟩
def p36_11_1 : RO := ⟨none, some 6, .assign (.tmp 17)⟩
def o36_11 : List RO := [p36_11_0, p36_11_1]
def x36_11 : RC := .ops o36_11
def x36_10 : RC := .seq x36_11 .ret
def x36_9 : RC := .cond (.tmp 16) x36_10 .skip
def x36_7 : RC := .seq x36_8 x36_9
def p36_13_0 : RO := ⟨none, some 18, .move (.tmp 0)⟩
def p36_13_1 : RO := ⟨none, some 19, .call ⟨.builtin .len, #[(.tmp 18)], #[22]⟩⟩
def p36_13_2 : RO := ⟨none, some 8, .assign (.tmp 19)⟩
def o36_13 : List RO := [p36_13_0, p36_13_1, p36_13_2]
def x36_13 : RC := .ops o36_13
def p36_16_0 : RO := ⟨none, some 20, .move (.tmp 1)⟩
def p36_16_1 : RO := ⟨none, some 21, .move (.tmp 8)⟩
def p36_16_2 : RO := ⟨none, some 22, .binOp .eql 3 (.tmp 20) (.tmp 21) 3⟩
def o36_16 : List RO := [p36_16_0, p36_16_1, p36_16_2]
def x36_16 : RC := .ops o36_16
def p36_19_0 : RO := ⟨none, some 23, .move (.tmp 0)⟩
def p36_19_1 : RO := ⟨none, some 24, .move (.tmp 2)⟩
def p36_19_2 : RO := ⟨none, some 25, .call ⟨.builtin .append, #[(.tmp 23), (.tmp 24)], #[22, 22]⟩⟩
def p36_19_3 : RO := ⟨none, some 6, .assign (.tmp 25)⟩
def o36_19 : List RO := [p36_19_0, p36_19_1, p36_19_2, p36_19_3]
def x36_19 : RC := .ops o36_19
def x36_18 : RC := .seq x36_19 .ret
def x36_17 : RC := .cond (.tmp 22) x36_18 .skip
def x36_15 : RC := .seq x36_16 x36_17
def p36_22_0 : RO := ⟨none, some 26, .move (.tmp 8)⟩
def p36_22_1 : RO := ⟨none, some 27, .move (.tmp 7)⟩
def p36_22_2 : RO := ⟨none, some 28, .binOp .add 3 (.tmp 26) (.tmp 27) 3⟩
def p36_22_3 : RO := ⟨none, some 29, .move (.tmp 0)⟩
def p36_22_4 : RO := ⟨none, some 30, .call ⟨.builtin .cap, #[(.tmp 29)], #[22]⟩⟩
def p36_22_5 : RO := ⟨none, some 31, .binOp .gtr 3 (.tmp 28) (.tmp 30) 3⟩
def o36_22 : List RO := [p36_22_0, p36_22_1, p36_22_2, p36_22_3, p36_22_4, p36_22_5]
def x36_22 : RC := .ops o36_22
def p36_25_0 : RO := ⟨none, some 32, .move (.tmp 0)⟩
def p36_25_1 : RO := ⟨none, some 33, .move (.tmp 1)⟩
def p36_25_2 : RO := ⟨none, some 34, .slice 22 (.tmp 32) none (some (.tmp 33)) none⟩
def p36_25_3 : RO := ⟨none, some 35, .move (.tmp 8)⟩
def p36_25_4 : RO := ⟨none, some 36, .move (.tmp 7)⟩
def p36_25_5 : RO := ⟨none, some 37, .binOp .add 3 (.tmp 35) (.tmp 36) 3⟩
def p36_25_6 : RO := ⟨none, some 38, .move (.tmp 1)⟩
def p36_25_7 : RO := ⟨none, some 39, .binOp .sub 3 (.tmp 37) (.tmp 38) 3⟩
def p36_25_8 : RO := ⟨none, some 40, .call ⟨.builtin .append, #[(.tmp 34), (.tmp 39)], #[22, 3]⟩⟩
def p36_25_9 : RO := ⟨none, some 9, .assign (.tmp 40)⟩
def o36_25 : List RO := [p36_25_0, p36_25_1, p36_25_2, p36_25_3, p36_25_4, p36_25_5, p36_25_6, p36_25_7, p36_25_8, p36_25_9]
def x36_25 : RC := .ops o36_25
def p36_27_0 : RO := ⟨none, some 41, .move (.tmp 9)⟩
def p36_27_1 : RO := ⟨none, some 42, .move (.tmp 1)⟩
def p36_27_2 : RO := ⟨none, some 43, .slice 22 (.tmp 41) (some (.tmp 42)) none none⟩
def p36_27_3 : RO := ⟨none, some 44, .move (.tmp 2)⟩
def p36_27_4 : RO := ⟨none, some 45, .call ⟨.builtin .copy, #[(.tmp 43), (.tmp 44)], #[22, 22]⟩⟩
def o36_27 : List RO := [p36_27_0, p36_27_1, p36_27_2, p36_27_3, p36_27_4]
def x36_27 : RC := .ops o36_27
def p36_29_0 : RO := ⟨none, some 46, .move (.tmp 9)⟩
def p36_29_1 : RO := ⟨none, some 47, .move (.tmp 1)⟩
def p36_29_2 : RO := ⟨none, some 48, .move (.tmp 7)⟩
def p36_29_3 : RO := ⟨none, some 49, .binOp .add 3 (.tmp 47) (.tmp 48) 3⟩
def p36_29_4 : RO := ⟨none, some 50, .slice 22 (.tmp 46) (some (.tmp 49)) none none⟩
def p36_29_5 : RO := ⟨none, some 51, .move (.tmp 0)⟩
def p36_29_6 : RO := ⟨none, some 52, .move (.tmp 1)⟩
def p36_29_7 : RO := ⟨none, some 53, .slice 22 (.tmp 51) (some (.tmp 52)) none none⟩
def p36_29_8 : RO := ⟨none, some 54, .call ⟨.builtin .copy, #[(.tmp 50), (.tmp 53)], #[22, 22]⟩⟩
def o36_29 : List (Nat × RO) := [(0, p36_29_0), (1, p36_29_1), (2, p36_29_2), (3, p36_29_3), (4, p36_29_4), (5, p36_29_5), (6, p36_29_6), (7, p36_29_7), (8, p36_29_8)]
def m36_29 : List Nat := [0, 0, 0, 6, 15, 0, 0, 96, 255]
def x36_29 : RC := .draw o36_29 m36_29
def p36_31_0 : RO := ⟨none, some 55, .move (.tmp 9)⟩
def p36_31_1 : RO := ⟨none, some 6, .assign (.tmp 55)⟩
def o36_31 : List RO := [p36_31_0, p36_31_1]
def x36_31 : RC := .ops o36_31
def x36_30 : RC := .seq x36_31 .ret
def x36_28 : RC := .seq x36_29 x36_30
def x36_26 : RC := .seq x36_27 x36_28
def x36_24 : RC := .seq x36_25 x36_26
def x36_23 : RC := .cond (.tmp 31) x36_24 .skip
def x36_21 : RC := .seq x36_22 x36_23
def p36_33_0 : RO := ⟨none, some 56, .move (.tmp 0)⟩
def p36_33_1 : RO := ⟨none, some 57, .move (.tmp 8)⟩
def p36_33_2 : RO := ⟨none, some 58, .move (.tmp 7)⟩
def p36_33_3 : RO := ⟨none, some 59, .binOp .add 3 (.tmp 57) (.tmp 58) 3⟩
def p36_33_4 : RO := ⟨none, some 60, .slice 22 (.tmp 56) none (some (.tmp 59)) none⟩
def p36_33_5 : RO := ⟨none, some 0, .assign (.tmp 60)⟩
def o36_33 : List RO := [p36_33_0, p36_33_1, p36_33_2, p36_33_3, p36_33_4, p36_33_5]
def x36_33 : RC := .ops o36_33
def p36_36_0 : RO := ⟨none, some 61, .move (.tmp 2)⟩
def p36_36_1 : RO := ⟨none, some 62, .move (.tmp 0)⟩
def p36_36_2 : RO := ⟨none, some 63, .move (.tmp 1)⟩
def p36_36_3 : RO := ⟨none, some 64, .move (.tmp 7)⟩
def p36_36_4 : RO := ⟨none, some 65, .binOp .add 3 (.tmp 63) (.tmp 64) 3⟩
def p36_36_5 : RO := ⟨none, some 66, .slice 22 (.tmp 62) (some (.tmp 65)) none none⟩
def p36_36_6 : RO := ⟨none, some 67, .call ⟨.value (.func 41), #[(.tmp 61), (.tmp 66)], #[22, 22]⟩⟩
def p36_36_7 : RO := ⟨none, some 68, .unOp .not 4 (.tmp 67)⟩
def o36_36 : List RO := [p36_36_0, p36_36_1, p36_36_2, p36_36_3, p36_36_4, p36_36_5, p36_36_6, p36_36_7]
def x36_36 : RC := .ops o36_36
def p36_39_0 : RO := ⟨none, some 69, .move (.tmp 0)⟩
def p36_39_1 : RO := ⟨none, some 70, .move (.tmp 1)⟩
def p36_39_2 : RO := ⟨none, some 71, .move (.tmp 7)⟩
def p36_39_3 : RO := ⟨none, some 72, .binOp .add 3 (.tmp 70) (.tmp 71) 3⟩
def p36_39_4 : RO := ⟨none, some 73, .slice 22 (.tmp 69) (some (.tmp 72)) none none⟩
def p36_39_5 : RO := ⟨none, some 74, .move (.tmp 0)⟩
def p36_39_6 : RO := ⟨none, some 75, .move (.tmp 1)⟩
def p36_39_7 : RO := ⟨none, some 76, .slice 22 (.tmp 74) (some (.tmp 75)) none none⟩
def p36_39_8 : RO := ⟨none, some 77, .call ⟨.builtin .copy, #[(.tmp 73), (.tmp 76)], #[22, 22]⟩⟩
def o36_39 : List (Nat × RO) := [(0, p36_39_0), (1, p36_39_1), (2, p36_39_2), (3, p36_39_3), (4, p36_39_4), (5, p36_39_5), (6, p36_39_6), (7, p36_39_7), (8, p36_39_8)]
def m36_39 : List Nat := [0, 0, 0, 6, 15, 0, 0, 96, 255]
def x36_39 : RC := .draw o36_39 m36_39
def p36_41_0 : RO := ⟨none, some 78, .move (.tmp 0)⟩
def p36_41_1 : RO := ⟨none, some 79, .move (.tmp 1)⟩
def p36_41_2 : RO := ⟨none, some 80, .slice 22 (.tmp 78) (some (.tmp 79)) none none⟩
def p36_41_3 : RO := ⟨none, some 81, .move (.tmp 2)⟩
def p36_41_4 : RO := ⟨none, some 82, .call ⟨.builtin .copy, #[(.tmp 80), (.tmp 81)], #[22, 22]⟩⟩
def o36_41 : List RO := [p36_41_0, p36_41_1, p36_41_2, p36_41_3, p36_41_4]
def x36_41 : RC := .ops o36_41
def p36_43_0 : RO := ⟨none, some 83, .move (.tmp 0)⟩
def p36_43_1 : RO := ⟨none, some 6, .assign (.tmp 83)⟩
def o36_43 : List RO := [p36_43_0, p36_43_1]
def x36_43 : RC := .ops o36_43
def x36_42 : RC := .seq x36_43 .ret
def x36_40 : RC := .seq x36_41 x36_42
def x36_38 : RC := .seq x36_39 x36_40
def x36_37 : RC := .cond (.tmp 68) x36_38 .skip
def x36_35 : RC := .seq x36_36 x36_37
def p36_45_0 : RO := ⟨none, some 84, .move (.tmp 0)⟩
def p36_45_1 : RO := ⟨none, some 85, .move (.tmp 8)⟩
def p36_45_2 : RO := ⟨none, some 86, .slice 22 (.tmp 84) (some (.tmp 85)) none none⟩
def p36_45_3 : RO := ⟨none, some 87, .move (.tmp 2)⟩
def p36_45_4 : RO := ⟨none, some 88, .call ⟨.builtin .copy, #[(.tmp 86), (.tmp 87)], #[22, 22]⟩⟩
def o36_45 : List RO := [p36_45_0, p36_45_1, p36_45_2, p36_45_3, p36_45_4]
def x36_45 : RC := .ops o36_45
def p36_47_0 : RO := ⟨none, some 89, .move (.tmp 0)⟩
def p36_47_1 : RO := ⟨none, some 90, .move (.tmp 1)⟩
def p36_47_2 : RO := ⟨none, some 91, .slice 22 (.tmp 89) (some (.tmp 90)) none none⟩
def p36_47_3 : RO := ⟨none, some 92, .move (.tmp 7)⟩
def p36_47_4 : RO := ⟨none, some 93, .call ⟨.value (.func 42), #[(.tmp 91), (.tmp 92)], #[22, 3]⟩⟩
def o36_47 : List RO := [p36_47_0, p36_47_1, p36_47_2, p36_47_3, p36_47_4]
def x36_47 : RC := .ops o36_47
def p36_49_0 : RO := ⟨none, some 94, .move (.tmp 0)⟩
def p36_49_1 : RO := ⟨none, some 6, .assign (.tmp 94)⟩
def o36_49 : List RO := [p36_49_0, p36_49_1]
def x36_49 : RC := .ops o36_49
def x36_48 : RC := .seq x36_49 .ret
def x36_46 : RC := .seq x36_47 x36_48
def x36_44 : RC := .seq x36_45 x36_46
def x36_34 : RC := .seq x36_35 x36_44
def x36_32 : RC := .seq x36_33 x36_34
def x36_20 : RC := .seq x36_21 x36_32
def x36_14 : RC := .seq x36_15 x36_20
def x36_12 : RC := .seq x36_13 x36_14
def x36_6 : RC := .seq x36_7 x36_12
def x36_4 : RC := .seq x36_5 x36_6
def x36_2 : RC := .seq x36_3 x36_4
def x36_0 : RC := .seq x36_1 x36_2
theorem x36_eq : Try.f36.body.map rc = some x36_0 := by kernel_rfl
def p37_1_0 : RO := ⟨none, some 3, .box 54 (.tmp 1)⟩
def p37_1_1 : RO := ⟨none, some 4, .assign (.const (.bool false))⟩
def o37_1 : List RO := [p37_1_0, p37_1_1]
def x37_1 : RC := .ops o37_1
def p37_3_0 : RO := ⟨none, some 5, .move (.tmp 0)⟩
def p37_3_1 : RO := ⟨none, some 6, .load 54 (.tmp 3)⟩
def p37_3_2 : RO := ⟨none, some 7, .call ⟨.value (.func 43), #[(.tmp 5), (.tmp 6)], #[27, 54]⟩⟩
def p37_3_3 : RO := ⟨none, some 8, .binOp .geq 3 (.tmp 7) (.const (.int .i64 (0))) 3⟩
def p37_3_4 : RO := ⟨none, some 4, .assign (.tmp 8)⟩
def o37_3 : List RO := [p37_3_0, p37_3_1, p37_3_2, p37_3_3, p37_3_4]
def x37_3 : RC := .ops o37_3
def x37_2 : RC := .seq x37_3 .ret
def x37_0 : RC := .seq x37_1 x37_2
theorem x37_eq : Try.f37.body.map rc = some x37_0 := by kernel_rfl
def p38_1_0 : RO := ⟨none, some 2, .assign (.const (.slice none 0 0))⟩
def o38_1 : List RO := [p38_1_0]
def x38_1 : RC := .ops o38_1
def p38_4_0 : RO := ⟨none, some 3, .move (.tmp 0)⟩
def p38_4_1 : RO := ⟨none, some 4, .binOp .eql 27 (.tmp 3) (.const (.slice none 0 0)) 27⟩
def o38_4 : List RO := [p38_4_0, p38_4_1]
def x38_4 : RC := .ops o38_4
def p38_7_0 : RO := ⟨none, some 2, .assign (.const (.slice none 0 0))⟩
def o38_7 : List RO := [p38_7_0]
def x38_7 : RC := .ops o38_7
def x38_6 : RC := .seq x38_7 .ret
def x38_5 : RC := .cond (.tmp 4) x38_6 .skip
def x38_3 : RC := .seq x38_4 x38_5
def p38_9_0 : RO := ⟨none, some 5, .buildSlice 27 0 #[]⟩
def p38_9_1 : RO := ⟨none, some 6, .move (.tmp 0)⟩
def p38_9_2 : RO := ⟨none, some 7, .call ⟨.builtin .append, #[(.tmp 5), (.tmp 6)], #[27, 27]⟩⟩
def p38_9_3 : RO := ⟨none, some 2, .assign (.tmp 7)⟩
def o38_9 : List RO := [p38_9_0, p38_9_1, p38_9_2, p38_9_3]
def x38_9 : RC := .ops o38_9
def x38_8 : RC := .seq x38_9 .ret
def x38_2 : RC := .seq x38_3 x38_8
def x38_0 : RC := .seq x38_1 x38_2
theorem x38_eq : Try.f38.body.map rc = some x38_0 := by kernel_rfl
def p43_1_0 : RO := ⟨none, some 3, .box 54 (.tmp 1)⟩
def p43_1_1 : RO := ⟨none, some 4, .assign (.const (.int .i64 (0)))⟩
def o43_1 : List RO := [p43_1_0, p43_1_1]
def x43_1 : RC := .ops o43_1
def p43_4_0 : RO := ⟨none, some 6, .move (.tmp 0)⟩
def p43_4_1 : RO := ⟨none, some 7, .call ⟨.builtin .len, #[(.tmp 6)], #[27]⟩⟩
def p43_4_2 : RO := ⟨none, some 8, .move (.const (.int .i64 (0)))⟩
def o43_4 : List RO := [p43_4_0, p43_4_1, p43_4_2]
def x43_4 : RC := .ops o43_4
def p43_8_0 : RO := ⟨none, some 9, .binOp .lss 3 (.tmp 8) (.tmp 7) 3⟩
def o43_8 : List RO := [p43_8_0]
def x43_8 : RC := .ops o43_8
def x43_10 : RC := .cond (.tmp 9) .skip (.exit 0)
def p43_14_0 : RO := ⟨none, some 10, .move (.tmp 8)⟩
def p43_14_1 : RO := ⟨none, some 5, .assign (.tmp 10)⟩
def o43_14 : List RO := [p43_14_0, p43_14_1]
def x43_14 : RC := .ops o43_14
def p43_16_0 : RO := ⟨none, some 11, .load 54 (.tmp 3)⟩
def p43_16_1 : RO := ⟨none, some 12, .move (.tmp 0)⟩
def p43_16_2 : RO := ⟨none, some 13, .move (.tmp 5)⟩
def p43_16_3 : RO := ⟨none, some 14, .indexAddr 27 (.tmp 12) (.tmp 13)⟩
def p43_16_4 : RO := ⟨none, some 15, .load 54 (.tmp 14)⟩
def p43_16_5 : RO := ⟨none, some 16, .binOp .eql 54 (.tmp 11) (.tmp 15) 54⟩
def o43_16 : List (Nat × RO) := [(0, p43_16_0), (1, p43_16_1), (2, p43_16_2), (3, p43_16_3), (4, p43_16_4), (5, p43_16_5)]
def m43_16 : List Nat := [0, 0, 0, 6, 14, 31]
def x43_16 : RC := .draw o43_16 m43_16
def p43_19_0 : RO := ⟨none, some 17, .move (.tmp 5)⟩
def p43_19_1 : RO := ⟨none, some 4, .assign (.tmp 17)⟩
def o43_19 : List RO := [p43_19_0, p43_19_1]
def x43_19 : RC := .ops o43_19
def x43_18 : RC := .seq x43_19 .ret
def x43_17 : RC := .cond (.tmp 16) x43_18 .skip
def x43_15 : RC := .seq x43_16 x43_17
def x43_13 : RC := .seq x43_14 x43_15
def x43_12 : RC := .block 1 x43_13
def p43_20_0 : RO := ⟨none, some 18, .binOp .add 3 (.tmp 8) (.const (.int .i64 (1))) 3⟩
def p43_20_1 : RO := ⟨none, some 8, .move (.tmp 18)⟩
def o43_20 : List RO := [p43_20_0, p43_20_1]
def x43_20 : RC := .ops o43_20
def x43_11 : RC := .seq x43_12 x43_20
def x43_9 : RC := .seq x43_10 x43_11
def x43_7 : RC := .seq x43_8 x43_9
def x43_6 : RC := .loop x43_7
def x43_5 : RC := .block 0 x43_6
def x43_3 : RC := .seq x43_4 x43_5
def p43_22_0 : RO := ⟨none, some 4, .assign (.const (.int .i64 (-1)))⟩
def o43_22 : List RO := [p43_22_0]
def x43_22 : RC := .ops o43_22
def x43_21 : RC := .seq x43_22 .ret
def x43_2 : RC := .seq x43_3 x43_21
def x43_0 : RC := .seq x43_1 x43_2
theorem x43_eq : Try.f43.body.map rc = some x43_0 := by kernel_rfl
def tab : FuncId → Option (RC × List ResultVar × Nat)
  | 3 => some (x3_0, [.tmp 4], 115)
  | 6 => some (x6_0, [.tmp 0], 3)
  | 8 => some (x8_0, [], 15)
  | 9 => some (x9_0, [], 79)
  | 10 => some (x10_0, [.tmp 2], 33)
  | 11 => some (x11_0, [.tmp 4], 33)
  | 21 => some (x21_0, [], 17)
  | 22 => some (x22_0, [.tmp 2], 8)
  | 23 => some (x23_0, [.tmp 4], 33)
  | 24 => some (x24_0, [], 15)
  | 25 => some (x25_0, [.cell 2 29], 8)
  | 26 => some (x26_0, [.tmp 4], 18)
  | 27 => some (x27_0, [.tmp 6], 33)
  | 29 => some (x29_0, [.tmp 6], 29)
  | 33 => some (x33_0, [.tmp 2], 6)
  | 36 => some (x36_0, [.tmp 6], 95)
  | 37 => some (x37_0, [.tmp 4], 9)
  | 38 => some (x38_0, [.tmp 2], 8)
  | 43 => some (x43_0, [.tmp 4], 19)
  | _ => none
theorem tab_ok : TabOK Try.prog tab := by
  intro f x rs n h
  unfold tab at h
  split at h
  · injection h with h; injection h with h1 h; injection h with h2 h3; subst h1; subst h2; subst h3; exact ⟨_, Try.func3, rfl, rfl, x3_eq⟩
  · injection h with h; injection h with h1 h; injection h with h2 h3; subst h1; subst h2; subst h3; exact ⟨_, Try.func6, rfl, rfl, x6_eq⟩
  · injection h with h; injection h with h1 h; injection h with h2 h3; subst h1; subst h2; subst h3; exact ⟨_, Try.func8, rfl, rfl, x8_eq⟩
  · injection h with h; injection h with h1 h; injection h with h2 h3; subst h1; subst h2; subst h3; exact ⟨_, Try.func9, rfl, rfl, x9_eq⟩
  · injection h with h; injection h with h1 h; injection h with h2 h3; subst h1; subst h2; subst h3; exact ⟨_, Try.func10, rfl, rfl, x10_eq⟩
  · injection h with h; injection h with h1 h; injection h with h2 h3; subst h1; subst h2; subst h3; exact ⟨_, Try.func11, rfl, rfl, x11_eq⟩
  · injection h with h; injection h with h1 h; injection h with h2 h3; subst h1; subst h2; subst h3; exact ⟨_, Try.func21, rfl, rfl, x21_eq⟩
  · injection h with h; injection h with h1 h; injection h with h2 h3; subst h1; subst h2; subst h3; exact ⟨_, Try.func22, rfl, rfl, x22_eq⟩
  · injection h with h; injection h with h1 h; injection h with h2 h3; subst h1; subst h2; subst h3; exact ⟨_, Try.func23, rfl, rfl, x23_eq⟩
  · injection h with h; injection h with h1 h; injection h with h2 h3; subst h1; subst h2; subst h3; exact ⟨_, Try.func24, rfl, rfl, x24_eq⟩
  · injection h with h; injection h with h1 h; injection h with h2 h3; subst h1; subst h2; subst h3; exact ⟨_, Try.func25, rfl, rfl, x25_eq⟩
  · injection h with h; injection h with h1 h; injection h with h2 h3; subst h1; subst h2; subst h3; exact ⟨_, Try.func26, rfl, rfl, x26_eq⟩
  · injection h with h; injection h with h1 h; injection h with h2 h3; subst h1; subst h2; subst h3; exact ⟨_, Try.func27, rfl, rfl, x27_eq⟩
  · injection h with h; injection h with h1 h; injection h with h2 h3; subst h1; subst h2; subst h3; exact ⟨_, Try.func29, rfl, rfl, x29_eq⟩
  · injection h with h; injection h with h1 h; injection h with h2 h3; subst h1; subst h2; subst h3; exact ⟨_, Try.func33, rfl, rfl, x33_eq⟩
  · injection h with h; injection h with h1 h; injection h with h2 h3; subst h1; subst h2; subst h3; exact ⟨_, Try.func36, rfl, rfl, x36_eq⟩
  · injection h with h; injection h with h1 h; injection h with h2 h3; subst h1; subst h2; subst h3; exact ⟨_, Try.func37, rfl, rfl, x37_eq⟩
  · injection h with h; injection h with h1 h; injection h with h2 h3; subst h1; subst h2; subst h3; exact ⟨_, Try.func38, rfl, rfl, x38_eq⟩
  · injection h with h; injection h with h1 h; injection h with h2 h3; subst h1; subst h2; subst h3; exact ⟨_, Try.func43, rfl, rfl, x43_eq⟩
  · cases h
def WOK (W : World) : Prop := True
theorem wok_of {W : World} (h : W.ShapedOpen Try.prog) : WOK W := trivial
theorem base : Base Try.prog := ⟨by kernel_rfl, by kernel_rfl⟩
def prim0 : FuncId → Option (List V → H → Option (V × H)) := fun _ => none
theorem prim0s (W : World) (hW : WOK W) : Prims Try.prog W prim0 := fun _ _ => PrimOK.none
structure T54 where
  fName : (List UInt8)
  fValue : (List UInt8)
instance : Inhabited T54 := ⟨⟨default, default⟩⟩
def T54.cells (x : T54) : List V := [.str x.fName, .str x.fValue]
structure T54.ok (W : World) (x : T54) : Prop where
  fName : (fun x : List UInt8 => x.length ≤ 140737488351232) x.fName
  fValue : (fun x : List UInt8 => x.length ≤ 140737488351232) x.fValue
theorem T54_form {W : World} {n : Nat} {cs : List V} (h : Wf Try.prog W n 54 cs) : ∃ x : T54, cs = x.cells ∧ x.ok W := by
  have e9 : Try.prog.cellsOf 9 = 1 := by kernel_rfl
  have e54 : Try.prog.cellsOf 54 = 2 := by kernel_rfl
  cases n with
  | zero => exact h.elim
  | succ n =>
    simp only [Wf, Try.underlying54, e54] at h
    obtain ⟨hl, hf⟩ := h
    match cs, hl with
    | [c0, c1], _ =>
      simp only [List.mem_cons, forall_eq_or_imp, List.not_mem_nil, false_implies, implies_true, and_true, e9, e54, List.drop_zero, List.drop_succ_cons, List.take_succ_cons, List.take_zero] at hf
      obtain ⟨h0, h1⟩ := hf
      obtain ⟨v0, rfl, r0⟩ := wf_strR Try.underlying9 h0
      obtain ⟨v1, rfl, r1⟩ := wf_strR Try.underlying9 h1
      exact ⟨⟨v0, v1⟩, rfl, ⟨r0, r1⟩⟩
structure T29 where
  fId : Int
  fSpace : Int
  fName : (List UInt8)
  fAttrs : (SlV T54)
instance : Inhabited T29 := ⟨⟨default, default, default, default⟩⟩
def T29.cells (x : T29) : List V := [.int .i64 x.fId, .int .i64 x.fSpace, .str x.fName, .slice x.fAttrs.a x.fAttrs.l.length x.fAttrs.cap true]
structure T29.ok (W : World) (x : T29) : Prop where
  fId : (fun x => -9223372036854775808 ≤ x ∧ x ≤ 9223372036854775807) x.fId
  fSpace : (fun x => -9223372036854775808 ≤ x ∧ x ≤ 9223372036854775807) x.fSpace
  fName : (fun x : List UInt8 => x.length ≤ 140737488351232) x.fName
  fAttrs : (SlV.ok W 2 32 T54.cells (T54.ok W)) x.fAttrs
theorem T29_form {W : World} {n : Nat} {cs : List V} (h : Wf Try.prog W n 29 cs) : ∃ x : T29, cs = x.cells ∧ x.ok W := by
  have e3 : Try.prog.cellsOf 3 = 1 := by kernel_rfl
  have e9 : Try.prog.cellsOf 9 = 1 := by kernel_rfl
  have e27 : Try.prog.cellsOf 27 = 1 := by kernel_rfl
  have e29 : Try.prog.cellsOf 29 = 4 := by kernel_rfl
  cases n with
  | zero => exact h.elim
  | succ n =>
    simp only [Wf, Try.underlying29, e29] at h
    obtain ⟨hl, hf⟩ := h
    match cs, hl with
    | [c0, c1, c2, c3], _ =>
      simp only [List.mem_cons, forall_eq_or_imp, List.not_mem_nil, false_implies, implies_true, and_true, e3, e9, e27, e29, List.drop_zero, List.drop_succ_cons, List.take_succ_cons, List.take_zero] at hf
      obtain ⟨h0, h1, h2, h3⟩ := hf
      obtain ⟨v0, rfl, r0⟩ := wf_i64 Try.underlying3 h0
      obtain ⟨v1, rfl, r1⟩ := wf_i64 Try.underlying3 h1
      obtain ⟨v2, rfl, r2⟩ := wf_strR Try.underlying9 h2
      obtain ⟨v3, rfl, r3⟩ := wf_sl (f := T54.cells) (G := (T54.ok W)) (z := 2) (B := 32) Try.underlying27 (by kernel_rfl) (by kernel_rfl) (fun _ _ h => T54_form h) h3
      exact ⟨⟨v0, v1, v2, v3⟩, rfl, ⟨r0, r1, r2, r3⟩⟩
def q7 (l : List V) : Option V :=
  match l with
  | [] => some (.bool true)
  | _ => none
def prim1 : FuncId → Option (List V → H → Option (V × H)) := setPrim prim0 7 q7
theorem prim1s (W : World) (hW : WOK W) : Prims Try.prog W prim1 := by
  refine Prims.add base (prim0s W hW) ⟨_, _, Try.func7, rfl⟩ ?_
  intro w _ args v h
  unfold q7 at h
  split at h
  · injection h with h; subst h; exact ⟨by simp only [old_cons, old_nil, old_int, old_str, old_bool, old_agg, old_tup, old_nils, Bool.and_true, Bool.true_and], by simp only [old_cons, old_nil, old_int, old_str, old_bool, old_agg, old_tup, old_nils, Bool.and_true, Bool.true_and], WpF.found (n := 100) (by kernel_rfl)⟩
  · cases h
structure RE where
  id : Int
  sp : Int
  nm : List UInt8
  a : Option Ad
  n : Nat
  m : Nat
  x : Bool
  l : List T54
instance : Inhabited RE := ⟨⟨0, 0, [], none, 0, 0, true, []⟩⟩
def RE.cells (x : RE) : List V := [.int .i64 x.id, .int .i64 x.sp, .str x.nm, .slice x.a x.n x.m x.x]
/-- An element's attributes, in the heap. -/
structure AtOK (h : H) (r : RE) : Prop where
  n : r.n = r.l.length
  b : r.l.length * 32 ≤ 140737488351232
  k : r.nm.length ≤ 140737488351232
  g : 0 < r.l.length → ∃ q, r.a = some (.new q 0) ∧ q < h.nx ∧ h.get q = some (.cells (rv T54.cells r.l) 54)
theorem AtOK.mono {h h' : H} {r : RE} (k : KA 54 h h') (a : AtOK h r) : AtOK h' r := ⟨a.n, a.b, a.k, fun hl => by
  obtain ⟨q, e, h1, h2⟩ := a.g hl
  exact ⟨q, e, Nat.lt_of_lt_of_le h1 k.nx, k.keep h1 h2⟩⟩
/-- One element is another one's copy. -/
structure Cp (r : RE) (i s : Int) (n : List UInt8) (l : List T54) : Prop where
  id : r.id = i
  sp : r.sp = s
  nm : r.nm = n
  l : r.l = l
def E0 (id : Int) (sp : Int) (nm : List UInt8) (cap : Nat) (ex : Bool) (p1 : Nat) (p4 : Nat) : List V := [.agg [.int .i64 id, .int .i64 sp, .str nm, .slice none 0 cap ex], .ptr (some (.new p1 0)), .ptr (some (.new p4 0)), .ptr (some (.new p1 3)), .slice none 0 cap ex, U, U, U]
def E1 (id : Int) (sp : Int) (nm : List UInt8) (cap : Nat) (ex : Bool) (p1 : Nat) (p4 : Nat) : List V := [.agg [.int .i64 id, .int .i64 sp, .str nm, .slice none 0 cap ex], .ptr (some (.new p1 0)), .ptr (some (.new p4 0)), .ptr (some (.new p1 3)), .slice none 0 cap ex, .slice none 0 0 true, .ptr (some (.new p1 3)), .agg [.int .i64 id, .int .i64 sp, .str nm, .slice none 0 0 true]]
theorem own_nil {W : World} {id sp : Int} {nm : List UInt8} {cap : Nat} {ex : Bool} (hk : nm.length ≤ 140737488351232) (h : H) : WpF Try.prog W prim1 25 [.agg [.int .i64 id, .int .i64 sp, .str nm, .slice none 0 cap ex]] h (fun v h' => HX h h' ∧ ∃ r : RE, v = .agg r.cells ∧ Cp r id sp nm [] ∧ AtOK h' r) := by
  refine WpF.m tab_ok (by kernel_rfl) rfl ?_
  refine WpM.cfg (c' := ⟨.code x25_0, [], [.agg [.int .i64 id, .int .i64 sp, .str nm, .slice none 0 cap ex], U, U, U, U, U, U, U], [], h, none⟩) (by kernel_rfl) ?_
  refine WpM.run tab_ok 2 ⟨.ops (p25_1_0 :: o25_1.drop 1), [.seq x25_2], [.agg [.int .i64 id, .int .i64 sp, .str nm, .slice none 0 cap ex], U, U, U, U, U, U, U], [], h, none⟩ (by kernel_rfl) ?_
  refine WpM.opA (fun p => .ptr (some (.new p 0))) (.cells [.int .i64 id, .int .i64 sp, .str nm, .slice none 0 cap ex] 29) (by kernel_rfl) (by kernel_rfl) (fun p1 h2 a3 => ?_)
  refine WpM.run tab_ok 0 ⟨.ops (p25_1_1 :: o25_1.drop 2), [.seq x25_2], [.agg [.int .i64 id, .int .i64 sp, .str nm, .slice none 0 cap ex], .ptr (some (.new p1 0)), U, U, U, U, U, U], [], h2, none⟩ (by kernel_rfl) ?_
  refine WpM.opA (fun p => .ptr (some (.new p 0))) (.cells [.int .i64 0, .int .i64 0, .str [], .slice none 0 0 true] 29) (by kernel_rfl) (by kernel_rfl) (fun p4 h5 a6 => ?_)
  refine WpM.run tab_ok 5 ⟨.ops (p25_3_1 :: o25_3.drop 2), [.seq x25_4], [.agg [.int .i64 id, .int .i64 sp, .str nm, .slice none 0 cap ex], .ptr (some (.new p1 0)), .ptr (some (.new p4 0)), .ptr (some (.new p1 3)), U, U, U, U], [], h5, none⟩ (by kernel_rfl) ?_
  refine WpM.op (.slice none 0 cap ex) _ (by kernel_rfl) (load_new (o := 3) (by kernel_rfl) (a6.keep a3.lt a3.get) (by kernel_rfl)) ?_
  refine WpM.run tab_ok 23 ⟨.ops (p25_3_4 :: o25_3.drop 5), [.seq x25_4], (((E0 id sp nm cap ex p1 p4).set 5 (.slice none 0 0 true)).set 6 (.ptr (some (.new p1 3)))), [], h5, none⟩ (by kernel_rfl) ?_
  refine WpM.opS U p1 (some (.cells [.int .i64 id, .int .i64 sp, .str nm, .slice none 0 0 true] 29)) (by kernel_rfl) (store_new (o := 3) (v := .slice none 0 0 true) (by kernel_rfl) (by kernel_rfl) (a6.keep a3.lt a3.get) (by kernel_rfl)) (fun h7 a8 => ?_)
  refine WpM.run tab_ok 4 ⟨.ops (p25_5_0 :: o25_5.drop 1), [.seq .ret], (((E0 id sp nm cap ex p1 p4).set 5 (.slice none 0 0 true)).set 6 (.ptr (some (.new p1 3)))), [], h7, none⟩ (by kernel_rfl) ?_
  refine WpM.op (.agg [.int .i64 id, .int .i64 sp, .str nm, .slice none 0 0 true]) _ (by kernel_rfl) (load_new (o := 0) (by kernel_rfl) a8.get (by kernel_rfl)) ?_
  refine WpM.run tab_ok 0 ⟨.ops (p25_5_1 :: o25_5.drop 2), [.seq .ret], (E1 id sp nm cap ex p1 p4), [], h7, none⟩ (by kernel_rfl) ?_
  refine WpM.opS U p4 (some (.cells [.int .i64 id, .int .i64 sp, .str nm, .slice none 0 0 true] 29)) (by kernel_rfl) (store_new (o := 0) (v := .agg [.int .i64 id, .int .i64 sp, .str nm, .slice none 0 0 true]) (by kernel_rfl) (by kernel_rfl) (a8.keep (Ne.symm (a6.ne a3.lt)) a6.get) (by kernel_rfl)) (fun h9 a10 => ?_)
  refine WpM.run tab_ok 3 ⟨.done .ret, [], (E1 id sp nm cap ex p1 p4), [], h9, none⟩ (by kernel_rfl) ?_
  refine WpM.ret (.agg [.int .i64 id, .int .i64 sp, .str nm, .slice none 0 0 true]) h9 (by kernel_rfl) (resL_cell1 (o := 0) (by kernel_rfl) a10.get (by kernel_rfl)) ?_
  exact ⟨(((((HX.refl h).alloc a3).alloc a6).put a8 (by have := a3.eq; have := a3.nx; have := a6.eq; have := a6.nx; have := a8.nx; have := a10.nx; omega)).put a10 (by have := a3.eq; have := a3.nx; have := a6.eq; have := a6.nx; have := a8.nx; have := a10.nx; omega)), ⟨id, sp, nm, none, 0, 0, true, []⟩, rfl, ⟨rfl, rfl, rfl, rfl⟩, ⟨rfl, by simp, hk, fun hl => by simp at hl⟩⟩
def E2 (id : Int) (sp : Int) (nm : List UInt8) (b : Nat) (o : Nat) (cap : Nat) (ex : Bool) (p1 : Nat) (p4 : Nat) : List V := [.agg [.int .i64 id, .int .i64 sp, .str nm, .slice (some (.old b o)) 0 cap ex], .ptr (some (.new p1 0)), .ptr (some (.new p4 0)), .ptr (some (.new p1 3)), U, U, U, U]
def E3 (id : Int) (sp : Int) (nm : List UInt8) (b : Nat) (o : Nat) (cap : Nat) (ex : Bool) (p1 : Nat) (p4 : Nat) (p7 : Nat) : List V := [.agg [.int .i64 id, .int .i64 sp, .str nm, .slice (some (.old b o)) 0 cap ex], .ptr (some (.new p1 0)), .ptr (some (.new p4 0)), .ptr (some (.new p1 3)), .slice (some (.old b o)) 0 cap ex, .slice (some (.new p7 0)) 0 0 true, .ptr (some (.new p1 3)), U]
theorem own_old {W : World} {id sp : Int} {nm : List UInt8} {b o cap : Nat} {ex : Bool} (hk : nm.length ≤ 140737488351232) (h : H) : WpF Try.prog W prim1 25 [.agg [.int .i64 id, .int .i64 sp, .str nm, .slice (some (.old b o)) 0 cap ex]] h (fun v h' => HX h h' ∧ ∃ r : RE, v = .agg r.cells ∧ Cp r id sp nm [] ∧ AtOK h' r) := by
  refine WpF.m tab_ok (by kernel_rfl) rfl ?_
  refine WpM.cfg (c' := ⟨.code x25_0, [], [.agg [.int .i64 id, .int .i64 sp, .str nm, .slice (some (.old b o)) 0 cap ex], U, U, U, U, U, U, U], [], h, none⟩) (by kernel_rfl) ?_
  refine WpM.run tab_ok 2 ⟨.ops (p25_1_0 :: o25_1.drop 1), [.seq x25_2], [.agg [.int .i64 id, .int .i64 sp, .str nm, .slice (some (.old b o)) 0 cap ex], U, U, U, U, U, U, U], [], h, none⟩ (by kernel_rfl) ?_
  refine WpM.opA (fun p => .ptr (some (.new p 0))) (.cells [.int .i64 id, .int .i64 sp, .str nm, .slice (some (.old b o)) 0 cap ex] 29) (by kernel_rfl) (by kernel_rfl) (fun p1 h2 a3 => ?_)
  refine WpM.run tab_ok 0 ⟨.ops (p25_1_1 :: o25_1.drop 2), [.seq x25_2], [.agg [.int .i64 id, .int .i64 sp, .str nm, .slice (some (.old b o)) 0 cap ex], .ptr (some (.new p1 0)), U, U, U, U, U, U], [], h2, none⟩ (by kernel_rfl) ?_
  refine WpM.opA (fun p => .ptr (some (.new p 0))) (.cells [.int .i64 0, .int .i64 0, .str [], .slice none 0 0 true] 29) (by kernel_rfl) (by kernel_rfl) (fun p4 h5 a6 => ?_)
  refine WpM.run tab_ok 5 ⟨.ops (p25_3_1 :: o25_3.drop 2), [.seq x25_4], (E2 id sp nm b o cap ex p1 p4), [], h5, none⟩ (by kernel_rfl) ?_
  refine WpM.op (.slice (some (.old b o)) 0 cap ex) _ (by kernel_rfl) (load_new (o := 3) (by kernel_rfl) (a6.keep a3.lt a3.get) (by kernel_rfl)) ?_
  refine WpM.run tab_ok 18 ⟨.ops (p38_9_0 :: o38_9.drop 1), [.seq .ret, .call [.tmp 2] (some 5) (o25_3.drop 3) ((E2 id sp nm b o cap ex p1 p4).set 4 (.slice (some (.old b o)) 0 cap ex)) [] none, .seq x25_4], [.slice (some (.old b o)) 0 cap ex, U, .slice none 0 0 true, .slice (some (.old b o)) 0 cap ex, .bool false, U, U, U], [], h5, none⟩ (by kernel_rfl) ?_
  refine WpM.opA (fun p => .slice (some (.new p 0)) 0 0 true) (.cells [] 54) (by kernel_rfl) (by kernel_rfl) (fun p7 h8 a9 => ?_)
  refine WpM.run tab_ok 8 ⟨.ops (p25_3_4 :: o25_3.drop 5), [.seq x25_4], (E3 id sp nm b o cap ex p1 p4 p7), [], h8, none⟩ (by kernel_rfl) ?_
  refine WpM.opS U p1 (some (.cells [.int .i64 id, .int .i64 sp, .str nm, .slice (some (.new p7 0)) 0 0 true] 29)) (by kernel_rfl) (store_new (o := 3) (v := .slice (some (.new p7 0)) 0 0 true) (by kernel_rfl) (by kernel_rfl) (a9.keep (a6.le a3.lt) (a6.keep a3.lt a3.get)) (by kernel_rfl)) (fun h10 a11 => ?_)
  refine WpM.run tab_ok 4 ⟨.ops (p25_5_0 :: o25_5.drop 1), [.seq .ret], (E3 id sp nm b o cap ex p1 p4 p7), [], h10, none⟩ (by kernel_rfl) ?_
  refine WpM.op (.agg [.int .i64 id, .int .i64 sp, .str nm, .slice (some (.new p7 0)) 0 0 true]) _ (by kernel_rfl) (load_new (o := 0) (by kernel_rfl) a11.get (by kernel_rfl)) ?_
  refine WpM.run tab_ok 0 ⟨.ops (p25_5_1 :: o25_5.drop 2), [.seq .ret], ((E3 id sp nm b o cap ex p1 p4 p7).set 7 (.agg [.int .i64 id, .int .i64 sp, .str nm, .slice (some (.new p7 0)) 0 0 true])), [], h10, none⟩ (by kernel_rfl) ?_
  refine WpM.opS U p4 (some (.cells [.int .i64 id, .int .i64 sp, .str nm, .slice (some (.new p7 0)) 0 0 true] 29)) (by kernel_rfl) (store_new (o := 0) (v := .agg [.int .i64 id, .int .i64 sp, .str nm, .slice (some (.new p7 0)) 0 0 true]) (by kernel_rfl) (by kernel_rfl) (a11.keep (Ne.symm (a6.ne a3.lt)) (a9.keep a6.lt a6.get)) (by kernel_rfl)) (fun h12 a13 => ?_)
  refine WpM.run tab_ok 3 ⟨.done .ret, [], ((E3 id sp nm b o cap ex p1 p4 p7).set 7 (.agg [.int .i64 id, .int .i64 sp, .str nm, .slice (some (.new p7 0)) 0 0 true])), [], h12, none⟩ (by kernel_rfl) ?_
  refine WpM.ret (.agg [.int .i64 id, .int .i64 sp, .str nm, .slice (some (.new p7 0)) 0 0 true]) h12 (by kernel_rfl) (resL_cell1 (o := 0) (by kernel_rfl) a13.get (by kernel_rfl)) ?_
  exact ⟨((((((HX.refl h).alloc a3).alloc a6).alloc a9).put a11 (by have := a3.eq; have := a3.nx; have := a6.eq; have := a6.nx; have := a9.eq; have := a9.nx; have := a11.nx; have := a13.nx; omega)).put a13 (by have := a3.eq; have := a3.nx; have := a6.eq; have := a6.nx; have := a9.eq; have := a9.nx; have := a11.nx; have := a13.nx; omega)), ⟨id, sp, nm, (some (.new p7 0)), 0, 0, true, []⟩, rfl, ⟨rfl, rfl, rfl, rfl⟩, ⟨rfl, by simp, hk, fun hl => by simp at hl⟩⟩
def E4 (id : Int) (sp : Int) (nm : List UInt8) (q : Nat) (o : Nat) (cap : Nat) (ex : Bool) (p1 : Nat) (p4 : Nat) : List V := [.agg [.int .i64 id, .int .i64 sp, .str nm, .slice (some (.new q o)) 0 cap ex], .ptr (some (.new p1 0)), .ptr (some (.new p4 0)), .ptr (some (.new p1 3)), U, U, U, U]
def E5 (id : Int) (sp : Int) (nm : List UInt8) (q : Nat) (o : Nat) (cap : Nat) (ex : Bool) (p1 : Nat) (p4 : Nat) (p7 : Nat) : List V := [.agg [.int .i64 id, .int .i64 sp, .str nm, .slice (some (.new q o)) 0 cap ex], .ptr (some (.new p1 0)), .ptr (some (.new p4 0)), .ptr (some (.new p1 3)), .slice (some (.new q o)) 0 cap ex, .slice (some (.new p7 0)) 0 0 true, .ptr (some (.new p1 3)), U]
theorem own_new {W : World} {id sp : Int} {nm : List UInt8} {q o cap : Nat} {ex : Bool} (hk : nm.length ≤ 140737488351232) (h : H) : WpF Try.prog W prim1 25 [.agg [.int .i64 id, .int .i64 sp, .str nm, .slice (some (.new q o)) 0 cap ex]] h (fun v h' => HX h h' ∧ ∃ r : RE, v = .agg r.cells ∧ Cp r id sp nm [] ∧ AtOK h' r) := by
  refine WpF.m tab_ok (by kernel_rfl) rfl ?_
  refine WpM.cfg (c' := ⟨.code x25_0, [], [.agg [.int .i64 id, .int .i64 sp, .str nm, .slice (some (.new q o)) 0 cap ex], U, U, U, U, U, U, U], [], h, none⟩) (by kernel_rfl) ?_
  refine WpM.run tab_ok 2 ⟨.ops (p25_1_0 :: o25_1.drop 1), [.seq x25_2], [.agg [.int .i64 id, .int .i64 sp, .str nm, .slice (some (.new q o)) 0 cap ex], U, U, U, U, U, U, U], [], h, none⟩ (by kernel_rfl) ?_
  refine WpM.opA (fun p => .ptr (some (.new p 0))) (.cells [.int .i64 id, .int .i64 sp, .str nm, .slice (some (.new q o)) 0 cap ex] 29) (by kernel_rfl) (by kernel_rfl) (fun p1 h2 a3 => ?_)
  refine WpM.run tab_ok 0 ⟨.ops (p25_1_1 :: o25_1.drop 2), [.seq x25_2], [.agg [.int .i64 id, .int .i64 sp, .str nm, .slice (some (.new q o)) 0 cap ex], .ptr (some (.new p1 0)), U, U, U, U, U, U], [], h2, none⟩ (by kernel_rfl) ?_
  refine WpM.opA (fun p => .ptr (some (.new p 0))) (.cells [.int .i64 0, .int .i64 0, .str [], .slice none 0 0 true] 29) (by kernel_rfl) (by kernel_rfl) (fun p4 h5 a6 => ?_)
  refine WpM.run tab_ok 5 ⟨.ops (p25_3_1 :: o25_3.drop 2), [.seq x25_4], (E4 id sp nm q o cap ex p1 p4), [], h5, none⟩ (by kernel_rfl) ?_
  refine WpM.op (.slice (some (.new q o)) 0 cap ex) _ (by kernel_rfl) (load_new (o := 3) (by kernel_rfl) (a6.keep a3.lt a3.get) (by kernel_rfl)) ?_
  refine WpM.run tab_ok 18 ⟨.ops (p38_9_0 :: o38_9.drop 1), [.seq .ret, .call [.tmp 2] (some 5) (o25_3.drop 3) ((E4 id sp nm q o cap ex p1 p4).set 4 (.slice (some (.new q o)) 0 cap ex)) [] none, .seq x25_4], [.slice (some (.new q o)) 0 cap ex, U, .slice none 0 0 true, .slice (some (.new q o)) 0 cap ex, .bool false, U, U, U], [], h5, none⟩ (by kernel_rfl) ?_
  refine WpM.opA (fun p => .slice (some (.new p 0)) 0 0 true) (.cells [] 54) (by kernel_rfl) (by kernel_rfl) (fun p7 h8 a9 => ?_)
  refine WpM.run tab_ok 8 ⟨.ops (p25_3_4 :: o25_3.drop 5), [.seq x25_4], (E5 id sp nm q o cap ex p1 p4 p7), [], h8, none⟩ (by kernel_rfl) ?_
  refine WpM.opS U p1 (some (.cells [.int .i64 id, .int .i64 sp, .str nm, .slice (some (.new p7 0)) 0 0 true] 29)) (by kernel_rfl) (store_new (o := 3) (v := .slice (some (.new p7 0)) 0 0 true) (by kernel_rfl) (by kernel_rfl) (a9.keep (a6.le a3.lt) (a6.keep a3.lt a3.get)) (by kernel_rfl)) (fun h10 a11 => ?_)
  refine WpM.run tab_ok 4 ⟨.ops (p25_5_0 :: o25_5.drop 1), [.seq .ret], (E5 id sp nm q o cap ex p1 p4 p7), [], h10, none⟩ (by kernel_rfl) ?_
  refine WpM.op (.agg [.int .i64 id, .int .i64 sp, .str nm, .slice (some (.new p7 0)) 0 0 true]) _ (by kernel_rfl) (load_new (o := 0) (by kernel_rfl) a11.get (by kernel_rfl)) ?_
  refine WpM.run tab_ok 0 ⟨.ops (p25_5_1 :: o25_5.drop 2), [.seq .ret], ((E5 id sp nm q o cap ex p1 p4 p7).set 7 (.agg [.int .i64 id, .int .i64 sp, .str nm, .slice (some (.new p7 0)) 0 0 true])), [], h10, none⟩ (by kernel_rfl) ?_
  refine WpM.opS U p4 (some (.cells [.int .i64 id, .int .i64 sp, .str nm, .slice (some (.new p7 0)) 0 0 true] 29)) (by kernel_rfl) (store_new (o := 0) (v := .agg [.int .i64 id, .int .i64 sp, .str nm, .slice (some (.new p7 0)) 0 0 true]) (by kernel_rfl) (by kernel_rfl) (a11.keep (Ne.symm (a6.ne a3.lt)) (a9.keep a6.lt a6.get)) (by kernel_rfl)) (fun h12 a13 => ?_)
  refine WpM.run tab_ok 3 ⟨.done .ret, [], ((E5 id sp nm q o cap ex p1 p4 p7).set 7 (.agg [.int .i64 id, .int .i64 sp, .str nm, .slice (some (.new p7 0)) 0 0 true])), [], h12, none⟩ (by kernel_rfl) ?_
  refine WpM.ret (.agg [.int .i64 id, .int .i64 sp, .str nm, .slice (some (.new p7 0)) 0 0 true]) h12 (by kernel_rfl) (resL_cell1 (o := 0) (by kernel_rfl) a13.get (by kernel_rfl)) ?_
  exact ⟨((((((HX.refl h).alloc a3).alloc a6).alloc a9).put a11 (by have := a3.eq; have := a3.nx; have := a6.eq; have := a6.nx; have := a9.eq; have := a9.nx; have := a11.nx; have := a13.nx; omega)).put a13 (by have := a3.eq; have := a3.nx; have := a6.eq; have := a6.nx; have := a9.eq; have := a9.nx; have := a11.nx; have := a13.nx; omega)), ⟨id, sp, nm, (some (.new p7 0)), 0, 0, true, []⟩, rfl, ⟨rfl, rfl, rfl, rfl⟩, ⟨rfl, by simp, hk, fun hl => by simp at hl⟩⟩
def E6 (id : Int) (sp : Int) (nm : List UInt8) (la : Option Ad) (l : List T54) (cap : Nat) (p1 : Nat) (p4 : Nat) : List V := [.agg [.int .i64 id, .int .i64 sp, .str nm, .slice la l.length cap true], .ptr (some (.new p1 0)), .ptr (some (.new p4 0)), .ptr (some (.new p1 3)), U, U, U, U]
def E7 (la : Option Ad) (l : List T54) (cap : Nat) (p7 : Nat) : List V := [.slice la l.length cap true, U, .slice none 0 0 true, .slice la l.length cap true, .bool false, .slice (some (.new p7 0)) 0 0 true, .slice la l.length cap true, U]
def E8 (id : Int) (sp : Int) (nm : List UInt8) (la : Option Ad) (l : List T54) (cap : Nat) (p1 : Nat) (p4 : Nat) (p10 : Nat) : List V := [.agg [.int .i64 id, .int .i64 sp, .str nm, .slice la l.length cap true], .ptr (some (.new p1 0)), .ptr (some (.new p4 0)), .ptr (some (.new p1 3)), .slice la l.length cap true, .slice (some (.new p10 0)) l.length l.length false, .ptr (some (.new p1 3)), U]
theorem own_some {W : World} {id sp : Int} {nm : List UInt8} {la : Option Ad} {cap : Nat} {l : List T54} (hA : Arr W 2 T54.cells la l) (hs : la = some (adr la)) (hk : nm.length ≤ 140737488351232) (hn : 0 < l.length) (hb : l.length * 32 ≤ 140737488351232) (h : H) : WpF Try.prog W prim1 25 [.agg [.int .i64 id, .int .i64 sp, .str nm, .slice la l.length cap true]] h (fun v h' => HX h h' ∧ ∃ r : RE, v = .agg r.cells ∧ Cp r id sp nm l ∧ AtOK h' r) := by
  refine WpF.m tab_ok (by kernel_rfl) rfl ?_
  refine WpM.cfg (c' := ⟨.code x25_0, [], [.agg [.int .i64 id, .int .i64 sp, .str nm, .slice la l.length cap true], U, U, U, U, U, U, U], [], h, none⟩) (by kernel_rfl) ?_
  refine WpM.run tab_ok 2 ⟨.ops (p25_1_0 :: o25_1.drop 1), [.seq x25_2], [.agg [.int .i64 id, .int .i64 sp, .str nm, .slice la l.length cap true], U, U, U, U, U, U, U], [], h, none⟩ (by kernel_rfl) ?_
  refine WpM.opA (fun p => .ptr (some (.new p 0))) (.cells [.int .i64 id, .int .i64 sp, .str nm, .slice la l.length cap true] 29) (by kernel_rfl) (by kernel_rfl) (fun p1 h2 a3 => ?_)
  refine WpM.run tab_ok 0 ⟨.ops (p25_1_1 :: o25_1.drop 2), [.seq x25_2], [.agg [.int .i64 id, .int .i64 sp, .str nm, .slice la l.length cap true], .ptr (some (.new p1 0)), U, U, U, U, U, U], [], h2, none⟩ (by kernel_rfl) ?_
  refine WpM.opA (fun p => .ptr (some (.new p 0))) (.cells [.int .i64 0, .int .i64 0, .str [], .slice none 0 0 true] 29) (by kernel_rfl) (by kernel_rfl) (fun p4 h5 a6 => ?_)
  refine WpM.run tab_ok 5 ⟨.ops (p25_3_1 :: o25_3.drop 2), [.seq x25_4], (E6 id sp nm la l cap p1 p4), [], h5, none⟩ (by kernel_rfl) ?_
  refine WpM.op (.slice la l.length cap true) _ (by kernel_rfl) (load_new (o := 3) (by kernel_rfl) (a6.keep a3.lt a3.get) (by kernel_rfl)) ?_
  refine WpM.run tab_ok 10 ⟨.ops (p38_4_1 :: o38_4.drop 2), [.seq x38_5, .seq x38_8, .call [.tmp 2] (some 5) (o25_3.drop 3) ((E6 id sp nm la l cap p1 p4).set 4 (.slice la l.length cap true)) [] none, .seq x25_4], [.slice la l.length cap true, U, .slice none 0 0 true, .slice la l.length cap true, U, U, U, U], [], h5, none⟩ (by kernel_rfl) ?_
  refine WpM.op (.bool false) _ (by kernel_rfl) (eq_nil (e := 54) (a := la) (n := l.length) (lb := cap) (ex := true) (by kernel_rfl) (by kernel_rfl) hs (by kernel_rfl)) ?_
  refine WpM.run tab_ok 7 ⟨.ops (p38_9_0 :: o38_9.drop 1), [.seq .ret, .call [.tmp 2] (some 5) (o25_3.drop 3) ((E6 id sp nm la l cap p1 p4).set 4 (.slice la l.length cap true)) [] none, .seq x25_4], [.slice la l.length cap true, U, .slice none 0 0 true, .slice la l.length cap true, .bool false, U, U, U], [], h5, none⟩ (by kernel_rfl) ?_
  refine WpM.opA (fun p => .slice (some (.new p 0)) 0 0 true) (.cells [] 54) (by kernel_rfl) (by kernel_rfl) (fun p7 h8 a9 => ?_)
  refine WpM.run tab_ok 1 ⟨.ops (p38_9_2 :: o38_9.drop 3), [.seq .ret, .call [.tmp 2] (some 5) (o25_3.drop 3) ((E6 id sp nm la l cap p1 p4).set 4 (.slice la l.length cap true)) [] none, .seq x25_4], (E7 la l cap p7), [], h8, none⟩ (by kernel_rfl) ?_
  refine WpM.opA (fun p => .slice (some (.new p 0)) l.length l.length false) (.cells (rv T54.cells l) 54) (by kernel_rfl) (app_step (s := .slice (some (.new p7 0)) 0 0 true) (x := .slice la l.length cap true) (by kernel_rfl) (by kernel_rfl) (app_op (at0 := 27) (at1 := 27) (e := 54) (size := 2) (bytes := 32) (n := l.length) (z0 := .agg [.str [], .str []]) (nc := (rv T54.cells l)) (by kernel_rfl) (by kernel_rfl) (by kernel_rfl) (by kernel_rfl) rfl rfl rfl (arr_first hA _) (app_empty (by omega) (rv_length (f := T54.cells) (fun _ => rfl) _) (rv_all_one (fun _ => rfl) _) (by omega) (by omega)))) (fun p10 h11 a12 => ?_)
  have g13 := (a12.keep (a9.le (a6.le a3.lt)) (a9.keep (a6.le a3.lt) (a6.keep a3.lt a3.get)))
  refine WpM.run tab_ok 6 ⟨.ops (p25_3_4 :: o25_3.drop 5), [.seq x25_4], (E8 id sp nm la l cap p1 p4 p10), [], h11, none⟩ (by kernel_rfl) ?_
  refine WpM.opS U p1 (some (.cells [.int .i64 id, .int .i64 sp, .str nm, .slice (some (.new p10 0)) l.length l.length false] 29)) (by kernel_rfl) (store_new (o := 3) (v := .slice (some (.new p10 0)) l.length l.length false) (by kernel_rfl) (by kernel_rfl) g13 (by kernel_rfl)) (fun h14 a15 => ?_)
  refine WpM.run tab_ok 4 ⟨.ops (p25_5_0 :: o25_5.drop 1), [.seq .ret], (E8 id sp nm la l cap p1 p4 p10), [], h14, none⟩ (by kernel_rfl) ?_
  refine WpM.op (.agg [.int .i64 id, .int .i64 sp, .str nm, .slice (some (.new p10 0)) l.length l.length false]) _ (by kernel_rfl) (load_new (o := 0) (by kernel_rfl) a15.get (by kernel_rfl)) ?_
  have g16 := (a15.keep (Ne.symm (a6.ne a3.lt)) (a12.keep (a9.le a6.lt) (a9.keep a6.lt a6.get)))
  refine WpM.run tab_ok 0 ⟨.ops (p25_5_1 :: o25_5.drop 2), [.seq .ret], ((E8 id sp nm la l cap p1 p4 p10).set 7 (.agg [.int .i64 id, .int .i64 sp, .str nm, .slice (some (.new p10 0)) l.length l.length false])), [], h14, none⟩ (by kernel_rfl) ?_
  refine WpM.opS U p4 (some (.cells [.int .i64 id, .int .i64 sp, .str nm, .slice (some (.new p10 0)) l.length l.length false] 29)) (by kernel_rfl) (store_new (o := 0) (v := .agg [.int .i64 id, .int .i64 sp, .str nm, .slice (some (.new p10 0)) l.length l.length false]) (by kernel_rfl) (by kernel_rfl) g16 (by kernel_rfl)) (fun h17 a18 => ?_)
  refine WpM.run tab_ok 3 ⟨.done .ret, [], ((E8 id sp nm la l cap p1 p4 p10).set 7 (.agg [.int .i64 id, .int .i64 sp, .str nm, .slice (some (.new p10 0)) l.length l.length false])), [], h17, none⟩ (by kernel_rfl) ?_
  refine WpM.ret (.agg [.int .i64 id, .int .i64 sp, .str nm, .slice (some (.new p10 0)) l.length l.length false]) h17 (by kernel_rfl) (resL_cell1 (o := 0) (by kernel_rfl) a18.get (by kernel_rfl)) ?_
  have g19 := (a18.keep (Ne.symm (a12.ne (a9.le a6.lt))) (a15.keep (Ne.symm (a12.ne (a9.le (a6.le a3.lt)))) a12.get))
  exact ⟨(((((((HX.refl h).alloc a3).alloc a6).alloc a9).alloc a12).put a15 (by have := a3.eq; have := a3.nx; have := a6.eq; have := a6.nx; have := a9.eq; have := a9.nx; have := a12.eq; have := a12.nx; have := a15.nx; have := a18.nx; omega)).put a18 (by have := a3.eq; have := a3.nx; have := a6.eq; have := a6.nx; have := a9.eq; have := a9.nx; have := a12.eq; have := a12.nx; have := a15.nx; have := a18.nx; omega)), ⟨id, sp, nm, some (.new p10 0), l.length, l.length, false, l⟩, rfl, ⟨rfl, rfl, rfl, rfl⟩, ⟨rfl, hb, hk, fun _ => ⟨p10, rfl, (a18.le (a15.le a12.lt)), g19⟩⟩⟩
def E9 (id : Int) (sp : Int) (nm : List UInt8) (q : Nat) (l : List T54) (cap : Nat) (ex : Bool) (p1 : Nat) (p4 : Nat) : List V := [.agg [.int .i64 id, .int .i64 sp, .str nm, .slice (some (.new q 0)) l.length cap ex], .ptr (some (.new p1 0)), .ptr (some (.new p4 0)), .ptr (some (.new p1 3)), U, U, U, U]
def E10 (q : Nat) (l : List T54) (cap : Nat) (ex : Bool) (p7 : Nat) : List V := [.slice (some (.new q 0)) l.length cap ex, U, .slice none 0 0 true, .slice (some (.new q 0)) l.length cap ex, .bool false, .slice (some (.new p7 0)) 0 0 true, .slice (some (.new q 0)) l.length cap ex, U]
def E11 (id : Int) (sp : Int) (nm : List UInt8) (q : Nat) (l : List T54) (cap : Nat) (ex : Bool) (p1 : Nat) (p4 : Nat) (p11 : Nat) : List V := [.agg [.int .i64 id, .int .i64 sp, .str nm, .slice (some (.new q 0)) l.length cap ex], .ptr (some (.new p1 0)), .ptr (some (.new p4 0)), .ptr (some (.new p1 3)), .slice (some (.new q 0)) l.length cap ex, .slice (some (.new p11 0)) l.length l.length false, .ptr (some (.new p1 3)), U]
theorem own_rows {W : World} {h : H} {id sp : Int} {nm : List UInt8} {q cap : Nat} {ex : Bool} {l : List T54} (lq : q < h.nx) (hq : h.get q = some (.cells (rv T54.cells l) 54)) (hk : nm.length ≤ 140737488351232) (hn : 0 < l.length) (hb : l.length * 32 ≤ 140737488351232) : WpF Try.prog W prim1 25 [.agg [.int .i64 id, .int .i64 sp, .str nm, .slice (some (.new q 0)) l.length cap ex]] h (fun v h' => HX h h' ∧ ∃ r : RE, v = .agg r.cells ∧ Cp r id sp nm l ∧ AtOK h' r) := by
  refine WpF.m tab_ok (by kernel_rfl) rfl ?_
  refine WpM.cfg (c' := ⟨.code x25_0, [], [.agg [.int .i64 id, .int .i64 sp, .str nm, .slice (some (.new q 0)) l.length cap ex], U, U, U, U, U, U, U], [], h, none⟩) (by kernel_rfl) ?_
  refine WpM.run tab_ok 2 ⟨.ops (p25_1_0 :: o25_1.drop 1), [.seq x25_2], [.agg [.int .i64 id, .int .i64 sp, .str nm, .slice (some (.new q 0)) l.length cap ex], U, U, U, U, U, U, U], [], h, none⟩ (by kernel_rfl) ?_
  refine WpM.opA (fun p => .ptr (some (.new p 0))) (.cells [.int .i64 id, .int .i64 sp, .str nm, .slice (some (.new q 0)) l.length cap ex] 29) (by kernel_rfl) (by kernel_rfl) (fun p1 h2 a3 => ?_)
  refine WpM.run tab_ok 0 ⟨.ops (p25_1_1 :: o25_1.drop 2), [.seq x25_2], [.agg [.int .i64 id, .int .i64 sp, .str nm, .slice (some (.new q 0)) l.length cap ex], .ptr (some (.new p1 0)), U, U, U, U, U, U], [], h2, none⟩ (by kernel_rfl) ?_
  refine WpM.opA (fun p => .ptr (some (.new p 0))) (.cells [.int .i64 0, .int .i64 0, .str [], .slice none 0 0 true] 29) (by kernel_rfl) (by kernel_rfl) (fun p4 h5 a6 => ?_)
  refine WpM.run tab_ok 5 ⟨.ops (p25_3_1 :: o25_3.drop 2), [.seq x25_4], (E9 id sp nm q l cap ex p1 p4), [], h5, none⟩ (by kernel_rfl) ?_
  refine WpM.op (.slice (some (.new q 0)) l.length cap ex) _ (by kernel_rfl) (load_new (o := 3) (by kernel_rfl) (a6.keep a3.lt a3.get) (by kernel_rfl)) ?_
  refine WpM.run tab_ok 18 ⟨.ops (p38_9_0 :: o38_9.drop 1), [.seq .ret, .call [.tmp 2] (some 5) (o25_3.drop 3) ((E9 id sp nm q l cap ex p1 p4).set 4 (.slice (some (.new q 0)) l.length cap ex)) [] none, .seq x25_4], [.slice (some (.new q 0)) l.length cap ex, U, .slice none 0 0 true, .slice (some (.new q 0)) l.length cap ex, .bool false, U, U, U], [], h5, none⟩ (by kernel_rfl) ?_
  refine WpM.opA (fun p => .slice (some (.new p 0)) 0 0 true) (.cells [] 54) (by kernel_rfl) (by kernel_rfl) (fun p7 h8 a9 => ?_)
  have g10 := (a9.keep (a6.le (a3.le lq)) (a6.keep (a3.le lq) (a3.keep lq hq)))
  refine WpM.run tab_ok 1 ⟨.ops (p38_9_2 :: o38_9.drop 3), [.seq .ret, .call [.tmp 2] (some 5) (o25_3.drop 3) ((E9 id sp nm q l cap ex p1 p4).set 4 (.slice (some (.new q 0)) l.length cap ex)) [] none, .seq x25_4], (E10 q l cap ex p7), [], h8, none⟩ (by kernel_rfl) ?_
  refine WpM.opA (fun p => .slice (some (.new p 0)) l.length l.length false) (.cells (rv T54.cells l) 54) (by kernel_rfl) (app_step (s := .slice (some (.new p7 0)) 0 0 true) (x := .slice (some (.new q 0)) l.length cap ex) (by kernel_rfl) (by kernel_rfl) (app_op (at0 := 27) (at1 := 27) (e := 54) (size := 2) (bytes := 32) (n := l.length) (z0 := .agg [.str [], .str []]) (nc := (rv T54.cells l)) (by kernel_rfl) (by kernel_rfl) (by kernel_rfl) (by kernel_rfl) rfl rfl rfl (first_at g10 (by omega) (by rw [rv_length (f := T54.cells) (z := 2) (fun _ => rfl)]; simp) (by rw [List.drop_zero, List.take_of_length_le (by rw [rv_length (f := T54.cells) (z := 2) (fun _ => rfl)]; simp)])) (app_empty (by omega) (rv_length (f := T54.cells) (fun _ => rfl) _) (rv_all_one (fun _ => rfl) _) (by omega) (by omega)))) (fun p11 h12 a13 => ?_)
  have g14 := (a13.keep (a9.le (a6.le a3.lt)) (a9.keep (a6.le a3.lt) (a6.keep a3.lt a3.get)))
  refine WpM.run tab_ok 6 ⟨.ops (p25_3_4 :: o25_3.drop 5), [.seq x25_4], (E11 id sp nm q l cap ex p1 p4 p11), [], h12, none⟩ (by kernel_rfl) ?_
  refine WpM.opS U p1 (some (.cells [.int .i64 id, .int .i64 sp, .str nm, .slice (some (.new p11 0)) l.length l.length false] 29)) (by kernel_rfl) (store_new (o := 3) (v := .slice (some (.new p11 0)) l.length l.length false) (by kernel_rfl) (by kernel_rfl) g14 (by kernel_rfl)) (fun h15 a16 => ?_)
  refine WpM.run tab_ok 4 ⟨.ops (p25_5_0 :: o25_5.drop 1), [.seq .ret], (E11 id sp nm q l cap ex p1 p4 p11), [], h15, none⟩ (by kernel_rfl) ?_
  refine WpM.op (.agg [.int .i64 id, .int .i64 sp, .str nm, .slice (some (.new p11 0)) l.length l.length false]) _ (by kernel_rfl) (load_new (o := 0) (by kernel_rfl) a16.get (by kernel_rfl)) ?_
  have g17 := (a16.keep (Ne.symm (a6.ne a3.lt)) (a13.keep (a9.le a6.lt) (a9.keep a6.lt a6.get)))
  refine WpM.run tab_ok 0 ⟨.ops (p25_5_1 :: o25_5.drop 2), [.seq .ret], ((E11 id sp nm q l cap ex p1 p4 p11).set 7 (.agg [.int .i64 id, .int .i64 sp, .str nm, .slice (some (.new p11 0)) l.length l.length false])), [], h15, none⟩ (by kernel_rfl) ?_
  refine WpM.opS U p4 (some (.cells [.int .i64 id, .int .i64 sp, .str nm, .slice (some (.new p11 0)) l.length l.length false] 29)) (by kernel_rfl) (store_new (o := 0) (v := .agg [.int .i64 id, .int .i64 sp, .str nm, .slice (some (.new p11 0)) l.length l.length false]) (by kernel_rfl) (by kernel_rfl) g17 (by kernel_rfl)) (fun h18 a19 => ?_)
  refine WpM.run tab_ok 3 ⟨.done .ret, [], ((E11 id sp nm q l cap ex p1 p4 p11).set 7 (.agg [.int .i64 id, .int .i64 sp, .str nm, .slice (some (.new p11 0)) l.length l.length false])), [], h18, none⟩ (by kernel_rfl) ?_
  refine WpM.ret (.agg [.int .i64 id, .int .i64 sp, .str nm, .slice (some (.new p11 0)) l.length l.length false]) h18 (by kernel_rfl) (resL_cell1 (o := 0) (by kernel_rfl) a19.get (by kernel_rfl)) ?_
  have g20 := (a19.keep (Ne.symm (a13.ne (a9.le a6.lt))) (a16.keep (Ne.symm (a13.ne (a9.le (a6.le a3.lt)))) a13.get))
  exact ⟨(((((((HX.refl h).alloc a3).alloc a6).alloc a9).alloc a13).put a16 (by have := a3.eq; have := a3.nx; have := a6.eq; have := a6.nx; have := a9.eq; have := a9.nx; have := a13.eq; have := a13.nx; have := a16.nx; have := a19.nx; omega)).put a19 (by have := a3.eq; have := a3.nx; have := a6.eq; have := a6.nx; have := a9.eq; have := a9.nx; have := a13.eq; have := a13.nx; have := a16.nx; have := a19.nx; omega)), ⟨id, sp, nm, some (.new p11 0), l.length, l.length, false, l⟩, rfl, ⟨rfl, rfl, rfl, rfl⟩, ⟨rfl, hb, hk, fun _ => ⟨p11, rfl, (a19.le (a16.le a13.lt)), g20⟩⟩⟩
theorem own_ok {W : World} {e : T29} (he : e.ok W) (h : H) : WpF Try.prog W prim1 25 [.agg [.int .i64 e.fId, .int .i64 e.fSpace, .str e.fName, .slice e.fAttrs.a e.fAttrs.l.length e.fAttrs.cap true]] h (fun v h' => HX h h' ∧ ∃ r : RE, v = .agg r.cells ∧ Cp r e.fId e.fSpace e.fName e.fAttrs.l ∧ AtOK h' r) := by
  have hA := he.fAttrs.arr
  rcases Nat.eq_zero_or_pos e.fAttrs.l.length with h0 | h0
  · have hn := List.eq_nil_of_length_eq_zero h0
    rw [hn]
    rcases hA with ⟨ha, _⟩ | ⟨b, o, ha, _⟩
    · rw [ha]; exact own_nil he.fName h
    · rw [ha]; exact own_old he.fName h
  · exact own_some hA (hA.some h0).1 he.fName h0 (by have h1 := he.fAttrs.le; have h2 := he.fAttrs.reach; have : e.fAttrs.l.length * 32 ≤ e.fAttrs.cap * 32 := Nat.mul_le_mul_right _ h1; omega) h
theorem own_heap {W : World} {r : RE} {h : H} (hr : AtOK h r) : WpF Try.prog W prim1 25 [.agg [.int .i64 r.id, .int .i64 r.sp, .str r.nm, .slice r.a r.n r.m r.x]] h (fun v h' => HX h h' ∧ ∃ s : RE, v = .agg s.cells ∧ Cp s r.id r.sp r.nm r.l ∧ AtOK h' s) := by
  rw [hr.n]
  rcases Nat.eq_zero_or_pos r.l.length with h0 | h0
  · have hn := List.eq_nil_of_length_eq_zero h0
    rw [hn]
    rcases r.a with _ | (⟨b, o⟩ | ⟨q, o⟩)
    · exact own_nil hr.k h
    · exact own_old hr.k h
    · exact own_new hr.k h
  · obtain ⟨q, ea, lq, hq⟩ := hr.g h0
    rw [ea]
    exact own_rows lq hq hr.k h0 hr.b
theorem Cp.tr {r s : RE} {i sp : Int} {n : List UInt8} {l : List T54} (a : Cp r s.id s.sp s.nm s.l) (b : Cp s i sp n l) : Cp r i sp n l := ⟨a.id.trans b.id, a.sp.trans b.sp, a.nm.trans b.nm, a.l.trans b.l⟩
structure FW (h : H) (pl pz : Nat) (ys : List RE) : Prop where
  gs : h.get pl = some (.cells [.slice (some (.new pz 0)) ys.length ys.length false] 47)
  gz : h.get pz = some (.cells (rv RE.cells ys) 29)
  ls : pl < pz
  lz : pz < h.nx
  A : ∀ j : Int, 0 ≤ j → j < (ys.length : Int) → AtOK h (gt ys j)
  b : ys.length ≤ 100000
structure MarkAt (ys : List RE) (c : Nat) : Prop where
  le : c ≤ ys.length
  m : 0 < c → (gt ys ((c : Int) - 1)).id < 0
  o : ∀ j : Int, (c : Int) ≤ j → j < (ys.length : Int) → 0 ≤ (gt ys j).id
theorem FW.stay {h h' : H} {pl pz : Nat} {ys : List RE} (s : FW h pl pz ys) (k : KA 54 h h') (gs : h'.get pl = some (.cells [.slice (some (.new pz 0)) ys.length ys.length false] 47)) (gz : h'.get pz = some (.cells (rv RE.cells ys) 29)) : FW h' pl pz ys :=
  ⟨gs, gz, s.ls, Nat.lt_of_lt_of_le s.lz k.nx, fun j a b => (s.A j a b).mono k, s.b⟩
theorem FW.hx {h h' : H} {pl pz : Nat} {ys : List RE} (s : FW h pl pz ys) (k : HX h h') : FW h' pl pz ys := s.stay ((KA.refl 54 h).hx k) (k.keep (by have := s.ls; have := s.lz; omega) s.gs) (k.keep s.lz s.gz)
def E12 (pl : Nat) (d6 : V) (i : Int) (pz : Nat) (ys : List RE) (d17 : V) (d18 : V) (d19 : V) (d20 : V) (d21 : V) (d22 : V) (d23 : V) (d24 : V) (d25 : V) (d26 : V) (d27 : V) (d28 : V) : List V := (.ptr (some (.new pl 0)) :: .int .i64 0 :: .fn 33 [] :: U :: U :: U :: d6 :: .int .i64 i :: .ptr (some (.new pl 0)) :: .ptr (some (.new pl 0)) :: .ptr (some (.new pl 0)) :: .slice (some (.new pz 0)) ys.length ys.length false :: .int .i64 ((ys.length : Int)) :: .int .i64 (((ys.length : Int)) - 1) :: .int .i64 i :: .int .i64 0 :: .bool (decide (i ≥ 0)) :: d17 :: d18 :: d19 :: d20 :: d21 :: d22 :: d23 :: d24 :: d25 :: d26 :: d27 :: d28 :: [])
def E13 (pl : Nat) (d6 : V) (i : Int) (pz : Nat) (ys : List RE) (d17 : V) (d18 : V) (d27 : V) (d28 : V) : List V := (.ptr (some (.new pl 0)) :: .int .i64 0 :: .fn 33 [] :: U :: U :: U :: d6 :: .int .i64 i :: .ptr (some (.new pl 0)) :: .ptr (some (.new pl 0)) :: .ptr (some (.new pl 0)) :: .slice (some (.new pz 0)) ys.length ys.length false :: .int .i64 ((ys.length : Int)) :: .int .i64 (((ys.length : Int)) - 1) :: .int .i64 i :: .int .i64 0 :: .bool (decide (i ≥ 0)) :: d17 :: d18 :: .fn 33 [] :: .ptr (some (.new pl 0)) :: .ptr (some (.new pl 0)) :: .ptr (some (.new pl 0)) :: .slice (some (.new pz 0)) ys.length ys.length false :: .int .i64 i :: .ptr (some (.new pz (0 + i.toNat * 4))) :: .agg [.int .i64 ((gt ys i).id), .int .i64 ((gt ys i).sp), .str ((gt ys i).nm), .slice (gt ys i).a ((gt ys i).n) ((gt ys i).m) ((gt ys i).x)] :: d27 :: d28 :: [])
def E14 (ys : List RE) (i : Int) (p102 : Nat) : List V := [.agg [.int .i64 ((gt ys i).id), .int .i64 ((gt ys i).sp), .str ((gt ys i).nm), .slice (gt ys i).a ((gt ys i).n) ((gt ys i).m) ((gt ys i).x)], .ptr (some (.new p102 0)), .bool false, .ptr (some (.new p102 0)), U, U]
theorem last_loop {W : World} {pl pz c : Nat} {ys : List RE} {h0 : H} (hS : FW h0 pl pz ys) (hM : MarkAt ys c) (n : Nat) : ∀ (i : Int) (h : H) (d6 d14 d15 d16 d17 d18 d19 d20 d21 d22 d23 d24 d25 d26 d27 d28 : V), n = (i + 1).toNat → (-1 ≤ i) → (i < (ys.length : Int)) → ((c : Int) - 1 ≤ i) → (HX h0 h) → WpM Try.prog W prim1 ⟨.code x29_7, [.loop x29_7, .blk 0, .seq x29_19], (.ptr (some (.new pl 0)) :: .int .i64 0 :: .fn 33 [] :: U :: U :: U :: d6 :: .int .i64 i :: .ptr (some (.new pl 0)) :: .ptr (some (.new pl 0)) :: .ptr (some (.new pl 0)) :: .slice (some (.new pz 0)) ys.length ys.length false :: .int .i64 ((ys.length : Int)) :: .int .i64 (((ys.length : Int)) - 1) :: d14 :: d15 :: d16 :: d17 :: d18 :: d19 :: d20 :: d21 :: d22 :: d23 :: d24 :: d25 :: d26 :: d27 :: d28 :: []), [], h, none⟩ (retQ Try.prog W [.tmp 6] (fun v h' => HX h0 h' ∧ v = .int .i64 ((c : Int) - 1))) := by
  induction n using Nat.strongRecOn with
  | _ n ih =>
    intro i h d6 d14 d15 d16 d17 d18 d19 d20 d21 d22 d23 d24 d25 d26 d27 d28 hn h0i h1i hci hX
    have hls := hS.ls
    have hlz := hS.lz
    have hsb := hS.b
    have hcl := hM.le
    refine WpM.run tab_ok 8 ⟨.code x29_10, [.seq x29_11, .loop x29_7, .blk 0, .seq x29_19], (E12 pl d6 i pz ys d17 d18 d19 d20 d21 d22 d23 d24 d25 d26 d27 d28), [], h, none⟩ (by kernel_rfl) ?_
    refine WpM.cond (t := (decide (i ≥ 0))) (by kernel_rfl) (fun c101 => ?_) (fun c101 => ?_)
    · have c101p := dec_t c101
      refine WpM.run tab_ok 10 ⟨.ops (p29_14_4 :: o29_14.drop 5), [.seq x29_15, .blk 1, .seq x29_18, .loop x29_7, .blk 0, .seq x29_19], (((((E12 pl d6 i pz ys d17 d18 d19 d20 d21 d22 d23 d24 d25 d26 d27 d28).set 19 (.fn 33 [])).set 20 (.ptr (some (.new pl 0)))).set 21 (.ptr (some (.new pl 0)))).set 22 (.ptr (some (.new pl 0)))), [], h, none⟩ (by kernel_rfl) ?_
      refine WpM.op (.slice (some (.new pz 0)) ys.length ys.length false) _ (by kernel_rfl) (load_new (o := 0) (by kernel_rfl) (hX.keep (by omega) hS.gs) (by kernel_rfl)) ?_
      refine WpM.run tab_ok 1 ⟨.ops (p29_14_6 :: o29_14.drop 7), [.seq x29_15, .blk 1, .seq x29_18, .loop x29_7, .blk 0, .seq x29_19], (((((((E12 pl d6 i pz ys d17 d18 d19 d20 d21 d22 d23 d24 d25 d26 d27 d28).set 19 (.fn 33 [])).set 20 (.ptr (some (.new pl 0)))).set 21 (.ptr (some (.new pl 0)))).set 22 (.ptr (some (.new pl 0)))).set 23 (.slice (some (.new pz 0)) ys.length ys.length false)).set 24 (.int .i64 i)), [], h, none⟩ (by kernel_rfl) ?_
      refine WpM.op (.ptr (some (.new pz (0 + i.toNat * 4)))) _ (by kernel_rfl) (indexAddr_sl (e := 29) (a := (.new pz 0)) (len := ys.length) (lb := ys.length) (ex := false) (z := 4) (k := .i64) (n := i) (by kernel_rfl) (by kernel_rfl) (by kernel_rfl) (by kernel_rfl) (by omega)) ?_
      refine WpM.run tab_ok 0 ⟨.ops (p29_14_7 :: o29_14.drop 8), [.seq x29_15, .blk 1, .seq x29_18, .loop x29_7, .blk 0, .seq x29_19], ((((((((E12 pl d6 i pz ys d17 d18 d19 d20 d21 d22 d23 d24 d25 d26 d27 d28).set 19 (.fn 33 [])).set 20 (.ptr (some (.new pl 0)))).set 21 (.ptr (some (.new pl 0)))).set 22 (.ptr (some (.new pl 0)))).set 23 (.slice (some (.new pz 0)) ys.length ys.length false)).set 24 (.int .i64 i)).set 25 (.ptr (some (.new pz (0 + i.toNat * 4))))), [], h, none⟩ (by kernel_rfl) ?_
      refine WpM.op (.agg [.int .i64 ((gt ys i).id), .int .i64 ((gt ys i).sp), .str ((gt ys i).nm), .slice (gt ys i).a ((gt ys i).n) ((gt ys i).m) ((gt ys i).x)]) _ (by kernel_rfl) (load_new (o := (0 + i.toNat * 4)) (by kernel_rfl) (hX.keep (by omega) hS.gz) (rv_ldA (z := 4) (f := RE.cells) (fun _ => rfl) (i := i) (by omega) (off := 0) (n := 4) (by kernel_rfl) (by kernel_rfl) (by decide) (by decide) (by kernel_rfl) (by omega))) ?_
      refine WpM.run tab_ok 3 ⟨.ops (p33_1_0 :: o33_1.drop 1), [.seq x33_2, .call [.tmp 2] (some 27) [] (E13 pl d6 i pz ys d17 d18 d27 d28) [] none, .seq x29_15, .blk 1, .seq x29_18, .loop x29_7, .blk 0, .seq x29_19], [.agg [.int .i64 ((gt ys i).id), .int .i64 ((gt ys i).sp), .str ((gt ys i).nm), .slice (gt ys i).a ((gt ys i).n) ((gt ys i).m) ((gt ys i).x)], U, U, U, U, U], [], h, none⟩ (by kernel_rfl) ?_
      refine WpM.opA (fun p => .ptr (some (.new p 0))) (.cells [.int .i64 ((gt ys i).id), .int .i64 ((gt ys i).sp), .str ((gt ys i).nm), .slice (gt ys i).a ((gt ys i).n) ((gt ys i).m) ((gt ys i).x)] 29) (by kernel_rfl) (by kernel_rfl) (fun p102 h103 a104 => ?_)
      refine WpM.run tab_ok 6 ⟨.ops (p33_3_1 :: o33_3.drop 2), [.seq .ret, .call [.tmp 2] (some 27) [] (E13 pl d6 i pz ys d17 d18 d27 d28) [] none, .seq x29_15, .blk 1, .seq x29_18, .loop x29_7, .blk 0, .seq x29_19], (E14 ys i p102), [], h103, none⟩ (by kernel_rfl) ?_
      refine WpM.op (.int .i64 ((gt ys i).id)) _ (by kernel_rfl) (load_new (o := 0) (by kernel_rfl) a104.get (by kernel_rfl)) ?_
      refine WpM.run tab_ok 8 ⟨.code x29_15, [.blk 1, .seq x29_18, .loop x29_7, .blk 0, .seq x29_19], ((E13 pl d6 i pz ys d17 d18 d27 d28).set 27 (.bool (decide (((gt ys i).id) < 0)))), [], h103, none⟩ (by kernel_rfl) ?_
      refine WpM.cond (t := (decide (((gt ys i).id) < 0))) (by kernel_rfl) (fun c105 => ?_) (fun c105 => ?_)
      · have c105p := dec_t c105
        refine WpM.run tab_ok 12 ⟨.done .ret, [], ((((E13 pl d6 i pz ys d17 d18 d27 d28).set 6 (.int .i64 i)).set 27 (.bool (decide (((gt ys i).id) < 0)))).set 28 (.int .i64 i)), [], h103, none⟩ (by kernel_rfl) ?_
        refine WpM.ret (.int .i64 i) h103 (by kernel_rfl) (by kernel_rfl) ?_
        have h9 : ¬ ((c : Int) ≤ i) := fun e => by have := hM.o i e (by omega); omega
        exact ⟨(hX.alloc a104), congrArg (V.int .i64) (by omega)⟩
      · have c105p := dec_f c105
        refine WpM.run tab_ok 5 ⟨.ops (p29_18_1 :: o29_18.drop 2), [.loop x29_7, .blk 0, .seq x29_19], (((E13 pl d6 i pz ys d17 d18 d27 d28).set 17 (.int .i64 i)).set 27 (.bool (decide (((gt ys i).id) < 0)))), [], h103, none⟩ (by kernel_rfl) ?_
        refine WpM.op (.int .i64 (i - 1)) _ (by kernel_rfl) (arith_sub (by kernel_rfl) (by kernel_rfl) (by omega)) ?_
        refine WpM.run tab_ok 3 ⟨.code x29_7, [.loop x29_7, .blk 0, .seq x29_19], (.ptr (some (.new pl 0)) :: .int .i64 0 :: .fn 33 [] :: U :: U :: U :: d6 :: .int .i64 (i - 1) :: .ptr (some (.new pl 0)) :: .ptr (some (.new pl 0)) :: .ptr (some (.new pl 0)) :: .slice (some (.new pz 0)) ys.length ys.length false :: .int .i64 ((ys.length : Int)) :: .int .i64 (((ys.length : Int)) - 1) :: .int .i64 i :: .int .i64 0 :: .bool (decide (i ≥ 0)) :: .int .i64 i :: .int .i64 (i - 1) :: .fn 33 [] :: .ptr (some (.new pl 0)) :: .ptr (some (.new pl 0)) :: .ptr (some (.new pl 0)) :: .slice (some (.new pz 0)) ys.length ys.length false :: .int .i64 i :: .ptr (some (.new pz (0 + i.toNat * 4))) :: .agg [.int .i64 ((gt ys i).id), .int .i64 ((gt ys i).sp), .str ((gt ys i).nm), .slice (gt ys i).a ((gt ys i).n) ((gt ys i).m) ((gt ys i).x)] :: .bool (decide (((gt ys i).id) < 0)) :: d28 :: []), [], h103, none⟩ (by kernel_rfl) ?_
        refine ih _ ?_ _ h103 _ _ _ _ _ _ _ _ _ _ _ _ _ _ _ _ rfl ?_ ?_ ?_ ?_
        · omega
        · omega
        · omega
        · have h9 : ¬ (i = (c : Int) - 1) := fun e => by (have := hM.m (by omega); rw [← e] at this; omega)
          omega
        · exact (hX.alloc a104)
    · have c101p := dec_f c101
      refine WpM.run tab_ok 11 ⟨.done .ret, [], ((E12 pl d6 i pz ys d17 d18 d19 d20 d21 d22 d23 d24 d25 d26 d27 d28).set 6 (.int .i64 (-1))), [], h, none⟩ (by kernel_rfl) ?_
      refine WpM.ret (.int .i64 (-1)) h (by kernel_rfl) (by kernel_rfl) ?_
      exact ⟨hX, congrArg (V.int .i64) (by omega)⟩
def E15 (pl : Nat) : List V := (.ptr (some (.new pl 0)) :: .int .i64 0 :: .fn 33 [] :: U :: U :: U :: .int .i64 0 :: U :: .ptr (some (.new pl 0)) :: .ptr (some (.new pl 0)) :: .ptr (some (.new pl 0)) :: us 18)
theorem last_ok {W : World} {pl pz c : Nat} {ys : List RE} {h0 : H} (hS : FW h0 pl pz ys) (hM : MarkAt ys c) : WpF Try.prog W prim1 29 [.ptr (some (.new pl 0)), .int .i64 0, .fn 33 []] h0 (fun v h' => HX h0 h' ∧ v = .int .i64 ((c : Int) - 1)) := by
  have hls := hS.ls
  have hlz := hS.lz
  have hsb := hS.b
  have hcl := hM.le
  refine WpF.m tab_ok (by kernel_rfl) rfl ?_
  refine WpM.cfg (c' := ⟨.code x29_0, [], (.ptr (some (.new pl 0)) :: .int .i64 0 :: .fn 33 [] :: us 26), [], h0, none⟩) (by kernel_rfl) ?_
  refine WpM.run tab_ok 11 ⟨.ops (p29_4_3 :: o29_4.drop 4), [.seq x29_5, .seq x29_19], (E15 pl), [], h0, none⟩ (by kernel_rfl) ?_
  refine WpM.op (.slice (some (.new pz 0)) ys.length ys.length false) _ (by kernel_rfl) (load_new (o := 0) (by kernel_rfl) hS.gs (by kernel_rfl)) ?_
  refine WpM.run tab_ok 1 ⟨.ops (p29_4_5 :: o29_4.drop 6), [.seq x29_5, .seq x29_19], (((E15 pl).set 11 (.slice (some (.new pz 0)) ys.length ys.length false)).set 12 (.int .i64 ((ys.length : Int)))), [], h0, none⟩ (by kernel_rfl) ?_
  refine WpM.op (.int .i64 (((ys.length : Int)) - 1)) _ (by kernel_rfl) (arith_sub (by kernel_rfl) (by kernel_rfl) (by omega)) ?_
  refine WpM.run tab_ok 5 ⟨.code x29_7, [.loop x29_7, .blk 0, .seq x29_19], (.ptr (some (.new pl 0)) :: .int .i64 0 :: .fn 33 [] :: U :: U :: U :: .int .i64 0 :: .int .i64 (((ys.length : Int)) - 1) :: .ptr (some (.new pl 0)) :: .ptr (some (.new pl 0)) :: .ptr (some (.new pl 0)) :: .slice (some (.new pz 0)) ys.length ys.length false :: .int .i64 ((ys.length : Int)) :: .int .i64 (((ys.length : Int)) - 1) :: us 15), [], h0, none⟩ (by kernel_rfl) ?_
  exact last_loop hS hM _ _ _ _ _ _ _ _ _ _ _ _ _ _ _ _ _ _ _ rfl (by omega) (by omega) (by omega) (HX.refl h0)
section
variable {α : Type} {E : α → α → Bool}
structure Eqv (E : α → α → Bool) : Prop where
  r : ∀ x, E x x = true
  s : ∀ x y, E x y = true → E y x = true
  t : ∀ x y z, E x y = true → E y z = true → E x z = true
theorem Eqv.same (h : Eqv E) {x y : α} (e : E x y = true) (z : α) : E x z = E z y := by
  cases h1 : E x z with
  | true => exact (h.t _ _ _ (h.s _ _ h1) e).symm
  | false =>
    cases h2 : E z y with
    | false => rfl
    | true => rw [h.t _ _ _ e (h.s _ _ h2)] at h1; cases h1
def ArkI (E : α → α → Bool) (B : List α) : Prop := ∀ x ∈ B, B.countP (E x) ≤ 3
def pushB (E : α → α → Bool) (B : List α) (y : α) : List α := (if 3 ≤ B.countP (fun x => E x y) then B.eraseP (fun x => E x y) else B) ++ [y]
theorem countP_eraseP (p : α → Bool) : ∀ l : List α, 0 < l.countP p → (l.eraseP p).countP p + 1 = l.countP p
  | [], h => by simp at h
  | a :: l, h => by
    rw [List.eraseP_cons]
    cases e : p a with
    | true => simp [e]
    | false =>
      simp only [cond_false, List.countP_cons, e, Bool.false_eq_true, if_false, Nat.add_zero] at h ⊢
      exact countP_eraseP p l h
theorem inv_push (h : Eqv E) {B : List α} (hB : ArkI E B) (y : α) : ArkI E (pushB E B y) := by
  intro x hx
  unfold pushB at hx ⊢
  rw [List.countP_append]
  have hcong : ∀ (l : List α), E x y = true → l.countP (E x) = l.countP (fun z => E z y) := fun l e => by
    congr 1; funext z; exact h.same e z
  have hm : B.countP (fun z => E z y) ≤ 3 := by
    rcases Nat.eq_zero_or_pos (B.countP (fun z => E z y)) with h0 | h0
    · omega
    · obtain ⟨z, hz, ez⟩ := List.countP_pos_iff.1 h0
      have := hB z hz
      have e2 : B.countP (E z) = B.countP (fun w => E w y) := by congr 1; funext w; exact h.same ez w
      omega
  cases e : E x y with
  | true =>
    have h1 : List.countP (E x) [y] = 1 := by simp [e]
    rw [h1]
    by_cases h3 : 3 ≤ B.countP (fun z => E z y)
    · rw [if_pos h3, hcong _ e]
      have := countP_eraseP (fun z => E z y) B (by omega)
      omega
    · rw [if_neg h3, hcong _ e]; omega
  | false =>
    have h1 : List.countP (E x) [y] = 0 := by simp [e]
    rw [h1, Nat.add_zero]
    have hxB : x ∈ B := by
      rcases List.mem_append.1 hx with h2 | h2
      · split at h2
        · exact List.mem_of_mem_eraseP h2
        · exact h2
      · simp at h2; subst h2; rw [h.r] at e; cases e
    have := hB x hxB
    split
    · exact Nat.le_trans ((List.eraseP_sublist).countP_le) this
    · exact this
/-- Lists of attributes alike: of one length, each in the other. -/
def sameL {β : Type} [BEq β] (a b : List β) : Bool := a.length == b.length && (a.all (fun x => b.contains x) && b.all (fun x => a.contains x))
theorem sameL_eqv {β : Type} [BEq β] [LawfulBEq β] : Eqv (sameL (β := β)) where
  r x := by simp [sameL]
  s x y h := by
    simp only [sameL, Bool.and_eq_true, beq_iff_eq, List.all_eq_true, List.contains_iff_mem] at h ⊢
    exact ⟨h.1.symm, h.2.2, h.2.1⟩
  t x y z h k := by
    simp only [sameL, Bool.and_eq_true, beq_iff_eq, List.all_eq_true, List.contains_iff_mem] at h k ⊢
    exact ⟨h.1.trans k.1, fun a ha => k.2.1 a (h.2.1 a ha), fun a ha => h.2.2 a (k.2.2 a ha)⟩
end
theorem eq_TA {a b c d : List UInt8} : eqOp Try.prog 54 (.agg [.str a, .str b]) (.agg [.str c, .str d]) = some (a == c && b == d) := by
  have e : eqOp Try.prog 54 (.agg [.str a, .str b]) (.agg [.str c, .str d]) = (match (some (a == c) : Option Bool) with | some true => (match (some (b == d) : Option Bool) with | some true => some true | some false => some false | none => none) | some false => some false | none => none) := by kernel_rfl
  rw [e]
  cases a == c <;> cases b == d <;> rfl
instance : BEq T54 := ⟨fun x y => x.fName == y.fName && x.fValue == y.fValue⟩
instance : LawfulBEq T54 where
  eq_of_beq {a b} h := by
    have h1 : (a.fName == b.fName && a.fValue == b.fValue) = true := h
    simp only [Bool.and_eq_true, beq_iff_eq] at h1
    cases a; cases b
    simp only at h1
    rw [h1.1, h1.2]
  rfl {a} := by
    show (a.fName == a.fName && a.fValue == a.fValue) = true
    simp
theorem beqA (x y : T54) : (x == y) = (x.fName == y.fName && x.fValue == y.fValue) := rfl
/-- From a place on, is it in the list? -/
def inFrom (x : T54) (l : List T54) (i : Int) : Bool := (l.drop i.toNat).contains x
theorem inFrom_end {x : T54} {l : List T54} {i : Int} (h : ¬ i < (l.length : Int)) : inFrom x l i = false := by
  unfold inFrom; rw [List.drop_eq_nil_of_le (by omega)]; rfl
theorem inFrom_step {x : T54} {l : List T54} {i : Int} (h0 : 0 ≤ i) (h : i < (l.length : Int)) : inFrom x l i = (x == gt l i || inFrom x l (i + 1)) := by
  unfold inFrom
  rw [gt_drop h0 h, toNat_succ h0]; rfl
theorem inFrom_zero {x : T54} {l : List T54} : inFrom x l 0 = l.contains x := rfl
/-- From a place on, is each in the other? -/
def smFrom (a b : List T54) (i : Int) : Bool := (a.drop i.toNat).all (fun x => b.contains x) && (b.drop i.toNat).all (fun x => a.contains x)
theorem smFrom_end {a b : List T54} {i : Int} (hl : a.length = b.length) (h : ¬ i < (a.length : Int)) : smFrom a b i = true := by
  unfold smFrom; rw [List.drop_eq_nil_of_le (by omega), List.drop_eq_nil_of_le (by omega)]; rfl
theorem smFrom_step {a b : List T54} {i : Int} (hl : a.length = b.length) (h0 : 0 ≤ i) (h : i < (a.length : Int)) : smFrom a b i = (b.contains (gt a i) && a.contains (gt b i) && smFrom a b (i + 1)) := by
  unfold smFrom
  rw [gt_drop h0 h, gt_drop (l := b) h0 (by omega), toNat_succ h0, List.all_cons, List.all_cons]
  cases b.contains (gt a i) <;> cases a.contains (gt b i) <;> simp
theorem smFrom_zero {a b : List T54} (hl : a.length = b.length) : smFrom a b 0 = sameL a b := by
  unfold smFrom sameL
  simp [hl]
def E16 (ea : Option Ad) (el : List T54) (ec : Nat) (x : T54) (pb : Nat) (d4 : V) (d5 : V) (i : Int) (d10 : V) (d11 : V) (d12 : V) (d13 : V) (d14 : V) (d15 : V) (d16 : V) (d17 : V) (d18 : V) : List V := (.slice ea el.length ec true :: .agg [.str x.fName, .str x.fValue] :: U :: .ptr (some (.new pb 0)) :: d4 :: d5 :: .slice ea el.length ec true :: .int .i64 ((el.length : Int)) :: .int .i64 i :: .bool (decide (i < ((el.length : Int)))) :: d10 :: d11 :: d12 :: d13 :: d14 :: d15 :: d16 :: d17 :: d18 :: [])
def E17 (ea : Option Ad) (el : List T54) (ec : Nat) (x : T54) (pb : Nat) (d4 : V) (i : Int) (d15 : V) (d16 : V) (d17 : V) (d18 : V) : List V := (.slice ea el.length ec true :: .agg [.str x.fName, .str x.fValue] :: U :: .ptr (some (.new pb 0)) :: d4 :: .int .i64 i :: .slice ea el.length ec true :: .int .i64 ((el.length : Int)) :: .int .i64 i :: .bool (decide (i < ((el.length : Int)))) :: .int .i64 i :: .agg [.str x.fName, .str x.fValue] :: .slice ea el.length ec true :: .int .i64 i :: .ptr (some ((adr ea).add (i.toNat * 2))) :: d15 :: d16 :: d17 :: d18 :: [])
theorem ixold_loop {W : World} {ea : Option Ad} {el : List T54} {ec : Nat} {x : T54} {h0 : H} {pb : Nat} (hA : Arr W 2 T54.cells ea el) (hb : el.length * 32 ≤ 140737488351232) (n : Nat) : ∀ (i : Int) (h : H) (d4 d5 d9 d10 d11 d12 d13 d14 d15 d16 d17 d18 : V), n = ((el.length : Int) - i).toNat → (0 ≤ i) → (i ≤ (el.length : Int)) → (HX h0 h) → (h.get pb = some (.cells [.str x.fName, .str x.fValue] 54)) → (pb < h.nx) → (el.contains x = inFrom x el i) → WpM Try.prog W prim1 ⟨.code x43_7, [.loop x43_7, .blk 0, .seq x43_21], (.slice ea el.length ec true :: .agg [.str x.fName, .str x.fValue] :: U :: .ptr (some (.new pb 0)) :: d4 :: d5 :: .slice ea el.length ec true :: .int .i64 ((el.length : Int)) :: .int .i64 i :: d9 :: d10 :: d11 :: d12 :: d13 :: d14 :: d15 :: d16 :: d17 :: d18 :: []), [], h, none⟩ (retQ Try.prog W [.tmp 4] (fun v h' => HX h0 h' ∧ ∃ k : Int, v = .int .i64 k ∧ decide (k ≥ 0) = el.contains x)) := by
  induction n using Nat.strongRecOn with
  | _ n ih =>
    intro i h d4 d5 d9 d10 d11 d12 d13 d14 d15 d16 d17 d18 hn h0i h1i hX gb lb hA9
    refine WpM.run tab_ok 6 ⟨.code x43_10, [.seq x43_11, .loop x43_7, .blk 0, .seq x43_21], (E16 ea el ec x pb d4 d5 i d10 d11 d12 d13 d14 d15 d16 d17 d18), [], h, none⟩ (by kernel_rfl) ?_
    refine WpM.cond (t := (decide (i < ((el.length : Int))))) (by kernel_rfl) (fun c101 => ?_) (fun c101 => ?_)
    · have c101p := dec_t c101
      refine WpM.run tab_ok 12 ⟨.draw m43_16 ((0, p43_16_0) :: o43_16.drop 1) [], [.seq x43_17, .blk 1, .seq x43_20, .loop x43_7, .blk 0, .seq x43_21], (((E16 ea el ec x pb d4 d5 i d10 d11 d12 d13 d14 d15 d16 d17 d18).set 5 (.int .i64 i)).set 10 (.int .i64 i)), [], h, none⟩ (by kernel_rfl) ?_
      refine WpM.opD (.agg [.str x.fName, .str x.fValue]) _ (by kernel_rfl) (by kernel_rfl) (load_new (o := 0) (by kernel_rfl) gb (by kernel_rfl)) (by kernel_rfl) ?_
      refine WpM.run tab_ok 2 ⟨.draw m43_16 ((3, p43_16_3) :: o43_16.drop 4) [], [.seq x43_17, .blk 1, .seq x43_20, .loop x43_7, .blk 0, .seq x43_21], ((((((E16 ea el ec x pb d4 d5 i d10 d11 d12 d13 d14 d15 d16 d17 d18).set 5 (.int .i64 i)).set 10 (.int .i64 i)).set 11 (.agg [.str x.fName, .str x.fValue])).set 12 (.slice ea el.length ec true)).set 13 (.int .i64 i)), [], h, none⟩ (by kernel_rfl) ?_
      refine WpM.opD (.ptr (some ((adr ea).add (i.toNat * 2)))) _ (by kernel_rfl) (by kernel_rfl) (indexAddr_arr (l := el) (cap := ec) (e := 54) (k := .i64) hA (by kernel_rfl) (by kernel_rfl) (by kernel_rfl) (by kernel_rfl) (by omega)) (by kernel_rfl) ?_
      refine WpM.run tab_ok 0 ⟨.draw m43_16 ((4, p43_16_4) :: o43_16.drop 5) [], [.seq x43_17, .blk 1, .seq x43_20, .loop x43_7, .blk 0, .seq x43_21], (E17 ea el ec x pb d4 i d15 d16 d17 d18), [], h, none⟩ (by kernel_rfl) ?_
      refine WpM.opD (.agg [.str ((gt el i).fName), .str ((gt el i).fValue)]) _ (by kernel_rfl) (by kernel_rfl) (arr_loadA (i := i) hA (by omega) (off := 0) (n := 2) (ad := ((adr ea).add (i.toNat * 2))) (by kernel_rfl) (by kernel_rfl) (by kernel_rfl) (by decide) (by decide) (by kernel_rfl) ((Ad.add_zero _).symm)) (sameAt_arr (i := i) (off := 0) hA (by omega) (ad := ((adr ea).add (i.toNat * 2))) (by kernel_rfl) (Ad.add_zero _).symm) ?_
      refine WpM.run tab_ok 0 ⟨.draw m43_16 ((5, p43_16_5) :: o43_16.drop 6) [], [.seq x43_17, .blk 1, .seq x43_20, .loop x43_7, .blk 0, .seq x43_21], ((E17 ea el ec x pb d4 i d15 d16 d17 d18).set 15 (.agg [.str ((gt el i).fName), .str ((gt el i).fValue)])), [], h, none⟩ (by kernel_rfl) ?_
      refine WpM.opD (.bool (x.fName == ((gt el i).fName) && x.fValue == ((gt el i).fValue))) _ (by kernel_rfl) (by kernel_rfl) (eq_agg (x := [.str x.fName, .str x.fValue]) (y := [.str ((gt el i).fName), .str ((gt el i).fValue)]) (by kernel_rfl) (by kernel_rfl) eq_TA) (by kernel_rfl) ?_
      refine WpM.run tab_ok 2 ⟨.code x43_17, [.blk 1, .seq x43_20, .loop x43_7, .blk 0, .seq x43_21], (((E17 ea el ec x pb d4 i d15 d16 d17 d18).set 15 (.agg [.str ((gt el i).fName), .str ((gt el i).fValue)])).set 16 (.bool (x.fName == ((gt el i).fName) && x.fValue == ((gt el i).fValue)))), [], h, none⟩ (by kernel_rfl) ?_
      refine WpM.cond (t := (x.fName == ((gt el i).fName) && x.fValue == ((gt el i).fValue))) (by kernel_rfl) (fun c102 => ?_) (fun c102 => ?_)
      · skip
        refine WpM.run tab_ok 12 ⟨.done .ret, [], (((((E17 ea el ec x pb d4 i d15 d16 d17 d18).set 4 (.int .i64 i)).set 15 (.agg [.str ((gt el i).fName), .str ((gt el i).fValue)])).set 16 (.bool (x.fName == ((gt el i).fName) && x.fValue == ((gt el i).fValue)))).set 17 (.int .i64 i)), [], h, none⟩ (by kernel_rfl) ?_
        refine WpM.ret (.int .i64 i) h (by kernel_rfl) (by kernel_rfl) ?_
        exact ⟨hX, _, rfl, by rw [hA9, inFrom_step h0i (by omega), beqA, c102, Bool.true_or]; exact decide_eq_true h0i⟩
      · skip
        refine WpM.run tab_ok 4 ⟨.ops (p43_20_0 :: o43_20.drop 1), [.loop x43_7, .blk 0, .seq x43_21], (((E17 ea el ec x pb d4 i d15 d16 d17 d18).set 15 (.agg [.str ((gt el i).fName), .str ((gt el i).fValue)])).set 16 (.bool (x.fName == ((gt el i).fName) && x.fValue == ((gt el i).fValue)))), [], h, none⟩ (by kernel_rfl) ?_
        refine WpM.op (.int .i64 (i + 1)) _ (by kernel_rfl) (arith_add (by kernel_rfl) (by kernel_rfl) (by omega)) ?_
        refine WpM.run tab_ok 3 ⟨.code x43_7, [.loop x43_7, .blk 0, .seq x43_21], (.slice ea el.length ec true :: .agg [.str x.fName, .str x.fValue] :: U :: .ptr (some (.new pb 0)) :: d4 :: .int .i64 i :: .slice ea el.length ec true :: .int .i64 ((el.length : Int)) :: .int .i64 (i + 1) :: .bool (decide (i < ((el.length : Int)))) :: .int .i64 i :: .agg [.str x.fName, .str x.fValue] :: .slice ea el.length ec true :: .int .i64 i :: .ptr (some ((adr ea).add (i.toNat * 2))) :: .agg [.str ((gt el i).fName), .str ((gt el i).fValue)] :: .bool (x.fName == ((gt el i).fName) && x.fValue == ((gt el i).fValue)) :: d17 :: .int .i64 (i + 1) :: []), [], h, none⟩ (by kernel_rfl) ?_
        refine ih _ ?_ _ h _ _ _ _ _ _ _ _ _ _ _ _ rfl ?_ ?_ ?_ ?_ ?_ ?_
        · omega
        · omega
        · omega
        · exact hX
        · exact gb
        · exact lb
        · rw [hA9, inFrom_step h0i (by omega), beqA, c102, Bool.false_or]
    · have c101p := dec_f c101
      refine WpM.run tab_ok 11 ⟨.done .ret, [], ((E16 ea el ec x pb d4 d5 i d10 d11 d12 d13 d14 d15 d16 d17 d18).set 4 (.int .i64 (-1))), [], h, none⟩ (by kernel_rfl) ?_
      refine WpM.ret (.int .i64 (-1)) h (by kernel_rfl) (by kernel_rfl) ?_
      exact ⟨hX, _, rfl, by rw [hA9, inFrom_end (by omega)]; rfl⟩
theorem ixold_ok {W : World} {ea : Option Ad} {el : List T54} {ec : Nat} {x : T54} {h0 : H} (hA : Arr W 2 T54.cells ea el) (hb : el.length * 32 ≤ 140737488351232) : WpF Try.prog W prim1 43 [.slice ea el.length ec true, .agg [.str x.fName, .str x.fValue]] h0 (fun v h' => HX h0 h' ∧ ∃ k : Int, v = .int .i64 k ∧ decide (k ≥ 0) = el.contains x) := by
  refine WpF.m tab_ok (by kernel_rfl) rfl ?_
  refine WpM.cfg (c' := ⟨.code x43_0, [], (.slice ea el.length ec true :: .agg [.str x.fName, .str x.fValue] :: us 17), [], h0, none⟩) (by kernel_rfl) ?_
  refine WpM.run tab_ok 2 ⟨.ops (p43_1_0 :: o43_1.drop 1), [.seq x43_2], (.slice ea el.length ec true :: .agg [.str x.fName, .str x.fValue] :: us 17), [], h0, none⟩ (by kernel_rfl) ?_
  refine WpM.opA (fun p => .ptr (some (.new p 0))) (.cells [.str x.fName, .str x.fValue] 54) (by kernel_rfl) (by kernel_rfl) (fun p1 h2 a3 => ?_)
  refine WpM.run tab_ok 13 ⟨.code x43_7, [.loop x43_7, .blk 0, .seq x43_21], (.slice ea el.length ec true :: .agg [.str x.fName, .str x.fValue] :: U :: .ptr (some (.new p1 0)) :: .int .i64 0 :: U :: .slice ea el.length ec true :: .int .i64 ((el.length : Int)) :: .int .i64 0 :: us 10), [], h2, none⟩ (by kernel_rfl) ?_
  exact ixold_loop hA hb _ 0 _ _ _ _ _ _ _ _ _ _ _ _ _ rfl (by omega) (by omega) ((HX.refl h0).alloc a3) a3.get a3.lt rfl
def E18 (q : Nat) (el : List T54) (ec : Nat) (ex : Bool) (x : T54) (pb : Nat) (d4 : V) (d5 : V) (i : Int) (d10 : V) (d11 : V) (d12 : V) (d13 : V) (d14 : V) (d15 : V) (d16 : V) (d17 : V) (d18 : V) : List V := (.slice (some (.new q 0)) el.length ec ex :: .agg [.str x.fName, .str x.fValue] :: U :: .ptr (some (.new pb 0)) :: d4 :: d5 :: .slice (some (.new q 0)) el.length ec ex :: .int .i64 ((el.length : Int)) :: .int .i64 i :: .bool (decide (i < ((el.length : Int)))) :: d10 :: d11 :: d12 :: d13 :: d14 :: d15 :: d16 :: d17 :: d18 :: [])
def E19 (q : Nat) (el : List T54) (ec : Nat) (ex : Bool) (x : T54) (pb : Nat) (d4 : V) (i : Int) (d15 : V) (d16 : V) (d17 : V) (d18 : V) : List V := (.slice (some (.new q 0)) el.length ec ex :: .agg [.str x.fName, .str x.fValue] :: U :: .ptr (some (.new pb 0)) :: d4 :: .int .i64 i :: .slice (some (.new q 0)) el.length ec ex :: .int .i64 ((el.length : Int)) :: .int .i64 i :: .bool (decide (i < ((el.length : Int)))) :: .int .i64 i :: .agg [.str x.fName, .str x.fValue] :: .slice (some (.new q 0)) el.length ec ex :: .int .i64 i :: .ptr (some (.new q (0 + i.toNat * 2))) :: d15 :: d16 :: d17 :: d18 :: [])
theorem ixnew_loop {W : World} {q : Nat} {el : List T54} {ec : Nat} {ex : Bool} {x : T54} {h0 : H} {pb : Nat} (hb : el.length * 32 ≤ 140737488351232) (lq : q < h0.nx) (hq : h0.get q = some (.cells (rv T54.cells el) 54)) (n : Nat) : ∀ (i : Int) (h : H) (d4 d5 d9 d10 d11 d12 d13 d14 d15 d16 d17 d18 : V), n = ((el.length : Int) - i).toNat → (0 ≤ i) → (i ≤ (el.length : Int)) → (HX h0 h) → (h.get pb = some (.cells [.str x.fName, .str x.fValue] 54)) → (pb < h.nx) → (el.contains x = inFrom x el i) → WpM Try.prog W prim1 ⟨.code x43_7, [.loop x43_7, .blk 0, .seq x43_21], (.slice (some (.new q 0)) el.length ec ex :: .agg [.str x.fName, .str x.fValue] :: U :: .ptr (some (.new pb 0)) :: d4 :: d5 :: .slice (some (.new q 0)) el.length ec ex :: .int .i64 ((el.length : Int)) :: .int .i64 i :: d9 :: d10 :: d11 :: d12 :: d13 :: d14 :: d15 :: d16 :: d17 :: d18 :: []), [], h, none⟩ (retQ Try.prog W [.tmp 4] (fun v h' => HX h0 h' ∧ ∃ k : Int, v = .int .i64 k ∧ decide (k ≥ 0) = el.contains x)) := by
  induction n using Nat.strongRecOn with
  | _ n ih =>
    intro i h d4 d5 d9 d10 d11 d12 d13 d14 d15 d16 d17 d18 hn h0i h1i hX gb lb hA9
    refine WpM.run tab_ok 6 ⟨.code x43_10, [.seq x43_11, .loop x43_7, .blk 0, .seq x43_21], (E18 q el ec ex x pb d4 d5 i d10 d11 d12 d13 d14 d15 d16 d17 d18), [], h, none⟩ (by kernel_rfl) ?_
    refine WpM.cond (t := (decide (i < ((el.length : Int))))) (by kernel_rfl) (fun c101 => ?_) (fun c101 => ?_)
    · have c101p := dec_t c101
      refine WpM.run tab_ok 12 ⟨.draw m43_16 ((0, p43_16_0) :: o43_16.drop 1) [], [.seq x43_17, .blk 1, .seq x43_20, .loop x43_7, .blk 0, .seq x43_21], (((E18 q el ec ex x pb d4 d5 i d10 d11 d12 d13 d14 d15 d16 d17 d18).set 5 (.int .i64 i)).set 10 (.int .i64 i)), [], h, none⟩ (by kernel_rfl) ?_
      refine WpM.opD (.agg [.str x.fName, .str x.fValue]) _ (by kernel_rfl) (by kernel_rfl) (load_new (o := 0) (by kernel_rfl) gb (by kernel_rfl)) (by kernel_rfl) ?_
      refine WpM.run tab_ok 2 ⟨.draw m43_16 ((3, p43_16_3) :: o43_16.drop 4) [], [.seq x43_17, .blk 1, .seq x43_20, .loop x43_7, .blk 0, .seq x43_21], ((((((E18 q el ec ex x pb d4 d5 i d10 d11 d12 d13 d14 d15 d16 d17 d18).set 5 (.int .i64 i)).set 10 (.int .i64 i)).set 11 (.agg [.str x.fName, .str x.fValue])).set 12 (.slice (some (.new q 0)) el.length ec ex)).set 13 (.int .i64 i)), [], h, none⟩ (by kernel_rfl) ?_
      refine WpM.opD (.ptr (some (.new q (0 + i.toNat * 2)))) _ (by kernel_rfl) (by kernel_rfl) (indexAddr_sl (e := 54) (a := (.new q 0)) (len := el.length) (lb := ec) (ex := ex) (z := 2) (k := .i64) (n := i) (by kernel_rfl) (by kernel_rfl) (by kernel_rfl) (by kernel_rfl) (by omega)) (by kernel_rfl) ?_
      refine WpM.run tab_ok 0 ⟨.draw m43_16 ((4, p43_16_4) :: o43_16.drop 5) [], [.seq x43_17, .blk 1, .seq x43_20, .loop x43_7, .blk 0, .seq x43_21], (E19 q el ec ex x pb d4 i d15 d16 d17 d18), [], h, none⟩ (by kernel_rfl) ?_
      refine WpM.opD (.agg [.str ((gt el i).fName), .str ((gt el i).fValue)]) _ (by kernel_rfl) (by kernel_rfl) (load_new (o := (0 + i.toNat * 2)) (by kernel_rfl) (hX.keep lq hq) (rv_ldA (z := 2) (f := T54.cells) (fun _ => rfl) (i := i) (by omega) (off := 0) (n := 2) (by kernel_rfl) (by kernel_rfl) (by decide) (by decide) (by kernel_rfl) (by omega))) (by kernel_rfl) ?_
      refine WpM.run tab_ok 0 ⟨.draw m43_16 ((5, p43_16_5) :: o43_16.drop 6) [], [.seq x43_17, .blk 1, .seq x43_20, .loop x43_7, .blk 0, .seq x43_21], ((E19 q el ec ex x pb d4 i d15 d16 d17 d18).set 15 (.agg [.str ((gt el i).fName), .str ((gt el i).fValue)])), [], h, none⟩ (by kernel_rfl) ?_
      refine WpM.opD (.bool (x.fName == ((gt el i).fName) && x.fValue == ((gt el i).fValue))) _ (by kernel_rfl) (by kernel_rfl) (eq_agg (x := [.str x.fName, .str x.fValue]) (y := [.str ((gt el i).fName), .str ((gt el i).fValue)]) (by kernel_rfl) (by kernel_rfl) eq_TA) (by kernel_rfl) ?_
      refine WpM.run tab_ok 2 ⟨.code x43_17, [.blk 1, .seq x43_20, .loop x43_7, .blk 0, .seq x43_21], (((E19 q el ec ex x pb d4 i d15 d16 d17 d18).set 15 (.agg [.str ((gt el i).fName), .str ((gt el i).fValue)])).set 16 (.bool (x.fName == ((gt el i).fName) && x.fValue == ((gt el i).fValue)))), [], h, none⟩ (by kernel_rfl) ?_
      refine WpM.cond (t := (x.fName == ((gt el i).fName) && x.fValue == ((gt el i).fValue))) (by kernel_rfl) (fun c102 => ?_) (fun c102 => ?_)
      · skip
        refine WpM.run tab_ok 12 ⟨.done .ret, [], (((((E19 q el ec ex x pb d4 i d15 d16 d17 d18).set 4 (.int .i64 i)).set 15 (.agg [.str ((gt el i).fName), .str ((gt el i).fValue)])).set 16 (.bool (x.fName == ((gt el i).fName) && x.fValue == ((gt el i).fValue)))).set 17 (.int .i64 i)), [], h, none⟩ (by kernel_rfl) ?_
        refine WpM.ret (.int .i64 i) h (by kernel_rfl) (by kernel_rfl) ?_
        exact ⟨hX, _, rfl, by rw [hA9, inFrom_step h0i (by omega), beqA, c102, Bool.true_or]; exact decide_eq_true h0i⟩
      · skip
        refine WpM.run tab_ok 4 ⟨.ops (p43_20_0 :: o43_20.drop 1), [.loop x43_7, .blk 0, .seq x43_21], (((E19 q el ec ex x pb d4 i d15 d16 d17 d18).set 15 (.agg [.str ((gt el i).fName), .str ((gt el i).fValue)])).set 16 (.bool (x.fName == ((gt el i).fName) && x.fValue == ((gt el i).fValue)))), [], h, none⟩ (by kernel_rfl) ?_
        refine WpM.op (.int .i64 (i + 1)) _ (by kernel_rfl) (arith_add (by kernel_rfl) (by kernel_rfl) (by omega)) ?_
        refine WpM.run tab_ok 3 ⟨.code x43_7, [.loop x43_7, .blk 0, .seq x43_21], (.slice (some (.new q 0)) el.length ec ex :: .agg [.str x.fName, .str x.fValue] :: U :: .ptr (some (.new pb 0)) :: d4 :: .int .i64 i :: .slice (some (.new q 0)) el.length ec ex :: .int .i64 ((el.length : Int)) :: .int .i64 (i + 1) :: .bool (decide (i < ((el.length : Int)))) :: .int .i64 i :: .agg [.str x.fName, .str x.fValue] :: .slice (some (.new q 0)) el.length ec ex :: .int .i64 i :: .ptr (some (.new q (0 + i.toNat * 2))) :: .agg [.str ((gt el i).fName), .str ((gt el i).fValue)] :: .bool (x.fName == ((gt el i).fName) && x.fValue == ((gt el i).fValue)) :: d17 :: .int .i64 (i + 1) :: []), [], h, none⟩ (by kernel_rfl) ?_
        refine ih _ ?_ _ h _ _ _ _ _ _ _ _ _ _ _ _ rfl ?_ ?_ ?_ ?_ ?_ ?_
        · omega
        · omega
        · omega
        · exact hX
        · exact gb
        · exact lb
        · rw [hA9, inFrom_step h0i (by omega), beqA, c102, Bool.false_or]
    · have c101p := dec_f c101
      refine WpM.run tab_ok 11 ⟨.done .ret, [], ((E18 q el ec ex x pb d4 d5 i d10 d11 d12 d13 d14 d15 d16 d17 d18).set 4 (.int .i64 (-1))), [], h, none⟩ (by kernel_rfl) ?_
      refine WpM.ret (.int .i64 (-1)) h (by kernel_rfl) (by kernel_rfl) ?_
      exact ⟨hX, _, rfl, by rw [hA9, inFrom_end (by omega)]; rfl⟩
theorem ixnew_ok {W : World} {q : Nat} {el : List T54} {ec : Nat} {ex : Bool} {x : T54} {h0 : H} (hb : el.length * 32 ≤ 140737488351232) (lq : q < h0.nx) (hq : h0.get q = some (.cells (rv T54.cells el) 54)) : WpF Try.prog W prim1 43 [.slice (some (.new q 0)) el.length ec ex, .agg [.str x.fName, .str x.fValue]] h0 (fun v h' => HX h0 h' ∧ ∃ k : Int, v = .int .i64 k ∧ decide (k ≥ 0) = el.contains x) := by
  refine WpF.m tab_ok (by kernel_rfl) rfl ?_
  refine WpM.cfg (c' := ⟨.code x43_0, [], (.slice (some (.new q 0)) el.length ec ex :: .agg [.str x.fName, .str x.fValue] :: us 17), [], h0, none⟩) (by kernel_rfl) ?_
  refine WpM.run tab_ok 2 ⟨.ops (p43_1_0 :: o43_1.drop 1), [.seq x43_2], (.slice (some (.new q 0)) el.length ec ex :: .agg [.str x.fName, .str x.fValue] :: us 17), [], h0, none⟩ (by kernel_rfl) ?_
  refine WpM.opA (fun p => .ptr (some (.new p 0))) (.cells [.str x.fName, .str x.fValue] 54) (by kernel_rfl) (by kernel_rfl) (fun p1 h2 a3 => ?_)
  refine WpM.run tab_ok 13 ⟨.code x43_7, [.loop x43_7, .blk 0, .seq x43_21], (.slice (some (.new q 0)) el.length ec ex :: .agg [.str x.fName, .str x.fValue] :: U :: .ptr (some (.new p1 0)) :: .int .i64 0 :: U :: .slice (some (.new q 0)) el.length ec ex :: .int .i64 ((el.length : Int)) :: .int .i64 0 :: us 10), [], h2, none⟩ (by kernel_rfl) ?_
  exact ixnew_loop hb lq hq _ 0 _ _ _ _ _ _ _ _ _ _ _ _ _ rfl (by omega) (by omega) ((HX.refl h0).alloc a3) a3.get a3.lt rfl
end Go.Proofs.Ytplcallbihapdaa.Dg
