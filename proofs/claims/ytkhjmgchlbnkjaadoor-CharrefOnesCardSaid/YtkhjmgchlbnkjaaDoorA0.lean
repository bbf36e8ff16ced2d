/-
 The code of chapter 06; answers given; a trie made of names.
-/
import Derived.Test.YtkhjmgchlbnkjaaDoorChecked
import Derived.Test.YtkhjmgchlbnkjaaDoorShelf
import Derived.Test.YtkhjmgchlbnkjaaDoorDgS40
set_option linter.unusedVariables false
set_option linter.unusedSimpArgs false
namespace Go.Proofs.YtkhjmgchlbnkjaaDoor.Dg
open Go Go.RowKit
set_option maxRecDepth 20000
set_option maxHeartbeats 8000000
def ss (l : List V) : List (Nat × V) → List V
 | [] => l
 | (i, v) :: r => ss (l.set i v) r
abbrev iv (n : Int) : V := .int .i64 n
abbrev nw (p : Nat) : Option Ad := some (.new p 0)
def o8_1 : List RO := [⟨none, some 2, .assign (.const (.int .i64 (0)))⟩, ⟨none, some 3, .assign (.const (.int .i64 (0)))⟩]
def x8_1 : RC := .ops o8_1
def p8_5_3 : RO := ⟨some (some 7, false), some 8, .move (.tmp 0)⟩
def p8_5_7 : RO := ⟨some (some 11, false), some 12, .move (.tmp 0)⟩
def p8_5_10 : RO := ⟨some (some 14, true), some 15, .move (.tmp 0)⟩
def o8_5 : List RO := [⟨none, some 5, .move (.tmp 0)⟩, ⟨none, some 6, .binOp .leq 3 (.tmp 5) (.const (.int .i64 (0))) 3⟩, ⟨none, some 7, .move (.tmp 6)⟩, p8_5_3, ⟨some (some 7, false), some 9, .binOp .gtr 3 (.tmp 8) (.const (.int .i64 (1114111))) 3⟩, ⟨none, some 10, .pick (.tmp 7) (.const (.bool true)) (.tmp 9)⟩, ⟨none, some 11, .move (.tmp 10)⟩, p8_5_7, ⟨some (some 11, false), some 13, .binOp .geq 3 (.tmp 12) (.const (.int .i64 (55296))) 3⟩, ⟨some (some 11, false), some 14, .move (.tmp 13)⟩, p8_5_10, ⟨some (some 14, true), some 16, .binOp .leq 3 (.tmp 15) (.const (.int .i64 (57343))) 3⟩, ⟨some (some 11, false), some 17, .pick (.tmp 14) (.tmp 16) (.const (.bool false))⟩, ⟨none, some 18, .pick (.tmp 11) (.const (.bool true)) (.tmp 17)⟩, ⟨none, some 4, .assign (.tmp 18)⟩]
def x8_5 : RC := .ops o8_5
def o8_8 : List RO := [⟨none, some 2, .assign (.const (.int .i64 (65533)))⟩, ⟨none, some 3, .assign (.const (.int .i64 (20)))⟩]
def x8_8 : RC := .ops o8_8
def x8_7 : RC := .seq x8_8 .ret
def p8_10_3 : RO := ⟨some (some 22, true), some 23, .move (.tmp 0)⟩
def o8_10 : List RO := [⟨none, some 20, .move (.tmp 0)⟩, ⟨none, some 21, .binOp .geq 3 (.tmp 20) (.const (.int .i64 (128))) 3⟩, ⟨none, some 22, .move (.tmp 21)⟩, p8_10_3, ⟨some (some 22, true), some 24, .binOp .lss 3 (.tmp 23) (.const (.int .i64 (160))) 3⟩, ⟨none, some 25, .pick (.tmp 22) (.tmp 24) (.const (.bool false))⟩, ⟨none, some 19, .assign (.tmp 25)⟩]
def x8_10 : RC := .ops o8_10
def p8_13_2 : RO := ⟨none, some 28, .binOp .sub 3 (.tmp 27) (.const (.int .i64 (128))) 3⟩
def p8_13_3 : RO := ⟨none, some 29, .indexAddr 35 (.tmp 26) (.tmp 28)⟩
def p8_13_4 : RO := ⟨none, some 30, .load 21 (.tmp 29)⟩
def p8_13_5 : RO := ⟨none, some 31, .convert 21 3 (.tmp 30)⟩
def o8_13 : List RO := [⟨none, some 26, .call ⟨.value (.func 19), #[], #[]⟩⟩, ⟨none, some 27, .move (.tmp 0)⟩, p8_13_2, p8_13_3, p8_13_4, p8_13_5, ⟨none, some 2, .assign (.tmp 31)⟩, ⟨none, some 3, .assign (.const (.int .i64 (20)))⟩]
def x8_13 : RC := .ops o8_13
def x8_12 : RC := .seq x8_13 .ret
def p8_16_3 : RO := ⟨some (some 35, true), some 36, .move (.tmp 0)⟩
def p8_16_7 : RO := ⟨some (some 39, true), some 40, .move (.tmp 0)⟩
def p8_16_11 : RO := ⟨some (some 43, true), some 44, .move (.tmp 0)⟩
def o8_16 : List RO := [⟨none, some 33, .move (.tmp 0)⟩, ⟨none, some 34, .binOp .lss 3 (.tmp 33) (.const (.int .i64 (32))) 3⟩, ⟨none, some 35, .move (.tmp 34)⟩, p8_16_3, ⟨some (some 35, true), some 37, .binOp .neq 3 (.tmp 36) (.const (.int .i64 (9))) 3⟩, ⟨none, some 38, .pick (.tmp 35) (.tmp 37) (.const (.bool false))⟩, ⟨none, some 39, .move (.tmp 38)⟩, p8_16_7, ⟨some (some 39, true), some 41, .binOp .neq 3 (.tmp 40) (.const (.int .i64 (10))) 3⟩, ⟨none, some 42, .pick (.tmp 39) (.tmp 41) (.const (.bool false))⟩, ⟨none, some 43, .move (.tmp 42)⟩, p8_16_11, ⟨some (some 43, true), some 45, .binOp .neq 3 (.tmp 44) (.const (.int .i64 (12))) 3⟩, ⟨none, some 46, .pick (.tmp 43) (.tmp 45) (.const (.bool false))⟩, ⟨none, some 32, .assign (.tmp 46)⟩]
def x8_16 : RC := .ops o8_16
def o8_19 : List RO := [⟨none, some 47, .move (.tmp 0)⟩, ⟨none, some 48, .binOp .eql 3 (.tmp 47) (.const (.int .i64 (127))) 3⟩, ⟨none, some 32, .assign (.tmp 48)⟩]
def x8_19 : RC := .ops o8_19
def p8_22_3 : RO := ⟨some (some 51, true), some 52, .move (.tmp 0)⟩
def o8_22 : List RO := [⟨none, some 49, .move (.tmp 0)⟩, ⟨none, some 50, .binOp .geq 3 (.tmp 49) (.const (.int .i64 (64976))) 3⟩, ⟨none, some 51, .move (.tmp 50)⟩, p8_22_3, ⟨some (some 51, true), some 53, .binOp .leq 3 (.tmp 52) (.const (.int .i64 (65007))) 3⟩, ⟨none, some 54, .pick (.tmp 51) (.tmp 53) (.const (.bool false))⟩, ⟨none, some 32, .assign (.tmp 54)⟩]
def x8_22 : RC := .ops o8_22
def o8_24 : List RO := [⟨none, some 55, .move (.tmp 0)⟩, ⟨none, some 56, .binOp .and 3 (.tmp 55) (.const (.int .i64 (65534))) 3⟩, ⟨none, some 57, .binOp .eql 3 (.tmp 56) (.const (.int .i64 (65534))) 3⟩, ⟨none, some 32, .assign (.tmp 57)⟩]
def x8_24 : RC := .ops o8_24
def x8_23 : RC := .cond (.tmp 32) .skip x8_24
def x8_21 : RC := .seq x8_22 x8_23
def x8_20 : RC := .cond (.tmp 32) .skip x8_21
def x8_18 : RC := .seq x8_19 x8_20
def x8_17 : RC := .cond (.tmp 32) .skip x8_18
def x8_15 : RC := .seq x8_16 x8_17
def o8_27 : List RO := [⟨none, some 58, .move (.tmp 0)⟩, ⟨none, some 2, .assign (.tmp 58)⟩, ⟨none, some 3, .assign (.const (.int .i64 (20)))⟩]
def x8_27 : RC := .ops o8_27
def x8_26 : RC := .seq x8_27 .ret
def x8_25 : RC := .cond (.tmp 32) x8_26 .skip
def x8_14 : RC := .seq x8_15 x8_25
def x8_11 : RC := .cond (.tmp 19) x8_12 x8_14
def x8_9 : RC := .seq x8_10 x8_11
def x8_6 : RC := .cond (.tmp 4) x8_7 x8_9
def x8_4 : RC := .seq x8_5 x8_6
def x8_3 : RC := .block 0 x8_4
def o8_29 : List RO := [⟨none, some 59, .move (.tmp 0)⟩, ⟨none, some 2, .assign (.tmp 59)⟩, ⟨none, some 3, .assign (.const (.int .i64 (0)))⟩]
def x8_29 : RC := .ops o8_29
def x8_28 : RC := .seq x8_29 .ret
def x8_2 : RC := .seq x8_3 x8_28
def x8_0 : RC := .seq x8_1 x8_2
theorem x8_eq : Tryd.f8.body.map rc = some x8_0 := by kernel_rfl
def o9_1 : List RO := [⟨none, some 2, .assign (.const (.int .i64 (0)))⟩, ⟨none, some 3, .assign (.const (.int .i64 (0)))⟩]
def x9_1 : RC := .ops o9_1
def p9_4_3 : RO := ⟨some (some 7, false), some 8, .move (.tmp 0)⟩
def p9_4_4 : RO := ⟨some (some 7, false), some 9, .call ⟨.value (.func 20), #[(.tmp 8)], #[3]⟩⟩
def o9_4 : List RO := [⟨none, some 5, .move (.tmp 0)⟩, ⟨none, some 6, .binOp .leq 3 (.tmp 5) (.const (.int .i64 (0))) 3⟩, ⟨none, some 7, .move (.tmp 6)⟩, p9_4_3, p9_4_4, ⟨some (some 7, false), some 10, .unOp .not 4 (.tmp 9)⟩, ⟨none, some 11, .pick (.tmp 7) (.const (.bool true)) (.tmp 10)⟩]
def x9_4 : RC := .ops o9_4
def o9_7 : List RO := [⟨none, some 2, .assign (.const (.int .i64 (65533)))⟩, ⟨none, some 3, .assign (.const (.int .i64 (20)))⟩]
def x9_7 : RC := .ops o9_7
def x9_6 : RC := .seq x9_7 .ret
def x9_5 : RC := .cond (.tmp 11) x9_6 .skip
def x9_3 : RC := .seq x9_4 x9_5
def p9_10_3 : RO := ⟨some (some 14, true), some 15, .move (.tmp 0)⟩
def o9_10 : List RO := [⟨none, some 12, .move (.tmp 0)⟩, ⟨none, some 13, .binOp .geq 3 (.tmp 12) (.const (.int .i64 (128))) 3⟩, ⟨none, some 14, .move (.tmp 13)⟩, p9_10_3, ⟨some (some 14, true), some 16, .binOp .leq 3 (.tmp 15) (.const (.int .i64 (159))) 3⟩, ⟨none, some 17, .pick (.tmp 14) (.tmp 16) (.const (.bool false))⟩]
def x9_10 : RC := .ops o9_10
def p9_13_0 : RO := ⟨none, some 18, .buildSlice 26 32 #[(0, (.const (.int .i64 (8364)))), (1, (.const (.int .i64 (129)))), (2, (.const (.int .i64 (8218)))), (3, (.const (.int .i64 (402)))), (4, (.const (.int .i64 (8222)))), (5, (.const (.int .i64 (8230)))), (6, (.const (.int .i64 (8224)))), (7, (.const (.int .i64 (8225)))), (8, (.const (.int .i64 (710)))), (9, (.const (.int .i64 (8240)))), (10, (.const (.int .i64 (352)))), (11, (.const (.int .i64 (8249)))), (12, (.const (.int .i64 (338)))), (13, (.const (.int .i64 (141)))), (14, (.const (.int .i64 (381)))), (15, (.const (.int .i64 (143)))), (16, (.const (.int .i64 (144)))), (17, (.const (.int .i64 (8216)))), (18, (.const (.int .i64 (8217)))), (19, (.const (.int .i64 (8220)))), (20, (.const (.int .i64 (8221)))), (21, (.const (.int .i64 (8226)))), (22, (.const (.int .i64 (8211)))), (23, (.const (.int .i64 (8212)))), (24, (.const (.int .i64 (732)))), (25, (.const (.int .i64 (8482)))), (26, (.const (.int .i64 (353)))), (27, (.const (.int .i64 (8250)))), (28, (.const (.int .i64 (339)))), (29, (.const (.int .i64 (157)))), (30, (.const (.int .i64 (382)))), (31, (.const (.int .i64 (376))))]⟩
def o9_13 : List RO := [p9_13_0, ⟨none, some 4, .assign (.tmp 18)⟩]
def x9_13 : RC := .ops o9_13
def p9_15_2 : RO := ⟨none, some 21, .binOp .sub 3 (.tmp 20) (.const (.int .i64 (128))) 3⟩
def p9_15_3 : RO := ⟨none, some 22, .indexAddr 26 (.tmp 19) (.tmp 21)⟩
def p9_15_4 : RO := ⟨none, some 23, .load 3 (.tmp 22)⟩
def o9_15 : List RO := [⟨none, some 19, .move (.tmp 4)⟩, ⟨none, some 20, .move (.tmp 0)⟩, p9_15_2, p9_15_3, p9_15_4, ⟨none, some 2, .assign (.tmp 23)⟩, ⟨none, some 3, .assign (.const (.int .i64 (20)))⟩]
def x9_15 : RC := .ops o9_15
def x9_14 : RC := .seq x9_15 .ret
def x9_12 : RC := .seq x9_13 x9_14
def x9_11 : RC := .cond (.tmp 17) x9_12 .skip
def x9_9 : RC := .seq x9_10 x9_11
def p9_18_1 : RO := ⟨none, some 25, .call ⟨.value (.func 21), #[(.tmp 24)], #[3]⟩⟩
def p9_18_4 : RO := ⟨some (some 27, false), some 28, .move (.tmp 0)⟩
def o9_18 : List RO := [⟨none, some 24, .move (.tmp 0)⟩, p9_18_1, ⟨none, some 26, .binOp .neq 3 (.tmp 25) (.const (.int .i64 (0))) 3⟩, ⟨none, some 27, .move (.tmp 26)⟩, p9_18_4, ⟨some (some 27, false), some 29, .binOp .eql 3 (.tmp 28) (.const (.int .i64 (13))) 3⟩, ⟨none, some 30, .pick (.tmp 27) (.const (.bool true)) (.tmp 29)⟩]
def x9_18 : RC := .ops o9_18
def o9_21 : List RO := [⟨none, some 31, .move (.tmp 0)⟩, ⟨none, some 2, .assign (.tmp 31)⟩, ⟨none, some 3, .assign (.const (.int .i64 (20)))⟩]
def x9_21 : RC := .ops o9_21
def x9_20 : RC := .seq x9_21 .ret
def x9_19 : RC := .cond (.tmp 30) x9_20 .skip
def x9_17 : RC := .seq x9_18 x9_19
def o9_23 : List RO := [⟨none, some 32, .move (.tmp 0)⟩, ⟨none, some 2, .assign (.tmp 32)⟩, ⟨none, some 3, .assign (.const (.int .i64 (0)))⟩]
def x9_23 : RC := .ops o9_23
def x9_22 : RC := .seq x9_23 .ret
def x9_16 : RC := .seq x9_17 x9_22
def x9_8 : RC := .seq x9_9 x9_16
def x9_2 : RC := .seq x9_3 x9_8
def x9_0 : RC := .seq x9_1 x9_2
theorem x9_eq : Tryd.f9.body.map rc = some x9_0 := by kernel_rfl
def o10_1 : List RO := [⟨none, some 0, .assign (.const (.bool false))⟩]
def x10_1 : RC := .ops o10_1
def o10_3 : List RO := [⟨none, some 20, .call ⟨.value (.func 11), #[(.const (.string ⟨#[38, 97, 109, 112, 59, 120]⟩)), (.const (.bool false))], #[9, 4]⟩⟩, ⟨none, some 19, .move (.tmp 20)⟩, ⟨none, some 21, .extract (.tmp 19) 0⟩, ⟨none, some 22, .extract (.tmp 19) 1⟩, ⟨none, some 23, .extract (.tmp 19) 2⟩, ⟨none, some 1, .assign (.tmp 21)⟩, ⟨none, some 2, .assign (.tmp 22)⟩, ⟨none, some 3, .assign (.tmp 23)⟩]
def x10_3 : RC := .ops o10_3
def o10_5 : List RO := [⟨none, some 25, .call ⟨.value (.func 11), #[(.const (.string ⟨#[38, 97, 109, 112, 120]⟩)), (.const (.bool false))], #[9, 4]⟩⟩, ⟨none, some 24, .move (.tmp 25)⟩, ⟨none, some 26, .extract (.tmp 24) 0⟩, ⟨none, some 27, .extract (.tmp 24) 1⟩, ⟨none, some 28, .extract (.tmp 24) 2⟩, ⟨none, some 4, .assign (.tmp 26)⟩, ⟨none, some 5, .assign (.tmp 27)⟩, ⟨none, some 6, .assign (.tmp 28)⟩]
def x10_5 : RC := .ops o10_5
def o10_7 : List RO := [⟨none, some 30, .call ⟨.value (.func 11), #[(.const (.string ⟨#[38, 97, 109, 112, 120]⟩)), (.const (.bool true))], #[9, 4]⟩⟩, ⟨none, some 29, .move (.tmp 30)⟩, ⟨none, some 31, .extract (.tmp 29) 0⟩, ⟨none, some 32, .extract (.tmp 29) 1⟩, ⟨none, some 33, .extract (.tmp 29) 2⟩, ⟨none, some 7, .assign (.tmp 31)⟩, ⟨none, some 8, .assign (.tmp 32)⟩, ⟨none, some 9, .assign (.tmp 33)⟩]
def x10_7 : RC := .ops o10_7
def o10_9 : List RO := [⟨none, some 35, .call ⟨.value (.func 11), #[(.const (.string ⟨#[38, 35, 120, 56, 48, 59]⟩)), (.const (.bool false))], #[9, 4]⟩⟩, ⟨none, some 34, .move (.tmp 35)⟩, ⟨none, some 36, .extract (.tmp 34) 0⟩, ⟨none, some 37, .extract (.tmp 34) 1⟩, ⟨none, some 38, .extract (.tmp 34) 2⟩, ⟨none, some 10, .assign (.tmp 36)⟩, ⟨none, some 11, .assign (.tmp 37)⟩, ⟨none, some 12, .assign (.tmp 38)⟩]
def x10_9 : RC := .ops o10_9
def o10_11 : List RO := [⟨none, some 40, .call ⟨.value (.func 11), #[(.const (.string ⟨#[38, 35, 59]⟩)), (.const (.bool false))], #[9, 4]⟩⟩, ⟨none, some 39, .move (.tmp 40)⟩, ⟨none, some 41, .extract (.tmp 39) 0⟩, ⟨none, some 42, .extract (.tmp 39) 1⟩, ⟨none, some 43, .extract (.tmp 39) 2⟩, ⟨none, some 13, .assign (.tmp 41)⟩, ⟨none, some 14, .assign (.tmp 42)⟩, ⟨none, some 15, .assign (.tmp 43)⟩]
def x10_11 : RC := .ops o10_11
def o10_13 : List RO := [⟨none, some 45, .call ⟨.value (.func 11), #[(.const (.string ⟨#[38, 97, 109, 59]⟩)), (.const (.bool false))], #[9, 4]⟩⟩, ⟨none, some 44, .move (.tmp 45)⟩, ⟨none, some 46, .extract (.tmp 44) 0⟩, ⟨none, some 47, .extract (.tmp 44) 1⟩, ⟨none, some 48, .extract (.tmp 44) 2⟩, ⟨none, some 16, .assign (.tmp 46)⟩, ⟨none, some 17, .assign (.tmp 47)⟩, ⟨none, some 18, .assign (.tmp 48)⟩]
def x10_13 : RC := .ops o10_13
def p10_15_27 : RO := ⟨some (some 73, true), some 76, .load 3 (.tmp 75)⟩
def p10_15_55 : RO := ⟨some (some 101, true), some 104, .load 3 (.tmp 103)⟩
def p10_15_66 : RO := ⟨some (some 112, true), some 115, .load 3 (.tmp 114)⟩
def o10_15 : List RO := [⟨none, some 49, .move (.tmp 1)⟩, ⟨none, some 50, .binOp .eql 3 (.tmp 49) (.const (.int .i64 (38))) 3⟩, ⟨none, some 51, .move (.tmp 50)⟩, ⟨some (some 51, true), some 52, .move (.tmp 2)⟩, ⟨some (some 51, true), some 53, .binOp .eql 3 (.tmp 52) (.const (.int .i64 (5))) 3⟩, ⟨none, some 54, .pick (.tmp 51) (.tmp 53) (.const (.bool false))⟩, ⟨none, some 55, .move (.tmp 54)⟩, ⟨some (some 55, true), some 56, .move (.tmp 3)⟩, ⟨some (some 55, true), some 57, .call ⟨.builtin .len, #[(.tmp 56)], #[26]⟩⟩, ⟨some (some 55, true), some 58, .binOp .eql 3 (.tmp 57) (.const (.int .i64 (0))) 3⟩, ⟨none, some 59, .pick (.tmp 55) (.tmp 58) (.const (.bool false))⟩, ⟨none, some 60, .move (.tmp 59)⟩, ⟨some (some 60, true), some 61, .move (.tmp 4)⟩, ⟨some (some 60, true), some 62, .binOp .eql 3 (.tmp 61) (.const (.int .i64 (38))) 3⟩, ⟨none, some 63, .pick (.tmp 60) (.tmp 62) (.const (.bool false))⟩, ⟨none, some 64, .move (.tmp 63)⟩, ⟨some (some 64, true), some 65, .move (.tmp 5)⟩, ⟨some (some 64, true), some 66, .binOp .eql 3 (.tmp 65) (.const (.int .i64 (4))) 3⟩, ⟨none, some 67, .pick (.tmp 64) (.tmp 66) (.const (.bool false))⟩, ⟨none, some 68, .move (.tmp 67)⟩, ⟨some (some 68, true), some 69, .move (.tmp 6)⟩, ⟨some (some 68, true), some 70, .call ⟨.builtin .len, #[(.tmp 69)], #[26]⟩⟩, ⟨some (some 68, true), some 71, .binOp .eql 3 (.tmp 70) (.const (.int .i64 (1))) 3⟩, ⟨none, some 72, .pick (.tmp 68) (.tmp 71) (.const (.bool false))⟩, ⟨none, some 73, .move (.tmp 72)⟩, ⟨some (some 73, true), some 74, .move (.tmp 6)⟩, ⟨some (some 73, true), some 75, .indexAddr 26 (.tmp 74) (.const (.int .i64 (0)))⟩, p10_15_27, ⟨some (some 73, true), some 77, .binOp .eql 3 (.tmp 76) (.const (.int .i64 (18))) 3⟩, ⟨none, some 78, .pick (.tmp 73) (.tmp 77) (.const (.bool false))⟩, ⟨none, some 79, .move (.tmp 78)⟩, ⟨some (some 79, true), some 80, .move (.tmp 8)⟩, ⟨some (some 79, true), some 81, .binOp .eql 3 (.tmp 80) (.const (.int .i64 (0))) 3⟩, ⟨none, some 82, .pick (.tmp 79) (.tmp 81) (.const (.bool false))⟩, ⟨none, some 83, .move (.tmp 82)⟩, ⟨some (some 83, true), some 84, .move (.tmp 10)⟩, ⟨some (some 83, true), some 85, .binOp .eql 3 (.tmp 84) (.const (.int .i64 (8364))) 3⟩, ⟨none, some 86, .pick (.tmp 83) (.tmp 85) (.const (.bool false))⟩, ⟨none, some 87, .move (.tmp 86)⟩, ⟨some (some 87, true), some 88, .move (.tmp 11)⟩, ⟨some (some 87, true), some 89, .binOp .eql 3 (.tmp 88) (.const (.int .i64 (6))) 3⟩, ⟨none, some 90, .pick (.tmp 87) (.tmp 89) (.const (.bool false))⟩, ⟨none, some 91, .move (.tmp 90)⟩, ⟨some (some 91, true), some 92, .move (.tmp 12)⟩, ⟨some (some 91, true), some 93, .call ⟨.builtin .len, #[(.tmp 92)], #[26]⟩⟩, ⟨some (some 91, true), some 94, .binOp .eql 3 (.tmp 93) (.const (.int .i64 (1))) 3⟩, ⟨none, some 95, .pick (.tmp 91) (.tmp 94) (.const (.bool false))⟩, ⟨none, some 96, .move (.tmp 95)⟩, ⟨some (some 96, true), some 97, .move (.tmp 15)⟩, ⟨some (some 96, true), some 98, .call ⟨.builtin .len, #[(.tmp 97)], #[26]⟩⟩, ⟨some (some 96, true), some 99, .binOp .eql 3 (.tmp 98) (.const (.int .i64 (1))) 3⟩, ⟨none, some 100, .pick (.tmp 96) (.tmp 99) (.const (.bool false))⟩, ⟨none, some 101, .move (.tmp 100)⟩, ⟨some (some 101, true), some 102, .move (.tmp 15)⟩, ⟨some (some 101, true), some 103, .indexAddr 26 (.tmp 102) (.const (.int .i64 (0)))⟩, p10_15_55, ⟨some (some 101, true), some 105, .binOp .eql 3 (.tmp 104) (.const (.int .i64 (20))) 3⟩, ⟨none, some 106, .pick (.tmp 101) (.tmp 105) (.const (.bool false))⟩, ⟨none, some 107, .move (.tmp 106)⟩, ⟨some (some 107, true), some 108, .move (.tmp 18)⟩, ⟨some (some 107, true), some 109, .call ⟨.builtin .len, #[(.tmp 108)], #[26]⟩⟩, ⟨some (some 107, true), some 110, .binOp .eql 3 (.tmp 109) (.const (.int .i64 (1))) 3⟩, ⟨none, some 111, .pick (.tmp 107) (.tmp 110) (.const (.bool false))⟩, ⟨none, some 112, .move (.tmp 111)⟩, ⟨some (some 112, true), some 113, .move (.tmp 18)⟩, ⟨some (some 112, true), some 114, .indexAddr 26 (.tmp 113) (.const (.int .i64 (0)))⟩, p10_15_66, ⟨some (some 112, true), some 116, .binOp .eql 3 (.tmp 115) (.const (.int .i64 (19))) 3⟩, ⟨none, some 117, .pick (.tmp 112) (.tmp 116) (.const (.bool false))⟩, ⟨none, some 118, .move (.tmp 117)⟩, ⟨some (some 118, true), some 119, .call ⟨.value (.func 16), #[(.const (.string ⟨#[97, 60, 38, 98]⟩)), (.const (.bool false))], #[9, 4]⟩⟩, ⟨some (some 118, true), some 120, .binOp .eql 9 (.tmp 119) (.const (.string ⟨#[97, 38, 108, 116, 59, 38, 97, 109, 112, 59, 98]⟩)) 9⟩, ⟨none, some 121, .pick (.tmp 118) (.tmp 120) (.const (.bool false))⟩, ⟨none, some 0, .assign (.tmp 121)⟩]
def x10_15 : RC := .ops o10_15
def x10_14 : RC := .seq x10_15 .ret
def x10_12 : RC := .seq x10_13 x10_14
def x10_10 : RC := .seq x10_11 x10_12
def x10_8 : RC := .seq x10_9 x10_10
def x10_6 : RC := .seq x10_7 x10_8
def x10_4 : RC := .seq x10_5 x10_6
def x10_2 : RC := .seq x10_3 x10_4
def x10_0 : RC := .seq x10_1 x10_2
theorem x10_eq : Tryd.f10.body.map rc = some x10_0 := by kernel_rfl
def o11_1 : List RO := [⟨none, some 4, .assign (.const (.int .i64 (0)))⟩, ⟨none, some 5, .assign (.const (.int .i64 (0)))⟩, ⟨none, some 6, .assign (.const (.slice none 0 0))⟩]
def x11_1 : RC := .ops o11_1
def p11_3_0 : RO := ⟨none, some 7, .call ⟨.value (.func 24), #[], #[]⟩⟩
def p11_3_1 : RO := ⟨none, some 8, .call ⟨.value (.func 23), #[(.tmp 7)], #[41]⟩⟩
def p11_3_4 : RO := ⟨none, some 11, .call ⟨.value (.func 22), #[(.tmp 8), (.tmp 9), (.tmp 10)], #[39, 9, 4]⟩⟩
def o11_3 : List RO := [p11_3_0, p11_3_1, ⟨none, some 9, .move (.tmp 0)⟩, ⟨none, some 10, .move (.tmp 1)⟩, p11_3_4, ⟨none, some 12, .extract (.tmp 11) 0⟩, ⟨none, some 13, .extract (.tmp 11) 1⟩, ⟨none, some 14, .extract (.tmp 11) 2⟩, ⟨none, some 4, .assign (.tmp 12)⟩, ⟨none, some 5, .assign (.tmp 13)⟩, ⟨none, some 6, .assign (.tmp 14)⟩]
def x11_3 : RC := .ops o11_3
def x11_2 : RC := .seq x11_3 .ret
def x11_0 : RC := .seq x11_1 x11_2
theorem x11_eq : Tryd.f11.body.map rc = some x11_0 := by kernel_rfl
def o16_1 : List RO := [⟨none, some 4, .assign (.const (.string ⟨#[]⟩))⟩]
def x16_1 : RC := .ops o16_1
def o16_3 : List RO := [⟨none, some 5, .move (.tmp 0)⟩, ⟨none, some 6, .call ⟨.value (.func 36), #[(.tmp 5), (.const (.string ⟨#[38]⟩)), (.const (.string ⟨#[38, 97, 109, 112, 59]⟩))], #[9, 9, 9]⟩⟩, ⟨none, some 0, .assign (.tmp 6)⟩]
def x16_3 : RC := .ops o16_3
def o16_5 : List RO := [⟨none, some 7, .move (.tmp 0)⟩, ⟨none, some 8, .call ⟨.value (.func 36), #[(.tmp 7), (.const (.string ⟨#[194, 160]⟩)), (.const (.string ⟨#[38, 110, 98, 115, 112, 59]⟩))], #[9, 9, 9]⟩⟩, ⟨none, some 0, .assign (.tmp 8)⟩]
def x16_5 : RC := .ops o16_5
def o16_8 : List RO := [⟨none, some 9, .move (.tmp 1)⟩]
def x16_8 : RC := .ops o16_8
def o16_11 : List RO := [⟨none, some 10, .move (.tmp 0)⟩, ⟨none, some 11, .call ⟨.value (.func 36), #[(.tmp 10), (.const (.string ⟨#[34]⟩)), (.const (.string ⟨#[38, 113, 117, 111, 116, 59]⟩))], #[9, 9, 9]⟩⟩, ⟨none, some 4, .assign (.tmp 11)⟩]
def x16_11 : RC := .ops o16_11
def x16_10 : RC := .seq x16_11 .ret
def x16_9 : RC := .cond (.tmp 9) x16_10 .skip
def x16_7 : RC := .seq x16_8 x16_9
def o16_13 : List RO := [⟨none, some 12, .move (.tmp 0)⟩, ⟨none, some 13, .call ⟨.value (.func 36), #[(.tmp 12), (.const (.string ⟨#[60]⟩)), (.const (.string ⟨#[38, 108, 116, 59]⟩))], #[9, 9, 9]⟩⟩, ⟨none, some 14, .call ⟨.value (.func 36), #[(.tmp 13), (.const (.string ⟨#[62]⟩)), (.const (.string ⟨#[38, 103, 116, 59]⟩))], #[9, 9, 9]⟩⟩, ⟨none, some 4, .assign (.tmp 14)⟩]
def x16_13 : RC := .ops o16_13
def x16_12 : RC := .seq x16_13 .ret
def x16_6 : RC := .seq x16_7 x16_12
def x16_4 : RC := .seq x16_5 x16_6
def x16_2 : RC := .seq x16_3 x16_4
def x16_0 : RC := .seq x16_1 x16_2
theorem x16_eq : Tryd.f16.body.map rc = some x16_0 := by kernel_rfl
def o19_1 : List RO := [⟨none, some 0, .assign (.const (.slice none 0 0))⟩]
def x19_1 : RC := .ops o19_1
def p19_3_0 : RO := ⟨none, some 1, .buildSlice 35 32 #[(0, (.const (.int .i32 (8364)))), (1, (.const (.int .i32 (129)))), (2, (.const (.int .i32 (8218)))), (3, (.const (.int .i32 (402)))), (4, (.const (.int .i32 (8222)))), (5, (.const (.int .i32 (8230)))), (6, (.const (.int .i32 (8224)))), (7, (.const (.int .i32 (8225)))), (8, (.const (.int .i32 (710)))), (9, (.const (.int .i32 (8240)))), (10, (.const (.int .i32 (352)))), (11, (.const (.int .i32 (8249)))), (12, (.const (.int .i32 (338)))), (13, (.const (.int .i32 (141)))), (14, (.const (.int .i32 (381)))), (15, (.const (.int .i32 (143)))), (16, (.const (.int .i32 (144)))), (17, (.const (.int .i32 (8216)))), (18, (.const (.int .i32 (8217)))), (19, (.const (.int .i32 (8220)))), (20, (.const (.int .i32 (8221)))), (21, (.const (.int .i32 (8226)))), (22, (.const (.int .i32 (8211)))), (23, (.const (.int .i32 (8212)))), (24, (.const (.int .i32 (732)))), (25, (.const (.int .i32 (8482)))), (26, (.const (.int .i32 (353)))), (27, (.const (.int .i32 (8250)))), (28, (.const (.int .i32 (339)))), (29, (.const (.int .i32 (157)))), (30, (.const (.int .i32 (382)))), (31, (.const (.int .i32 (376))))]⟩
def o19_3 : List RO := [p19_3_0, ⟨none, some 0, .assign (.tmp 1)⟩]
def x19_3 : RC := .ops o19_3
def x19_2 : RC := .seq x19_3 .ret
def x19_0 : RC := .seq x19_1 x19_2
theorem x19_eq : Tryd.f19.body.map rc = some x19_0 := by kernel_rfl
def o20_1 : List RO := [⟨none, some 2, .assign (.const (.bool false))⟩]
def x20_1 : RC := .ops o20_1
def p20_3_3 : RO := ⟨some (some 5, true), some 6, .move (.tmp 0)⟩
def p20_3_7 : RO := ⟨some (some 9, true), some 10, .move (.tmp 0)⟩
def p20_3_10 : RO := ⟨some (some 12, false), some 13, .move (.tmp 0)⟩
def o20_3 : List RO := [⟨none, some 3, .move (.tmp 0)⟩, ⟨none, some 4, .binOp .geq 3 (.tmp 3) (.const (.int .i64 (0))) 3⟩, ⟨none, some 5, .move (.tmp 4)⟩, p20_3_3, ⟨some (some 5, true), some 7, .binOp .leq 3 (.tmp 6) (.const (.int .i64 (1114111))) 3⟩, ⟨none, some 8, .pick (.tmp 5) (.tmp 7) (.const (.bool false))⟩, ⟨none, some 9, .move (.tmp 8)⟩, p20_3_7, ⟨some (some 9, true), some 11, .binOp .lss 3 (.tmp 10) (.const (.int .i64 (55296))) 3⟩, ⟨some (some 9, true), some 12, .move (.tmp 11)⟩, p20_3_10, ⟨some (some 12, false), some 14, .binOp .gtr 3 (.tmp 13) (.const (.int .i64 (57343))) 3⟩, ⟨some (some 9, true), some 15, .pick (.tmp 12) (.const (.bool true)) (.tmp 14)⟩, ⟨none, some 16, .pick (.tmp 9) (.tmp 15) (.const (.bool false))⟩, ⟨none, some 2, .assign (.tmp 16)⟩]
def x20_3 : RC := .ops o20_3
def x20_2 : RC := .seq x20_3 .ret
def x20_0 : RC := .seq x20_1 x20_2
theorem x20_eq : Tryd.f20.body.map rc = some x20_0 := by kernel_rfl
def o21_1 : List RO := [⟨none, some 2, .assign (.const (.int .i64 (0)))⟩]
def x21_1 : RC := .ops o21_1
def o21_5 : List RO := [⟨none, some 4, .move (.tmp 0)⟩, ⟨none, some 5, .binOp .eql 3 (.tmp 4) (.const (.int .i64 (0))) 3⟩, ⟨none, some 3, .assign (.tmp 5)⟩]
def x21_5 : RC := .ops o21_5
def o21_8 : List RO := [⟨none, some 2, .assign (.const (.int .i64 (2)))⟩]
def x21_8 : RC := .ops o21_8
def x21_7 : RC := .seq x21_8 .ret
def p21_10_3 : RO := ⟨some (some 9, false), some 10, .move (.tmp 0)⟩
def p21_10_7 : RO := ⟨some (some 13, false), some 14, .move (.tmp 0)⟩
def p21_10_11 : RO := ⟨some (some 17, false), some 18, .move (.tmp 0)⟩
def o21_10 : List RO := [⟨none, some 7, .move (.tmp 0)⟩, ⟨none, some 8, .binOp .eql 3 (.tmp 7) (.const (.int .i64 (9))) 3⟩, ⟨none, some 9, .move (.tmp 8)⟩, p21_10_3, ⟨some (some 9, false), some 11, .binOp .eql 3 (.tmp 10) (.const (.int .i64 (10))) 3⟩, ⟨none, some 12, .pick (.tmp 9) (.const (.bool true)) (.tmp 11)⟩, ⟨none, some 13, .move (.tmp 12)⟩, p21_10_7, ⟨some (some 13, false), some 15, .binOp .eql 3 (.tmp 14) (.const (.int .i64 (12))) 3⟩, ⟨none, some 16, .pick (.tmp 13) (.const (.bool true)) (.tmp 15)⟩, ⟨none, some 17, .move (.tmp 16)⟩, p21_10_11, ⟨some (some 17, false), some 19, .binOp .eql 3 (.tmp 18) (.const (.int .i64 (13))) 3⟩, ⟨none, some 20, .pick (.tmp 17) (.const (.bool true)) (.tmp 19)⟩, ⟨none, some 6, .assign (.tmp 20)⟩]
def x21_10 : RC := .ops o21_10
def o21_13 : List RO := [⟨none, some 2, .assign (.const (.int .i64 (0)))⟩]
def x21_13 : RC := .ops o21_13
def x21_12 : RC := .seq x21_13 .ret
def p21_15_3 : RO := ⟨some (some 24, true), some 25, .move (.tmp 0)⟩
def p21_15_7 : RO := ⟨some (some 28, false), some 29, .move (.tmp 0)⟩
def p21_15_10 : RO := ⟨some (some 31, true), some 32, .move (.tmp 0)⟩
def o21_15 : List RO := [⟨none, some 22, .move (.tmp 0)⟩, ⟨none, some 23, .binOp .geq 3 (.tmp 22) (.const (.int .i64 (1))) 3⟩, ⟨none, some 24, .move (.tmp 23)⟩, p21_15_3, ⟨some (some 24, true), some 26, .binOp .leq 3 (.tmp 25) (.const (.int .i64 (31))) 3⟩, ⟨none, some 27, .pick (.tmp 24) (.tmp 26) (.const (.bool false))⟩, ⟨none, some 28, .move (.tmp 27)⟩, p21_15_7, ⟨some (some 28, false), some 30, .binOp .geq 3 (.tmp 29) (.const (.int .i64 (127))) 3⟩, ⟨some (some 28, false), some 31, .move (.tmp 30)⟩, p21_15_10, ⟨some (some 31, true), some 33, .binOp .leq 3 (.tmp 32) (.const (.int .i64 (159))) 3⟩, ⟨some (some 28, false), some 34, .pick (.tmp 31) (.tmp 33) (.const (.bool false))⟩, ⟨none, some 35, .pick (.tmp 28) (.const (.bool true)) (.tmp 34)⟩, ⟨none, some 21, .assign (.tmp 35)⟩]
def x21_15 : RC := .ops o21_15
def o21_18 : List RO := [⟨none, some 2, .assign (.const (.int .i64 (3)))⟩]
def x21_18 : RC := .ops o21_18
def x21_17 : RC := .seq x21_18 .ret
def p21_20_3 : RO := ⟨some (some 39, true), some 40, .move (.tmp 0)⟩
def p21_20_7 : RO := ⟨some (some 43, false), some 44, .move (.tmp 0)⟩
def p21_20_10 : RO := ⟨some (some 46, true), some 47, .move (.tmp 0)⟩
def p21_20_14 : RO := ⟨some (some 50, false), some 51, .move (.tmp 0)⟩
def o21_20 : List RO := [⟨none, some 37, .move (.tmp 0)⟩, ⟨none, some 38, .binOp .geq 3 (.tmp 37) (.const (.int .i64 (64976))) 3⟩, ⟨none, some 39, .move (.tmp 38)⟩, p21_20_3, ⟨some (some 39, true), some 41, .binOp .leq 3 (.tmp 40) (.const (.int .i64 (65007))) 3⟩, ⟨none, some 42, .pick (.tmp 39) (.tmp 41) (.const (.bool false))⟩, ⟨none, some 43, .move (.tmp 42)⟩, p21_20_7, ⟨some (some 43, false), some 45, .binOp .geq 3 (.tmp 44) (.const (.int .i64 (0))) 3⟩, ⟨some (some 43, false), some 46, .move (.tmp 45)⟩, p21_20_10, ⟨some (some 46, true), some 48, .binOp .and 3 (.tmp 47) (.const (.int .i64 (65535))) 3⟩, ⟨some (some 46, true), some 49, .binOp .eql 3 (.tmp 48) (.const (.int .i64 (65534))) 3⟩, ⟨some (some 46, true), some 50, .move (.tmp 49)⟩, p21_20_14, ⟨some (some 50, false), some 52, .binOp .and 3 (.tmp 51) (.const (.int .i64 (65535))) 3⟩, ⟨some (some 50, false), some 53, .binOp .eql 3 (.tmp 52) (.const (.int .i64 (65535))) 3⟩, ⟨some (some 46, true), some 54, .pick (.tmp 50) (.const (.bool true)) (.tmp 53)⟩, ⟨some (some 43, false), some 55, .pick (.tmp 46) (.tmp 54) (.const (.bool false))⟩, ⟨none, some 56, .pick (.tmp 43) (.const (.bool true)) (.tmp 55)⟩, ⟨none, some 36, .assign (.tmp 56)⟩]
def x21_20 : RC := .ops o21_20
def o21_23 : List RO := [⟨none, some 2, .assign (.const (.int .i64 (4)))⟩]
def x21_23 : RC := .ops o21_23
def x21_22 : RC := .seq x21_23 .ret
def x21_21 : RC := .cond (.tmp 36) x21_22 .skip
def x21_19 : RC := .seq x21_20 x21_21
def x21_16 : RC := .cond (.tmp 21) x21_17 x21_19
def x21_14 : RC := .seq x21_15 x21_16
def x21_11 : RC := .cond (.tmp 6) x21_12 x21_14
def x21_9 : RC := .seq x21_10 x21_11
def x21_6 : RC := .cond (.tmp 3) x21_7 x21_9
def x21_4 : RC := .seq x21_5 x21_6
def x21_3 : RC := .block 0 x21_4
def o21_25 : List RO := [⟨none, some 2, .assign (.const (.int .i64 (0)))⟩]
def x21_25 : RC := .ops o21_25
def x21_24 : RC := .seq x21_25 .ret
def x21_2 : RC := .seq x21_3 x21_24
def x21_0 : RC := .seq x21_1 x21_2
theorem x21_eq : Tryd.f21.body.map rc = some x21_0 := by kernel_rfl
def o22_1 : List RO := [⟨none, some 6, .assign (.const (.int .i64 (0)))⟩, ⟨none, some 7, .assign (.const (.int .i64 (0)))⟩, ⟨none, some 8, .assign (.const (.slice none 0 0))⟩]
def x22_1 : RC := .ops o22_1
def o22_4 : List RO := [⟨none, some 12, .move (.tmp 1)⟩, ⟨none, some 13, .call ⟨.value (.func 38), #[(.tmp 12), (.const (.string ⟨#[38]⟩))], #[9, 9]⟩⟩, ⟨none, some 14, .unOp .not 4 (.tmp 13)⟩]
def x22_4 : RC := .ops o22_4
def o22_7 : List RO := [⟨none, some 6, .assign (.const (.int .i64 (0)))⟩, ⟨none, some 7, .assign (.const (.int .i64 (0)))⟩, ⟨none, some 8, .assign (.const (.slice none 0 0))⟩]
def x22_7 : RC := .ops o22_7
def x22_6 : RC := .seq x22_7 .ret
def x22_5 : RC := .cond (.tmp 14) x22_6 .skip
def x22_3 : RC := .seq x22_4 x22_5
def o22_10 : List RO := [⟨none, some 15, .move (.tmp 1)⟩, ⟨none, some 16, .call ⟨.value (.func 38), #[(.tmp 15), (.const (.string ⟨#[38, 35]⟩))], #[9, 9]⟩⟩]
def x22_10 : RC := .ops o22_10
def p22_13_1 : RO := ⟨none, some 18, .call ⟨.value (.func 39), #[(.tmp 17)], #[9]⟩⟩
def o22_13 : List RO := [⟨none, some 17, .move (.tmp 1)⟩, p22_13_1, ⟨none, some 19, .extract (.tmp 18) 0⟩, ⟨none, some 20, .extract (.tmp 18) 1⟩, ⟨none, some 21, .extract (.tmp 18) 2⟩, ⟨none, some 6, .assign (.tmp 19)⟩, ⟨none, some 7, .assign (.tmp 20)⟩, ⟨none, some 8, .assign (.tmp 21)⟩]
def x22_13 : RC := .ops o22_13
def x22_12 : RC := .seq x22_13 .ret
def x22_11 : RC := .cond (.tmp 16) x22_12 .skip
def x22_9 : RC := .seq x22_10 x22_11
def p22_15_1 : RO := ⟨none, some 23, .slice 9 (.tmp 22) (some (.const (.int .i64 (1)))) none none⟩
def o22_15 : List RO := [⟨none, some 22, .move (.tmp 1)⟩, p22_15_1, ⟨none, some 9, .assign (.tmp 23)⟩]
def x22_15 : RC := .ops o22_15
def p22_17_2 : RO := ⟨none, some 27, .call ⟨.value (.func 40), #[(.tmp 25), (.tmp 26)], #[39, 9]⟩⟩
def o22_17 : List RO := [⟨none, some 25, .move (.tmp 0)⟩, ⟨none, some 26, .move (.tmp 9)⟩, p22_17_2, ⟨none, some 24, .move (.tmp 27)⟩, ⟨none, some 28, .extract (.tmp 24) 0⟩, ⟨none, some 29, .extract (.tmp 24) 1⟩, ⟨none, some 10, .assign (.tmp 28)⟩, ⟨none, some 11, .assign (.tmp 29)⟩]
def x22_17 : RC := .ops o22_17
def o22_20 : List RO := [⟨none, some 30, .move (.tmp 11)⟩, ⟨none, some 31, .binOp .eql 3 (.tmp 30) (.const (.int .i64 (0))) 3⟩]
def x22_20 : RC := .ops o22_20
def p22_27_5 : RO := ⟨some (some 36, true), some 37, .move (.tmp 9)⟩
def p22_27_7 : RO := ⟨some (some 36, true), some 39, .index 9 (.tmp 37) (.tmp 38)⟩
def p22_27_8 : RO := ⟨some (some 36, true), some 40, .call ⟨.value (.func 41), #[(.tmp 39)], #[5]⟩⟩
def p22_27_11 : RO := ⟨some (some 42, true), some 43, .move (.tmp 0)⟩
def p22_27_14 : RO := ⟨some (some 42, true), some 46, .binOp .add 3 (.tmp 45) (.const (.int .i64 (1))) 3⟩
def p22_27_15 : RO := ⟨some (some 42, true), some 47, .slice 9 (.tmp 44) none (some (.tmp 46)) none⟩
def p22_27_16 : RO := ⟨some (some 42, true), some 48, .call ⟨.value (.func 42), #[(.tmp 43), (.tmp 47)], #[39, 9]⟩⟩
def o22_27 : List RO := [⟨none, some 32, .move (.tmp 11)⟩, ⟨none, some 33, .move (.tmp 9)⟩, ⟨none, some 34, .call ⟨.builtin .len, #[(.tmp 33)], #[9]⟩⟩, ⟨none, some 35, .binOp .lss 3 (.tmp 32) (.tmp 34) 3⟩, ⟨none, some 36, .move (.tmp 35)⟩, p22_27_5, ⟨some (some 36, true), some 38, .move (.tmp 11)⟩, p22_27_7, p22_27_8, ⟨none, some 41, .pick (.tmp 36) (.tmp 40) (.const (.bool false))⟩, ⟨none, some 42, .move (.tmp 41)⟩, p22_27_11, ⟨some (some 42, true), some 44, .move (.tmp 9)⟩, ⟨some (some 42, true), some 45, .move (.tmp 11)⟩, p22_27_14, p22_27_15, p22_27_16, ⟨none, some 49, .pick (.tmp 42) (.tmp 48) (.const (.bool false))⟩]
def x22_27 : RC := .ops o22_27
def x22_28 : RC := .cond (.tmp 49) .skip (.exit 0)
def x22_26 : RC := .seq x22_27 x22_28
def p22_30_1 : RO := ⟨none, some 51, .binOp .add 3 (.tmp 50) (.const (.int .i64 (1))) 3⟩
def o22_30 : List RO := [⟨none, some 50, .move (.tmp 11)⟩, p22_30_1, ⟨none, some 11, .assign (.tmp 51)⟩]
def x22_30 : RC := .ops o22_30
def x22_29 : RC := .block 1 x22_30
def x22_25 : RC := .seq x22_26 x22_29
def x22_24 : RC := .loop x22_25
def x22_23 : RC := .block 0 x22_24
def p22_33_3 : RO := ⟨some (some 54, true), some 55, .move (.tmp 11)⟩
def p22_33_9 : RO := ⟨some (some 60, true), some 61, .move (.tmp 9)⟩
def p22_33_11 : RO := ⟨some (some 60, true), some 63, .index 9 (.tmp 61) (.tmp 62)⟩
def o22_33 : List RO := [⟨none, some 52, .move (.tmp 11)⟩, ⟨none, some 53, .binOp .gtr 3 (.tmp 52) (.const (.int .i64 (0))) 3⟩, ⟨none, some 54, .move (.tmp 53)⟩, p22_33_3, ⟨some (some 54, true), some 56, .move (.tmp 9)⟩, ⟨some (some 54, true), some 57, .call ⟨.builtin .len, #[(.tmp 56)], #[9]⟩⟩, ⟨some (some 54, true), some 58, .binOp .lss 3 (.tmp 55) (.tmp 57) 3⟩, ⟨none, some 59, .pick (.tmp 54) (.tmp 58) (.const (.bool false))⟩, ⟨none, some 60, .move (.tmp 59)⟩, p22_33_9, ⟨some (some 60, true), some 62, .move (.tmp 11)⟩, p22_33_11, ⟨some (some 60, true), some 64, .binOp .eql 5 (.tmp 63) (.const (.int .u8 (59))) 5⟩, ⟨none, some 65, .pick (.tmp 60) (.tmp 64) (.const (.bool false))⟩]
def x22_33 : RC := .ops o22_33
def p22_36_0 : RO := ⟨none, some 66, .buildSlice 26 1 #[(0, (.const (.int .i64 (19))))]⟩
def o22_36 : List RO := [p22_36_0, ⟨none, some 6, .assign (.const (.int .i64 (0)))⟩, ⟨none, some 7, .assign (.const (.int .i64 (0)))⟩, ⟨none, some 8, .assign (.tmp 66)⟩]
def x22_36 : RC := .ops o22_36
def x22_35 : RC := .seq x22_36 .ret
def x22_34 : RC := .cond (.tmp 65) x22_35 .skip
def x22_32 : RC := .seq x22_33 x22_34
def o22_38 : List RO := [⟨none, some 6, .assign (.const (.int .i64 (0)))⟩, ⟨none, some 7, .assign (.const (.int .i64 (0)))⟩, ⟨none, some 8, .assign (.const (.slice none 0 0))⟩]
def x22_38 : RC := .ops o22_38
def x22_37 : RC := .seq x22_38 .ret
def x22_31 : RC := .seq x22_32 x22_37
def x22_22 : RC := .seq x22_23 x22_31
def x22_21 : RC := .cond (.tmp 31) x22_22 .skip
def x22_19 : RC := .seq x22_20 x22_21
def p22_41_2 : RO := ⟨none, some 69, .binOp .sub 3 (.tmp 68) (.const (.int .i64 (1))) 3⟩
def p22_41_3 : RO := ⟨none, some 70, .index 9 (.tmp 67) (.tmp 69)⟩
def o22_41 : List RO := [⟨none, some 67, .move (.tmp 9)⟩, ⟨none, some 68, .move (.tmp 11)⟩, p22_41_2, p22_41_3, ⟨none, some 71, .binOp .eql 5 (.tmp 70) (.const (.int .u8 (59))) 5⟩]
def x22_41 : RC := .ops o22_41
def p22_44_2 : RO := ⟨none, some 74, .binOp .add 3 (.tmp 73) (.const (.int .i64 (1))) 3⟩
def o22_44 : List RO := [⟨none, some 72, .move (.tmp 10)⟩, ⟨none, some 73, .move (.tmp 11)⟩, p22_44_2, ⟨none, some 6, .assign (.tmp 72)⟩, ⟨none, some 7, .assign (.tmp 74)⟩, ⟨none, some 8, .assign (.const (.slice none 0 0))⟩]
def x22_44 : RC := .ops o22_44
def x22_43 : RC := .seq x22_44 .ret
def x22_42 : RC := .cond (.tmp 71) x22_43 .skip
def x22_40 : RC := .seq x22_41 x22_42
def p22_47_2 : RO := ⟨some (some 76, true), some 77, .move (.tmp 11)⟩
def p22_47_8 : RO := ⟨some (some 82, true), some 83, .move (.tmp 9)⟩
def p22_47_10 : RO := ⟨some (some 82, true), some 85, .index 9 (.tmp 83) (.tmp 84)⟩
def p22_47_13 : RO := ⟨some (some 87, false), some 88, .move (.tmp 9)⟩
def p22_47_15 : RO := ⟨some (some 87, false), some 90, .index 9 (.tmp 88) (.tmp 89)⟩
def p22_47_16 : RO := ⟨some (some 87, false), some 91, .call ⟨.value (.func 41), #[(.tmp 90)], #[5]⟩⟩
def o22_47 : List RO := [⟨none, some 75, .move (.tmp 2)⟩, ⟨none, some 76, .move (.tmp 75)⟩, p22_47_2, ⟨some (some 76, true), some 78, .move (.tmp 9)⟩, ⟨some (some 76, true), some 79, .call ⟨.builtin .len, #[(.tmp 78)], #[9]⟩⟩, ⟨some (some 76, true), some 80, .binOp .lss 3 (.tmp 77) (.tmp 79) 3⟩, ⟨none, some 81, .pick (.tmp 76) (.tmp 80) (.const (.bool false))⟩, ⟨none, some 82, .move (.tmp 81)⟩, p22_47_8, ⟨some (some 82, true), some 84, .move (.tmp 11)⟩, p22_47_10, ⟨some (some 82, true), some 86, .binOp .eql 5 (.tmp 85) (.const (.int .u8 (61))) 5⟩, ⟨some (some 82, true), some 87, .move (.tmp 86)⟩, p22_47_13, ⟨some (some 87, false), some 89, .move (.tmp 11)⟩, p22_47_15, p22_47_16, ⟨some (some 82, true), some 92, .pick (.tmp 87) (.const (.bool true)) (.tmp 91)⟩, ⟨none, some 93, .pick (.tmp 82) (.tmp 92) (.const (.bool false))⟩]
def x22_47 : RC := .ops o22_47
def o22_50 : List RO := [⟨none, some 6, .assign (.const (.int .i64 (0)))⟩, ⟨none, some 7, .assign (.const (.int .i64 (0)))⟩, ⟨none, some 8, .assign (.const (.slice none 0 0))⟩]
def x22_50 : RC := .ops o22_50
def x22_49 : RC := .seq x22_50 .ret
def x22_48 : RC := .cond (.tmp 93) x22_49 .skip
def x22_46 : RC := .seq x22_47 x22_48
def p22_52_2 : RO := ⟨none, some 96, .binOp .add 3 (.tmp 95) (.const (.int .i64 (1))) 3⟩
def p22_52_3 : RO := ⟨none, some 97, .buildSlice 26 1 #[(0, (.const (.int .i64 (18))))]⟩
def o22_52 : List RO := [⟨none, some 94, .move (.tmp 10)⟩, ⟨none, some 95, .move (.tmp 11)⟩, p22_52_2, p22_52_3, ⟨none, some 6, .assign (.tmp 94)⟩, ⟨none, some 7, .assign (.tmp 96)⟩, ⟨none, some 8, .assign (.tmp 97)⟩]
def x22_52 : RC := .ops o22_52
def x22_51 : RC := .seq x22_52 .ret
def x22_45 : RC := .seq x22_46 x22_51
def x22_39 : RC := .seq x22_40 x22_45
def x22_18 : RC := .seq x22_19 x22_39
def x22_16 : RC := .seq x22_17 x22_18
def x22_14 : RC := .seq x22_15 x22_16
def x22_8 : RC := .seq x22_9 x22_14
def x22_2 : RC := .seq x22_3 x22_8
def x22_0 : RC := .seq x22_1 x22_2
theorem x22_eq : Tryd.f22.body.map rc = some x22_0 := by kernel_rfl
def o23_1 : List RO := [⟨none, some 2, .assign (.const (.pointer none))⟩]
def x23_1 : RC := .ops o23_1
def p23_3_1 : RO := ⟨none, some 10, .box 72 (.tmp 9)⟩
def o23_3 : List RO := [⟨none, some 9, .build 72 #[]⟩, p23_3_1, ⟨none, some 3, .assign (.tmp 10)⟩]
def x23_3 : RC := .ops o23_3
def o23_6 : List RO := [⟨none, some 11, .move (.tmp 0)⟩, ⟨none, some 12, .call ⟨.builtin .len, #[(.tmp 11)], #[41]⟩⟩, ⟨none, some 13, .move (.const (.int .i64 (0)))⟩]
def x23_6 : RC := .ops o23_6
def o23_10 : List RO := [⟨none, some 14, .binOp .lss 3 (.tmp 13) (.tmp 12) 3⟩]
def x23_10 : RC := .ops o23_10
def x23_12 : RC := .cond (.tmp 14) .skip (.exit 0)
def p23_16_0 : RO := ⟨none, some 15, .indexAddr 41 (.tmp 11) (.tmp 13)⟩
def p23_16_1 : RO := ⟨none, some 16, .load 74 (.tmp 15)⟩
def p23_16_2 : RO := ⟨none, some 5, .alloc 74⟩
def p23_16_3 : RO := ⟨none, none, .store 74 (.tmp 5) (.tmp 16)⟩
def o23_16 : List RO := [p23_16_0, p23_16_1, p23_16_2, p23_16_3]
def x23_16 : RC := .ops o23_16
def p23_19_1 : RO := ⟨none, some 18, .load 9 (.tmp 17)⟩
def p23_19_4 : RO := ⟨some (some 20, false), some 21, .fieldAddr 74 (.tmp 5) 0⟩
def p23_19_5 : RO := ⟨some (some 20, false), some 22, .load 9 (.tmp 21)⟩
def o23_19 : List RO := [⟨none, some 17, .fieldAddr 74 (.tmp 5) 0⟩, p23_19_1, ⟨none, some 19, .binOp .eql 9 (.tmp 18) (.const (.string ⟨#[]⟩)) 9⟩, ⟨none, some 20, .move (.tmp 19)⟩, p23_19_4, p23_19_5, ⟨some (some 20, false), some 23, .call ⟨.builtin .len, #[(.tmp 22)], #[9]⟩⟩, ⟨some (some 20, false), some 24, .binOp .gtr 3 (.tmp 23) (.const (.int .i64 (8))) 3⟩, ⟨none, some 25, .pick (.tmp 20) (.const (.bool true)) (.tmp 24)⟩]
def x23_19 : RC := .ops o23_19
def x23_20 : RC := .cond (.tmp 25) (.exit 1) .skip
def x23_18 : RC := .seq x23_19 x23_20
def o23_22 : List RO := [⟨none, some 26, .move (.tmp 3)⟩, ⟨none, some 27, .nilCheck (.tmp 26)⟩, ⟨none, some 28, .fieldAddr 72 (.tmp 27) 0⟩, ⟨none, some 6, .assign (.tmp 28)⟩]
def x23_22 : RC := .ops o23_22
def p23_25_1 : RO := ⟨none, some 30, .load 9 (.tmp 29)⟩
def p23_25_2 : RO := ⟨none, some 31, .convert 9 49 (.tmp 30)⟩
def o23_25 : List RO := [⟨none, some 29, .fieldAddr 74 (.tmp 5) 0⟩, p23_25_1, p23_25_2, ⟨none, some 32, .call ⟨.builtin .len, #[(.tmp 31)], #[49]⟩⟩, ⟨none, some 33, .move (.const (.int .i64 (0)))⟩]
def x23_25 : RC := .ops o23_25
def o23_29 : List RO := [⟨none, some 34, .binOp .lss 3 (.tmp 33) (.tmp 32) 3⟩]
def x23_29 : RC := .ops o23_29
def x23_31 : RC := .cond (.tmp 34) .skip (.exit 2)
def p23_35_0 : RO := ⟨none, some 35, .indexAddr 49 (.tmp 31) (.tmp 33)⟩
def p23_35_1 : RO := ⟨none, some 36, .load 5 (.tmp 35)⟩
def o23_35 : List RO := [p23_35_0, p23_35_1, ⟨none, some 8, .assign (.tmp 36)⟩]
def x23_35 : RC := .ops o23_35
def p23_38_3 : RO := ⟨none, some 40, .load 68 (.tmp 39)⟩
def o23_38 : List RO := [⟨none, some 37, .move (.tmp 6)⟩, ⟨none, some 38, .nilCheck (.tmp 37)⟩, ⟨none, some 39, .fieldAddr 70 (.tmp 38) 0⟩, p23_38_3, ⟨none, some 41, .binOp .eql 68 (.tmp 40) (.const (.map none)) 68⟩]
def x23_38 : RC := .ops o23_38
def p23_40_1 : RO := ⟨none, some 43, .makeMap 68 none⟩
def p23_40_4 : RO := ⟨none, none, .store 68 (.tmp 45) (.tmp 43)⟩
def o23_40 : List RO := [⟨none, some 42, .move (.tmp 6)⟩, p23_40_1, ⟨none, some 44, .nilCheck (.tmp 42)⟩, ⟨none, some 45, .fieldAddr 70 (.tmp 44) 0⟩, p23_40_4]
def x23_40 : RC := .ops o23_40
def x23_39 : RC := .cond (.tmp 41) x23_40 .skip
def x23_37 : RC := .seq x23_38 x23_39
def p23_43_3 : RO := ⟨none, some 49, .load 68 (.tmp 48)⟩
def p23_43_5 : RO := ⟨none, some 51, .lookup 68 (.tmp 49) (.tmp 50) false⟩
def o23_43 : List RO := [⟨none, some 46, .move (.tmp 6)⟩, ⟨none, some 47, .nilCheck (.tmp 46)⟩, ⟨none, some 48, .fieldAddr 70 (.tmp 47) 0⟩, p23_43_3, ⟨none, some 50, .move (.tmp 8)⟩, p23_43_5, ⟨none, some 52, .binOp .eql 75 (.tmp 51) (.const (.pointer none)) 75⟩]
def x23_43 : RC := .ops o23_43
def p23_45_3 : RO := ⟨none, some 56, .load 68 (.tmp 55)⟩
def p23_45_6 : RO := ⟨none, some 59, .box 70 (.tmp 58)⟩
def p23_45_7 : RO := ⟨none, none, .mapUpdate 68 (.tmp 56) (.tmp 57) (.tmp 59)⟩
def o23_45 : List RO := [⟨none, some 53, .move (.tmp 6)⟩, ⟨none, some 54, .nilCheck (.tmp 53)⟩, ⟨none, some 55, .fieldAddr 70 (.tmp 54) 0⟩, p23_45_3, ⟨none, some 57, .move (.tmp 8)⟩, ⟨none, some 58, .build 70 #[]⟩, p23_45_6, p23_45_7]
def x23_45 : RC := .ops o23_45
def x23_44 : RC := .cond (.tmp 52) x23_45 .skip
def x23_42 : RC := .seq x23_43 x23_44
def p23_46_3 : RO := ⟨none, some 63, .load 68 (.tmp 62)⟩
def p23_46_5 : RO := ⟨none, some 65, .lookup 68 (.tmp 63) (.tmp 64) false⟩
def o23_46 : List RO := [⟨none, some 60, .move (.tmp 6)⟩, ⟨none, some 61, .nilCheck (.tmp 60)⟩, ⟨none, some 62, .fieldAddr 70 (.tmp 61) 0⟩, p23_46_3, ⟨none, some 64, .move (.tmp 8)⟩, p23_46_5, ⟨none, some 6, .assign (.tmp 65)⟩]
def x23_46 : RC := .ops o23_46
def x23_41 : RC := .seq x23_42 x23_46
def x23_36 : RC := .seq x23_37 x23_41
def x23_34 : RC := .seq x23_35 x23_36
def x23_33 : RC := .block 3 x23_34
def p23_47_0 : RO := ⟨none, some 66, .binOp .add 3 (.tmp 33) (.const (.int .i64 (1))) 3⟩
def o23_47 : List RO := [p23_47_0, ⟨none, some 33, .move (.tmp 66)⟩]
def x23_47 : RC := .ops o23_47
def x23_32 : RC := .seq x23_33 x23_47
def x23_30 : RC := .seq x23_31 x23_32
def x23_28 : RC := .seq x23_29 x23_30
def x23_27 : RC := .loop x23_28
def x23_26 : RC := .block 2 x23_27
def x23_24 : RC := .seq x23_25 x23_26
def p23_49_3 : RO := ⟨none, some 70, .load 4 (.tmp 69)⟩
def o23_49 : List RO := [⟨none, some 67, .move (.tmp 6)⟩, ⟨none, some 68, .nilCheck (.tmp 67)⟩, ⟨none, some 69, .fieldAddr 70 (.tmp 68) 1⟩, p23_49_3, ⟨none, some 71, .unOp .not 4 (.tmp 70)⟩]
def x23_49 : RC := .ops o23_49
def p23_52_3 : RO := ⟨none, none, .store 4 (.tmp 77) (.const (.bool true))⟩
def p23_52_6 : RO := ⟨none, some 75, .load 3 (.tmp 74)⟩
def p23_52_9 : RO := ⟨none, none, .store 3 (.tmp 79) (.tmp 75)⟩
def o23_52 : List (Nat × RO) := [(0, ⟨none, some 72, .move (.tmp 6)⟩), (4, ⟨none, some 76, .nilCheck (.tmp 72)⟩), (5, ⟨none, some 77, .fieldAddr 70 (.tmp 76) 1⟩), (6, p23_52_3), (1, ⟨none, some 73, .move (.tmp 6)⟩), (2, ⟨none, some 74, .fieldAddr 74 (.tmp 5) 1⟩), (3, p23_52_6), (7, ⟨none, some 78, .nilCheck (.tmp 73)⟩), (8, ⟨none, some 79, .fieldAddr 70 (.tmp 78) 2⟩), (9, p23_52_9)]
def m23_52 : List Nat := [0, 0, 0, 4, 1, 17, 49, 127, 255, 511]
def x23_52 : RC := .draw o23_52 m23_52
def p23_53_3 : RO := ⟨none, some 83, .load 3 (.tmp 82)⟩
def p23_53_4 : RO := ⟨none, some 84, .binOp .add 3 (.tmp 83) (.const (.int .i64 (1))) 3⟩
def p23_53_7 : RO := ⟨none, none, .store 3 (.tmp 86) (.tmp 84)⟩
def o23_53 : List RO := [⟨none, some 80, .move (.tmp 3)⟩, ⟨none, some 81, .nilCheck (.tmp 80)⟩, ⟨none, some 82, .fieldAddr 72 (.tmp 81) 1⟩, p23_53_3, p23_53_4, ⟨none, some 85, .nilCheck (.tmp 80)⟩, ⟨none, some 86, .fieldAddr 72 (.tmp 85) 1⟩, p23_53_7]
def x23_53 : RC := .ops o23_53
def x23_51 : RC := .seq x23_52 x23_53
def x23_50 : RC := .cond (.tmp 71) x23_51 .skip
def x23_48 : RC := .seq x23_49 x23_50
def x23_23 : RC := .seq x23_24 x23_48
def x23_21 : RC := .seq x23_22 x23_23
def x23_17 : RC := .seq x23_18 x23_21
def x23_15 : RC := .seq x23_16 x23_17
def x23_14 : RC := .block 1 x23_15
def p23_54_0 : RO := ⟨none, some 87, .binOp .add 3 (.tmp 13) (.const (.int .i64 (1))) 3⟩
def o23_54 : List RO := [p23_54_0, ⟨none, some 13, .move (.tmp 87)⟩]
def x23_54 : RC := .ops o23_54
def x23_13 : RC := .seq x23_14 x23_54
def x23_11 : RC := .seq x23_12 x23_13
def x23_9 : RC := .seq x23_10 x23_11
def x23_8 : RC := .loop x23_9
def x23_7 : RC := .block 0 x23_8
def x23_5 : RC := .seq x23_6 x23_7
def o23_56 : List RO := [⟨none, some 88, .move (.tmp 3)⟩, ⟨none, some 2, .assign (.tmp 88)⟩]
def x23_56 : RC := .ops o23_56
def x23_55 : RC := .seq x23_56 .ret
def x23_4 : RC := .seq x23_5 x23_55
def x23_2 : RC := .seq x23_3 x23_4
def x23_0 : RC := .seq x23_1 x23_2
theorem x23_eq : Tryd.f23.body.map rc = some x23_0 := by kernel_rfl
def o38_1 : List RO := [⟨none, some 4, .assign (.const (.bool false))⟩]
def x38_1 : RC := .ops o38_1
def o38_3 : List RO := [⟨none, some 5, .move (.tmp 0)⟩, ⟨none, some 6, .move (.tmp 1)⟩, ⟨none, some 7, .call ⟨.value (.func 50), #[(.tmp 5), (.tmp 6)], #[9, 9]⟩⟩, ⟨none, some 4, .assign (.tmp 7)⟩]
def x38_3 : RC := .ops o38_3
def x38_2 : RC := .seq x38_3 .ret
def x38_0 : RC := .seq x38_1 x38_2
theorem x38_eq : Tryd.f38.body.map rc = some x38_0 := by kernel_rfl
def o39_1 : List RO := [⟨none, some 2, .assign (.const (.int .i64 (0)))⟩, ⟨none, some 3, .assign (.const (.int .i64 (0)))⟩, ⟨none, some 4, .assign (.const (.slice none 0 0))⟩]
def x39_1 : RC := .ops o39_1
def p39_3_1 : RO := ⟨none, some 16, .slice 9 (.tmp 15) (some (.const (.int .i64 (2)))) none none⟩
def o39_3 : List (Nat × RO) := [(0, ⟨none, some 15, .move (.tmp 0)⟩), (1, p39_3_1), (2, ⟨none, some 5, .assign (.const (.int .i64 (10)))⟩), (3, ⟨none, some 6, .assign (.tmp 16)⟩)]
def m39_3 : List Nat := [0, 1, 0, 7]
def x39_3 : RC := .draw o39_3 m39_3
def p39_6_3 : RO := ⟨some (some 19, true), some 20, .move (.tmp 6)⟩
def p39_6_4 : RO := ⟨some (some 19, true), some 21, .index 9 (.tmp 20) (.const (.int .i64 (0)))⟩
def o39_6 : List RO := [⟨none, some 17, .move (.tmp 6)⟩, ⟨none, some 18, .binOp .neq 9 (.tmp 17) (.const (.string ⟨#[]⟩)) 9⟩, ⟨none, some 19, .move (.tmp 18)⟩, p39_6_3, p39_6_4, ⟨some (some 19, true), some 22, .binOp .or 5 (.tmp 21) (.const (.int .u8 (32))) 5⟩, ⟨some (some 19, true), some 23, .binOp .eql 5 (.tmp 22) (.const (.int .u8 (120))) 5⟩, ⟨none, some 24, .pick (.tmp 19) (.tmp 23) (.const (.bool false))⟩]
def x39_6 : RC := .ops o39_6
def p39_8_1 : RO := ⟨none, some 26, .slice 9 (.tmp 25) (some (.const (.int .i64 (1)))) none none⟩
def o39_8 : List (Nat × RO) := [(0, ⟨none, some 25, .move (.tmp 6)⟩), (1, p39_8_1), (2, ⟨none, some 5, .assign (.const (.int .i64 (16)))⟩), (3, ⟨none, some 6, .assign (.tmp 26)⟩)]
def m39_8 : List Nat := [0, 1, 0, 7]
def x39_8 : RC := .draw o39_8 m39_8
def x39_7 : RC := .cond (.tmp 24) x39_8 .skip
def x39_5 : RC := .seq x39_6 x39_7
def o39_10 : List RO := [⟨none, some 7, .assign (.const (.int .i64 (0)))⟩, ⟨none, some 8, .assign (.const (.int .i64 (0)))⟩]
def x39_10 : RC := .ops o39_10
def o39_16 : List RO := [⟨none, some 27, .move (.tmp 8)⟩, ⟨none, some 28, .move (.tmp 6)⟩, ⟨none, some 29, .call ⟨.builtin .len, #[(.tmp 28)], #[9]⟩⟩, ⟨none, some 30, .binOp .lss 3 (.tmp 27) (.tmp 29) 3⟩]
def x39_16 : RC := .ops o39_16
def x39_17 : RC := .cond (.tmp 30) .skip (.exit 0)
def x39_15 : RC := .seq x39_16 x39_17
def p39_20_2 : RO := ⟨none, some 33, .index 9 (.tmp 31) (.tmp 32)⟩
def o39_20 : List RO := [⟨none, some 31, .move (.tmp 6)⟩, ⟨none, some 32, .move (.tmp 8)⟩, p39_20_2, ⟨none, some 9, .assign (.tmp 33)⟩]
def x39_20 : RC := .ops o39_20
def p39_23_3 : RO := ⟨some (some 36, true), some 37, .move (.tmp 9)⟩
def o39_23 : List RO := [⟨none, some 34, .move (.tmp 9)⟩, ⟨none, some 35, .binOp .geq 5 (.tmp 34) (.const (.int .u8 (65))) 5⟩, ⟨none, some 36, .move (.tmp 35)⟩, p39_23_3, ⟨some (some 36, true), some 38, .binOp .leq 5 (.tmp 37) (.const (.int .u8 (70))) 5⟩, ⟨none, some 39, .pick (.tmp 36) (.tmp 38) (.const (.bool false))⟩]
def x39_23 : RC := .ops o39_23
def o39_25 : List RO := [⟨none, some 40, .move (.tmp 9)⟩, ⟨none, some 41, .binOp .or 5 (.tmp 40) (.const (.int .u8 (32))) 5⟩, ⟨none, some 9, .assign (.tmp 41)⟩]
def x39_25 : RC := .ops o39_25
def x39_24 : RC := .cond (.tmp 39) x39_25 .skip
def x39_22 : RC := .seq x39_23 x39_24
def p39_27_3 : RO := ⟨none, some 45, .call ⟨.value (.func 30), #[(.tmp 43), (.tmp 44)], #[9, 5]⟩⟩
def o39_27 : List RO := [⟨none, some 42, .move (.tmp 5)⟩, ⟨none, some 43, .slice 9 (.const (.string ⟨#[48, 49, 50, 51, 52, 53, 54, 55, 56, 57, 97, 98, 99, 100, 101, 102]⟩)) none (some (.tmp 42)) none⟩, ⟨none, some 44, .move (.tmp 9)⟩, p39_27_3, ⟨none, some 10, .assign (.tmp 45)⟩]
def x39_27 : RC := .ops o39_27
def o39_30 : List RO := [⟨none, some 46, .move (.tmp 10)⟩, ⟨none, some 47, .binOp .lss 3 (.tmp 46) (.const (.int .i64 (0))) 3⟩]
def x39_30 : RC := .ops o39_30
def x39_31 : RC := .cond (.tmp 47) (.exit 0) .skip
def x39_29 : RC := .seq x39_30 x39_31
def o39_34 : List RO := [⟨none, some 48, .move (.tmp 7)⟩, ⟨none, some 49, .binOp .lss 3 (.tmp 48) (.const (.int .i64 (16777216))) 3⟩]
def x39_34 : RC := .ops o39_34
def p39_36_2 : RO := ⟨none, some 52, .binOp .mul 3 (.tmp 50) (.tmp 51) 3⟩
def p39_36_4 : RO := ⟨none, some 54, .binOp .add 3 (.tmp 52) (.tmp 53) 3⟩
def o39_36 : List RO := [⟨none, some 50, .move (.tmp 7)⟩, ⟨none, some 51, .move (.tmp 5)⟩, p39_36_2, ⟨none, some 53, .move (.tmp 10)⟩, p39_36_4, ⟨none, some 7, .assign (.tmp 54)⟩]
def x39_36 : RC := .ops o39_36
def x39_35 : RC := .cond (.tmp 49) x39_36 .skip
def x39_33 : RC := .seq x39_34 x39_35
def p39_37_1 : RO := ⟨none, some 56, .binOp .add 3 (.tmp 55) (.const (.int .i64 (1))) 3⟩
def o39_37 : List RO := [⟨none, some 55, .move (.tmp 8)⟩, p39_37_1, ⟨none, some 8, .assign (.tmp 56)⟩]
def x39_37 : RC := .ops o39_37
def x39_32 : RC := .seq x39_33 x39_37
def x39_28 : RC := .seq x39_29 x39_32
def x39_26 : RC := .seq x39_27 x39_28
def x39_21 : RC := .seq x39_22 x39_26
def x39_19 : RC := .seq x39_20 x39_21
def x39_18 : RC := .block 1 x39_19
def x39_14 : RC := .seq x39_15 x39_18
def x39_13 : RC := .loop x39_14
def x39_12 : RC := .block 0 x39_13
def o39_40 : List RO := [⟨none, some 57, .move (.tmp 8)⟩, ⟨none, some 58, .binOp .eql 3 (.tmp 57) (.const (.int .i64 (0))) 3⟩]
def x39_40 : RC := .ops o39_40
def p39_43_0 : RO := ⟨none, some 59, .buildSlice 26 1 #[(0, (.const (.int .i64 (20))))]⟩
def o39_43 : List RO := [p39_43_0, ⟨none, some 2, .assign (.const (.int .i64 (0)))⟩, ⟨none, some 3, .assign (.const (.int .i64 (0)))⟩, ⟨none, some 4, .assign (.tmp 59)⟩]
def x39_43 : RC := .ops o39_43
def x39_42 : RC := .seq x39_43 .ret
def x39_41 : RC := .cond (.tmp 58) x39_42 .skip
def x39_39 : RC := .seq x39_40 x39_41
def p39_45_1 : RO := ⟨none, some 62, .call ⟨.value (.func 8), #[(.tmp 61)], #[3]⟩⟩
def o39_45 : List RO := [⟨none, some 61, .move (.tmp 7)⟩, p39_45_1, ⟨none, some 60, .move (.tmp 62)⟩, ⟨none, some 63, .extract (.tmp 60) 0⟩, ⟨none, some 64, .extract (.tmp 60) 1⟩, ⟨none, some 11, .assign (.tmp 63)⟩, ⟨none, some 12, .assign (.tmp 64)⟩]
def x39_45 : RC := .ops o39_45
def o39_47 : List RO := [⟨none, some 13, .assign (.const (.slice none 0 0))⟩]
def x39_47 : RC := .ops o39_47
def o39_50 : List RO := [⟨none, some 65, .move (.tmp 12)⟩, ⟨none, some 66, .binOp .gtr 3 (.tmp 65) (.const (.int .i64 (0))) 3⟩]
def x39_50 : RC := .ops o39_50
def p39_52_2 : RO := ⟨none, some 69, .buildSlice 26 1 #[(0, (.tmp 68))]⟩
def p39_52_3 : RO := ⟨none, some 70, .call ⟨.builtin .append, #[(.tmp 67), (.tmp 69)], #[26, 26]⟩⟩
def o39_52 : List RO := [⟨none, some 67, .move (.tmp 13)⟩, ⟨none, some 68, .move (.tmp 12)⟩, p39_52_2, p39_52_3, ⟨none, some 13, .assign (.tmp 70)⟩]
def x39_52 : RC := .ops o39_52
def x39_51 : RC := .cond (.tmp 66) x39_52 .skip
def x39_49 : RC := .seq x39_50 x39_51
def p39_54_4 : RO := ⟨none, some 75, .binOp .sub 3 (.tmp 72) (.tmp 74) 3⟩
def p39_54_6 : RO := ⟨none, some 77, .binOp .add 3 (.tmp 75) (.tmp 76) 3⟩
def o39_54 : List RO := [⟨none, some 71, .move (.tmp 0)⟩, ⟨none, some 72, .call ⟨.builtin .len, #[(.tmp 71)], #[9]⟩⟩, ⟨none, some 73, .move (.tmp 6)⟩, ⟨none, some 74, .call ⟨.builtin .len, #[(.tmp 73)], #[9]⟩⟩, p39_54_4, ⟨none, some 76, .move (.tmp 8)⟩, p39_54_6, ⟨none, some 14, .assign (.tmp 77)⟩]
def x39_54 : RC := .ops o39_54
def p39_57_5 : RO := ⟨some (some 82, true), some 83, .move (.tmp 0)⟩
def p39_57_7 : RO := ⟨some (some 82, true), some 85, .index 9 (.tmp 83) (.tmp 84)⟩
def o39_57 : List RO := [⟨none, some 78, .move (.tmp 14)⟩, ⟨none, some 79, .move (.tmp 0)⟩, ⟨none, some 80, .call ⟨.builtin .len, #[(.tmp 79)], #[9]⟩⟩, ⟨none, some 81, .binOp .lss 3 (.tmp 78) (.tmp 80) 3⟩, ⟨none, some 82, .move (.tmp 81)⟩, p39_57_5, ⟨some (some 82, true), some 84, .move (.tmp 14)⟩, p39_57_7, ⟨some (some 82, true), some 86, .binOp .eql 5 (.tmp 85) (.const (.int .u8 (59))) 5⟩, ⟨none, some 87, .pick (.tmp 82) (.tmp 86) (.const (.bool false))⟩]
def x39_57 : RC := .ops o39_57
def p39_60_2 : RO := ⟨none, some 90, .binOp .add 3 (.tmp 89) (.const (.int .i64 (1))) 3⟩
def o39_60 : List RO := [⟨none, some 88, .move (.tmp 11)⟩, ⟨none, some 89, .move (.tmp 14)⟩, p39_60_2, ⟨none, some 91, .move (.tmp 13)⟩, ⟨none, some 2, .assign (.tmp 88)⟩, ⟨none, some 3, .assign (.tmp 90)⟩, ⟨none, some 4, .assign (.tmp 91)⟩]
def x39_60 : RC := .ops o39_60
def x39_59 : RC := .seq x39_60 .ret
def x39_58 : RC := .cond (.tmp 87) x39_59 .skip
def x39_56 : RC := .seq x39_57 x39_58
def p39_62_3 : RO := ⟨none, some 95, .buildSlice 26 1 #[(0, (.const (.int .i64 (18))))]⟩
def p39_62_4 : RO := ⟨none, some 96, .call ⟨.builtin .append, #[(.tmp 94), (.tmp 95)], #[26, 26]⟩⟩
def o39_62 : List RO := [⟨none, some 92, .move (.tmp 11)⟩, ⟨none, some 93, .move (.tmp 14)⟩, ⟨none, some 94, .move (.tmp 13)⟩, p39_62_3, p39_62_4, ⟨none, some 2, .assign (.tmp 92)⟩, ⟨none, some 3, .assign (.tmp 93)⟩, ⟨none, some 4, .assign (.tmp 96)⟩]
def x39_62 : RC := .ops o39_62
def x39_61 : RC := .seq x39_62 .ret
def x39_55 : RC := .seq x39_56 x39_61
def x39_53 : RC := .seq x39_54 x39_55
def x39_48 : RC := .seq x39_49 x39_53
def x39_46 : RC := .seq x39_47 x39_48
def x39_44 : RC := .seq x39_45 x39_46
def x39_38 : RC := .seq x39_39 x39_44
def x39_11 : RC := .seq x39_12 x39_38
def x39_9 : RC := .seq x39_10 x39_11
def x39_4 : RC := .seq x39_5 x39_9
def x39_2 : RC := .seq x39_3 x39_4
def x39_0 : RC := .seq x39_1 x39_2
theorem x39_eq : Tryd.f39.body.map rc = some x39_0 := by kernel_rfl
def o40_1 : List RO := [⟨none, some 4, .assign (.const (.int .i64 (0)))⟩, ⟨none, some 5, .assign (.const (.int .i64 (0)))⟩]
def x40_1 : RC := .ops o40_1
def o40_4 : List RO := [⟨none, some 11, .move (.tmp 0)⟩, ⟨none, some 12, .binOp .eql 39 (.tmp 11) (.const (.pointer none)) 39⟩]
def x40_4 : RC := .ops o40_4
def o40_7 : List RO := [⟨none, some 4, .assign (.const (.int .i64 (0)))⟩, ⟨none, some 5, .assign (.const (.int .i64 (0)))⟩]
def x40_7 : RC := .ops o40_7
def x40_6 : RC := .seq x40_7 .ret
def x40_5 : RC := .cond (.tmp 12) x40_6 .skip
def x40_3 : RC := .seq x40_4 x40_5
def o40_9 : List RO := [⟨none, some 6, .assign (.const (.int .i64 (0)))⟩, ⟨none, some 7, .assign (.const (.int .i64 (0)))⟩]
def x40_9 : RC := .ops o40_9
def o40_11 : List RO := [⟨none, some 13, .move (.tmp 0)⟩, ⟨none, some 14, .nilCheck (.tmp 13)⟩, ⟨none, some 15, .fieldAddr 72 (.tmp 14) 0⟩, ⟨none, some 8, .assign (.tmp 15)⟩]
def x40_11 : RC := .ops o40_11
def p40_14_1 : RO := ⟨none, some 17, .convert 9 49 (.tmp 16)⟩
def o40_14 : List RO := [⟨none, some 16, .move (.tmp 1)⟩, p40_14_1, ⟨none, some 18, .call ⟨.builtin .len, #[(.tmp 17)], #[49]⟩⟩, ⟨none, some 19, .move (.const (.int .i64 (0)))⟩]
def x40_14 : RC := .ops o40_14
def o40_18 : List RO := [⟨none, some 20, .binOp .lss 3 (.tmp 19) (.tmp 18) 3⟩]
def x40_18 : RC := .ops o40_18
def x40_20 : RC := .cond (.tmp 20) .skip (.exit 0)
def p40_24_1 : RO := ⟨none, some 22, .indexAddr 49 (.tmp 17) (.tmp 19)⟩
def p40_24_2 : RO := ⟨none, some 23, .load 5 (.tmp 22)⟩
def o40_24 : List RO := [⟨none, some 21, .move (.tmp 19)⟩, p40_24_1, p40_24_2, ⟨none, some 9, .assign (.tmp 21)⟩, ⟨none, some 10, .assign (.tmp 23)⟩]
def x40_24 : RC := .ops o40_24
def p40_27_3 : RO := ⟨none, some 27, .load 68 (.tmp 26)⟩
def p40_27_5 : RO := ⟨none, some 29, .lookup 68 (.tmp 27) (.tmp 28) false⟩
def o40_27 : List RO := [⟨none, some 24, .move (.tmp 8)⟩, ⟨none, some 25, .nilCheck (.tmp 24)⟩, ⟨none, some 26, .fieldAddr 70 (.tmp 25) 0⟩, p40_27_3, ⟨none, some 28, .move (.tmp 10)⟩, p40_27_5, ⟨none, some 8, .assign (.tmp 29)⟩]
def x40_27 : RC := .ops o40_27
def o40_29 : List RO := [⟨none, some 30, .move (.tmp 8)⟩, ⟨none, some 31, .binOp .eql 75 (.tmp 30) (.const (.pointer none)) 75⟩]
def x40_29 : RC := .ops o40_29
def x40_30 : RC := .cond (.tmp 31) (.exit 0) .skip
def x40_28 : RC := .seq x40_29 x40_30
def x40_26 : RC := .seq x40_27 x40_28
def p40_32_3 : RO := ⟨none, some 35, .load 4 (.tmp 34)⟩
def o40_32 : List RO := [⟨none, some 32, .move (.tmp 8)⟩, ⟨none, some 33, .nilCheck (.tmp 32)⟩, ⟨none, some 34, .fieldAddr 70 (.tmp 33) 1⟩, p40_32_3]
def x40_32 : RC := .ops o40_32
def p40_34_3 : RO := ⟨none, some 39, .load 3 (.tmp 38)⟩
def p40_34_5 : RO := ⟨none, some 41, .binOp .add 3 (.tmp 40) (.const (.int .i64 (1))) 3⟩
def o40_34 : List RO := [⟨none, some 36, .move (.tmp 8)⟩, ⟨none, some 37, .nilCheck (.tmp 36)⟩, ⟨none, some 38, .fieldAddr 70 (.tmp 37) 2⟩, p40_34_3, ⟨none, some 40, .move (.tmp 9)⟩, p40_34_5, ⟨none, some 6, .assign (.tmp 39)⟩, ⟨none, some 7, .assign (.tmp 41)⟩]
def x40_34 : RC := .ops o40_34
def x40_33 : RC := .cond (.tmp 35) x40_34 .skip
def x40_31 : RC := .seq x40_32 x40_33
def x40_25 : RC := .seq x40_26 x40_31
def x40_23 : RC := .seq x40_24 x40_25
def x40_22 : RC := .block 1 x40_23
def p40_35_0 : RO := ⟨none, some 42, .binOp .add 3 (.tmp 19) (.const (.int .i64 (1))) 3⟩
def o40_35 : List RO := [p40_35_0, ⟨none, some 19, .move (.tmp 42)⟩]
def x40_35 : RC := .ops o40_35
def x40_21 : RC := .seq x40_22 x40_35
def x40_19 : RC := .seq x40_20 x40_21
def x40_17 : RC := .seq x40_18 x40_19
def x40_16 : RC := .loop x40_17
def x40_15 : RC := .block 0 x40_16
def x40_13 : RC := .seq x40_14 x40_15
def o40_37 : List RO := [⟨none, some 43, .move (.tmp 6)⟩, ⟨none, some 44, .move (.tmp 7)⟩, ⟨none, some 4, .assign (.tmp 43)⟩, ⟨none, some 5, .assign (.tmp 44)⟩]
def x40_37 : RC := .ops o40_37
def x40_36 : RC := .seq x40_37 .ret
def x40_12 : RC := .seq x40_13 x40_36
def x40_10 : RC := .seq x40_11 x40_12
def x40_8 : RC := .seq x40_9 x40_10
def x40_2 : RC := .seq x40_3 x40_8
def x40_0 : RC := .seq x40_1 x40_2
theorem x40_eq : Tryd.f40.body.map rc = some x40_0 := by kernel_rfl
def o41_1 : List RO := [⟨none, some 2, .assign (.const (.bool false))⟩]
def x41_1 : RC := .ops o41_1
def p41_3_4 : RO := ⟨some (some 6, true), some 7, .move (.tmp 0)⟩
def p41_3_9 : RO := ⟨some (some 11, false), some 12, .move (.tmp 0)⟩
def p41_3_12 : RO := ⟨some (some 14, true), some 15, .move (.tmp 0)⟩
def o41_3 : List RO := [⟨none, some 3, .move (.tmp 0)⟩, ⟨none, some 4, .binOp .or 5 (.tmp 3) (.const (.int .u8 (32))) 5⟩, ⟨none, some 5, .binOp .geq 5 (.tmp 4) (.const (.int .u8 (97))) 5⟩, ⟨none, some 6, .move (.tmp 5)⟩, p41_3_4, ⟨some (some 6, true), some 8, .binOp .or 5 (.tmp 7) (.const (.int .u8 (32))) 5⟩, ⟨some (some 6, true), some 9, .binOp .leq 5 (.tmp 8) (.const (.int .u8 (122))) 5⟩, ⟨none, some 10, .pick (.tmp 6) (.tmp 9) (.const (.bool false))⟩, ⟨none, some 11, .move (.tmp 10)⟩, p41_3_9, ⟨some (some 11, false), some 13, .binOp .geq 5 (.tmp 12) (.const (.int .u8 (48))) 5⟩, ⟨some (some 11, false), some 14, .move (.tmp 13)⟩, p41_3_12, ⟨some (some 14, true), some 16, .binOp .leq 5 (.tmp 15) (.const (.int .u8 (57))) 5⟩, ⟨some (some 11, false), some 17, .pick (.tmp 14) (.tmp 16) (.const (.bool false))⟩, ⟨none, some 18, .pick (.tmp 11) (.const (.bool true)) (.tmp 17)⟩, ⟨none, some 2, .assign (.tmp 18)⟩]
def x41_3 : RC := .ops o41_3
def x41_2 : RC := .seq x41_3 .ret
def x41_0 : RC := .seq x41_1 x41_2
theorem x41_eq : Tryd.f41.body.map rc = some x41_0 := by kernel_rfl
def o42_1 : List RO := [⟨none, some 4, .assign (.const (.bool false))⟩]
def x42_1 : RC := .ops o42_1
def p42_4_6 : RO := ⟨some (some 10, false), some 14, .load 3 (.tmp 13)⟩
def o42_4 : List RO := [⟨none, some 8, .move (.tmp 0)⟩, ⟨none, some 9, .binOp .eql 39 (.tmp 8) (.const (.pointer none)) 39⟩, ⟨none, some 10, .move (.tmp 9)⟩, ⟨some (some 10, false), some 11, .move (.tmp 0)⟩, ⟨some (some 10, false), some 12, .nilCheck (.tmp 11)⟩, ⟨some (some 10, false), some 13, .fieldAddr 72 (.tmp 12) 1⟩, p42_4_6, ⟨some (some 10, false), some 15, .binOp .eql 3 (.tmp 14) (.const (.int .i64 (0))) 3⟩, ⟨none, some 16, .pick (.tmp 10) (.const (.bool true)) (.tmp 15)⟩]
def x42_4 : RC := .ops o42_4
def o42_7 : List RO := [⟨none, some 4, .assign (.const (.bool false))⟩]
def x42_7 : RC := .ops o42_7
def x42_6 : RC := .seq x42_7 .ret
def x42_5 : RC := .cond (.tmp 16) x42_6 .skip
def x42_3 : RC := .seq x42_4 x42_5
def o42_9 : List RO := [⟨none, some 17, .move (.tmp 0)⟩, ⟨none, some 18, .nilCheck (.tmp 17)⟩, ⟨none, some 19, .fieldAddr 72 (.tmp 18) 0⟩, ⟨none, some 5, .assign (.tmp 19)⟩]
def x42_9 : RC := .ops o42_9
def p42_12_1 : RO := ⟨none, some 21, .convert 9 49 (.tmp 20)⟩
def o42_12 : List RO := [⟨none, some 20, .move (.tmp 1)⟩, p42_12_1, ⟨none, some 22, .call ⟨.builtin .len, #[(.tmp 21)], #[49]⟩⟩, ⟨none, some 23, .move (.const (.int .i64 (0)))⟩]
def x42_12 : RC := .ops o42_12
def o42_16 : List RO := [⟨none, some 24, .binOp .lss 3 (.tmp 23) (.tmp 22) 3⟩]
def x42_16 : RC := .ops o42_16
def x42_18 : RC := .cond (.tmp 24) .skip (.exit 0)
def p42_22_0 : RO := ⟨none, some 25, .indexAddr 49 (.tmp 21) (.tmp 23)⟩
def p42_22_1 : RO := ⟨none, some 26, .load 5 (.tmp 25)⟩
def o42_22 : List RO := [p42_22_0, p42_22_1, ⟨none, some 7, .assign (.tmp 26)⟩]
def x42_22 : RC := .ops o42_22
def p42_24_3 : RO := ⟨none, some 30, .load 68 (.tmp 29)⟩
def p42_24_5 : RO := ⟨none, some 32, .lookup 68 (.tmp 30) (.tmp 31) false⟩
def o42_24 : List RO := [⟨none, some 27, .move (.tmp 5)⟩, ⟨none, some 28, .nilCheck (.tmp 27)⟩, ⟨none, some 29, .fieldAddr 70 (.tmp 28) 0⟩, p42_24_3, ⟨none, some 31, .move (.tmp 7)⟩, p42_24_5, ⟨none, some 5, .assign (.tmp 32)⟩]
def x42_24 : RC := .ops o42_24
def o42_26 : List RO := [⟨none, some 33, .move (.tmp 5)⟩, ⟨none, some 34, .binOp .eql 75 (.tmp 33) (.const (.pointer none)) 75⟩]
def x42_26 : RC := .ops o42_26
def o42_29 : List RO := [⟨none, some 4, .assign (.const (.bool false))⟩]
def x42_29 : RC := .ops o42_29
def x42_28 : RC := .seq x42_29 .ret
def x42_27 : RC := .cond (.tmp 34) x42_28 .skip
def x42_25 : RC := .seq x42_26 x42_27
def x42_23 : RC := .seq x42_24 x42_25
def x42_21 : RC := .seq x42_22 x42_23
def x42_20 : RC := .block 1 x42_21
def p42_30_0 : RO := ⟨none, some 35, .binOp .add 3 (.tmp 23) (.const (.int .i64 (1))) 3⟩
def o42_30 : List RO := [p42_30_0, ⟨none, some 23, .move (.tmp 35)⟩]
def x42_30 : RC := .ops o42_30
def x42_19 : RC := .seq x42_20 x42_30
def x42_17 : RC := .seq x42_18 x42_19
def x42_15 : RC := .seq x42_16 x42_17
def x42_14 : RC := .loop x42_15
def x42_13 : RC := .block 0 x42_14
def x42_11 : RC := .seq x42_12 x42_13
def o42_32 : List RO := [⟨none, some 4, .assign (.const (.bool true))⟩]
def x42_32 : RC := .ops o42_32
def x42_31 : RC := .seq x42_32 .ret
def x42_10 : RC := .seq x42_11 x42_31
def x42_8 : RC := .seq x42_9 x42_10
def x42_2 : RC := .seq x42_3 x42_8
def x42_0 : RC := .seq x42_1 x42_2
theorem x42_eq : Tryd.f42.body.map rc = some x42_0 := by kernel_rfl
def o50_1 : List RO := [⟨none, some 4, .assign (.const (.bool false))⟩]
def x50_1 : RC := .ops o50_1
def p50_3_6 : RO := ⟨some (some 10, true), some 11, .move (.tmp 0)⟩
def p50_3_9 : RO := ⟨some (some 10, true), some 14, .slice 9 (.tmp 11) none (some (.tmp 13)) none⟩
def o50_3 : List RO := [⟨none, some 5, .move (.tmp 0)⟩, ⟨none, some 6, .call ⟨.builtin .len, #[(.tmp 5)], #[9]⟩⟩, ⟨none, some 7, .move (.tmp 1)⟩, ⟨none, some 8, .call ⟨.builtin .len, #[(.tmp 7)], #[9]⟩⟩, ⟨none, some 9, .binOp .geq 3 (.tmp 6) (.tmp 8) 3⟩, ⟨none, some 10, .move (.tmp 9)⟩, p50_3_6, ⟨some (some 10, true), some 12, .move (.tmp 1)⟩, ⟨some (some 10, true), some 13, .call ⟨.builtin .len, #[(.tmp 12)], #[9]⟩⟩, p50_3_9, ⟨some (some 10, true), some 15, .move (.tmp 1)⟩, ⟨some (some 10, true), some 16, .binOp .eql 9 (.tmp 14) (.tmp 15) 9⟩, ⟨none, some 17, .pick (.tmp 10) (.tmp 16) (.const (.bool false))⟩, ⟨none, some 4, .assign (.tmp 17)⟩]
def x50_3 : RC := .ops o50_3
def x50_2 : RC := .seq x50_3 .ret
def x50_0 : RC := .seq x50_1 x50_2
theorem x50_eq : Tryd.f50.body.map rc = some x50_0 := by kernel_rfl
def tab : FuncId → Option (RC × List ResultVar × Nat)
 | 8 => some (x8_0, [.tmp 2, .tmp 3], 60)
 | 9 => some (x9_0, [.tmp 2, .tmp 3], 33)
 | 10 => some (x10_0, [.tmp 0], 122)
 | 11 => some (x11_0, [.tmp 4, .tmp 5, .tmp 6], 15)
 | 16 => some (x16_0, [.tmp 4], 15)
 | 19 => some (x19_0, [.tmp 0], 2)
 | 20 => some (x20_0, [.tmp 2], 17)
 | 21 => some (x21_0, [.tmp 2], 57)
 | 22 => some (x22_0, [.tmp 6, .tmp 7, .tmp 8], 98)
 | 23 => some (x23_0, [.tmp 2], 89)
 | 38 => some (x38_0, [.tmp 4], 8)
 | 39 => some (x39_0, [.tmp 2, .tmp 3, .tmp 4], 97)
 | 40 => some (x40_0, [.tmp 4, .tmp 5], 45)
 | 41 => some (x41_0, [.tmp 2], 19)
 | 42 => some (x42_0, [.tmp 4], 36)
 | 50 => some (x50_0, [.tmp 4], 18)
 | _ => none
theorem tab_ok : TabOK Tryd.prog tab := by
 intro f x rs n h
 unfold tab at h
 split at h
 ·injection h with h; injection h with h1 h; injection h with h2 h3; subst h1; subst h2; subst h3; exact ⟨_, Tryd.func8, rfl, rfl, x8_eq⟩
 ·injection h with h; injection h with h1 h; injection h with h2 h3; subst h1; subst h2; subst h3; exact ⟨_, Tryd.func9, rfl, rfl, x9_eq⟩
 ·injection h with h; injection h with h1 h; injection h with h2 h3; subst h1; subst h2; subst h3; exact ⟨_, Tryd.func10, rfl, rfl, x10_eq⟩
 ·injection h with h; injection h with h1 h; injection h with h2 h3; subst h1; subst h2; subst h3; exact ⟨_, Tryd.func11, rfl, rfl, x11_eq⟩
 ·injection h with h; injection h with h1 h; injection h with h2 h3; subst h1; subst h2; subst h3; exact ⟨_, Tryd.func16, rfl, rfl, x16_eq⟩
 ·injection h with h; injection h with h1 h; injection h with h2 h3; subst h1; subst h2; subst h3; exact ⟨_, Tryd.func19, rfl, rfl, x19_eq⟩
 ·injection h with h; injection h with h1 h; injection h with h2 h3; subst h1; subst h2; subst h3; exact ⟨_, Tryd.func20, rfl, rfl, x20_eq⟩
 ·injection h with h; injection h with h1 h; injection h with h2 h3; subst h1; subst h2; subst h3; exact ⟨_, Tryd.func21, rfl, rfl, x21_eq⟩
 ·injection h with h; injection h with h1 h; injection h with h2 h3; subst h1; subst h2; subst h3; exact ⟨_, Tryd.func22, rfl, rfl, x22_eq⟩
 ·injection h with h; injection h with h1 h; injection h with h2 h3; subst h1; subst h2; subst h3; exact ⟨_, Tryd.func23, rfl, rfl, x23_eq⟩
 ·injection h with h; injection h with h1 h; injection h with h2 h3; subst h1; subst h2; subst h3; exact ⟨_, Tryd.func38, rfl, rfl, x38_eq⟩
 ·injection h with h; injection h with h1 h; injection h with h2 h3; subst h1; subst h2; subst h3; exact ⟨_, Tryd.func39, rfl, rfl, x39_eq⟩
 ·injection h with h; injection h with h1 h; injection h with h2 h3; subst h1; subst h2; subst h3; exact ⟨_, Tryd.func40, rfl, rfl, x40_eq⟩
 ·injection h with h; injection h with h1 h; injection h with h2 h3; subst h1; subst h2; subst h3; exact ⟨_, Tryd.func41, rfl, rfl, x41_eq⟩
 ·injection h with h; injection h with h1 h; injection h with h2 h3; subst h1; subst h2; subst h3; exact ⟨_, Tryd.func42, rfl, rfl, x42_eq⟩
 ·injection h with h; injection h with h1 h; injection h with h2 h3; subst h1; subst h2; subst h3; exact ⟨_, Tryd.func50, rfl, rfl, x50_eq⟩
 ·cases h
def WOK (W : World) : Prop := SomeInt W 0
theorem wok_of {W : World} (h : W.ShapedOpen Tryd.prog) : WOK W := Tryd.laysM154.s1_3 W h
theorem base : Base Tryd.prog := ⟨by kernel_rfl, by kernel_rfl⟩
def prim0 : FuncId → Option (List V → H → Option (V × H)) := fun _ => none
theorem prim0s (W : World) (hW : WOK W) : Prims Tryd.prog W prim0 := fun _ _ => PrimOK.none
structure T74 where
 fName : (List UInt8)
 fR : Int
instance : Inhabited T74 := ⟨⟨default, default⟩⟩
def T74.cells (x : T74) : List V := [.str x.fName, iv x.fR]
structure T74.ok (W : World) (x : T74) : Prop where
 fName : (fun x : List UInt8 => x.length ≤ 140737488351232) x.fName
 fR : (fun x => -9223372036854775808 ≤ x ∧ x ≤ 9223372036854775807) x.fR
theorem T74_form {W : World} {n : Nat} {cs : List V} (h : Wf Tryd.prog W n 74 cs) : ∃ x : T74, cs = x.cells ∧ x.ok W := by
 have e3 : Tryd.prog.cellsOf 3 = 1 := by kernel_rfl
 have e9 : Tryd.prog.cellsOf 9 = 1 := by kernel_rfl
 have e74 : Tryd.prog.cellsOf 74 = 2 := by kernel_rfl
 cases n with
 | zero => exact h.elim
 | succ n =>
  simp only [Wf, Tryd.underlying74, e74] at h
  obtain ⟨hl, hf⟩ := h
  match cs, hl with
  | [c0, c1], _ =>
   simp only [List.mem_cons, forall_eq_or_imp, List.not_mem_nil, false_implies, implies_true, and_true, e3, e9, e74, List.drop_zero, List.drop_succ_cons, List.take_succ_cons, List.take_zero] at hf
   obtain ⟨h0, h1⟩ := hf
   obtain ⟨v0, rfl, r0⟩ := wf_strR Tryd.underlying9 h0
   obtain ⟨v1, rfl, r1⟩ := wf_i64 Tryd.underlying3 h1
   exact ⟨⟨v0, v1⟩, rfl, ⟨r0, r1⟩⟩
def q30 (l : List V) : Option V :=
 match l with
 | [.str s, .int .u8 k] => some (.int .i64 (Lib.indexByte s k.toNat.toUInt8))
 | _ => none
def prim1 : FuncId → Option (List V → H → Option (V × H)) := setPrim prim0 30 q30
theorem prim1s (W : World) (hW : WOK W) : Prims Tryd.prog W prim1 := by
 refine Prims.addC (prim0s W hW) ⟨_, _, Tryd.func30, rfl⟩ ?_
 intro w hb args v h μ args' hv
 unfold q30 at h
 split at h
 ·injection h with h; subst h
  obtain ⟨x, y, rfl, hx, hy⟩ := vrl2 hv
  obtain ⟨b, rfl, rfl⟩ := vr_str hx
  simp only [VR] at hy
  subst hy
  refine (Tryd.strings_IndexByte b _ w).mono ?_
  rintro e w' ⟨rfl, rfl⟩
  exact ⟨_, rfl, by simp [VR], rfl⟩
 ·cases h
def q36 (l : List V) : Option V :=
 match l with
 | [.str s, .str o, .str t] => if s.length < 4294967281 ∧ 1 ≤ o.length ∧ s.length * (t.length + 1) ≤ 140737488355328 then some (.str (Lib.replaceAll s o t)) else none
 | _ => none
def prim2 : FuncId → Option (List V → H → Option (V × H)) := setPrim prim1 36 q36
theorem prim2s (W : World) (hW : WOK W) : Prims Tryd.prog W prim2 := by
 refine Prims.addB (prim1s W hW) ⟨_, _, Tryd.func36, rfl⟩ ?_
 intro w hb args v h μ args' hv
 unfold q36 at h
 split at h
 ·split at h
  ·rename_i hc
   injection h with h; subst h
   obtain ⟨x, y, z, rfl, hx, hy, hz⟩ := vrl3 hv
   obtain ⟨a, rfl, rfl⟩ := vr_str hx
   obtain ⟨b, rfl, rfl⟩ := vr_str hy
   obtain ⟨d, rfl, rfl⟩ := vr_str hz
   obtain ⟨m, hm⟩ := SomeInt.below hW hb
   have ha : a.data.toList.length = a.size := by rw [Array.length_toList]; rfl
   have hb' : b.data.toList.length = b.size := by rw [Array.length_toList]; rfl
   have hd : d.data.toList.length = d.size := by rw [Array.length_toList]; rfl
   rw [ha, hb', hd] at hc
   refine (Tryd.strings_ReplaceAll a b d m w hc.1 hm hc.2.1 ?_).mono ?_
   ·have h1 := Lib.countB_le b hc.2.1 a.size a (Nat.le_refl _)
    have h2 : Lib.countB a b * d.size ≤ a.size * d.size := Nat.mul_le_mul_right _ h1
    have h3 := hc.2.2
    rw [Nat.mul_add, Nat.mul_one] at h3
    omega
   ·rintro e w' ⟨rfl, hbw⟩
    exact ⟨_, rfl, by simp [VR], hbw⟩
  ·cases h
 ·cases h
theorem rn {W : World} {c : Cfg} {Q : Ex → St → Prop} (n : Nat) (c' : Cfg) (k : WpM Tryd.prog W prim2 c' Q) (h : stepsM Tryd.prog W prim2 tab n c = some c' := by kernel_rfl) : WpM Tryd.prog W prim2 c Q := WpM.run tab_ok n c' h k
def E0 (q : Nat) (N : Nat) (pt : Nat) (p5 : Nat) (pw : Nat) (dd : Nat → V) (oo : Nat → V) (k : Int) (pb : Nat) (x : T74) (i : Int) : List V := (.slice (nw q) N N true :: U :: .ptr none :: .ptr (nw pt) :: U :: .ptr (nw p5) :: .ptr (nw pw) :: U :: (dd 8) :: (oo 9) :: (oo 10) :: .slice (nw q) N N true :: iv ((N : Int)) :: iv k :: (oo 14) :: (oo 15) :: (oo 16) :: (oo 17) :: (oo 18) :: (oo 19) :: (oo 20) :: (oo 21) :: (oo 22) :: (oo 23) :: (oo 24) :: (oo 25) :: (oo 26) :: (oo 27) :: (oo 28) :: (oo 29) :: (oo 30) :: .slice (nw pb) x.fName.length x.fName.length false :: iv ((x.fName.length : Int)) :: iv i :: .bool (decide (i < ((x.fName.length : Int)))) :: (dd 35) :: (dd 36) :: (dd 37) :: (dd 38) :: (dd 39) :: (dd 40) :: (dd 41) :: (dd 42) :: (dd 43) :: (dd 44) :: (dd 45) :: (dd 46) :: (dd 47) :: (dd 48) :: (dd 49) :: (dd 50) :: (dd 51) :: (dd 52) :: (dd 53) :: (dd 54) :: (dd 55) :: (dd 56) :: (dd 57) :: (dd 58) :: (dd 59) :: (dd 60) :: (dd 61) :: (dd 62) :: (dd 63) :: (dd 64) :: (dd 65) :: (dd 66) :: (oo 67) :: (oo 68) :: (oo 69) :: (oo 70) :: (oo 71) :: (oo 72) :: (oo 73) :: (oo 74) :: (oo 75) :: (oo 76) :: (oo 77) :: (oo 78) :: (oo 79) :: (oo 80) :: (oo 81) :: (oo 82) :: (oo 83) :: (oo 84) :: (oo 85) :: (oo 86) :: (oo 87) :: U :: [])
def E1 (q : Nat) (N : Nat) (pt : Nat) (p5 : Nat) (pw : Nat) (x : T74) (i : Int) (oo : Nat → V) (k : Int) (pb : Nat) (p110 : Nat) (dd : Nat → V) : List V := (.slice (nw q) N N true :: U :: .ptr none :: .ptr (nw pt) :: U :: .ptr (nw p5) :: .ptr (nw pw) :: U :: .int .u8 (bt x.fName i) :: (oo 9) :: (oo 10) :: .slice (nw q) N N true :: iv ((N : Int)) :: iv k :: (oo 14) :: (oo 15) :: (oo 16) :: (oo 17) :: (oo 18) :: (oo 19) :: (oo 20) :: (oo 21) :: (oo 22) :: (oo 23) :: (oo 24) :: (oo 25) :: (oo 26) :: (oo 27) :: (oo 28) :: (oo 29) :: (oo 30) :: .slice (nw pb) x.fName.length x.fName.length false :: iv ((x.fName.length : Int)) :: iv i :: .bool (decide (i < ((x.fName.length : Int)))) :: .ptr (some (.new pb (0 + i.toNat * 1))) :: .int .u8 (bt x.fName i) :: .ptr (nw pw) :: .ptr (nw pw) :: .ptr (nw pw) :: .map none :: .bool true :: .ptr (nw pw) :: .map (some p110) :: .ptr (nw pw) :: .ptr (nw pw) :: .ptr (nw pw) :: .ptr (nw pw) :: .ptr (nw pw) :: (dd 49) :: (dd 50) :: (dd 51) :: (dd 52) :: (dd 53) :: (dd 54) :: (dd 55) :: (dd 56) :: (dd 57) :: (dd 58) :: (dd 59) :: (dd 60) :: (dd 61) :: (dd 62) :: (dd 63) :: (dd 64) :: (dd 65) :: (dd 66) :: (oo 67) :: (oo 68) :: (oo 69) :: (oo 70) :: (oo 71) :: (oo 72) :: (oo 73) :: (oo 74) :: (oo 75) :: (oo 76) :: (oo 77) :: (oo 78) :: (oo 79) :: (oo 80) :: (oo 81) :: (oo 82) :: (oo 83) :: (oo 84) :: (oo 85) :: (oo 86) :: (oo 87) :: U :: [])
def E2 (q : Nat) (N : Nat) (pt : Nat) (p5 : Nat) (pw : Nat) (x : T74) (i : Int) (oo : Nat → V) (k : Int) (pb : Nat) (p110 : Nat) (p115 : Nat) (dd : Nat → V) : List V := (.slice (nw q) N N true :: U :: .ptr none :: .ptr (nw pt) :: U :: .ptr (nw p5) :: .ptr (nw pw) :: U :: .int .u8 (bt x.fName i) :: (oo 9) :: (oo 10) :: .slice (nw q) N N true :: iv ((N : Int)) :: iv k :: (oo 14) :: (oo 15) :: (oo 16) :: (oo 17) :: (oo 18) :: (oo 19) :: (oo 20) :: (oo 21) :: (oo 22) :: (oo 23) :: (oo 24) :: (oo 25) :: (oo 26) :: (oo 27) :: (oo 28) :: (oo 29) :: (oo 30) :: .slice (nw pb) x.fName.length x.fName.length false :: iv ((x.fName.length : Int)) :: iv i :: .bool (decide (i < ((x.fName.length : Int)))) :: .ptr (some (.new pb (0 + i.toNat * 1))) :: .int .u8 (bt x.fName i) :: .ptr (nw pw) :: .ptr (nw pw) :: .ptr (nw pw) :: .map none :: .bool true :: .ptr (nw pw) :: .map (some p110) :: .ptr (nw pw) :: .ptr (nw pw) :: .ptr (nw pw) :: .ptr (nw pw) :: .ptr (nw pw) :: .map (some p110) :: .int .u8 (bt x.fName i) :: .ptr none :: .bool true :: .ptr (nw pw) :: .ptr (nw pw) :: .ptr (nw pw) :: .map (some p110) :: .int .u8 (bt x.fName i) :: .agg [.map none, .bool false, iv 0] :: .ptr (nw p115) :: .ptr (nw pw) :: .ptr (nw pw) :: .ptr (nw pw) :: .map (some p110) :: .int .u8 (bt x.fName i) :: (dd 65) :: (dd 66) :: (oo 67) :: (oo 68) :: (oo 69) :: (oo 70) :: (oo 71) :: (oo 72) :: (oo 73) :: (oo 74) :: (oo 75) :: (oo 76) :: (oo 77) :: (oo 78) :: (oo 79) :: (oo 80) :: (oo 81) :: (oo 82) :: (oo 83) :: (oo 84) :: (oo 85) :: (oo 86) :: (oo 87) :: U :: [])
theorem new_in {W : World} {N pt p5 pb n0 q : Nat} {k : Int} {x : T74} {D0 B : Wrd → Bool} {R : Wrd → Int} {c : Int} {hB : H} {oo : Nat → V} {ks : List KF} {Q : Ex → St → Prop} (hl8 : x.fName.length ≤ 8) (hn0 : hB.nx ≤ n0) (hO : ∀ (h : H) (D : Wrd → Bool) (p : Wrd → Nat) (m : Wrd → Option Nat) (pw : Nat) (dd : Nat → V), Tri 72 70 n0 h D B R p m c → (∀ w, D w = (D0 w || w.isPrefixOf x.fName)) → p x.fName = pw → p [] = pt → h.get p5 = some (.cells [.str x.fName, iv x.fR] 74) → HX hB h → p5 < h.nx → WpM Tryd.prog W prim2 ⟨.done .norm, (ks), (.slice (nw q) N N true :: U :: .ptr none :: .ptr (nw pt) :: U :: .ptr (nw p5) :: .ptr (nw pw) :: U :: (dd 8) :: (oo 9) :: (oo 10) :: .slice (nw q) N N true :: iv ((N : Int)) :: iv k :: (oo 14) :: (oo 15) :: (oo 16) :: (oo 17) :: (oo 18) :: (oo 19) :: (oo 20) :: (oo 21) :: (oo 22) :: (oo 23) :: (oo 24) :: (oo 25) :: (oo 26) :: (oo 27) :: (oo 28) :: (oo 29) :: (oo 30) :: .slice (nw pb) x.fName.length x.fName.length false :: iv ((x.fName.length : Int)) :: (dd 33) :: (dd 34) :: (dd 35) :: (dd 36) :: (dd 37) :: (dd 38) :: (dd 39) :: (dd 40) :: (dd 41) :: (dd 42) :: (dd 43) :: (dd 44) :: (dd 45) :: (dd 46) :: (dd 47) :: (dd 48) :: (dd 49) :: (dd 50) :: (dd 51) :: (dd 52) :: (dd 53) :: (dd 54) :: (dd 55) :: (dd 56) :: (dd 57) :: (dd 58) :: (dd 59) :: (dd 60) :: (dd 61) :: (dd 62) :: (dd 63) :: (dd 64) :: (dd 65) :: (dd 66) :: (oo 67) :: (oo 68) :: (oo 69) :: (oo 70) :: (oo 71) :: (oo 72) :: (oo 73) :: (oo 74) :: (oo 75) :: (oo 76) :: (oo 77) :: (oo 78) :: (oo 79) :: (oo 80) :: (oo 81) :: (oo 82) :: (oo 83) :: (oo 84) :: (oo 85) :: (oo 86) :: (oo 87) :: U :: []), [], h, none⟩ Q) (nn : Nat) : ∀ (i : Int) (h : H) (D : Wrd → Bool) (p : Wrd → Nat) (m : Wrd → Option Nat) (pw : Nat) (dd : Nat → V), nn = ((x.fName.length : Int) - i).toNat → (0 ≤ i) → (i ≤ (x.fName.length : Int)) → (Tri 72 70 n0 h D B R p m c) → (∀ w, D w = (D0 w || w.isPrefixOf (x.fName.take i.toNat))) → (p (x.fName.take i.toNat) = pw) → (p [] = pt) → (h.get p5 = some (.cells [.str x.fName, iv x.fR] 74)) → (h.get pb = some (.cells (bv x.fName) 5)) → (HX hB h) → (p5 < h.nx) → (pb < h.nx) → WpM Tryd.prog W prim2 ⟨.code x23_28, (.loop x23_28 :: .blk 2 :: ks), (.slice (nw q) N N true :: U :: .ptr none :: .ptr (nw pt) :: U :: .ptr (nw p5) :: .ptr (nw pw) :: U :: (dd 8) :: (oo 9) :: (oo 10) :: .slice (nw q) N N true :: iv ((N : Int)) :: iv k :: (oo 14) :: (oo 15) :: (oo 16) :: (oo 17) :: (oo 18) :: (oo 19) :: (oo 20) :: (oo 21) :: (oo 22) :: (oo 23) :: (oo 24) :: (oo 25) :: (oo 26) :: (oo 27) :: (oo 28) :: (oo 29) :: (oo 30) :: .slice (nw pb) x.fName.length x.fName.length false :: iv ((x.fName.length : Int)) :: iv i :: (dd 34) :: (dd 35) :: (dd 36) :: (dd 37) :: (dd 38) :: (dd 39) :: (dd 40) :: (dd 41) :: (dd 42) :: (dd 43) :: (dd 44) :: (dd 45) :: (dd 46) :: (dd 47) :: (dd 48) :: (dd 49) :: (dd 50) :: (dd 51) :: (dd 52) :: (dd 53) :: (dd 54) :: (dd 55) :: (dd 56) :: (dd 57) :: (dd 58) :: (dd 59) :: (dd 60) :: (dd 61) :: (dd 62) :: (dd 63) :: (dd 64) :: (dd 65) :: (dd 66) :: (oo 67) :: (oo 68) :: (oo 69) :: (oo 70) :: (oo 71) :: (oo 72) :: (oo 73) :: (oo 74) :: (oo 75) :: (oo 76) :: (oo 77) :: (oo 78) :: (oo 79) :: (oo 80) :: (oo 81) :: (oo 82) :: (oo 83) :: (oo 84) :: (oo 85) :: (oo 86) :: (oo 87) :: U :: []), [], h, none⟩ Q := by
 induction nn using Nat.strongRecOn with
 | _ nn ih =>
  intro i h D p m pw dd hn9 h0i h1i hT hD hpw hr g5 gb hX l5 lb
  obtain ⟨wd, ewd⟩ : ∃ v, v = x.fName.take i.toNat := ⟨_, rfl⟩
  rw [← ewd] at hD hpw
  have hw : D wd = true := by rw [hD]; simp
  have hn := hT.node _ hw
  rw [hpw] at hn
  have hbl := bv_length x.fName
  have hbr := bt_range x.fName i
  have n5 : pw ≠ p5 := by rw [← hpw]; exact hT.ne hw g5 (fun _ _ e => by cases e)
  have nb : pw ≠ pb := by rw [← hpw]; exact hT.ne hw gb (bv_nomap _)
  have hXn := hX.nx
  have lpw := hn.2.1
  obtain ⟨b, eb⟩ : ∃ b, b = x.fName.getD i.toNat 0 := ⟨_, rfl⟩
  have ekb : V.int .u8 (bt x.fName i) = .int .u8 (b.toNat : Int) := by rw [eb]; rfl
  have hstep : i < (x.fName.length : Int) → x.fName.take (i + 1).toNat = wd ++ [b] := fun hi => by rw [take_bt h0i hi, ewd, eb]
  have hend : ¬ i < (x.fName.length : Int) → wd = x.fName := fun hi => by rw [ewd, List.take_of_length_le (by omega)]
  rcases hm : m wd with _ | mi
  rotate_left
  cases hk : D (wd ++ [b])
  ·skip
   have gpw : h.get pw = some (.cells (.map (some mi) :: .bool (B wd) :: iv (R wd) :: tlW c wd) (tyW 72 70 wd)) := by rw [← hm]; exact hn.2.2
   obtain ⟨nmi, lmi, es, gmi, kmi, fmi⟩ := hT.maps wd mi hw hm
   have nm5 := hT.nem hw hm g5
   have nmb := hT.nem hw hm gb
   have nmw : mi ≠ pw := fun e => by rw [e, gpw] at gmi; cases gmi
   obtain ⟨pk, epk⟩ : ∃ v, v = p (wd ++ [b]) := ⟨_, rfl⟩
   have fk : findKey (.int .u8 (bt x.fName i)) es = some none := by rw [ekb]; exact (fmi b).trans (congrArg some (if_neg (by rw [hk]; decide)))
   refine rn 6 ⟨.code x23_31, (.seq x23_32 :: .loop x23_28 :: .blk 2 :: ks), (E0 q N pt p5 pw dd oo k pb x i), [], h, none⟩ ?_
   refine WpM.cond (t := (decide (i < ((x.fName.length : Int))))) (by kernel_rfl) (fun c101 => ?_) (fun c101 => ?_)
   ·have c101p := dec_t c101
    refine rn 6 ⟨.ops (p23_35_0 :: o23_35.drop 1), (.seq x23_36 :: .blk 3 :: .seq x23_47 :: .loop x23_28 :: .blk 2 :: ks), (E0 q N pt p5 pw dd oo k pb x i), [], h, none⟩ ?_
    refine WpM.op (.ptr (some (.new pb (0 + i.toNat * 1)))) _ (by kernel_rfl) (indexAddr_sl (e := 5) (a := (.new pb 0)) (len := x.fName.length) (lb := x.fName.length) (ex := false) (z := 1) (k := .i64) (n := i) (by kernel_rfl) (by kernel_rfl) (by kernel_rfl) (by kernel_rfl) (by omega)) ?_
    refine rn 0 ⟨.ops (p23_35_1 :: o23_35.drop 2), (.seq x23_36 :: .blk 3 :: .seq x23_47 :: .loop x23_28 :: .blk 2 :: ks), (ss (E0 q N pt p5 pw dd oo k pb x i) [(35, .ptr (some (.new pb (0 + i.toNat * 1))))]), [], h, none⟩ ?_
    refine WpM.op (.int .u8 (bt x.fName i)) _ (by kernel_rfl) (load_new (o := (0 + i.toNat * 1)) (by kernel_rfl) gb (bv_ld (i := i) (by kernel_rfl) (by omega) (by omega))) ?_
    refine rn 9 ⟨.ops (p23_38_3 :: o23_38.drop 4), (.seq x23_39 :: .seq x23_41 :: .blk 3 :: .seq x23_47 :: .loop x23_28 :: .blk 2 :: ks), (ss (E0 q N pt p5 pw dd oo k pb x i) [(8, .int .u8 (bt x.fName i)), (35, .ptr (some (.new pb (0 + i.toNat * 1)))), (36, .int .u8 (bt x.fName i)), (37, .ptr (nw pw)), (38, .ptr (nw pw)), (39, .ptr (nw pw))]), [], h, none⟩ ?_
    refine WpM.op (.map (some mi)) _ (by kernel_rfl) (load_new (o := 0) (by kernel_rfl) gpw (by kernel_rfl)) ?_
    refine rn 12 ⟨.ops (p23_43_3 :: o23_43.drop 4), (.seq x23_44 :: .seq x23_46 :: .blk 3 :: .seq x23_47 :: .loop x23_28 :: .blk 2 :: ks), (.slice (nw q) N N true :: U :: .ptr none :: .ptr (nw pt) :: U :: .ptr (nw p5) :: .ptr (nw pw) :: U :: .int .u8 (bt x.fName i) :: (oo 9) :: (oo 10) :: .slice (nw q) N N true :: iv ((N : Int)) :: iv k :: (oo 14) :: (oo 15) :: (oo 16) :: (oo 17) :: (oo 18) :: (oo 19) :: (oo 20) :: (oo 21) :: (oo 22) :: (oo 23) :: (oo 24) :: (oo 25) :: (oo 26) :: (oo 27) :: (oo 28) :: (oo 29) :: (oo 30) :: .slice (nw pb) x.fName.length x.fName.length false :: iv ((x.fName.length : Int)) :: iv i :: .bool (decide (i < ((x.fName.length : Int)))) :: .ptr (some (.new pb (0 + i.toNat * 1))) :: .int .u8 (bt x.fName i) :: .ptr (nw pw) :: .ptr (nw pw) :: .ptr (nw pw) :: .map (some mi) :: .bool false :: (dd 42) :: (dd 43) :: (dd 44) :: (dd 45) :: .ptr (nw pw) :: .ptr (nw pw) :: .ptr (nw pw) :: (dd 49) :: (dd 50) :: (dd 51) :: (dd 52) :: (dd 53) :: (dd 54) :: (dd 55) :: (dd 56) :: (dd 57) :: (dd 58) :: (dd 59) :: (dd 60) :: (dd 61) :: (dd 62) :: (dd 63) :: (dd 64) :: (dd 65) :: (dd 66) :: (oo 67) :: (oo 68) :: (oo 69) :: (oo 70) :: (oo 71) :: (oo 72) :: (oo 73) :: (oo 74) :: (oo 75) :: (oo 76) :: (oo 77) :: (oo 78) :: (oo 79) :: (oo 80) :: (oo 81) :: (oo 82) :: (oo 83) :: (oo 84) :: (oo 85) :: (oo 86) :: (oo 87) :: U :: []), [], h, none⟩ ?_
    refine WpM.op (.map (some mi)) _ (by kernel_rfl) (load_new (o := 0) (by kernel_rfl) gpw (by kernel_rfl)) ?_
    refine rn 1 ⟨.ops (p23_43_5 :: o23_43.drop 6), (.seq x23_44 :: .seq x23_46 :: .blk 3 :: .seq x23_47 :: .loop x23_28 :: .blk 2 :: ks), (.slice (nw q) N N true :: U :: .ptr none :: .ptr (nw pt) :: U :: .ptr (nw p5) :: .ptr (nw pw) :: U :: .int .u8 (bt x.fName i) :: (oo 9) :: (oo 10) :: .slice (nw q) N N true :: iv ((N : Int)) :: iv k :: (oo 14) :: (oo 15) :: (oo 16) :: (oo 17) :: (oo 18) :: (oo 19) :: (oo 20) :: (oo 21) :: (oo 22) :: (oo 23) :: (oo 24) :: (oo 25) :: (oo 26) :: (oo 27) :: (oo 28) :: (oo 29) :: (oo 30) :: .slice (nw pb) x.fName.length x.fName.length false :: iv ((x.fName.length : Int)) :: iv i :: .bool (decide (i < ((x.fName.length : Int)))) :: .ptr (some (.new pb (0 + i.toNat * 1))) :: .int .u8 (bt x.fName i) :: .ptr (nw pw) :: .ptr (nw pw) :: .ptr (nw pw) :: .map (some mi) :: .bool false :: (dd 42) :: (dd 43) :: (dd 44) :: (dd 45) :: .ptr (nw pw) :: .ptr (nw pw) :: .ptr (nw pw) :: .map (some mi) :: .int .u8 (bt x.fName i) :: (dd 51) :: (dd 52) :: (dd 53) :: (dd 54) :: (dd 55) :: (dd 56) :: (dd 57) :: (dd 58) :: (dd 59) :: (dd 60) :: (dd 61) :: (dd 62) :: (dd 63) :: (dd 64) :: (dd 65) :: (dd 66) :: (oo 67) :: (oo 68) :: (oo 69) :: (oo 70) :: (oo 71) :: (oo 72) :: (oo 73) :: (oo 74) :: (oo 75) :: (oo 76) :: (oo 77) :: (oo 78) :: (oo 79) :: (oo 80) :: (oo 81) :: (oo 82) :: (oo 83) :: (oo 84) :: (oo 85) :: (oo 86) :: (oo 87) :: U :: []), [], h, none⟩ ?_
    refine WpM.op (.ptr none) _ (by kernel_rfl) (lookup_at (kt := 5) (et := 75) (i := mi) (es := es) (kv := .int .u8 (bt x.fName i)) (z := .ptr none) (r := none) (by kernel_rfl) (by kernel_rfl) (by kernel_rfl) (by kernel_rfl) (by kernel_rfl) gmi (fk) rfl) ?_
    refine rn 8 ⟨.ops (p23_45_3 :: o23_45.drop 4), (.seq x23_46 :: .blk 3 :: .seq x23_47 :: .loop x23_28 :: .blk 2 :: ks), (.slice (nw q) N N true :: U :: .ptr none :: .ptr (nw pt) :: U :: .ptr (nw p5) :: .ptr (nw pw) :: U :: .int .u8 (bt x.fName i) :: (oo 9) :: (oo 10) :: .slice (nw q) N N true :: iv ((N : Int)) :: iv k :: (oo 14) :: (oo 15) :: (oo 16) :: (oo 17) :: (oo 18) :: (oo 19) :: (oo 20) :: (oo 21) :: (oo 22) :: (oo 23) :: (oo 24) :: (oo 25) :: (oo 26) :: (oo 27) :: (oo 28) :: (oo 29) :: (oo 30) :: .slice (nw pb) x.fName.length x.fName.length false :: iv ((x.fName.length : Int)) :: iv i :: .bool (decide (i < ((x.fName.length : Int)))) :: .ptr (some (.new pb (0 + i.toNat * 1))) :: .int .u8 (bt x.fName i) :: .ptr (nw pw) :: .ptr (nw pw) :: .ptr (nw pw) :: .map (some mi) :: .bool false :: (dd 42) :: (dd 43) :: (dd 44) :: (dd 45) :: .ptr (nw pw) :: .ptr (nw pw) :: .ptr (nw pw) :: .map (some mi) :: .int .u8 (bt x.fName i) :: .ptr none :: .bool true :: .ptr (nw pw) :: .ptr (nw pw) :: .ptr (nw pw) :: (dd 56) :: (dd 57) :: (dd 58) :: (dd 59) :: (dd 60) :: (dd 61) :: (dd 62) :: (dd 63) :: (dd 64) :: (dd 65) :: (dd 66) :: (oo 67) :: (oo 68) :: (oo 69) :: (oo 70) :: (oo 71) :: (oo 72) :: (oo 73) :: (oo 74) :: (oo 75) :: (oo 76) :: (oo 77) :: (oo 78) :: (oo 79) :: (oo 80) :: (oo 81) :: (oo 82) :: (oo 83) :: (oo 84) :: (oo 85) :: (oo 86) :: (oo 87) :: U :: []), [], h, none⟩ ?_
    refine WpM.op (.map (some mi)) _ (by kernel_rfl) (load_new (o := 0) (by kernel_rfl) gpw (by kernel_rfl)) ?_
    refine rn 2 ⟨.ops (p23_45_6 :: o23_45.drop 7), (.seq x23_46 :: .blk 3 :: .seq x23_47 :: .loop x23_28 :: .blk 2 :: ks), (.slice (nw q) N N true :: U :: .ptr none :: .ptr (nw pt) :: U :: .ptr (nw p5) :: .ptr (nw pw) :: U :: .int .u8 (bt x.fName i) :: (oo 9) :: (oo 10) :: .slice (nw q) N N true :: iv ((N : Int)) :: iv k :: (oo 14) :: (oo 15) :: (oo 16) :: (oo 17) :: (oo 18) :: (oo 19) :: (oo 20) :: (oo 21) :: (oo 22) :: (oo 23) :: (oo 24) :: (oo 25) :: (oo 26) :: (oo 27) :: (oo 28) :: (oo 29) :: (oo 30) :: .slice (nw pb) x.fName.length x.fName.length false :: iv ((x.fName.length : Int)) :: iv i :: .bool (decide (i < ((x.fName.length : Int)))) :: .ptr (some (.new pb (0 + i.toNat * 1))) :: .int .u8 (bt x.fName i) :: .ptr (nw pw) :: .ptr (nw pw) :: .ptr (nw pw) :: .map (some mi) :: .bool false :: (dd 42) :: (dd 43) :: (dd 44) :: (dd 45) :: .ptr (nw pw) :: .ptr (nw pw) :: .ptr (nw pw) :: .map (some mi) :: .int .u8 (bt x.fName i) :: .ptr none :: .bool true :: .ptr (nw pw) :: .ptr (nw pw) :: .ptr (nw pw) :: .map (some mi) :: .int .u8 (bt x.fName i) :: .agg [.map none, .bool false, iv 0] :: (dd 59) :: (dd 60) :: (dd 61) :: (dd 62) :: (dd 63) :: (dd 64) :: (dd 65) :: (dd 66) :: (oo 67) :: (oo 68) :: (oo 69) :: (oo 70) :: (oo 71) :: (oo 72) :: (oo 73) :: (oo 74) :: (oo 75) :: (oo 76) :: (oo 77) :: (oo 78) :: (oo 79) :: (oo 80) :: (oo 81) :: (oo 82) :: (oo 83) :: (oo 84) :: (oo 85) :: (oo 86) :: (oo 87) :: U :: []), [], h, none⟩ ?_
    refine WpM.opA (fun p => .ptr (nw p)) (.cells [.map none, .bool false, iv 0] 70) (by kernel_rfl) (by kernel_rfl) (fun p102 h103 a104 => ?_)
    obtain ⟨es105, sees105, kues105, fees105⟩ := set_find (es := es) kmi (x.fName.getD i.toNat 0) (.ptr (nw p102))
    refine rn 0 ⟨.ops (p23_45_7 :: o23_45.drop 8), (.seq x23_46 :: .blk 3 :: .seq x23_47 :: .loop x23_28 :: .blk 2 :: ks), (.slice (nw q) N N true :: U :: .ptr none :: .ptr (nw pt) :: U :: .ptr (nw p5) :: .ptr (nw pw) :: U :: .int .u8 (bt x.fName i) :: (oo 9) :: (oo 10) :: .slice (nw q) N N true :: iv ((N : Int)) :: iv k :: (oo 14) :: (oo 15) :: (oo 16) :: (oo 17) :: (oo 18) :: (oo 19) :: (oo 20) :: (oo 21) :: (oo 22) :: (oo 23) :: (oo 24) :: (oo 25) :: (oo 26) :: (oo 27) :: (oo 28) :: (oo 29) :: (oo 30) :: .slice (nw pb) x.fName.length x.fName.length false :: iv ((x.fName.length : Int)) :: iv i :: .bool (decide (i < ((x.fName.length : Int)))) :: .ptr (some (.new pb (0 + i.toNat * 1))) :: .int .u8 (bt x.fName i) :: .ptr (nw pw) :: .ptr (nw pw) :: .ptr (nw pw) :: .map (some mi) :: .bool false :: (dd 42) :: (dd 43) :: (dd 44) :: (dd 45) :: .ptr (nw pw) :: .ptr (nw pw) :: .ptr (nw pw) :: .map (some mi) :: .int .u8 (bt x.fName i) :: .ptr none :: .bool true :: .ptr (nw pw) :: .ptr (nw pw) :: .ptr (nw pw) :: .map (some mi) :: .int .u8 (bt x.fName i) :: .agg [.map none, .bool false, iv 0] :: .ptr (nw p102) :: (dd 60) :: (dd 61) :: (dd 62) :: (dd 63) :: (dd 64) :: (dd 65) :: (dd 66) :: (oo 67) :: (oo 68) :: (oo 69) :: (oo 70) :: (oo 71) :: (oo 72) :: (oo 73) :: (oo 74) :: (oo 75) :: (oo 76) :: (oo 77) :: (oo 78) :: (oo 79) :: (oo 80) :: (oo 81) :: (oo 82) :: (oo 83) :: (oo 84) :: (oo 85) :: (oo 86) :: (oo 87) :: U :: []), [], h103, none⟩ ?_
    refine WpM.opS U mi (some (.map es105)) (by kernel_rfl) (update_at (kt := 5) (et := 75) (kv := .int .u8 (bt x.fName i)) (v := .ptr (nw p102)) (by kernel_rfl) (by kernel_rfl) (by kernel_rfl) (by kernel_rfl) (by kernel_rfl) (a104.keep lmi gmi) sees105) (fun h106 a107 => ?_)
    refine rn 6 ⟨.ops (p23_46_3 :: o23_46.drop 4), (.blk 3 :: .seq x23_47 :: .loop x23_28 :: .blk 2 :: ks), (.slice (nw q) N N true :: U :: .ptr none :: .ptr (nw pt) :: U :: .ptr (nw p5) :: .ptr (nw pw) :: U :: .int .u8 (bt x.fName i) :: (oo 9) :: (oo 10) :: .slice (nw q) N N true :: iv ((N : Int)) :: iv k :: (oo 14) :: (oo 15) :: (oo 16) :: (oo 17) :: (oo 18) :: (oo 19) :: (oo 20) :: (oo 21) :: (oo 22) :: (oo 23) :: (oo 24) :: (oo 25) :: (oo 26) :: (oo 27) :: (oo 28) :: (oo 29) :: (oo 30) :: .slice (nw pb) x.fName.length x.fName.length false :: iv ((x.fName.length : Int)) :: iv i :: .bool (decide (i < ((x.fName.length : Int)))) :: .ptr (some (.new pb (0 + i.toNat * 1))) :: .int .u8 (bt x.fName i) :: .ptr (nw pw) :: .ptr (nw pw) :: .ptr (nw pw) :: .map (some mi) :: .bool false :: (dd 42) :: (dd 43) :: (dd 44) :: (dd 45) :: .ptr (nw pw) :: .ptr (nw pw) :: .ptr (nw pw) :: .map (some mi) :: .int .u8 (bt x.fName i) :: .ptr none :: .bool true :: .ptr (nw pw) :: .ptr (nw pw) :: .ptr (nw pw) :: .map (some mi) :: .int .u8 (bt x.fName i) :: .agg [.map none, .bool false, iv 0] :: .ptr (nw p102) :: .ptr (nw pw) :: .ptr (nw pw) :: .ptr (nw pw) :: (dd 63) :: (dd 64) :: (dd 65) :: (dd 66) :: (oo 67) :: (oo 68) :: (oo 69) :: (oo 70) :: (oo 71) :: (oo 72) :: (oo 73) :: (oo 74) :: (oo 75) :: (oo 76) :: (oo 77) :: (oo 78) :: (oo 79) :: (oo 80) :: (oo 81) :: (oo 82) :: (oo 83) :: (oo 84) :: (oo 85) :: (oo 86) :: (oo 87) :: U :: []), [], h106, none⟩ ?_
    refine WpM.op (.map (some mi)) _ (by kernel_rfl) (load_new (o := 0) (by kernel_rfl) (a107.keep (Ne.symm nmw) (a104.keep lpw gpw)) (by kernel_rfl)) ?_
    refine rn 1 ⟨.ops (p23_46_5 :: o23_46.drop 6), (.blk 3 :: .seq x23_47 :: .loop x23_28 :: .blk 2 :: ks), (.slice (nw q) N N true :: U :: .ptr none :: .ptr (nw pt) :: U :: .ptr (nw p5) :: .ptr (nw pw) :: U :: .int .u8 (bt x.fName i) :: (oo 9) :: (oo 10) :: .slice (nw q) N N true :: iv ((N : Int)) :: iv k :: (oo 14) :: (oo 15) :: (oo 16) :: (oo 17) :: (oo 18) :: (oo 19) :: (oo 20) :: (oo 21) :: (oo 22) :: (oo 23) :: (oo 24) :: (oo 25) :: (oo 26) :: (oo 27) :: (oo 28) :: (oo 29) :: (oo 30) :: .slice (nw pb) x.fName.length x.fName.length false :: iv ((x.fName.length : Int)) :: iv i :: .bool (decide (i < ((x.fName.length : Int)))) :: .ptr (some (.new pb (0 + i.toNat * 1))) :: .int .u8 (bt x.fName i) :: .ptr (nw pw) :: .ptr (nw pw) :: .ptr (nw pw) :: .map (some mi) :: .bool false :: (dd 42) :: (dd 43) :: (dd 44) :: (dd 45) :: .ptr (nw pw) :: .ptr (nw pw) :: .ptr (nw pw) :: .map (some mi) :: .int .u8 (bt x.fName i) :: .ptr none :: .bool true :: .ptr (nw pw) :: .ptr (nw pw) :: .ptr (nw pw) :: .map (some mi) :: .int .u8 (bt x.fName i) :: .agg [.map none, .bool false, iv 0] :: .ptr (nw p102) :: .ptr (nw pw) :: .ptr (nw pw) :: .ptr (nw pw) :: .map (some mi) :: .int .u8 (bt x.fName i) :: (dd 65) :: (dd 66) :: (oo 67) :: (oo 68) :: (oo 69) :: (oo 70) :: (oo 71) :: (oo 72) :: (oo 73) :: (oo 74) :: (oo 75) :: (oo 76) :: (oo 77) :: (oo 78) :: (oo 79) :: (oo 80) :: (oo 81) :: (oo 82) :: (oo 83) :: (oo 84) :: (oo 85) :: (oo 86) :: (oo 87) :: U :: []), [], h106, none⟩ ?_
    refine WpM.op (.ptr (nw p102)) _ (by kernel_rfl) (lookup_at (kt := 5) (et := 75) (i := mi) (es := es105) (kv := .int .u8 (bt x.fName i)) (z := .ptr none) (r := (some (.ptr (nw p102)))) (by kernel_rfl) (by kernel_rfl) (by kernel_rfl) (by kernel_rfl) (by kernel_rfl) a107.get ((fees105 _).trans (if_pos rfl)) rfl) ?_
    refine rn 5 ⟨.ops (p23_47_0 :: o23_47.drop 1), (.loop x23_28 :: .blk 2 :: ks), (.slice (nw q) N N true :: U :: .ptr none :: .ptr (nw pt) :: U :: .ptr (nw p5) :: .ptr (nw p102) :: U :: .int .u8 (bt x.fName i) :: (oo 9) :: (oo 10) :: .slice (nw q) N N true :: iv ((N : Int)) :: iv k :: (oo 14) :: (oo 15) :: (oo 16) :: (oo 17) :: (oo 18) :: (oo 19) :: (oo 20) :: (oo 21) :: (oo 22) :: (oo 23) :: (oo 24) :: (oo 25) :: (oo 26) :: (oo 27) :: (oo 28) :: (oo 29) :: (oo 30) :: .slice (nw pb) x.fName.length x.fName.length false :: iv ((x.fName.length : Int)) :: iv i :: .bool (decide (i < ((x.fName.length : Int)))) :: .ptr (some (.new pb (0 + i.toNat * 1))) :: .int .u8 (bt x.fName i) :: .ptr (nw pw) :: .ptr (nw pw) :: .ptr (nw pw) :: .map (some mi) :: .bool false :: (dd 42) :: (dd 43) :: (dd 44) :: (dd 45) :: .ptr (nw pw) :: .ptr (nw pw) :: .ptr (nw pw) :: .map (some mi) :: .int .u8 (bt x.fName i) :: .ptr none :: .bool true :: .ptr (nw pw) :: .ptr (nw pw) :: .ptr (nw pw) :: .map (some mi) :: .int .u8 (bt x.fName i) :: .agg [.map none, .bool false, iv 0] :: .ptr (nw p102) :: .ptr (nw pw) :: .ptr (nw pw) :: .ptr (nw pw) :: .map (some mi) :: .int .u8 (bt x.fName i) :: .ptr (nw p102) :: (dd 66) :: (oo 67) :: (oo 68) :: (oo 69) :: (oo 70) :: (oo 71) :: (oo 72) :: (oo 73) :: (oo 74) :: (oo 75) :: (oo 76) :: (oo 77) :: (oo 78) :: (oo 79) :: (oo 80) :: (oo 81) :: (oo 82) :: (oo 83) :: (oo 84) :: (oo 85) :: (oo 86) :: (oo 87) :: U :: []), [], h106, none⟩ ?_
    refine WpM.op (iv (i + 1)) _ (by kernel_rfl) (arith_add (by kernel_rfl) (by kernel_rfl) (by omega)) ?_
    refine rn 3 ⟨.code x23_28, (.loop x23_28 :: .blk 2 :: ks), (.slice (nw q) N N true :: U :: .ptr none :: .ptr (nw pt) :: U :: .ptr (nw p5) :: .ptr (nw p102) :: U :: .int .u8 (bt x.fName i) :: (oo 9) :: (oo 10) :: .slice (nw q) N N true :: iv ((N : Int)) :: iv k :: (oo 14) :: (oo 15) :: (oo 16) :: (oo 17) :: (oo 18) :: (oo 19) :: (oo 20) :: (oo 21) :: (oo 22) :: (oo 23) :: (oo 24) :: (oo 25) :: (oo 26) :: (oo 27) :: (oo 28) :: (oo 29) :: (oo 30) :: .slice (nw pb) x.fName.length x.fName.length false :: iv ((x.fName.length : Int)) :: iv (i + 1) :: .bool (decide (i < ((x.fName.length : Int)))) :: .ptr (some (.new pb (0 + i.toNat * 1))) :: .int .u8 (bt x.fName i) :: .ptr (nw pw) :: .ptr (nw pw) :: .ptr (nw pw) :: .map (some mi) :: .bool false :: (dd 42) :: (dd 43) :: (dd 44) :: (dd 45) :: .ptr (nw pw) :: .ptr (nw pw) :: .ptr (nw pw) :: .map (some mi) :: .int .u8 (bt x.fName i) :: .ptr none :: .bool true :: .ptr (nw pw) :: .ptr (nw pw) :: .ptr (nw pw) :: .map (some mi) :: .int .u8 (bt x.fName i) :: .agg [.map none, .bool false, iv 0] :: .ptr (nw p102) :: .ptr (nw pw) :: .ptr (nw pw) :: .ptr (nw pw) :: .map (some mi) :: .int .u8 (bt x.fName i) :: .ptr (nw p102) :: iv (i + 1) :: (oo 67) :: (oo 68) :: (oo 69) :: (oo 70) :: (oo 71) :: (oo 72) :: (oo 73) :: (oo 74) :: (oo 75) :: (oo 76) :: (oo 77) :: (oo 78) :: (oo 79) :: (oo 80) :: (oo 81) :: (oo 82) :: (oo 83) :: (oo 84) :: (oo 85) :: (oo 86) :: (oo 87) :: U :: []), [], h106, none⟩ ?_
    refine ih _ ?_ _ h106 (fun v => D v || v == wd ++ [b]) (fun v => if v = wd ++ [b] then p102 else p v) (fun v => if v = wd ++ [b] then none else m v) p102 (fun n => ((.slice (nw q) N N true :: U :: .ptr none :: .ptr (nw pt) :: U :: .ptr (nw p5) :: .ptr (nw p102) :: U :: .int .u8 (bt x.fName i) :: (oo 9) :: (oo 10) :: .slice (nw q) N N true :: iv ((N : Int)) :: iv k :: (oo 14) :: (oo 15) :: (oo 16) :: (oo 17) :: (oo 18) :: (oo 19) :: (oo 20) :: (oo 21) :: (oo 22) :: (oo 23) :: (oo 24) :: (oo 25) :: (oo 26) :: (oo 27) :: (oo 28) :: (oo 29) :: (oo 30) :: .slice (nw pb) x.fName.length x.fName.length false :: iv ((x.fName.length : Int)) :: iv (i + 1) :: .bool (decide (i < ((x.fName.length : Int)))) :: .ptr (some (.new pb (0 + i.toNat * 1))) :: .int .u8 (bt x.fName i) :: .ptr (nw pw) :: .ptr (nw pw) :: .ptr (nw pw) :: .map (some mi) :: .bool false :: (dd 42) :: (dd 43) :: (dd 44) :: (dd 45) :: .ptr (nw pw) :: .ptr (nw pw) :: .ptr (nw pw) :: .map (some mi) :: .int .u8 (bt x.fName i) :: .ptr none :: .bool true :: .ptr (nw pw) :: .ptr (nw pw) :: .ptr (nw pw) :: .map (some mi) :: .int .u8 (bt x.fName i) :: .agg [.map none, .bool false, iv 0] :: .ptr (nw p102) :: .ptr (nw pw) :: .ptr (nw pw) :: .ptr (nw pw) :: .map (some mi) :: .int .u8 (bt x.fName i) :: .ptr (nw p102) :: iv (i + 1) :: (oo 67) :: (oo 68) :: (oo 69) :: (oo 70) :: (oo 71) :: (oo 72) :: (oo 73) :: (oo 74) :: (oo 75) :: (oo 76) :: (oo 77) :: (oo 78) :: (oo 79) :: (oo 80) :: (oo 81) :: (oo 82) :: (oo 83) :: (oo 84) :: (oo 85) :: (oo 86) :: (oo 87) :: U :: [])).getD n U) rfl ?_ ?_ ?_ ?_ ?_ ?_ ?_ ?_ ?_ ?_ ?_
    ·omega
    ·omega
    ·omega
    ·exact hT.newKid hw hm hk gmi kues105 (fun y => by rw [eb]; exact fees105 y) a104 a107
    ·rw [hstep (by omega)]; exact dom_new hD
    ·rw [hstep (by omega)]; exact if_pos rfl
    ·rw [if_neg (Ne.symm snoc_ne)]; exact hr
    ·exact (a107.keep (Ne.symm nm5) (a104.keep l5 g5))
    ·exact (a107.keep (Ne.symm nmb) (a104.keep lb gb))
    ·exact ((hX.alloc a104).put a107 (by have := (hX).nx; have := a104.eq; have := a104.nx; have := a107.nx; omega))
    ·exact (a107.le (a104.le l5))
    ·exact (a107.le (a104.le lb))
   ·have c101p := dec_f c101
    refine rn 4 ⟨.done .norm, (ks), (E0 q N pt p5 pw dd oo k pb x i), [], h, none⟩ ?_
    have e9 := hend (by omega)
    rw [e9] at hpw
    exact hO _ D p m pw (fun n => ((E0 q N pt p5 pw dd oo k pb x i)).getD n U) (hT.hx (HX.refl h)) (fun v => by rw [hD, e9]) hpw hr g5 hX l5
  ·skip
   have gpw : h.get pw = some (.cells (.map (some mi) :: .bool (B wd) :: iv (R wd) :: tlW c wd) (tyW 72 70 wd)) := by rw [← hm]; exact hn.2.2
   obtain ⟨nmi, lmi, es, gmi, kmi, fmi⟩ := hT.maps wd mi hw hm
   have nm5 := hT.nem hw hm g5
   have nmb := hT.nem hw hm gb
   have nmw : mi ≠ pw := fun e => by rw [e, gpw] at gmi; cases gmi
   obtain ⟨pk, epk⟩ : ∃ v, v = p (wd ++ [b]) := ⟨_, rfl⟩
   have fk : findKey (.int .u8 (bt x.fName i)) es = some (some (.ptr (nw pk))) := by rw [ekb, epk]; exact (fmi b).trans (congrArg some (if_pos hk))
   refine rn 6 ⟨.code x23_31, (.seq x23_32 :: .loop x23_28 :: .blk 2 :: ks), (E0 q N pt p5 pw dd oo k pb x i), [], h, none⟩ ?_
   refine WpM.cond (t := (decide (i < ((x.fName.length : Int))))) (by kernel_rfl) (fun c108 => ?_) (fun c108 => ?_)
   ·have c108p := dec_t c108
    refine rn 6 ⟨.ops (p23_35_0 :: o23_35.drop 1), (.seq x23_36 :: .blk 3 :: .seq x23_47 :: .loop x23_28 :: .blk 2 :: ks), (E0 q N pt p5 pw dd oo k pb x i), [], h, none⟩ ?_
    refine WpM.op (.ptr (some (.new pb (0 + i.toNat * 1)))) _ (by kernel_rfl) (indexAddr_sl (e := 5) (a := (.new pb 0)) (len := x.fName.length) (lb := x.fName.length) (ex := false) (z := 1) (k := .i64) (n := i) (by kernel_rfl) (by kernel_rfl) (by kernel_rfl) (by kernel_rfl) (by omega)) ?_
    refine rn 0 ⟨.ops (p23_35_1 :: o23_35.drop 2), (.seq x23_36 :: .blk 3 :: .seq x23_47 :: .loop x23_28 :: .blk 2 :: ks), (ss (E0 q N pt p5 pw dd oo k pb x i) [(35, .ptr (some (.new pb (0 + i.toNat * 1))))]), [], h, none⟩ ?_
    refine WpM.op (.int .u8 (bt x.fName i)) _ (by kernel_rfl) (load_new (o := (0 + i.toNat * 1)) (by kernel_rfl) gb (bv_ld (i := i) (by kernel_rfl) (by omega) (by omega))) ?_
    refine rn 9 ⟨.ops (p23_38_3 :: o23_38.drop 4), (.seq x23_39 :: .seq x23_41 :: .blk 3 :: .seq x23_47 :: .loop x23_28 :: .blk 2 :: ks), (ss (E0 q N pt p5 pw dd oo k pb x i) [(8, .int .u8 (bt x.fName i)), (35, .ptr (some (.new pb (0 + i.toNat * 1)))), (36, .int .u8 (bt x.fName i)), (37, .ptr (nw pw)), (38, .ptr (nw pw)), (39, .ptr (nw pw))]), [], h, none⟩ ?_
    refine WpM.op (.map (some mi)) _ (by kernel_rfl) (load_new (o := 0) (by kernel_rfl) gpw (by kernel_rfl)) ?_
    refine rn 12 ⟨.ops (p23_43_3 :: o23_43.drop 4), (.seq x23_44 :: .seq x23_46 :: .blk 3 :: .seq x23_47 :: .loop x23_28 :: .blk 2 :: ks), (.slice (nw q) N N true :: U :: .ptr none :: .ptr (nw pt) :: U :: .ptr (nw p5) :: .ptr (nw pw) :: U :: .int .u8 (bt x.fName i) :: (oo 9) :: (oo 10) :: .slice (nw q) N N true :: iv ((N : Int)) :: iv k :: (oo 14) :: (oo 15) :: (oo 16) :: (oo 17) :: (oo 18) :: (oo 19) :: (oo 20) :: (oo 21) :: (oo 22) :: (oo 23) :: (oo 24) :: (oo 25) :: (oo 26) :: (oo 27) :: (oo 28) :: (oo 29) :: (oo 30) :: .slice (nw pb) x.fName.length x.fName.length false :: iv ((x.fName.length : Int)) :: iv i :: .bool (decide (i < ((x.fName.length : Int)))) :: .ptr (some (.new pb (0 + i.toNat * 1))) :: .int .u8 (bt x.fName i) :: .ptr (nw pw) :: .ptr (nw pw) :: .ptr (nw pw) :: .map (some mi) :: .bool false :: (dd 42) :: (dd 43) :: (dd 44) :: (dd 45) :: .ptr (nw pw) :: .ptr (nw pw) :: .ptr (nw pw) :: (dd 49) :: (dd 50) :: (dd 51) :: (dd 52) :: (dd 53) :: (dd 54) :: (dd 55) :: (dd 56) :: (dd 57) :: (dd 58) :: (dd 59) :: (dd 60) :: (dd 61) :: (dd 62) :: (dd 63) :: (dd 64) :: (dd 65) :: (dd 66) :: (oo 67) :: (oo 68) :: (oo 69) :: (oo 70) :: (oo 71) :: (oo 72) :: (oo 73) :: (oo 74) :: (oo 75) :: (oo 76) :: (oo 77) :: (oo 78) :: (oo 79) :: (oo 80) :: (oo 81) :: (oo 82) :: (oo 83) :: (oo 84) :: (oo 85) :: (oo 86) :: (oo 87) :: U :: []), [], h, none⟩ ?_
    refine WpM.op (.map (some mi)) _ (by kernel_rfl) (load_new (o := 0) (by kernel_rfl) gpw (by kernel_rfl)) ?_
    refine rn 1 ⟨.ops (p23_43_5 :: o23_43.drop 6), (.seq x23_44 :: .seq x23_46 :: .blk 3 :: .seq x23_47 :: .loop x23_28 :: .blk 2 :: ks), (.slice (nw q) N N true :: U :: .ptr none :: .ptr (nw pt) :: U :: .ptr (nw p5) :: .ptr (nw pw) :: U :: .int .u8 (bt x.fName i) :: (oo 9) :: (oo 10) :: .slice (nw q) N N true :: iv ((N : Int)) :: iv k :: (oo 14) :: (oo 15) :: (oo 16) :: (oo 17) :: (oo 18) :: (oo 19) :: (oo 20) :: (oo 21) :: (oo 22) :: (oo 23) :: (oo 24) :: (oo 25) :: (oo 26) :: (oo 27) :: (oo 28) :: (oo 29) :: (oo 30) :: .slice (nw pb) x.fName.length x.fName.length false :: iv ((x.fName.length : Int)) :: iv i :: .bool (decide (i < ((x.fName.length : Int)))) :: .ptr (some (.new pb (0 + i.toNat * 1))) :: .int .u8 (bt x.fName i) :: .ptr (nw pw) :: .ptr (nw pw) :: .ptr (nw pw) :: .map (some mi) :: .bool false :: (dd 42) :: (dd 43) :: (dd 44) :: (dd 45) :: .ptr (nw pw) :: .ptr (nw pw) :: .ptr (nw pw) :: .map (some mi) :: .int .u8 (bt x.fName i) :: (dd 51) :: (dd 52) :: (dd 53) :: (dd 54) :: (dd 55) :: (dd 56) :: (dd 57) :: (dd 58) :: (dd 59) :: (dd 60) :: (dd 61) :: (dd 62) :: (dd 63) :: (dd 64) :: (dd 65) :: (dd 66) :: (oo 67) :: (oo 68) :: (oo 69) :: (oo 70) :: (oo 71) :: (oo 72) :: (oo 73) :: (oo 74) :: (oo 75) :: (oo 76) :: (oo 77) :: (oo 78) :: (oo 79) :: (oo 80) :: (oo 81) :: (oo 82) :: (oo 83) :: (oo 84) :: (oo 85) :: (oo 86) :: (oo 87) :: U :: []), [], h, none⟩ ?_
    refine WpM.op (.ptr (nw pk)) _ (by kernel_rfl) (lookup_at (kt := 5) (et := 75) (i := mi) (es := es) (kv := .int .u8 (bt x.fName i)) (z := .ptr none) (r := (some (.ptr (nw pk)))) (by kernel_rfl) (by kernel_rfl) (by kernel_rfl) (by kernel_rfl) (by kernel_rfl) gmi (fk) rfl) ?_
    refine rn 10 ⟨.ops (p23_46_3 :: o23_46.drop 4), (.blk 3 :: .seq x23_47 :: .loop x23_28 :: .blk 2 :: ks), (.slice (nw q) N N true :: U :: .ptr none :: .ptr (nw pt) :: U :: .ptr (nw p5) :: .ptr (nw pw) :: U :: .int .u8 (bt x.fName i) :: (oo 9) :: (oo 10) :: .slice (nw q) N N true :: iv ((N : Int)) :: iv k :: (oo 14) :: (oo 15) :: (oo 16) :: (oo 17) :: (oo 18) :: (oo 19) :: (oo 20) :: (oo 21) :: (oo 22) :: (oo 23) :: (oo 24) :: (oo 25) :: (oo 26) :: (oo 27) :: (oo 28) :: (oo 29) :: (oo 30) :: .slice (nw pb) x.fName.length x.fName.length false :: iv ((x.fName.length : Int)) :: iv i :: .bool (decide (i < ((x.fName.length : Int)))) :: .ptr (some (.new pb (0 + i.toNat * 1))) :: .int .u8 (bt x.fName i) :: .ptr (nw pw) :: .ptr (nw pw) :: .ptr (nw pw) :: .map (some mi) :: .bool false :: (dd 42) :: (dd 43) :: (dd 44) :: (dd 45) :: .ptr (nw pw) :: .ptr (nw pw) :: .ptr (nw pw) :: .map (some mi) :: .int .u8 (bt x.fName i) :: .ptr (nw pk) :: .bool false :: (dd 53) :: (dd 54) :: (dd 55) :: (dd 56) :: (dd 57) :: (dd 58) :: (dd 59) :: .ptr (nw pw) :: .ptr (nw pw) :: .ptr (nw pw) :: (dd 63) :: (dd 64) :: (dd 65) :: (dd 66) :: (oo 67) :: (oo 68) :: (oo 69) :: (oo 70) :: (oo 71) :: (oo 72) :: (oo 73) :: (oo 74) :: (oo 75) :: (oo 76) :: (oo 77) :: (oo 78) :: (oo 79) :: (oo 80) :: (oo 81) :: (oo 82) :: (oo 83) :: (oo 84) :: (oo 85) :: (oo 86) :: (oo 87) :: U :: []), [], h, none⟩ ?_
    refine WpM.op (.map (some mi)) _ (by kernel_rfl) (load_new (o := 0) (by kernel_rfl) gpw (by kernel_rfl)) ?_
    refine rn 1 ⟨.ops (p23_46_5 :: o23_46.drop 6), (.blk 3 :: .seq x23_47 :: .loop x23_28 :: .blk 2 :: ks), (.slice (nw q) N N true :: U :: .ptr none :: .ptr (nw pt) :: U :: .ptr (nw p5) :: .ptr (nw pw) :: U :: .int .u8 (bt x.fName i) :: (oo 9) :: (oo 10) :: .slice (nw q) N N true :: iv ((N : Int)) :: iv k :: (oo 14) :: (oo 15) :: (oo 16) :: (oo 17) :: (oo 18) :: (oo 19) :: (oo 20) :: (oo 21) :: (oo 22) :: (oo 23) :: (oo 24) :: (oo 25) :: (oo 26) :: (oo 27) :: (oo 28) :: (oo 29) :: (oo 30) :: .slice (nw pb) x.fName.length x.fName.length false :: iv ((x.fName.length : Int)) :: iv i :: .bool (decide (i < ((x.fName.length : Int)))) :: .ptr (some (.new pb (0 + i.toNat * 1))) :: .int .u8 (bt x.fName i) :: .ptr (nw pw) :: .ptr (nw pw) :: .ptr (nw pw) :: .map (some mi) :: .bool false :: (dd 42) :: (dd 43) :: (dd 44) :: (dd 45) :: .ptr (nw pw) :: .ptr (nw pw) :: .ptr (nw pw) :: .map (some mi) :: .int .u8 (bt x.fName i) :: .ptr (nw pk) :: .bool false :: (dd 53) :: (dd 54) :: (dd 55) :: (dd 56) :: (dd 57) :: (dd 58) :: (dd 59) :: .ptr (nw pw) :: .ptr (nw pw) :: .ptr (nw pw) :: .map (some mi) :: .int .u8 (bt x.fName i) :: (dd 65) :: (dd 66) :: (oo 67) :: (oo 68) :: (oo 69) :: (oo 70) :: (oo 71) :: (oo 72) :: (oo 73) :: (oo 74) :: (oo 75) :: (oo 76) :: (oo 77) :: (oo 78) :: (oo 79) :: (oo 80) :: (oo 81) :: (oo 82) :: (oo 83) :: (oo 84) :: (oo 85) :: (oo 86) :: (oo 87) :: U :: []), [], h, none⟩ ?_
    refine WpM.op (.ptr (nw pk)) _ (by kernel_rfl) (lookup_at (kt := 5) (et := 75) (i := mi) (es := es) (kv := .int .u8 (bt x.fName i)) (z := .ptr none) (r := (some (.ptr (nw pk)))) (by kernel_rfl) (by kernel_rfl) (by kernel_rfl) (by kernel_rfl) (by kernel_rfl) gmi (fk) rfl) ?_
    refine rn 5 ⟨.ops (p23_47_0 :: o23_47.drop 1), (.loop x23_28 :: .blk 2 :: ks), (.slice (nw q) N N true :: U :: .ptr none :: .ptr (nw pt) :: U :: .ptr (nw p5) :: .ptr (nw pk) :: U :: .int .u8 (bt x.fName i) :: (oo 9) :: (oo 10) :: .slice (nw q) N N true :: iv ((N : Int)) :: iv k :: (oo 14) :: (oo 15) :: (oo 16) :: (oo 17) :: (oo 18) :: (oo 19) :: (oo 20) :: (oo 21) :: (oo 22) :: (oo 23) :: (oo 24) :: (oo 25) :: (oo 26) :: (oo 27) :: (oo 28) :: (oo 29) :: (oo 30) :: .slice (nw pb) x.fName.length x.fName.length false :: iv ((x.fName.length : Int)) :: iv i :: .bool (decide (i < ((x.fName.length : Int)))) :: .ptr (some (.new pb (0 + i.toNat * 1))) :: .int .u8 (bt x.fName i) :: .ptr (nw pw) :: .ptr (nw pw) :: .ptr (nw pw) :: .map (some mi) :: .bool false :: (dd 42) :: (dd 43) :: (dd 44) :: (dd 45) :: .ptr (nw pw) :: .ptr (nw pw) :: .ptr (nw pw) :: .map (some mi) :: .int .u8 (bt x.fName i) :: .ptr (nw pk) :: .bool false :: (dd 53) :: (dd 54) :: (dd 55) :: (dd 56) :: (dd 57) :: (dd 58) :: (dd 59) :: .ptr (nw pw) :: .ptr (nw pw) :: .ptr (nw pw) :: .map (some mi) :: .int .u8 (bt x.fName i) :: .ptr (nw pk) :: (dd 66) :: (oo 67) :: (oo 68) :: (oo 69) :: (oo 70) :: (oo 71) :: (oo 72) :: (oo 73) :: (oo 74) :: (oo 75) :: (oo 76) :: (oo 77) :: (oo 78) :: (oo 79) :: (oo 80) :: (oo 81) :: (oo 82) :: (oo 83) :: (oo 84) :: (oo 85) :: (oo 86) :: (oo 87) :: U :: []), [], h, none⟩ ?_
    refine WpM.op (iv (i + 1)) _ (by kernel_rfl) (arith_add (by kernel_rfl) (by kernel_rfl) (by omega)) ?_
    refine rn 3 ⟨.code x23_28, (.loop x23_28 :: .blk 2 :: ks), (.slice (nw q) N N true :: U :: .ptr none :: .ptr (nw pt) :: U :: .ptr (nw p5) :: .ptr (nw pk) :: U :: .int .u8 (bt x.fName i) :: (oo 9) :: (oo 10) :: .slice (nw q) N N true :: iv ((N : Int)) :: iv k :: (oo 14) :: (oo 15) :: (oo 16) :: (oo 17) :: (oo 18) :: (oo 19) :: (oo 20) :: (oo 21) :: (oo 22) :: (oo 23) :: (oo 24) :: (oo 25) :: (oo 26) :: (oo 27) :: (oo 28) :: (oo 29) :: (oo 30) :: .slice (nw pb) x.fName.length x.fName.length false :: iv ((x.fName.length : Int)) :: iv (i + 1) :: .bool (decide (i < ((x.fName.length : Int)))) :: .ptr (some (.new pb (0 + i.toNat * 1))) :: .int .u8 (bt x.fName i) :: .ptr (nw pw) :: .ptr (nw pw) :: .ptr (nw pw) :: .map (some mi) :: .bool false :: (dd 42) :: (dd 43) :: (dd 44) :: (dd 45) :: .ptr (nw pw) :: .ptr (nw pw) :: .ptr (nw pw) :: .map (some mi) :: .int .u8 (bt x.fName i) :: .ptr (nw pk) :: .bool false :: (dd 53) :: (dd 54) :: (dd 55) :: (dd 56) :: (dd 57) :: (dd 58) :: (dd 59) :: .ptr (nw pw) :: .ptr (nw pw) :: .ptr (nw pw) :: .map (some mi) :: .int .u8 (bt x.fName i) :: .ptr (nw pk) :: iv (i + 1) :: (oo 67) :: (oo 68) :: (oo 69) :: (oo 70) :: (oo 71) :: (oo 72) :: (oo 73) :: (oo 74) :: (oo 75) :: (oo 76) :: (oo 77) :: (oo 78) :: (oo 79) :: (oo 80) :: (oo 81) :: (oo 82) :: (oo 83) :: (oo 84) :: (oo 85) :: (oo 86) :: (oo 87) :: U :: []), [], h, none⟩ ?_
    refine ih _ ?_ _ h D p m pk (fun n => ((.slice (nw q) N N true :: U :: .ptr none :: .ptr (nw pt) :: U :: .ptr (nw p5) :: .ptr (nw pk) :: U :: .int .u8 (bt x.fName i) :: (oo 9) :: (oo 10) :: .slice (nw q) N N true :: iv ((N : Int)) :: iv k :: (oo 14) :: (oo 15) :: (oo 16) :: (oo 17) :: (oo 18) :: (oo 19) :: (oo 20) :: (oo 21) :: (oo 22) :: (oo 23) :: (oo 24) :: (oo 25) :: (oo 26) :: (oo 27) :: (oo 28) :: (oo 29) :: (oo 30) :: .slice (nw pb) x.fName.length x.fName.length false :: iv ((x.fName.length : Int)) :: iv (i + 1) :: .bool (decide (i < ((x.fName.length : Int)))) :: .ptr (some (.new pb (0 + i.toNat * 1))) :: .int .u8 (bt x.fName i) :: .ptr (nw pw) :: .ptr (nw pw) :: .ptr (nw pw) :: .map (some mi) :: .bool false :: (dd 42) :: (dd 43) :: (dd 44) :: (dd 45) :: .ptr (nw pw) :: .ptr (nw pw) :: .ptr (nw pw) :: .map (some mi) :: .int .u8 (bt x.fName i) :: .ptr (nw pk) :: .bool false :: (dd 53) :: (dd 54) :: (dd 55) :: (dd 56) :: (dd 57) :: (dd 58) :: (dd 59) :: .ptr (nw pw) :: .ptr (nw pw) :: .ptr (nw pw) :: .map (some mi) :: .int .u8 (bt x.fName i) :: .ptr (nw pk) :: iv (i + 1) :: (oo 67) :: (oo 68) :: (oo 69) :: (oo 70) :: (oo 71) :: (oo 72) :: (oo 73) :: (oo 74) :: (oo 75) :: (oo 76) :: (oo 77) :: (oo 78) :: (oo 79) :: (oo 80) :: (oo 81) :: (oo 82) :: (oo 83) :: (oo 84) :: (oo 85) :: (oo 86) :: (oo 87) :: U :: [])).getD n U) rfl ?_ ?_ ?_ ?_ ?_ ?_ ?_ ?_ ?_ ?_ ?_
    ·omega
    ·omega
    ·omega
    ·exact hT.hx (HX.refl h)
    ·rw [hstep (by omega)]; exact dom_old hD hk
    ·rw [hstep (by omega), epk]
    ·exact hr
    ·exact g5
    ·exact gb
    ·exact hX
    ·exact l5
    ·exact lb
   ·have c108p := dec_f c108
    refine rn 4 ⟨.done .norm, (ks), (E0 q N pt p5 pw dd oo k pb x i), [], h, none⟩ ?_
    have e9 := hend (by omega)
    rw [e9] at hpw
    exact hO _ D p m pw (fun n => ((E0 q N pt p5 pw dd oo k pb x i)).getD n U) (hT.hx (HX.refl h)) (fun v => by rw [hD, e9]) hpw hr g5 hX l5
  ·skip
   have gpw : h.get pw = some (.cells (.map none :: .bool (B wd) :: iv (R wd) :: tlW c wd) (tyW 72 70 wd)) := by rw [← hm]; exact hn.2.2
   refine rn 6 ⟨.code x23_31, (.seq x23_32 :: .loop x23_28 :: .blk 2 :: ks), (E0 q N pt p5 pw dd oo k pb x i), [], h, none⟩ ?_
   refine WpM.cond (t := (decide (i < ((x.fName.length : Int))))) (by kernel_rfl) (fun c109 => ?_) (fun c109 => ?_)
   ·have c109p := dec_t c109
    refine rn 6 ⟨.ops (p23_35_0 :: o23_35.drop 1), (.seq x23_36 :: .blk 3 :: .seq x23_47 :: .loop x23_28 :: .blk 2 :: ks), (E0 q N pt p5 pw dd oo k pb x i), [], h, none⟩ ?_
    refine WpM.op (.ptr (some (.new pb (0 + i.toNat * 1)))) _ (by kernel_rfl) (indexAddr_sl (e := 5) (a := (.new pb 0)) (len := x.fName.length) (lb := x.fName.length) (ex := false) (z := 1) (k := .i64) (n := i) (by kernel_rfl) (by kernel_rfl) (by kernel_rfl) (by kernel_rfl) (by omega)) ?_
    refine rn 0 ⟨.ops (p23_35_1 :: o23_35.drop 2), (.seq x23_36 :: .blk 3 :: .seq x23_47 :: .loop x23_28 :: .blk 2 :: ks), (ss (E0 q N pt p5 pw dd oo k pb x i) [(35, .ptr (some (.new pb (0 + i.toNat * 1))))]), [], h, none⟩ ?_
    refine WpM.op (.int .u8 (bt x.fName i)) _ (by kernel_rfl) (load_new (o := (0 + i.toNat * 1)) (by kernel_rfl) gb (bv_ld (i := i) (by kernel_rfl) (by omega) (by omega))) ?_
    refine rn 9 ⟨.ops (p23_38_3 :: o23_38.drop 4), (.seq x23_39 :: .seq x23_41 :: .blk 3 :: .seq x23_47 :: .loop x23_28 :: .blk 2 :: ks), (ss (E0 q N pt p5 pw dd oo k pb x i) [(8, .int .u8 (bt x.fName i)), (35, .ptr (some (.new pb (0 + i.toNat * 1)))), (36, .int .u8 (bt x.fName i)), (37, .ptr (nw pw)), (38, .ptr (nw pw)), (39, .ptr (nw pw))]), [], h, none⟩ ?_
    refine WpM.op (.map none) _ (by kernel_rfl) (load_new (o := 0) (by kernel_rfl) gpw (by kernel_rfl)) ?_
    refine rn 6 ⟨.ops (p23_40_1 :: o23_40.drop 2), (.seq x23_41 :: .blk 3 :: .seq x23_47 :: .loop x23_28 :: .blk 2 :: ks), (ss (E0 q N pt p5 pw dd oo k pb x i) [(8, .int .u8 (bt x.fName i)), (35, .ptr (some (.new pb (0 + i.toNat * 1)))), (36, .int .u8 (bt x.fName i)), (37, .ptr (nw pw)), (38, .ptr (nw pw)), (39, .ptr (nw pw)), (40, .map none), (41, .bool true), (42, .ptr (nw pw))]), [], h, none⟩ ?_
    refine WpM.opA (fun p => .map (some p)) (.map ([])) (by kernel_rfl) (by kernel_rfl) (fun p110 h111 a112 => ?_)
    refine rn 2 ⟨.ops (p23_40_4 :: o23_40.drop 5), (.seq x23_41 :: .blk 3 :: .seq x23_47 :: .loop x23_28 :: .blk 2 :: ks), (ss (E0 q N pt p5 pw dd oo k pb x i) [(8, .int .u8 (bt x.fName i)), (35, .ptr (some (.new pb (0 + i.toNat * 1)))), (36, .int .u8 (bt x.fName i)), (37, .ptr (nw pw)), (38, .ptr (nw pw)), (39, .ptr (nw pw)), (40, .map none), (41, .bool true), (42, .ptr (nw pw)), (43, .map (some p110)), (44, .ptr (nw pw)), (45, .ptr (nw pw))]), [], h111, none⟩ ?_
    refine WpM.opS U pw (some (.cells (.map (some p110) :: .bool (B wd) :: iv (R wd) :: tlW c wd) (tyW 72 70 wd))) (by kernel_rfl) (store_new (o := 0) (v := .map (some p110)) (by kernel_rfl) (by kernel_rfl) (a112.keep lpw gpw) (by kernel_rfl)) (fun h113 a114 => ?_)
    refine rn 8 ⟨.ops (p23_43_3 :: o23_43.drop 4), (.seq x23_44 :: .seq x23_46 :: .blk 3 :: .seq x23_47 :: .loop x23_28 :: .blk 2 :: ks), (E1 q N pt p5 pw x i oo k pb p110 dd), [], h113, none⟩ ?_
    refine WpM.op (.map (some p110)) _ (by kernel_rfl) (load_new (o := 0) (by kernel_rfl) a114.get (by kernel_rfl)) ?_
    refine rn 1 ⟨.ops (p23_43_5 :: o23_43.drop 6), (.seq x23_44 :: .seq x23_46 :: .blk 3 :: .seq x23_47 :: .loop x23_28 :: .blk 2 :: ks), (ss (E1 q N pt p5 pw x i oo k pb p110 dd) [(49, .map (some p110)), (50, .int .u8 (bt x.fName i))]), [], h113, none⟩ ?_
    refine WpM.op (.ptr none) _ (by kernel_rfl) (lookup_at (kt := 5) (et := 75) (i := p110) (es := ([])) (kv := .int .u8 (bt x.fName i)) (z := .ptr none) (r := none) (by kernel_rfl) (by kernel_rfl) (by kernel_rfl) (by kernel_rfl) (by kernel_rfl) (a114.keep (Ne.symm (a112.ne lpw)) a112.get) rfl rfl) ?_
    refine rn 8 ⟨.ops (p23_45_3 :: o23_45.drop 4), (.seq x23_46 :: .blk 3 :: .seq x23_47 :: .loop x23_28 :: .blk 2 :: ks), (ss (E1 q N pt p5 pw x i oo k pb p110 dd) [(49, .map (some p110)), (50, .int .u8 (bt x.fName i)), (51, .ptr none), (52, .bool true), (53, .ptr (nw pw)), (54, .ptr (nw pw)), (55, .ptr (nw pw))]), [], h113, none⟩ ?_
    refine WpM.op (.map (some p110)) _ (by kernel_rfl) (load_new (o := 0) (by kernel_rfl) a114.get (by kernel_rfl)) ?_
    refine rn 2 ⟨.ops (p23_45_6 :: o23_45.drop 7), (.seq x23_46 :: .blk 3 :: .seq x23_47 :: .loop x23_28 :: .blk 2 :: ks), (ss (E1 q N pt p5 pw x i oo k pb p110 dd) [(49, .map (some p110)), (50, .int .u8 (bt x.fName i)), (51, .ptr none), (52, .bool true), (53, .ptr (nw pw)), (54, .ptr (nw pw)), (55, .ptr (nw pw)), (56, .map (some p110)), (57, .int .u8 (bt x.fName i)), (58, .agg [.map none, .bool false, iv 0])]), [], h113, none⟩ ?_
    refine WpM.opA (fun p => .ptr (nw p)) (.cells [.map none, .bool false, iv 0] 70) (by kernel_rfl) (by kernel_rfl) (fun p115 h116 a117 => ?_)
    obtain ⟨es118, sees118, kues118, fees118⟩ := set_find (es := ([])) KU.nil (x.fName.getD i.toNat 0) (.ptr (nw p115))
    have g119 := (a117.keep (a114.le a112.lt) (a114.keep (Ne.symm (a112.ne lpw)) a112.get))
    refine rn 0 ⟨.ops (p23_45_7 :: o23_45.drop 8), (.seq x23_46 :: .blk 3 :: .seq x23_47 :: .loop x23_28 :: .blk 2 :: ks), (ss (E1 q N pt p5 pw x i oo k pb p110 dd) [(49, .map (some p110)), (50, .int .u8 (bt x.fName i)), (51, .ptr none), (52, .bool true), (53, .ptr (nw pw)), (54, .ptr (nw pw)), (55, .ptr (nw pw)), (56, .map (some p110)), (57, .int .u8 (bt x.fName i)), (58, .agg [.map none, .bool false, iv 0]), (59, .ptr (nw p115))]), [], h116, none⟩ ?_
    refine WpM.opS U p110 (some (.map es118)) (by kernel_rfl) (update_at (kt := 5) (et := 75) (kv := .int .u8 (bt x.fName i)) (v := .ptr (nw p115)) (by kernel_rfl) (by kernel_rfl) (by kernel_rfl) (by kernel_rfl) (by kernel_rfl) g119 sees118) (fun h120 a121 => ?_)
    have g122 := (a121.keep (a112.ne lpw) (a117.keep (a114.le (a112.le lpw)) a114.get))
    refine rn 6 ⟨.ops (p23_46_3 :: o23_46.drop 4), (.blk 3 :: .seq x23_47 :: .loop x23_28 :: .blk 2 :: ks), (ss (E1 q N pt p5 pw x i oo k pb p110 dd) [(49, .map (some p110)), (50, .int .u8 (bt x.fName i)), (51, .ptr none), (52, .bool true), (53, .ptr (nw pw)), (54, .ptr (nw pw)), (55, .ptr (nw pw)), (56, .map (some p110)), (57, .int .u8 (bt x.fName i)), (58, .agg [.map none, .bool false, iv 0]), (59, .ptr (nw p115)), (60, .ptr (nw pw)), (61, .ptr (nw pw)), (62, .ptr (nw pw))]), [], h120, none⟩ ?_
    refine WpM.op (.map (some p110)) _ (by kernel_rfl) (load_new (o := 0) (by kernel_rfl) g122 (by kernel_rfl)) ?_
    refine rn 1 ⟨.ops (p23_46_5 :: o23_46.drop 6), (.blk 3 :: .seq x23_47 :: .loop x23_28 :: .blk 2 :: ks), (E2 q N pt p5 pw x i oo k pb p110 p115 dd), [], h120, none⟩ ?_
    refine WpM.op (.ptr (nw p115)) _ (by kernel_rfl) (lookup_at (kt := 5) (et := 75) (i := p110) (es := es118) (kv := .int .u8 (bt x.fName i)) (z := .ptr none) (r := (some (.ptr (nw p115)))) (by kernel_rfl) (by kernel_rfl) (by kernel_rfl) (by kernel_rfl) (by kernel_rfl) a121.get ((fees118 _).trans (if_pos rfl)) rfl) ?_
    refine rn 5 ⟨.ops (p23_47_0 :: o23_47.drop 1), (.loop x23_28 :: .blk 2 :: ks), (ss (E2 q N pt p5 pw x i oo k pb p110 p115 dd) [(6, .ptr (nw p115)), (65, .ptr (nw p115))]), [], h120, none⟩ ?_
    refine WpM.op (iv (i + 1)) _ (by kernel_rfl) (arith_add (by kernel_rfl) (by kernel_rfl) (by omega)) ?_
    refine rn 3 ⟨.code x23_28, (.loop x23_28 :: .blk 2 :: ks), (ss (E2 q N pt p5 pw x i oo k pb p110 p115 dd) [(6, .ptr (nw p115)), (33, iv (i + 1)), (65, .ptr (nw p115)), (66, iv (i + 1))]), [], h120, none⟩ ?_
    have g123 := (a121.keep (a112.ne l5) (a117.keep (a114.le (a112.le l5)) (a114.keep (Ne.symm n5) (a112.keep l5 g5))))
    have g124 := (a121.keep (a112.ne lb) (a117.keep (a114.le (a112.le lb)) (a114.keep (Ne.symm nb) (a112.keep lb gb))))
    have g125 : p5 < h120.nx := (a121.le (a117.le (a114.le (a112.le l5))))
    have g126 : pb < h120.nx := (a121.le (a117.le (a114.le (a112.le lb))))
    refine ih _ ?_ _ h120 (fun v => D v || v == wd ++ [b]) (fun v => if v = wd ++ [b] then p115 else p v) (fun v => if v = wd ++ [b] then none else (if v = wd then some p110 else m v)) p115 (fun n => ((ss (E2 q N pt p5 pw x i oo k pb p110 p115 dd) [(6, .ptr (nw p115)), (33, iv (i + 1)), (65, .ptr (nw p115)), (66, iv (i + 1))])).getD n U) rfl ?_ ?_ ?_ ?_ ?_ ?_ ?_ ?_ ?_ ?_ ?_
    ·omega
    ·omega
    ·omega
    ·exact (hT.setMap hw hm a112 (hpw.symm ▸ a114)).newKid hw (if_pos rfl) (hT.leaf _ hw hm b) (a114.keep (Ne.symm (a112.ne lpw)) a112.get) kues118 (fun y => by rw [eb]; exact fees118 y) a117 a121
    ·rw [hstep (by omega)]; exact dom_new hD
    ·rw [hstep (by omega)]; exact if_pos rfl
    ·rw [if_neg (Ne.symm snoc_ne)]; exact hr
    ·exact g123
    ·exact g124
    ·exact ((((hX.alloc a112).put a114 (by have := (hX).nx; have := a112.eq; have := a112.nx; have := a114.nx; have := a117.eq; have := a117.nx; have := a121.nx; omega)).alloc a117).put a121 (by have := (hX).nx; have := a112.eq; have := a112.nx; have := a114.nx; have := a117.eq; have := a117.nx; have := a121.nx; omega))
    ·exact g125
    ·exact g126
   ·have c109p := dec_f c109
    refine rn 4 ⟨.done .norm, (ks), (E0 q N pt p5 pw dd oo k pb x i), [], h, none⟩ ?_
    have e9 := hend (by omega)
    rw [e9] at hpw
    exact hO _ D p m pw (fun n => ((E0 q N pt p5 pw dd oo k pb x i)).getD n U) (hT.hx (HX.refl h)) (fun v => by rw [hD, e9]) hpw hr g5 hX l5
structure TL (l : List T74) (D B : Wrd → Bool) (R : Wrd → Int) : Prop where
 D : ∀ w, D w = (w == [] || l.any fun x => w.isPrefixOf x.fName)
 B : ∀ w, B w = l.any fun x => x.fName == w
 R : ∀ w, R w = match l.find? (fun x => x.fName == w) with | some x => x.fR | none => 0
theorem TL.dom {l : List T74} {D D2 B : Wrd → Bool} {R : Wrd → Int} {x : T74} (t : TL l D B R) (hD : ∀ w, D2 w = (D w || w.isPrefixOf x.fName)) : ∀ w, D2 w = (w == [] || (l ++ [x]).any fun x => w.isPrefixOf x.fName) := fun w => by
 rw [hD, t.D]
 simp [Bool.or_assoc]
theorem any_find {l : List T74} {w : Wrd} : l.any (fun x => x.fName == w) = (l.find? (fun x => x.fName == w)).isSome := by
 rw [Bool.eq_iff_iff, List.find?_isSome]
 simp
theorem TL.add {l : List T74} {D D2 B : Wrd → Bool} {R : Wrd → Int} {x : T74} (t : TL l D B R) (hD : ∀ w, D2 w = (D w || w.isPrefixOf x.fName)) (hb : B x.fName = false) : TL (l ++ [x]) D2 (fun v => if v = x.fName then true else B v) (fun v => if v = x.fName then x.fR else R v) := by
 refine ⟨t.dom hD, fun w => ?_, fun w => ?_⟩
 ·by_cases e : w = x.fName
  ·subst e; simp
  ·have : (x.fName == w) = false := beq_false_of_ne (Ne.symm e)
   simp [e, t.B, this]
 ·rw [List.find?_append]
  by_cases e : w = x.fName
  ·subst e
   have h1 : l.find? (fun y => y.fName == x.fName) = none := by
    rw [t.B, any_find] at hb
    simpa using hb
   rw [h1]
   simp
  ·have : (x.fName == w) = false := beq_false_of_ne (Ne.symm e)
   simp only [if_neg e, t.R]
   simp [this]
theorem TL.same {l : List T74} {D D2 B : Wrd → Bool} {R : Wrd → Int} {x : T74} (t : TL l D B R) (hD : ∀ w, D2 w = (D w || w.isPrefixOf x.fName)) (hb : B x.fName = true) : TL (l ++ [x]) D2 B R := by
 refine ⟨t.dom hD, fun w => ?_, fun w => ?_⟩
 ·by_cases e : w = x.fName
  ·subst e; rw [hb]; simp
  ·have : (x.fName == w) = false := beq_false_of_ne (Ne.symm e)
   simp [t.B, this]
 ·rw [List.find?_append, t.R]
  by_cases e : w = x.fName
  ·subst e
   rw [t.B, any_find] at hb
   obtain ⟨y, hy⟩ := Option.isSome_iff_exists.1 hb
   rw [hy]; rfl
  ·have : (x.fName == w) = false := beq_false_of_ne (Ne.symm e)
   simp [this]
theorem take_gt {l : List T74} {k : Int} (h0 : 0 ≤ k) (h : k < (l.length : Int)) : l.take (k + 1).toNat = l.take k.toNat ++ [gt l k] := by
 have hl : k.toNat < l.length := by omega
 rw [toNat_succ h0, List.take_succ_eq_append_getElem hl]
 unfold gt
 rw [List.getD_eq_getElem?_getD, List.getElem?_eq_getElem hl]
 rfl
theorem dom_zero {D : Wrd → Bool} {s : Wrd} (h : D [] = true) : ∀ w, D w = (D w || w.isPrefixOf (s.take (0 : Int).toNat)) := fun w => by
 by_cases e : w = []
 ·subst e; rw [h]; rfl
 ·have : w.isPrefixOf [] = false := by cases w <;> simp_all
  simp [this]
def E3 (q : Nat) (l : List T74) (pt : Nat) (dd : Nat → V) (k : Int) : List V := (.slice (nw q) l.length l.length true :: U :: .ptr none :: .ptr (nw pt) :: U :: (dd 5) :: (dd 6) :: U :: (dd 8) :: .agg [.map none, .bool false, iv 0, iv 0] :: .ptr (nw pt) :: .slice (nw q) l.length l.length true :: iv ((l.length : Int)) :: iv k :: .bool (decide (k < ((l.length : Int)))) :: (dd 15) :: (dd 16) :: (dd 17) :: (dd 18) :: (dd 19) :: (dd 20) :: (dd 21) :: (dd 22) :: (dd 23) :: (dd 24) :: (dd 25) :: (dd 26) :: (dd 27) :: (dd 28) :: (dd 29) :: (dd 30) :: (dd 31) :: (dd 32) :: (dd 33) :: (dd 34) :: (dd 35) :: (dd 36) :: (dd 37) :: (dd 38) :: (dd 39) :: (dd 40) :: (dd 41) :: (dd 42) :: (dd 43) :: (dd 44) :: (dd 45) :: (dd 46) :: (dd 47) :: (dd 48) :: (dd 49) :: (dd 50) :: (dd 51) :: (dd 52) :: (dd 53) :: (dd 54) :: (dd 55) :: (dd 56) :: (dd 57) :: (dd 58) :: (dd 59) :: (dd 60) :: (dd 61) :: (dd 62) :: (dd 63) :: (dd 64) :: (dd 65) :: (dd 66) :: (dd 67) :: (dd 68) :: (dd 69) :: (dd 70) :: (dd 71) :: (dd 72) :: (dd 73) :: (dd 74) :: (dd 75) :: (dd 76) :: (dd 77) :: (dd 78) :: (dd 79) :: (dd 80) :: (dd 81) :: (dd 82) :: (dd 83) :: (dd 84) :: (dd 85) :: (dd 86) :: (dd 87) :: U :: [])
def E4 (q : Nat) (l : List T74) (pt : Nat) (p102 : Nat) (dd : Nat → V) (k : Int) : List V := (.slice (nw q) l.length l.length true :: U :: .ptr none :: .ptr (nw pt) :: U :: .ptr (nw p102) :: .ptr (nw pt) :: U :: (dd 8) :: .agg [.map none, .bool false, iv 0, iv 0] :: .ptr (nw pt) :: .slice (nw q) l.length l.length true :: iv ((l.length : Int)) :: iv k :: .bool (decide (k < ((l.length : Int)))) :: .ptr (some (.new q (0 + k.toNat * 2))) :: .agg [.str ((gt l k).fName), iv ((gt l k).fR)] :: .ptr (nw p102) :: .str ((gt l k).fName) :: .bool (((gt l k).fName) == []) :: .bool false :: .ptr (nw p102) :: .str ((gt l k).fName) :: iv ((((gt l k).fName).length : Int)) :: .bool (decide (((((gt l k).fName).length : Int)) > 8)) :: .bool (decide (((((gt l k).fName).length : Int)) > 8)) :: .ptr (nw pt) :: .ptr (nw pt) :: .ptr (nw pt) :: .ptr (nw p102) :: (dd 30) :: (dd 31) :: (dd 32) :: (dd 33) :: (dd 34) :: (dd 35) :: (dd 36) :: (dd 37) :: (dd 38) :: (dd 39) :: (dd 40) :: (dd 41) :: (dd 42) :: (dd 43) :: (dd 44) :: (dd 45) :: (dd 46) :: (dd 47) :: (dd 48) :: (dd 49) :: (dd 50) :: (dd 51) :: (dd 52) :: (dd 53) :: (dd 54) :: (dd 55) :: (dd 56) :: (dd 57) :: (dd 58) :: (dd 59) :: (dd 60) :: (dd 61) :: (dd 62) :: (dd 63) :: (dd 64) :: (dd 65) :: (dd 66) :: (dd 67) :: (dd 68) :: (dd 69) :: (dd 70) :: (dd 71) :: (dd 72) :: (dd 73) :: (dd 74) :: (dd 75) :: (dd 76) :: (dd 77) :: (dd 78) :: (dd 79) :: (dd 80) :: (dd 81) :: (dd 82) :: (dd 83) :: (dd 84) :: (dd 85) :: (dd 86) :: (dd 87) :: U :: [])
def E5 (q : Nat) (l : List T74) (pt : Nat) (p102 : Nat) (pw : Nat) (ee : Nat → V) (k : Int) (p109 : Nat) (dd : Nat → V) : List V := (.slice (nw q) l.length l.length true :: U :: .ptr none :: .ptr (nw pt) :: U :: .ptr (nw p102) :: .ptr (nw pw) :: U :: (ee 8) :: .agg [.map none, .bool false, iv 0, iv 0] :: .ptr (nw pt) :: .slice (nw q) l.length l.length true :: iv ((l.length : Int)) :: iv k :: .bool (decide (k < ((l.length : Int)))) :: .ptr (some (.new q (0 + k.toNat * 2))) :: .agg [.str ((gt l k).fName), iv ((gt l k).fR)] :: .ptr (nw p102) :: .str ((gt l k).fName) :: .bool (((gt l k).fName) == []) :: .bool false :: .ptr (nw p102) :: .str ((gt l k).fName) :: iv ((((gt l k).fName).length : Int)) :: .bool (decide (((((gt l k).fName).length : Int)) > 8)) :: .bool (decide (((((gt l k).fName).length : Int)) > 8)) :: .ptr (nw pt) :: .ptr (nw pt) :: .ptr (nw pt) :: .ptr (nw p102) :: .str ((gt l k).fName) :: .slice (nw p109) (((gt l k).fName).length) (((gt l k).fName).length) false :: iv (((((gt l k).fName).length) : Int)) :: (ee 33) :: (ee 34) :: (ee 35) :: (ee 36) :: (ee 37) :: (ee 38) :: (ee 39) :: (ee 40) :: (ee 41) :: (ee 42) :: (ee 43) :: (ee 44) :: (ee 45) :: (ee 46) :: (ee 47) :: (ee 48) :: (ee 49) :: (ee 50) :: (ee 51) :: (ee 52) :: (ee 53) :: (ee 54) :: (ee 55) :: (ee 56) :: (ee 57) :: (ee 58) :: (ee 59) :: (ee 60) :: (ee 61) :: (ee 62) :: (ee 63) :: (ee 64) :: (ee 65) :: (ee 66) :: .ptr (nw pw) :: .ptr (nw pw) :: .ptr (some (.new pw 1)) :: (dd 70) :: (dd 71) :: (dd 72) :: (dd 73) :: (dd 74) :: (dd 75) :: (dd 76) :: (dd 77) :: (dd 78) :: (dd 79) :: (dd 80) :: (dd 81) :: (dd 82) :: (dd 83) :: (dd 84) :: (dd 85) :: (dd 86) :: (dd 87) :: U :: [])
def E6 (q : Nat) (l : List T74) (pt : Nat) (p102 : Nat) (pw : Nat) (ee : Nat → V) (k : Int) (p109 : Nat) (B : Wrd → Bool) (c : Int) (dd : Nat → V) : List V := (.slice (nw q) l.length l.length true :: U :: .ptr none :: .ptr (nw pt) :: U :: .ptr (nw p102) :: .ptr (nw pw) :: U :: (ee 8) :: .agg [.map none, .bool false, iv 0, iv 0] :: .ptr (nw pt) :: .slice (nw q) l.length l.length true :: iv ((l.length : Int)) :: iv k :: .bool (decide (k < ((l.length : Int)))) :: .ptr (some (.new q (0 + k.toNat * 2))) :: .agg [.str ((gt l k).fName), iv ((gt l k).fR)] :: .ptr (nw p102) :: .str ((gt l k).fName) :: .bool (((gt l k).fName) == []) :: .bool false :: .ptr (nw p102) :: .str ((gt l k).fName) :: iv ((((gt l k).fName).length : Int)) :: .bool (decide (((((gt l k).fName).length : Int)) > 8)) :: .bool (decide (((((gt l k).fName).length : Int)) > 8)) :: .ptr (nw pt) :: .ptr (nw pt) :: .ptr (nw pt) :: .ptr (nw p102) :: .str ((gt l k).fName) :: .slice (nw p109) (((gt l k).fName).length) (((gt l k).fName).length) false :: iv (((((gt l k).fName).length) : Int)) :: (ee 33) :: (ee 34) :: (ee 35) :: (ee 36) :: (ee 37) :: (ee 38) :: (ee 39) :: (ee 40) :: (ee 41) :: (ee 42) :: (ee 43) :: (ee 44) :: (ee 45) :: (ee 46) :: (ee 47) :: (ee 48) :: (ee 49) :: (ee 50) :: (ee 51) :: (ee 52) :: (ee 53) :: (ee 54) :: (ee 55) :: (ee 56) :: (ee 57) :: (ee 58) :: (ee 59) :: (ee 60) :: (ee 61) :: (ee 62) :: (ee 63) :: (ee 64) :: (ee 65) :: (ee 66) :: .ptr (nw pw) :: .ptr (nw pw) :: .ptr (some (.new pw 1)) :: .bool (B (gt l k).fName) :: .bool (!(B (gt l k).fName)) :: .ptr (nw pw) :: .ptr (nw pw) :: .ptr (some (.new p102 1)) :: iv ((gt l k).fR) :: .ptr (nw pw) :: .ptr (some (.new pw 1)) :: .ptr (nw pw) :: .ptr (some (.new pw 2)) :: .ptr (nw pt) :: .ptr (nw pt) :: .ptr (some (.new pt 3)) :: iv c :: iv (c + 1) :: .ptr (nw pt) :: .ptr (some (.new pt 3)) :: (dd 87) :: U :: [])
theorem new_out {W : World} {pt : Nat} {l : List T74} {q : Nat} {hB : H} (lq : q < hB.nx) (gq : hB.get q = some (.cells (rv T74.cells l) 74)) (hlen : l.length ≤ 1000) (hk : ∀ x ∈ l, x.fName ≠ [] ∧ x.fName.length ≤ 8) (n : Nat) : ∀ (k : Int) (h : H) (D B : Wrd → Bool) (R : Wrd → Int) (p : Wrd → Nat) (m : Wrd → Option Nat) (c : Int) (dd : Nat → V), n = ((l.length : Int) - k).toNat → (0 ≤ k) → (k ≤ (l.length : Int)) → (Tri 72 70 hB.nx h D B R p m c) → (TL (l.take k.toNat) D B R) → (p [] = pt) → (0 ≤ c ∧ c ≤ k ∧ (0 < k → 0 < c)) → (HX hB h) → WpM Tryd.prog W prim2 ⟨.code x23_9, [.loop x23_9, .blk 0, .seq x23_55], (.slice (nw q) l.length l.length true :: U :: .ptr none :: .ptr (nw pt) :: U :: (dd 5) :: (dd 6) :: U :: (dd 8) :: .agg [.map none, .bool false, iv 0, iv 0] :: .ptr (nw pt) :: .slice (nw q) l.length l.length true :: iv ((l.length : Int)) :: iv k :: (dd 14) :: (dd 15) :: (dd 16) :: (dd 17) :: (dd 18) :: (dd 19) :: (dd 20) :: (dd 21) :: (dd 22) :: (dd 23) :: (dd 24) :: (dd 25) :: (dd 26) :: (dd 27) :: (dd 28) :: (dd 29) :: (dd 30) :: (dd 31) :: (dd 32) :: (dd 33) :: (dd 34) :: (dd 35) :: (dd 36) :: (dd 37) :: (dd 38) :: (dd 39) :: (dd 40) :: (dd 41) :: (dd 42) :: (dd 43) :: (dd 44) :: (dd 45) :: (dd 46) :: (dd 47) :: (dd 48) :: (dd 49) :: (dd 50) :: (dd 51) :: (dd 52) :: (dd 53) :: (dd 54) :: (dd 55) :: (dd 56) :: (dd 57) :: (dd 58) :: (dd 59) :: (dd 60) :: (dd 61) :: (dd 62) :: (dd 63) :: (dd 64) :: (dd 65) :: (dd 66) :: (dd 67) :: (dd 68) :: (dd 69) :: (dd 70) :: (dd 71) :: (dd 72) :: (dd 73) :: (dd 74) :: (dd 75) :: (dd 76) :: (dd 77) :: (dd 78) :: (dd 79) :: (dd 80) :: (dd 81) :: (dd 82) :: (dd 83) :: (dd 84) :: (dd 85) :: (dd 86) :: (dd 87) :: U :: []), [], h, none⟩ (retQ Tryd.prog W [.tmp 2] (fun v h' => HX hB h' ∧ ∃ (D B : Wrd → Bool) (R : Wrd → Int) (p : Wrd → Nat) (m : Wrd → Option Nat) (c : Int), v = .ptr (some (.new (p []) 0)) ∧ Tri 72 70 hB.nx h' D B R p m c ∧ TL l D B R ∧ (l ≠ [] → 0 < c))) := by
 induction n using Nat.strongRecOn with
 | _ n ih =>
  intro k h D B R p m c dd hn9 h0k h1k hT hL hr hc hX
  have hXn := hX.nx
  have hc0 := hc.1
  have hc1 := hc.2.1
  have hkx : k < (l.length : Int) → (gt l k).fName ≠ [] ∧ (gt l k).fName.length ≤ 8 := fun hlt => hk _ (gt_mem h0k hlt)
  refine rn 6 ⟨.code x23_12, [.seq x23_13, .loop x23_9, .blk 0, .seq x23_55], (E3 q l pt dd k), [], h, none⟩ ?_
  refine WpM.cond (t := (decide (k < ((l.length : Int))))) (by kernel_rfl) (fun c101 => ?_) (fun c101 => ?_)
  ·have c101p := dec_t c101
   refine rn 6 ⟨.ops (p23_16_0 :: o23_16.drop 1), [.seq x23_17, .blk 1, .seq x23_54, .loop x23_9, .blk 0, .seq x23_55], (E3 q l pt dd k), [], h, none⟩ ?_
   refine WpM.op (.ptr (some (.new q (0 + k.toNat * 2)))) _ (by kernel_rfl) (indexAddr_sl (e := 74) (a := (.new q 0)) (len := l.length) (lb := l.length) (ex := true) (z := 2) (k := .i64) (n := k) (by kernel_rfl) (by kernel_rfl) (by kernel_rfl) (by kernel_rfl) (by omega)) ?_
   refine rn 0 ⟨.ops (p23_16_1 :: o23_16.drop 2), [.seq x23_17, .blk 1, .seq x23_54, .loop x23_9, .blk 0, .seq x23_55], (ss (E3 q l pt dd k) [(15, .ptr (some (.new q (0 + k.toNat * 2))))]), [], h, none⟩ ?_
   refine WpM.op (.agg [.str ((gt l k).fName), iv ((gt l k).fR)]) _ (by kernel_rfl) (load_new (o := (0 + k.toNat * 2)) (by kernel_rfl) (hX.keep lq gq) (rv_ldA (z := 2) (f := T74.cells) (fun _ => rfl) (i := k) (by omega) (off := 0) (n := 2) (by kernel_rfl) (by kernel_rfl) (by decide) (by decide) (by kernel_rfl) (by omega))) ?_
   refine rn 0 ⟨.ops (p23_16_2 :: o23_16.drop 3), [.seq x23_17, .blk 1, .seq x23_54, .loop x23_9, .blk 0, .seq x23_55], (ss (E3 q l pt dd k) [(15, .ptr (some (.new q (0 + k.toNat * 2)))), (16, .agg [.str ((gt l k).fName), iv ((gt l k).fR)])]), [], h, none⟩ ?_
   refine WpM.opA (fun p => .ptr (nw p)) (.cells [.str [], iv 0] 74) (by kernel_rfl) (by kernel_rfl) (fun p102 h103 a104 => ?_)
   refine rn 0 ⟨.ops (p23_16_3 :: o23_16.drop 4), [.seq x23_17, .blk 1, .seq x23_54, .loop x23_9, .blk 0, .seq x23_55], (ss (E3 q l pt dd k) [(5, .ptr (nw p102)), (15, .ptr (some (.new q (0 + k.toNat * 2)))), (16, .agg [.str ((gt l k).fName), iv ((gt l k).fR)])]), [], h103, none⟩ ?_
   refine WpM.opS U p102 (some (.cells [.str ((gt l k).fName), iv ((gt l k).fR)] 74)) (by kernel_rfl) (store_new (o := 0) (v := .agg [.str ((gt l k).fName), iv ((gt l k).fR)]) (by kernel_rfl) (by kernel_rfl) a104.get (by kernel_rfl)) (fun h105 a106 => ?_)
   refine rn 6 ⟨.ops (p23_19_1 :: o23_19.drop 2), [.seq x23_20, .seq x23_21, .blk 1, .seq x23_54, .loop x23_9, .blk 0, .seq x23_55], (ss (E3 q l pt dd k) [(5, .ptr (nw p102)), (15, .ptr (some (.new q (0 + k.toNat * 2)))), (16, .agg [.str ((gt l k).fName), iv ((gt l k).fR)]), (17, .ptr (nw p102))]), [], h105, none⟩ ?_
   refine WpM.op (.str ((gt l k).fName)) _ (by kernel_rfl) (load_new (o := 0) (by kernel_rfl) a106.get (by kernel_rfl)) ?_
   refine rn 2 ⟨.ops (p23_19_4 :: o23_19.drop 5), [.seq x23_20, .seq x23_21, .blk 1, .seq x23_54, .loop x23_9, .blk 0, .seq x23_55], (ss (E3 q l pt dd k) [(5, .ptr (nw p102)), (15, .ptr (some (.new q (0 + k.toNat * 2)))), (16, .agg [.str ((gt l k).fName), iv ((gt l k).fR)]), (17, .ptr (nw p102)), (18, .str ((gt l k).fName)), (19, .bool (((gt l k).fName) == [])), (20, .bool (((gt l k).fName) == []))]), [], h105, none⟩ ?_
   refine WpM.guard (b := (((gt l k).fName) == [])) (by kernel_rfl) (fun c107 => ?_) (fun c107 => ?_)
   ·have c107p := beq_t c107
    exact absurd (eq_of_beq c107) (hkx (by omega)).1
   ·have c107p := beq_f c107
    refine rn 1 ⟨.ops (p23_19_5 :: o23_19.drop 6), [.seq x23_20, .seq x23_21, .blk 1, .seq x23_54, .loop x23_9, .blk 0, .seq x23_55], (ss (E3 q l pt dd k) [(5, .ptr (nw p102)), (15, .ptr (some (.new q (0 + k.toNat * 2)))), (16, .agg [.str ((gt l k).fName), iv ((gt l k).fR)]), (17, .ptr (nw p102)), (18, .str ((gt l k).fName)), (19, .bool (((gt l k).fName) == [])), (20, .bool false), (21, .ptr (nw p102))]), [], h105, none⟩ ?_
    refine WpM.op (.str ((gt l k).fName)) _ (by kernel_rfl) (load_new (o := 0) (by kernel_rfl) a106.get (by kernel_rfl)) ?_
    refine rn 5 ⟨.code x23_20, [.seq x23_21, .blk 1, .seq x23_54, .loop x23_9, .blk 0, .seq x23_55], (ss (E3 q l pt dd k) [(5, .ptr (nw p102)), (15, .ptr (some (.new q (0 + k.toNat * 2)))), (16, .agg [.str ((gt l k).fName), iv ((gt l k).fR)]), (17, .ptr (nw p102)), (18, .str ((gt l k).fName)), (19, .bool (((gt l k).fName) == [])), (20, .bool false), (21, .ptr (nw p102)), (22, .str ((gt l k).fName)), (23, iv ((((gt l k).fName).length : Int))), (24, .bool (decide (((((gt l k).fName).length : Int)) > 8))), (25, .bool (decide (((((gt l k).fName).length : Int)) > 8)))]), [], h105, none⟩ ?_
    refine WpM.cond (t := (decide (((((gt l k).fName).length : Int)) > 8))) (by kernel_rfl) (fun c108 => ?_) (fun c108 => ?_)
    ·have c108p := dec_t c108
     exfalso; have := (hkx (by omega)).2; omega
    ·have c108p := dec_f c108
     refine rn 14 ⟨.ops (p23_25_1 :: o23_25.drop 2), [.seq x23_26, .seq x23_48, .blk 1, .seq x23_54, .loop x23_9, .blk 0, .seq x23_55], (E4 q l pt p102 dd k), [], h105, none⟩ ?_
     refine WpM.op (.str ((gt l k).fName)) _ (by kernel_rfl) (load_new (o := 0) (by kernel_rfl) a106.get (by kernel_rfl)) ?_
     refine rn 0 ⟨.ops (p23_25_2 :: o23_25.drop 3), [.seq x23_26, .seq x23_48, .blk 1, .seq x23_54, .loop x23_9, .blk 0, .seq x23_55], (ss (E4 q l pt p102 dd k) [(30, .str ((gt l k).fName))]), [], h105, none⟩ ?_
     refine WpM.opA (fun p => .slice (nw p) (((gt l k).fName).length) (((gt l k).fName).length) false) (.cells (bv ((gt l k).fName)) 5) (by kernel_rfl) (by kernel_rfl) (fun p109 h110 a111 => ?_)
     refine rn 6 ⟨.code x23_28, [.loop x23_28, .blk 2, .seq x23_48, .blk 1, .seq x23_54, .loop x23_9, .blk 0, .seq x23_55], (ss (E4 q l pt p102 dd k) [(30, .str ((gt l k).fName)), (31, .slice (nw p109) (((gt l k).fName).length) (((gt l k).fName).length) false), (32, iv (((((gt l k).fName).length) : Int))), (33, iv 0)]), [], h110, none⟩ ?_
     refine new_in (oo := (fun n => ((ss (E4 q l pt p102 dd k) [(30, .str ((gt l k).fName)), (31, .slice (nw p109) (((gt l k).fName).length) (((gt l k).fName).length) false), (32, iv (((((gt l k).fName).length) : Int))), (33, iv 0)])).getD n U)) (x := (gt l k)) (hkx (by omega)).2 (Nat.le_refl _) ?_ _ 0 _ D p m pt (fun n => ((ss (E4 q l pt p102 dd k) [(30, .str ((gt l k).fName)), (31, .slice (nw p109) (((gt l k).fName).length) (((gt l k).fName).length) false), (32, iv (((((gt l k).fName).length) : Int))), (33, iv 0)])).getD n U) rfl (by omega) (by omega) (hT.hx ((((HX.refl h).alloc a104).put a106 (by have := a104.eq; have := a104.nx; have := a106.nx; have := a111.eq; have := a111.nx; omega)).alloc a111)) (dom_zero hT.root) (by simpa using hr) hr (a111.keep (a106.le a104.lt) a106.get) a111.get (((hX.alloc a104).put a106 (by have := (hX).nx; have := a104.eq; have := a104.nx; have := a106.nx; have := a111.eq; have := a111.nx; omega)).alloc a111) (a111.le (a106.le a104.lt)) a111.lt
     intro h2 D2 p2 m2 pw ee hT2 hD2 hpw2 hr2 g52 hX2 l52
     have hs2 : (gt l k).fName ≠ [] := (hkx (by omega)).1
     have hw2 : D2 (gt l k).fName = true := by rw [hD2]; simp
     have hn2 := hT2.node _ hw2
     rw [hpw2] at hn2
     have hz2 := hT2.node _ hT2.root
     rw [hr2] at hz2
     have lpw := hn2.2.1
     have lpt := hz2.2.1
     have opw := hn2.1
     have opt := hz2.1
     have npt : pw ≠ pt := by rw [← hpw2, ← hr2]; exact fun e => hs2 (hT2.pin _ _ hw2 hT2.root e)
     have n5 : pw ≠ p102 := by rw [← hpw2]; exact hT2.ne hw2 g52 (fun _ _ e => by cases e)
     have n5t : pt ≠ p102 := by rw [← hr2]; exact hT2.ne hT2.root g52 (fun _ _ e => by cases e)
     refine rn 6 ⟨.ops (p23_49_3 :: o23_49.drop 4), [.seq x23_50, .blk 1, .seq x23_54, .loop x23_9, .blk 0, .seq x23_55], (E5 q l pt p102 pw ee k p109 dd), [], h2, none⟩ ?_
     refine WpM.op (.bool (B (gt l k).fName)) _ (by kernel_rfl) (load_new (o := 1) (by kernel_rfl) hn2.2.2 (by kernel_rfl)) ?_
     refine rn 3 ⟨.code x23_50, [.blk 1, .seq x23_54, .loop x23_9, .blk 0, .seq x23_55], (ss (E5 q l pt p102 pw ee k p109 dd) [(70, .bool (B (gt l k).fName)), (71, .bool (!(B (gt l k).fName)))]), [], h2, none⟩ ?_
     refine WpM.cond (t := (!(B (gt l k).fName))) (by kernel_rfl) (fun c112 => ?_) (fun c112 => ?_)
     ·have c112p := not_t c112
      refine rn 5 ⟨.draw m23_52 ((6, p23_52_3) :: o23_52.drop 4) [], [.seq x23_53, .blk 1, .seq x23_54, .loop x23_9, .blk 0, .seq x23_55], (ss (E5 q l pt p102 pw ee k p109 dd) [(70, .bool (B (gt l k).fName)), (71, .bool (!(B (gt l k).fName))), (72, .ptr (nw pw)), (76, .ptr (nw pw)), (77, .ptr (some (.new pw 1)))]), [], h2, none⟩ ?_
      refine WpM.opDS U pw (some (.cells (.map ((m2 (gt l k).fName)) :: .bool true :: iv (R (gt l k).fName) :: tlW c (gt l k).fName) (tyW 72 70 (gt l k).fName))) (by kernel_rfl) (by kernel_rfl) (store_new (o := 1) (v := .bool true) (by kernel_rfl) (by kernel_rfl) hn2.2.2 (by kernel_rfl)) (fun h113 a114 => ?_)
      refine rn 2 ⟨.draw m23_52 ((3, p23_52_6) :: o23_52.drop 7) [(6, h2)], [.seq x23_53, .blk 1, .seq x23_54, .loop x23_9, .blk 0, .seq x23_55], (ss (E5 q l pt p102 pw ee k p109 dd) [(70, .bool (B (gt l k).fName)), (71, .bool (!(B (gt l k).fName))), (72, .ptr (nw pw)), (73, .ptr (nw pw)), (74, .ptr (some (.new p102 1))), (76, .ptr (nw pw)), (77, .ptr (some (.new pw 1)))]), [], h113, none⟩ ?_
      refine WpM.opD (iv ((gt l k).fR)) _ (by kernel_rfl) (by kernel_rfl) (load_new (o := 1) (by kernel_rfl) (a114.keep (Ne.symm n5) g52) (by kernel_rfl)) (sameAt_of (id := p102) (by kernel_rfl) (by kernel_rfl) (same_ld (load_new (o := 1) (by kernel_rfl) g52 (by kernel_rfl)) same_nil)) ?_
      refine rn 2 ⟨.draw m23_52 ((9, p23_52_9) :: o23_52.drop 10) [(6, h2)], [.seq x23_53, .blk 1, .seq x23_54, .loop x23_9, .blk 0, .seq x23_55], (ss (E5 q l pt p102 pw ee k p109 dd) [(70, .bool (B (gt l k).fName)), (71, .bool (!(B (gt l k).fName))), (72, .ptr (nw pw)), (73, .ptr (nw pw)), (74, .ptr (some (.new p102 1))), (75, iv ((gt l k).fR)), (76, .ptr (nw pw)), (77, .ptr (some (.new pw 1))), (78, .ptr (nw pw)), (79, .ptr (some (.new pw 2)))]), [], h113, none⟩ ?_
      refine WpM.opDS U pw (some (.cells (.map ((m2 (gt l k).fName)) :: .bool true :: iv ((gt l k).fR) :: tlW c (gt l k).fName) (tyW 72 70 (gt l k).fName))) (by kernel_rfl) (by kernel_rfl) (store_new (o := 2) (v := iv ((gt l k).fR)) (by kernel_rfl) (by kernel_rfl) a114.get (by kernel_rfl)) (fun h115 a116 => ?_)
      refine rn 6 ⟨.ops (p23_53_3 :: o23_53.drop 4), [.blk 1, .seq x23_54, .loop x23_9, .blk 0, .seq x23_55], (ss (E5 q l pt p102 pw ee k p109 dd) [(70, .bool (B (gt l k).fName)), (71, .bool (!(B (gt l k).fName))), (72, .ptr (nw pw)), (73, .ptr (nw pw)), (74, .ptr (some (.new p102 1))), (75, iv ((gt l k).fR)), (76, .ptr (nw pw)), (77, .ptr (some (.new pw 1))), (78, .ptr (nw pw)), (79, .ptr (some (.new pw 2))), (80, .ptr (nw pt)), (81, .ptr (nw pt)), (82, .ptr (some (.new pt 3)))]), [], h115, none⟩ ?_
      refine WpM.op (iv c) _ (by kernel_rfl) (load_new (o := 3) (by kernel_rfl) (a116.keep (Ne.symm npt) (a114.keep (Ne.symm npt) hz2.2.2)) (by kernel_rfl)) ?_
      refine rn 0 ⟨.ops (p23_53_4 :: o23_53.drop 5), [.blk 1, .seq x23_54, .loop x23_9, .blk 0, .seq x23_55], (ss (E5 q l pt p102 pw ee k p109 dd) [(70, .bool (B (gt l k).fName)), (71, .bool (!(B (gt l k).fName))), (72, .ptr (nw pw)), (73, .ptr (nw pw)), (74, .ptr (some (.new p102 1))), (75, iv ((gt l k).fR)), (76, .ptr (nw pw)), (77, .ptr (some (.new pw 1))), (78, .ptr (nw pw)), (79, .ptr (some (.new pw 2))), (80, .ptr (nw pt)), (81, .ptr (nw pt)), (82, .ptr (some (.new pt 3))), (83, iv c)]), [], h115, none⟩ ?_
      refine WpM.op (iv (c + 1)) _ (by kernel_rfl) (arith_add (by kernel_rfl) (by kernel_rfl) (by omega)) ?_
      refine rn 2 ⟨.ops (p23_53_7 :: o23_53.drop 8), [.blk 1, .seq x23_54, .loop x23_9, .blk 0, .seq x23_55], (E6 q l pt p102 pw ee k p109 B c dd), [], h115, none⟩ ?_
      refine WpM.opS U pt (some (.cells [.map ((m2 [])), .bool (B []), iv (R []), iv (c + 1)] 72)) (by kernel_rfl) (store_new (o := 3) (v := iv (c + 1)) (by kernel_rfl) (by kernel_rfl) (a116.keep (Ne.symm npt) (a114.keep (Ne.symm npt) hz2.2.2)) (by kernel_rfl)) (fun h117 a118 => ?_)
      refine rn 4 ⟨.ops (p23_54_0 :: o23_54.drop 1), [.loop x23_9, .blk 0, .seq x23_55], (E6 q l pt p102 pw ee k p109 B c dd), [], h117, none⟩ ?_
      refine WpM.op (iv (k + 1)) _ (by kernel_rfl) (arith_add (by kernel_rfl) (by kernel_rfl) (by omega)) ?_
      refine rn 3 ⟨.code x23_9, [.loop x23_9, .blk 0, .seq x23_55], (ss (E6 q l pt p102 pw ee k p109 B c dd) [(13, iv (k + 1)), (87, iv (k + 1))]), [], h117, none⟩ ?_
      refine ih _ ?_ _ h117 D2 (fun v => if v = (gt l k).fName then true else B v) (fun v => if v = (gt l k).fName then (gt l k).fR else R v) p2 m2 (c + 1) (fun n => ((ss (E6 q l pt p102 pw ee k p109 B c dd) [(13, iv (k + 1)), (87, iv (k + 1))])).getD n U) rfl ?_ ?_ ?_ ?_ ?_ ?_ ?_
      ·omega
      ·omega
      ·omega
      ·exact hT2.isName hw2 hs2 (hpw2.symm ▸ a114) (hpw2.symm ▸ a116) (hr2.symm ▸ a118)
      ·rw [take_gt h0k (by omega)]; exact hL.add hD2 (of_not_t c112)
      ·exact hr2
      ·omega
      ·exact (((hX2.put a114 (by have := (hX2).nx; have := a114.nx; have := a116.nx; have := a118.nx; omega)).put a116 (by have := (hX2).nx; have := a114.nx; have := a116.nx; have := a118.nx; omega)).put a118 (by have := (hX2).nx; have := a114.nx; have := a116.nx; have := a118.nx; omega))
     ·have c112p := not_f c112
      refine rn 4 ⟨.ops (p23_54_0 :: o23_54.drop 1), [.loop x23_9, .blk 0, .seq x23_55], (ss (E5 q l pt p102 pw ee k p109 dd) [(70, .bool (B (gt l k).fName)), (71, .bool (!(B (gt l k).fName)))]), [], h2, none⟩ ?_
      refine WpM.op (iv (k + 1)) _ (by kernel_rfl) (arith_add (by kernel_rfl) (by kernel_rfl) (by omega)) ?_
      refine rn 3 ⟨.code x23_9, [.loop x23_9, .blk 0, .seq x23_55], (ss (E5 q l pt p102 pw ee k p109 dd) [(13, iv (k + 1)), (70, .bool (B (gt l k).fName)), (71, .bool (!(B (gt l k).fName))), (87, iv (k + 1))]), [], h2, none⟩ ?_
      refine ih _ ?_ _ h2 D2 B R p2 m2 c (fun n => ((ss (E5 q l pt p102 pw ee k p109 dd) [(13, iv (k + 1)), (70, .bool (B (gt l k).fName)), (71, .bool (!(B (gt l k).fName))), (87, iv (k + 1))])).getD n U) rfl ?_ ?_ ?_ ?_ ?_ ?_ ?_
      ·omega
      ·omega
      ·omega
      ·exact hT2.hx (HX.refl h2)
      ·rw [take_gt h0k (by omega)]; exact hL.same hD2 (of_not_f c112)
      ·exact hr2
      ·refine ⟨hc.1, by omega, fun _ => ?_⟩
       by_cases e : 0 < k
       ·exact hc.2.2 e
       ·have e2 : k.toNat = 0 := by omega
        have e3 := hL.B (gt l k).fName
        rw [(of_not_f c112), e2] at e3
        simp at e3
      ·exact hX2
  ·have c101p := dec_f c101
   refine rn 12 ⟨.done .ret, [], (ss (E3 q l pt dd k) [(2, .ptr (nw pt)), (88, .ptr (nw pt))]), [], h, none⟩ ?_
   refine WpM.ret (.ptr (nw pt)) h (by kernel_rfl) (by kernel_rfl) ?_
   exact ⟨hX, D, B, R, p, m, c, by rw [hr], hT.hx (HX.refl h), by rw [List.take_of_length_le (by omega)] at hL; exact hL, fun e => hc.2.2 (by have := List.length_pos_iff.2 e; omega)⟩
def E7 (q : Nat) (l : List T74) : List V := (.slice (nw q) l.length l.length true :: U :: .ptr none :: U :: U :: U :: U :: U :: U :: .agg [.map none, .bool false, iv 0, iv 0] :: us 79)
theorem new_ok {W : World} {l : List T74} {q : Nat} {hB : H} (lq : q < hB.nx) (gq : hB.get q = some (.cells (rv T74.cells l) 74)) (hlen : l.length ≤ 1000) (hk : ∀ x ∈ l, x.fName ≠ [] ∧ x.fName.length ≤ 8) : WpF Tryd.prog W prim2 23 [.slice (nw q) l.length l.length true] hB (fun v h' => HX hB h' ∧ ∃ (D B : Wrd → Bool) (R : Wrd → Int) (p : Wrd → Nat) (m : Wrd → Option Nat) (c : Int), v = .ptr (some (.new (p []) 0)) ∧ Tri 72 70 hB.nx h' D B R p m c ∧ TL l D B R ∧ (l ≠ [] → 0 < c)) := by
 refine WpF.m tab_ok (by kernel_rfl) rfl ?_
 refine WpM.cfg (c' := ⟨.code x23_0, [], (.slice (nw q) l.length l.length true :: us 88), [], hB, none⟩) (by kernel_rfl) ?_
 refine rn 8 ⟨.ops (p23_3_1 :: o23_3.drop 2), [.seq x23_4], (E7 q l), [], hB, none⟩ ?_
 refine WpM.opA (fun p => .ptr (nw p)) (.cells [.map none, .bool false, iv 0, iv 0] 72) (by kernel_rfl) (by kernel_rfl) (fun p1 h2 a3 => ?_)
 refine rn 13 ⟨.code x23_9, [.loop x23_9, .blk 0, .seq x23_55], (.slice (nw q) l.length l.length true :: U :: .ptr none :: .ptr (nw p1) :: U :: U :: U :: U :: U :: .agg [.map none, .bool false, iv 0, iv 0] :: .ptr (nw p1) :: .slice (nw q) l.length l.length true :: iv ((l.length : Int)) :: iv 0 :: us 75), [], h2, none⟩ ?_
 exact new_out lq gq hlen hk _ 0 _ _ _ _ _ _ 0 (fun n => ((ss (E7 q l) [(3, .ptr (nw p1)), (10, .ptr (nw p1)), (11, .slice (nw q) l.length l.length true), (12, iv ((l.length : Int))), (13, iv 0)])).getD n U) rfl (by omega) (by omega) (Tri.start a3) ⟨fun w => by simp, fun w => rfl, fun w => rfl⟩ rfl (by omega) ((HX.refl hB).alloc a3)
end Go.Proofs.YtkhjmgchlbnkjaaDoor.Dg
