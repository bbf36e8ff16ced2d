/-
  ForeignAttrs: what is walked.
-/
import Derived.Test.YtjfnoiknjeklhaaChecked
import Derived.Test.YtjfnoiknjeklhaaShelf
import Derived.Test.YtjfnoiknjeklhaaDgS32
set_option linter.unusedVariables false
set_option linter.unusedSimpArgs false
namespace Go.Proofs.Ytjfnoiknjeklhaa.Dg
open Go Go.RowKit
set_option maxRecDepth 20000
def k_viewBox : List UInt8 := [118, 105, 101, 119, 66, 111, 120]
def k_viewbox : List UInt8 := [118, 105, 101, 119, 98, 111, 120]
def k_preserveAspectRatio : List UInt8 := [112, 114, 101, 115, 101, 114, 118, 101, 65, 115, 112, 101, 99, 116, 82, 97, 116, 105, 111]
def k_preserveaspectratio : List UInt8 := [112, 114, 101, 115, 101, 114, 118, 101, 97, 115, 112, 101, 99, 116, 114, 97, 116, 105, 111]
def k_gradientUnits : List UInt8 := [103, 114, 97, 100, 105, 101, 110, 116, 85, 110, 105, 116, 115]
def k_gradientunits : List UInt8 := [103, 114, 97, 100, 105, 101, 110, 116, 117, 110, 105, 116, 115]
def k_definitionURL : List UInt8 := [100, 101, 102, 105, 110, 105, 116, 105, 111, 110, 85, 82, 76]
def k_definitionurl : List UInt8 := [100, 101, 102, 105, 110, 105, 116, 105, 111, 110, 117, 114, 108]
def p4_1_0 : RO := ⟨none, some 4, .assign (.const (.bool false))⟩
def o4_1 : List RO := [p4_1_0]
def x4_1 : RC := .ops o4_1
def p4_4_0 : RO := ⟨none, some 5, .move (.tmp 1)⟩
def p4_4_1 : RO := ⟨none, some 6, .call ⟨.builtin .len, #[(.tmp 5)], #[25]⟩⟩
def p4_4_2 : RO := ⟨none, some 7, .binOp .gtr 3 (.tmp 6) (.const (.int .i64 (300))) 3⟩
def o4_4 : List RO := [p4_4_0, p4_4_1, p4_4_2]
def x4_4 : RC := .ops o4_4
def p4_7_0 : RO := ⟨none, some 8, .call ⟨.value (.func 7), #[], #[]⟩⟩
def p4_7_1 : RO := ⟨none, some 4, .assign (.tmp 8)⟩
def o4_7 : List RO := [p4_7_0, p4_7_1]
def x4_7 : RC := .ops o4_7
def x4_6 : RC := .seq x4_7 .ret
def x4_5 : RC := .cond (.tmp 7) x4_6 .skip
def x4_3 : RC := .seq x4_4 x4_5
def p4_9_0 : RO := ⟨none, some 9, .move (.tmp 0)⟩
def p4_9_1 : RO := ⟨none, some 10, .move (.tmp 1)⟩
def p4_9_2 : RO := ⟨none, some 11, .call ⟨.value (.func 15), #[(.tmp 9), (.tmp 10)], #[3, 25]⟩⟩
def p4_9_3 : RO := ⟨none, some 12, .move (.tmp 0)⟩
def p4_9_4 : RO := ⟨none, some 13, .move (.tmp 1)⟩
def p4_9_5 : RO := ⟨none, some 14, .call ⟨.value (.func 16), #[(.tmp 12), (.tmp 13)], #[3, 25]⟩⟩
def p4_9_6 : RO := ⟨none, some 15, .call ⟨.value (.func 14), #[(.tmp 11), (.tmp 14)], #[25, 25]⟩⟩
def p4_9_7 : RO := ⟨none, some 16, .move (.tmp 15)⟩
def p4_9_8 : RO := ⟨some (some 16, true), some 17, .call ⟨.value (.func 7), #[], #[]⟩⟩
def p4_9_9 : RO := ⟨none, some 18, .pick (.tmp 16) (.tmp 17) (.const (.bool false))⟩
def p4_9_10 : RO := ⟨none, some 4, .assign (.tmp 18)⟩
def o4_9 : List RO := [p4_9_0, p4_9_1, p4_9_2, p4_9_3, p4_9_4, p4_9_5, p4_9_6, p4_9_7, p4_9_8, p4_9_9, p4_9_10]
def x4_9 : RC := .ops o4_9
def x4_8 : RC := .seq x4_9 .ret
def x4_2 : RC := .seq x4_3 x4_8
def x4_0 : RC := .seq x4_1 x4_2
theorem x4_eq : Try.f4.body.map rc = some x4_0 := by kernel_rfl
def p14_1_0 : RO := ⟨none, some 4, .assign (.const (.bool false))⟩
def o14_1 : List RO := [p14_1_0]
def x14_1 : RC := .ops o14_1
def p14_4_0 : RO := ⟨none, some 6, .move (.tmp 0)⟩
def p14_4_1 : RO := ⟨none, some 7, .call ⟨.builtin .len, #[(.tmp 6)], #[25]⟩⟩
def p14_4_2 : RO := ⟨none, some 8, .move (.tmp 1)⟩
def p14_4_3 : RO := ⟨none, some 9, .call ⟨.builtin .len, #[(.tmp 8)], #[25]⟩⟩
def p14_4_4 : RO := ⟨none, some 10, .binOp .neq 3 (.tmp 7) (.tmp 9) 3⟩
def o14_4 : List RO := [p14_4_0, p14_4_1, p14_4_2, p14_4_3, p14_4_4]
def x14_4 : RC := .ops o14_4
def p14_7_0 : RO := ⟨none, some 4, .assign (.const (.bool false))⟩
def o14_7 : List RO := [p14_7_0]
def x14_7 : RC := .ops o14_7
def x14_6 : RC := .seq x14_7 .ret
def x14_5 : RC := .cond (.tmp 10) x14_6 .skip
def x14_3 : RC := .seq x14_4 x14_5
def p14_10_0 : RO := ⟨none, some 5, .assign (.const (.int .i64 (0)))⟩
def o14_10 : List RO := [p14_10_0]
def x14_10 : RC := .ops o14_10
def p14_15_0 : RO := ⟨none, some 11, .move (.tmp 5)⟩
def p14_15_1 : RO := ⟨none, some 12, .move (.tmp 0)⟩
def p14_15_2 : RO := ⟨none, some 13, .call ⟨.builtin .len, #[(.tmp 12)], #[25]⟩⟩
def p14_15_3 : RO := ⟨none, some 14, .binOp .lss 3 (.tmp 11) (.tmp 13) 3⟩
def o14_15 : List RO := [p14_15_0, p14_15_1, p14_15_2, p14_15_3]
def x14_15 : RC := .ops o14_15
def x14_16 : RC := .cond (.tmp 14) .skip (.exit 0)
def x14_14 : RC := .seq x14_15 x14_16
def p14_20_0 : RO := ⟨none, some 17, .move (.tmp 0)⟩
def p14_20_1 : RO := ⟨none, some 18, .move (.tmp 5)⟩
def p14_20_2 : RO := ⟨none, some 19, .indexAddr 25 (.tmp 17) (.tmp 18)⟩
def p14_20_3 : RO := ⟨none, some 20, .load 39 (.tmp 19)⟩
def p14_20_4 : RO := ⟨none, some 21, .move (.tmp 1)⟩
def p14_20_5 : RO := ⟨none, some 22, .move (.tmp 5)⟩
def p14_20_6 : RO := ⟨none, some 23, .indexAddr 25 (.tmp 21) (.tmp 22)⟩
def p14_20_7 : RO := ⟨none, some 24, .load 39 (.tmp 23)⟩
def p14_20_8 : RO := ⟨none, some 25, .binOp .neq 39 (.tmp 20) (.tmp 24) 39⟩
def o14_20 : List (Nat × RO) := [(0, p14_20_0), (1, p14_20_1), (2, p14_20_2), (3, p14_20_3), (4, p14_20_4), (5, p14_20_5), (6, p14_20_6), (7, p14_20_7), (8, p14_20_8)]
def m14_20 : List Nat := [0, 0, 3, 7, 0, 0, 48, 112, 255]
def x14_20 : RC := .draw o14_20 m14_20
def p14_23_0 : RO := ⟨none, some 4, .assign (.const (.bool false))⟩
def o14_23 : List RO := [p14_23_0]
def x14_23 : RC := .ops o14_23
def x14_22 : RC := .seq x14_23 .ret
def x14_21 : RC := .cond (.tmp 25) x14_22 .skip
def x14_19 : RC := .seq x14_20 x14_21
def x14_18 : RC := .block 1 x14_19
def p14_24_0 : RO := ⟨none, some 15, .move (.tmp 5)⟩
def p14_24_1 : RO := ⟨none, some 16, .binOp .add 3 (.tmp 15) (.const (.int .i64 (1))) 3⟩
def p14_24_2 : RO := ⟨none, some 5, .assign (.tmp 16)⟩
def o14_24 : List RO := [p14_24_0, p14_24_1, p14_24_2]
def x14_24 : RC := .ops o14_24
def x14_17 : RC := .seq x14_18 x14_24
def x14_13 : RC := .seq x14_14 x14_17
def x14_12 : RC := .loop x14_13
def x14_11 : RC := .block 0 x14_12
def x14_9 : RC := .seq x14_10 x14_11
def p14_26_0 : RO := ⟨none, some 4, .assign (.const (.bool true))⟩
def o14_26 : List RO := [p14_26_0]
def x14_26 : RC := .ops o14_26
def x14_25 : RC := .seq x14_26 .ret
def x14_8 : RC := .seq x14_9 x14_25
def x14_2 : RC := .seq x14_3 x14_8
def x14_0 : RC := .seq x14_1 x14_2
theorem x14_eq : Try.f14.body.map rc = some x14_0 := by kernel_rfl
def p15_1_0 : RO := ⟨none, some 4, .assign (.const (.slice none 0 0))⟩
def o15_1 : List RO := [p15_1_0]
def x15_1 : RC := .ops o15_1
def p15_3_0 : RO := ⟨none, some 8, .move (.tmp 0)⟩
def p15_3_1 : RO := ⟨none, some 9, .call ⟨.value (.func 27), #[(.tmp 8)], #[3]⟩⟩
def p15_3_2 : RO := ⟨none, some 5, .alloc 47⟩
def p15_3_3 : RO := ⟨none, none, .store 47 (.tmp 5) (.tmp 9)⟩
def o15_3 : List RO := [p15_3_0, p15_3_1, p15_3_2, p15_3_3]
def x15_3 : RC := .ops o15_3
def p15_5_0 : RO := ⟨none, some 10, .move (.tmp 1)⟩
def p15_5_1 : RO := ⟨none, some 11, .call ⟨.value (.func 28), #[(.tmp 10)], #[25]⟩⟩
def p15_5_2 : RO := ⟨none, some 6, .assign (.tmp 11)⟩
def o15_5 : List RO := [p15_5_0, p15_5_1, p15_5_2]
def x15_5 : RC := .ops o15_5
def p15_8_0 : RO := ⟨none, some 12, .move (.tmp 6)⟩
def p15_8_1 : RO := ⟨none, some 13, .call ⟨.builtin .len, #[(.tmp 12)], #[25]⟩⟩
def p15_8_2 : RO := ⟨none, some 14, .move (.const (.int .i64 (0)))⟩
def o15_8 : List RO := [p15_8_0, p15_8_1, p15_8_2]
def x15_8 : RC := .ops o15_8
def p15_12_0 : RO := ⟨none, some 15, .binOp .lss 3 (.tmp 14) (.tmp 13) 3⟩
def o15_12 : List RO := [p15_12_0]
def x15_12 : RC := .ops o15_12
def x15_14 : RC := .cond (.tmp 15) .skip (.exit 0)
def p15_18_0 : RO := ⟨none, some 16, .move (.tmp 14)⟩
def p15_18_1 : RO := ⟨none, some 7, .assign (.tmp 16)⟩
def o15_18 : List RO := [p15_18_0, p15_18_1]
def x15_18 : RC := .ops o15_18
def p15_19_0 : RO := ⟨none, some 19, .slice 47 (.tmp 5) none none none⟩
def p15_19_1 : RO := ⟨none, some 20, .move (.tmp 6)⟩
def p15_19_2 : RO := ⟨none, some 21, .move (.tmp 7)⟩
def p15_19_3 : RO := ⟨none, some 22, .indexAddr 25 (.tmp 20) (.tmp 21)⟩
def p15_19_4 : RO := ⟨none, some 23, .fieldAddr 39 (.tmp 22) 0⟩
def p15_19_5 : RO := ⟨none, some 24, .load 9 (.tmp 23)⟩
def p15_19_6 : RO := ⟨none, some 25, .call ⟨.value (.func 23), #[(.tmp 19), (.tmp 24)], #[43, 9]⟩⟩
def p15_19_7 : RO := ⟨none, some 17, .move (.tmp 6)⟩
def p15_19_8 : RO := ⟨none, some 18, .move (.tmp 7)⟩
def p15_19_9 : RO := ⟨none, some 26, .indexAddr 25 (.tmp 17) (.tmp 18)⟩
def p15_19_10 : RO := ⟨none, some 27, .fieldAddr 39 (.tmp 26) 0⟩
def p15_19_11 : RO := ⟨none, none, .store 9 (.tmp 27) (.tmp 25)⟩
def o15_19 : List (Nat × RO) := [(2, p15_19_0), (3, p15_19_1), (4, p15_19_2), (5, p15_19_3), (6, p15_19_4), (7, p15_19_5), (8, p15_19_6), (0, p15_19_7), (1, p15_19_8), (9, p15_19_9), (10, p15_19_10), (11, p15_19_11)]
def m15_19 : List Nat := [0, 0, 0, 0, 0, 24, 56, 120, 252, 511, 1023, 2047]
def x15_19 : RC := .draw o15_19 m15_19
def x15_17 : RC := .seq x15_18 x15_19
def x15_16 : RC := .block 1 x15_17
def p15_20_0 : RO := ⟨none, some 28, .binOp .add 3 (.tmp 14) (.const (.int .i64 (1))) 3⟩
def p15_20_1 : RO := ⟨none, some 14, .move (.tmp 28)⟩
def o15_20 : List RO := [p15_20_0, p15_20_1]
def x15_20 : RC := .ops o15_20
def x15_15 : RC := .seq x15_16 x15_20
def x15_13 : RC := .seq x15_14 x15_15
def x15_11 : RC := .seq x15_12 x15_13
def x15_10 : RC := .loop x15_11
def x15_9 : RC := .block 0 x15_10
def x15_7 : RC := .seq x15_8 x15_9
def p15_22_0 : RO := ⟨none, some 29, .move (.tmp 6)⟩
def p15_22_1 : RO := ⟨none, some 4, .assign (.tmp 29)⟩
def o15_22 : List RO := [p15_22_0, p15_22_1]
def x15_22 : RC := .ops o15_22
def x15_21 : RC := .seq x15_22 .ret
def x15_6 : RC := .seq x15_7 x15_21
def x15_4 : RC := .seq x15_5 x15_6
def x15_2 : RC := .seq x15_3 x15_4
def x15_0 : RC := .seq x15_1 x15_2
theorem x15_eq : Try.f15.body.map rc = some x15_0 := by kernel_rfl
def p16_1_0 : RO := ⟨none, some 4, .assign (.const (.slice none 0 0))⟩
def o16_1 : List RO := [p16_1_0]
def x16_1 : RC := .ops o16_1
def p16_3_0 : RO := ⟨none, some 5, .assign (.const (.slice none 0 0))⟩
def o16_3 : List RO := [p16_3_0]
def x16_3 : RC := .ops o16_3
def p16_6_0 : RO := ⟨none, some 8, .move (.tmp 0)⟩
def o16_6 : List RO := [p16_6_0]
def x16_6 : RC := .ops o16_6
def p16_9_0 : RO := ⟨none, some 10, .binOp .eql 3 (.tmp 8) (.const (.int .i64 (1))) 3⟩
def p16_9_1 : RO := ⟨none, some 9, .assign (.tmp 10)⟩
def o16_9 : List RO := [p16_9_0, p16_9_1]
def x16_9 : RC := .ops o16_9
def p16_11_0 : RO := ⟨none, some 11, .buildSlice 43 3 #[(0, (.const (.string ⟨#[118, 105, 101, 119, 66, 111, 120]⟩))), (1, (.const (.string ⟨#[112, 114, 101, 115, 101, 114, 118, 101, 65, 115, 112, 101, 99, 116, 82, 97, 116, 105, 111]⟩))), (2, (.const (.string ⟨#[103, 114, 97, 100, 105, 101, 110, 116, 85, 110, 105, 116, 115]⟩)))]⟩
def p16_11_1 : RO := ⟨none, some 5, .assign (.tmp 11)⟩
def o16_11 : List RO := [p16_11_0, p16_11_1]
def x16_11 : RC := .ops o16_11
def p16_13_0 : RO := ⟨none, some 13, .binOp .eql 3 (.tmp 8) (.const (.int .i64 (2))) 3⟩
def p16_13_1 : RO := ⟨none, some 12, .assign (.tmp 13)⟩
def o16_13 : List RO := [p16_13_0, p16_13_1]
def x16_13 : RC := .ops o16_13
def p16_15_0 : RO := ⟨none, some 14, .buildSlice 43 1 #[(0, (.const (.string ⟨#[100, 101, 102, 105, 110, 105, 116, 105, 111, 110, 85, 82, 76]⟩)))]⟩
def p16_15_1 : RO := ⟨none, some 5, .assign (.tmp 14)⟩
def o16_15 : List RO := [p16_15_0, p16_15_1]
def x16_15 : RC := .ops o16_15
def x16_14 : RC := .cond (.tmp 12) x16_15 .skip
def x16_12 : RC := .seq x16_13 x16_14
def x16_10 : RC := .cond (.tmp 9) x16_11 x16_12
def x16_8 : RC := .seq x16_9 x16_10
def x16_7 : RC := .block 0 x16_8
def x16_5 : RC := .seq x16_6 x16_7
def p16_17_0 : RO := ⟨none, some 6, .assign (.const (.slice none 0 0))⟩
def o16_17 : List RO := [p16_17_0]
def x16_17 : RC := .ops o16_17
def p16_20_0 : RO := ⟨none, some 7, .assign (.const (.int .i64 (0)))⟩
def o16_20 : List RO := [p16_20_0]
def x16_20 : RC := .ops o16_20
def p16_25_0 : RO := ⟨none, some 15, .move (.tmp 7)⟩
def p16_25_1 : RO := ⟨none, some 16, .move (.tmp 1)⟩
def p16_25_2 : RO := ⟨none, some 17, .call ⟨.builtin .len, #[(.tmp 16)], #[25]⟩⟩
def p16_25_3 : RO := ⟨none, some 18, .binOp .lss 3 (.tmp 15) (.tmp 17) 3⟩
def o16_25 : List RO := [p16_25_0, p16_25_1, p16_25_2, p16_25_3]
def x16_25 : RC := .ops o16_25
def x16_26 : RC := .cond (.tmp 18) .skip (.exit 1)
def x16_24 : RC := .seq x16_25 x16_26
def p16_29_0 : RO := ⟨none, some 22, .move (.tmp 1)⟩
def p16_29_1 : RO := ⟨none, some 23, .move (.tmp 7)⟩
def p16_29_2 : RO := ⟨none, some 24, .indexAddr 25 (.tmp 22) (.tmp 23)⟩
def p16_29_3 : RO := ⟨none, some 25, .fieldAddr 39 (.tmp 24) 0⟩
def p16_29_4 : RO := ⟨none, some 26, .load 9 (.tmp 25)⟩
def p16_29_5 : RO := ⟨none, some 27, .move (.tmp 5)⟩
def p16_29_6 : RO := ⟨none, some 28, .call ⟨.value (.func 24), #[(.tmp 26), (.tmp 27)], #[9, 43]⟩⟩
def p16_29_7 : RO := ⟨none, some 21, .move (.tmp 6)⟩
def p16_29_8 : RO := ⟨none, some 29, .move (.tmp 1)⟩
def p16_29_9 : RO := ⟨none, some 30, .move (.tmp 7)⟩
def p16_29_10 : RO := ⟨none, some 31, .indexAddr 25 (.tmp 29) (.tmp 30)⟩
def p16_29_11 : RO := ⟨none, some 32, .fieldAddr 39 (.tmp 31) 1⟩
def p16_29_12 : RO := ⟨none, some 33, .load 9 (.tmp 32)⟩
def p16_29_13 : RO := ⟨none, some 34, .build 39 #[(0, (.tmp 28)), (1, (.tmp 33))]⟩
def p16_29_14 : RO := ⟨none, some 35, .buildSlice 25 1 #[(0, (.tmp 34))]⟩
def p16_29_15 : RO := ⟨none, some 36, .call ⟨.builtin .append, #[(.tmp 21), (.tmp 35)], #[25, 25]⟩⟩
def p16_29_16 : RO := ⟨none, some 6, .assign (.tmp 36)⟩
def o16_29 : List (Nat × RO) := [(1, p16_29_0), (2, p16_29_1), (3, p16_29_2), (4, p16_29_3), (5, p16_29_4), (6, p16_29_5), (7, p16_29_6), (0, p16_29_7), (8, p16_29_8), (9, p16_29_9), (10, p16_29_10), (11, p16_29_11), (12, p16_29_12), (13, p16_29_13), (14, p16_29_14), (15, p16_29_15), (16, p16_29_16)]
def m16_29 : List Nat := [0, 0, 0, 6, 14, 30, 0, 126, 0, 0, 768, 1792, 3840, 8190, 16382, 32767, 65535]
def x16_29 : RC := .draw o16_29 m16_29
def x16_28 : RC := .block 2 x16_29
def p16_30_0 : RO := ⟨none, some 19, .move (.tmp 7)⟩
def p16_30_1 : RO := ⟨none, some 20, .binOp .add 3 (.tmp 19) (.const (.int .i64 (1))) 3⟩
def p16_30_2 : RO := ⟨none, some 7, .assign (.tmp 20)⟩
def o16_30 : List RO := [p16_30_0, p16_30_1, p16_30_2]
def x16_30 : RC := .ops o16_30
def x16_27 : RC := .seq x16_28 x16_30
def x16_23 : RC := .seq x16_24 x16_27
def x16_22 : RC := .loop x16_23
def x16_21 : RC := .block 1 x16_22
def x16_19 : RC := .seq x16_20 x16_21
def p16_32_0 : RO := ⟨none, some 37, .move (.tmp 6)⟩
def p16_32_1 : RO := ⟨none, some 4, .assign (.tmp 37)⟩
def o16_32 : List RO := [p16_32_0, p16_32_1]
def x16_32 : RC := .ops o16_32
def x16_31 : RC := .seq x16_32 .ret
def x16_18 : RC := .seq x16_19 x16_31
def x16_16 : RC := .seq x16_17 x16_18
def x16_4 : RC := .seq x16_5 x16_16
def x16_2 : RC := .seq x16_3 x16_4
def x16_0 : RC := .seq x16_1 x16_2
theorem x16_eq : Try.f16.body.map rc = some x16_0 := by kernel_rfl
def p21_1_0 : RO := ⟨none, some 2, .assign (.const (.string ⟨#[]⟩))⟩
def o21_1 : List RO := [p21_1_0]
def x21_1 : RC := .ops o21_1
def p21_3_0 : RO := ⟨none, some 5, .move (.tmp 0)⟩
def p21_3_1 : RO := ⟨none, some 6, .convert 9 54 (.tmp 5)⟩
def p21_3_2 : RO := ⟨none, some 3, .assign (.tmp 6)⟩
def o21_3 : List RO := [p21_3_0, p21_3_1, p21_3_2]
def x21_3 : RC := .ops o21_3
def p21_6_0 : RO := ⟨none, some 4, .assign (.const (.int .i64 (0)))⟩
def o21_6 : List RO := [p21_6_0]
def x21_6 : RC := .ops o21_6
def p21_11_0 : RO := ⟨none, some 7, .move (.tmp 4)⟩
def p21_11_1 : RO := ⟨none, some 8, .move (.tmp 3)⟩
def p21_11_2 : RO := ⟨none, some 9, .call ⟨.builtin .len, #[(.tmp 8)], #[54]⟩⟩
def p21_11_3 : RO := ⟨none, some 10, .binOp .lss 3 (.tmp 7) (.tmp 9) 3⟩
def o21_11 : List RO := [p21_11_0, p21_11_1, p21_11_2, p21_11_3]
def x21_11 : RC := .ops o21_11
def x21_12 : RC := .cond (.tmp 10) .skip (.exit 0)
def x21_10 : RC := .seq x21_11 x21_12
def p21_16_0 : RO := ⟨none, some 13, .move (.tmp 3)⟩
def p21_16_1 : RO := ⟨none, some 14, .move (.tmp 4)⟩
def p21_16_2 : RO := ⟨none, some 15, .indexAddr 54 (.tmp 13) (.tmp 14)⟩
def p21_16_3 : RO := ⟨none, some 16, .load 5 (.tmp 15)⟩
def p21_16_4 : RO := ⟨none, some 17, .binOp .geq 5 (.tmp 16) (.const (.int .u8 (65))) 5⟩
def p21_16_5 : RO := ⟨none, some 18, .move (.tmp 17)⟩
def p21_16_6 : RO := ⟨some (some 18, true), some 19, .move (.tmp 3)⟩
def p21_16_7 : RO := ⟨some (some 18, true), some 20, .move (.tmp 4)⟩
def p21_16_8 : RO := ⟨some (some 18, true), some 21, .indexAddr 54 (.tmp 19) (.tmp 20)⟩
def p21_16_9 : RO := ⟨some (some 18, true), some 22, .load 5 (.tmp 21)⟩
def p21_16_10 : RO := ⟨some (some 18, true), some 23, .binOp .leq 5 (.tmp 22) (.const (.int .u8 (90))) 5⟩
def p21_16_11 : RO := ⟨none, some 24, .pick (.tmp 18) (.tmp 23) (.const (.bool false))⟩
def o21_16 : List RO := [p21_16_0, p21_16_1, p21_16_2, p21_16_3, p21_16_4, p21_16_5, p21_16_6, p21_16_7, p21_16_8, p21_16_9, p21_16_10, p21_16_11]
def x21_16 : RC := .ops o21_16
def p21_18_0 : RO := ⟨none, some 25, .move (.tmp 3)⟩
def p21_18_1 : RO := ⟨none, some 26, .move (.tmp 4)⟩
def p21_18_2 : RO := ⟨none, some 27, .indexAddr 54 (.tmp 25) (.tmp 26)⟩
def p21_18_3 : RO := ⟨none, some 28, .load 5 (.tmp 27)⟩
def p21_18_4 : RO := ⟨none, some 29, .binOp .add 5 (.tmp 28) (.const (.int .u8 (32))) 5⟩
def p21_18_5 : RO := ⟨none, some 30, .indexAddr 54 (.tmp 25) (.tmp 26)⟩
def p21_18_6 : RO := ⟨none, none, .store 5 (.tmp 30) (.tmp 29)⟩
def o21_18 : List RO := [p21_18_0, p21_18_1, p21_18_2, p21_18_3, p21_18_4, p21_18_5, p21_18_6]
def x21_18 : RC := .ops o21_18
def x21_17 : RC := .cond (.tmp 24) x21_18 .skip
def x21_15 : RC := .seq x21_16 x21_17
def x21_14 : RC := .block 1 x21_15
def p21_19_0 : RO := ⟨none, some 11, .move (.tmp 4)⟩
def p21_19_1 : RO := ⟨none, some 12, .binOp .add 3 (.tmp 11) (.const (.int .i64 (1))) 3⟩
def p21_19_2 : RO := ⟨none, some 4, .assign (.tmp 12)⟩
def o21_19 : List RO := [p21_19_0, p21_19_1, p21_19_2]
def x21_19 : RC := .ops o21_19
def x21_13 : RC := .seq x21_14 x21_19
def x21_9 : RC := .seq x21_10 x21_13
def x21_8 : RC := .loop x21_9
def x21_7 : RC := .block 0 x21_8
def x21_5 : RC := .seq x21_6 x21_7
def p21_21_0 : RO := ⟨none, some 31, .move (.tmp 3)⟩
def p21_21_1 : RO := ⟨none, some 32, .convert 54 9 (.tmp 31)⟩
def p21_21_2 : RO := ⟨none, some 2, .assign (.tmp 32)⟩
def o21_21 : List RO := [p21_21_0, p21_21_1, p21_21_2]
def x21_21 : RC := .ops o21_21
def x21_20 : RC := .seq x21_21 .ret
def x21_4 : RC := .seq x21_5 x21_20
def x21_2 : RC := .seq x21_3 x21_4
def x21_0 : RC := .seq x21_1 x21_2
theorem x21_eq : Try.f21.body.map rc = some x21_0 := by kernel_rfl
def p23_1_0 : RO := ⟨none, some 4, .assign (.const (.string ⟨#[]⟩))⟩
def o23_1 : List RO := [p23_1_0]
def x23_1 : RC := .ops o23_1
def p23_4_0 : RO := ⟨none, some 7, .move (.tmp 0)⟩
def p23_4_1 : RO := ⟨none, some 8, .call ⟨.builtin .len, #[(.tmp 7)], #[43]⟩⟩
def p23_4_2 : RO := ⟨none, some 9, .move (.const (.int .i64 (0)))⟩
def o23_4 : List RO := [p23_4_0, p23_4_1, p23_4_2]
def x23_4 : RC := .ops o23_4
def p23_8_0 : RO := ⟨none, some 10, .binOp .lss 3 (.tmp 9) (.tmp 8) 3⟩
def o23_8 : List RO := [p23_8_0]
def x23_8 : RC := .ops o23_8
def x23_10 : RC := .cond (.tmp 10) .skip (.exit 0)
def p23_14_0 : RO := ⟨none, some 11, .indexAddr 43 (.tmp 7) (.tmp 9)⟩
def p23_14_1 : RO := ⟨none, some 12, .load 9 (.tmp 11)⟩
def p23_14_2 : RO := ⟨none, some 6, .assign (.tmp 12)⟩
def o23_14 : List RO := [p23_14_0, p23_14_1, p23_14_2]
def x23_14 : RC := .ops o23_14
def p23_16_0 : RO := ⟨none, some 13, .move (.tmp 6)⟩
def p23_16_1 : RO := ⟨none, some 14, .binOp .neq 9 (.tmp 13) (.const (.string ⟨#[]⟩)) 9⟩
def p23_16_2 : RO := ⟨none, some 15, .move (.tmp 14)⟩
def p23_16_3 : RO := ⟨some (some 15, true), some 16, .move (.tmp 6)⟩
def p23_16_4 : RO := ⟨some (some 15, true), some 17, .call ⟨.value (.func 33), #[(.tmp 16)], #[9]⟩⟩
def p23_16_5 : RO := ⟨some (some 15, true), some 18, .move (.tmp 1)⟩
def p23_16_6 : RO := ⟨some (some 15, true), some 19, .binOp .eql 9 (.tmp 17) (.tmp 18) 9⟩
def p23_16_7 : RO := ⟨none, some 20, .pick (.tmp 15) (.tmp 19) (.const (.bool false))⟩
def o23_16 : List RO := [p23_16_0, p23_16_1, p23_16_2, p23_16_3, p23_16_4, p23_16_5, p23_16_6, p23_16_7]
def x23_16 : RC := .ops o23_16
def p23_19_0 : RO := ⟨none, some 21, .move (.tmp 6)⟩
def p23_19_1 : RO := ⟨none, some 4, .assign (.tmp 21)⟩
def o23_19 : List RO := [p23_19_0, p23_19_1]
def x23_19 : RC := .ops o23_19
def x23_18 : RC := .seq x23_19 .ret
def x23_17 : RC := .cond (.tmp 20) x23_18 .skip
def x23_15 : RC := .seq x23_16 x23_17
def x23_13 : RC := .seq x23_14 x23_15
def x23_12 : RC := .block 1 x23_13
def p23_20_0 : RO := ⟨none, some 22, .binOp .add 3 (.tmp 9) (.const (.int .i64 (1))) 3⟩
def p23_20_1 : RO := ⟨none, some 9, .move (.tmp 22)⟩
def o23_20 : List RO := [p23_20_0, p23_20_1]
def x23_20 : RC := .ops o23_20
def x23_11 : RC := .seq x23_12 x23_20
def x23_9 : RC := .seq x23_10 x23_11
def x23_7 : RC := .seq x23_8 x23_9
def x23_6 : RC := .loop x23_7
def x23_5 : RC := .block 0 x23_6
def x23_3 : RC := .seq x23_4 x23_5
def p23_22_0 : RO := ⟨none, some 23, .move (.tmp 1)⟩
def p23_22_1 : RO := ⟨none, some 4, .assign (.tmp 23)⟩
def o23_22 : List RO := [p23_22_0, p23_22_1]
def x23_22 : RC := .ops o23_22
def x23_21 : RC := .seq x23_22 .ret
def x23_2 : RC := .seq x23_3 x23_21
def x23_0 : RC := .seq x23_1 x23_2
theorem x23_eq : Try.f23.body.map rc = some x23_0 := by kernel_rfl
def p24_1_0 : RO := ⟨none, some 4, .assign (.const (.string ⟨#[]⟩))⟩
def o24_1 : List RO := [p24_1_0]
def x24_1 : RC := .ops o24_1
def p24_4_0 : RO := ⟨none, some 5, .assign (.const (.int .i64 (0)))⟩
def o24_4 : List RO := [p24_4_0]
def x24_4 : RC := .ops o24_4
def p24_9_0 : RO := ⟨none, some 6, .move (.tmp 5)⟩
def p24_9_1 : RO := ⟨none, some 7, .move (.tmp 1)⟩
def p24_9_2 : RO := ⟨none, some 8, .call ⟨.builtin .len, #[(.tmp 7)], #[43]⟩⟩
def p24_9_3 : RO := ⟨none, some 9, .binOp .lss 3 (.tmp 6) (.tmp 8) 3⟩
def o24_9 : List RO := [p24_9_0, p24_9_1, p24_9_2, p24_9_3]
def x24_9 : RC := .ops o24_9
def x24_10 : RC := .cond (.tmp 9) .skip (.exit 0)
def x24_8 : RC := .seq x24_9 x24_10
def p24_14_0 : RO := ⟨none, some 12, .move (.tmp 1)⟩
def p24_14_1 : RO := ⟨none, some 13, .move (.tmp 5)⟩
def p24_14_2 : RO := ⟨none, some 14, .indexAddr 43 (.tmp 12) (.tmp 13)⟩
def p24_14_3 : RO := ⟨none, some 15, .load 9 (.tmp 14)⟩
def p24_14_4 : RO := ⟨none, some 16, .call ⟨.value (.func 21), #[(.tmp 15)], #[9]⟩⟩
def p24_14_5 : RO := ⟨none, some 17, .move (.tmp 0)⟩
def p24_14_6 : RO := ⟨none, some 18, .binOp .eql 9 (.tmp 16) (.tmp 17) 9⟩
def o24_14 : List RO := [p24_14_0, p24_14_1, p24_14_2, p24_14_3, p24_14_4, p24_14_5, p24_14_6]
def x24_14 : RC := .ops o24_14
def p24_17_0 : RO := ⟨none, some 19, .move (.tmp 1)⟩
def p24_17_1 : RO := ⟨none, some 20, .move (.tmp 5)⟩
def p24_17_2 : RO := ⟨none, some 21, .indexAddr 43 (.tmp 19) (.tmp 20)⟩
def p24_17_3 : RO := ⟨none, some 22, .load 9 (.tmp 21)⟩
def p24_17_4 : RO := ⟨none, some 4, .assign (.tmp 22)⟩
def o24_17 : List RO := [p24_17_0, p24_17_1, p24_17_2, p24_17_3, p24_17_4]
def x24_17 : RC := .ops o24_17
def x24_16 : RC := .seq x24_17 .ret
def x24_15 : RC := .cond (.tmp 18) x24_16 .skip
def x24_13 : RC := .seq x24_14 x24_15
def x24_12 : RC := .block 1 x24_13
def p24_18_0 : RO := ⟨none, some 10, .move (.tmp 5)⟩
def p24_18_1 : RO := ⟨none, some 11, .binOp .add 3 (.tmp 10) (.const (.int .i64 (1))) 3⟩
def p24_18_2 : RO := ⟨none, some 5, .assign (.tmp 11)⟩
def o24_18 : List RO := [p24_18_0, p24_18_1, p24_18_2]
def x24_18 : RC := .ops o24_18
def x24_11 : RC := .seq x24_12 x24_18
def x24_7 : RC := .seq x24_8 x24_11
def x24_6 : RC := .loop x24_7
def x24_5 : RC := .block 0 x24_6
def x24_3 : RC := .seq x24_4 x24_5
def p24_20_0 : RO := ⟨none, some 23, .move (.tmp 0)⟩
def p24_20_1 : RO := ⟨none, some 4, .assign (.tmp 23)⟩
def o24_20 : List RO := [p24_20_0, p24_20_1]
def x24_20 : RC := .ops o24_20
def x24_19 : RC := .seq x24_20 .ret
def x24_2 : RC := .seq x24_3 x24_19
def x24_0 : RC := .seq x24_1 x24_2
theorem x24_eq : Try.f24.body.map rc = some x24_0 := by kernel_rfl
def p27_1_0 : RO := ⟨none, some 2, .alloc 47⟩
def o27_1 : List RO := [p27_1_0]
def x27_1 : RC := .ops o27_1
def p27_4_0 : RO := ⟨none, some 3, .move (.tmp 0)⟩
def o27_4 : List RO := [p27_4_0]
def x27_4 : RC := .ops o27_4
def p27_7_0 : RO := ⟨none, some 5, .binOp .eql 3 (.tmp 3) (.const (.int .i64 (1))) 3⟩
def p27_7_1 : RO := ⟨none, some 4, .assign (.tmp 5)⟩
def o27_7 : List RO := [p27_7_0, p27_7_1]
def x27_7 : RC := .ops o27_7
def p27_10_0 : RO := ⟨none, some 6, .build 47 #[(0, (.const (.string ⟨#[118, 105, 101, 119, 66, 111, 120]⟩))), (1, (.const (.string ⟨#[112, 114, 101, 115, 101, 114, 118, 101, 65, 115, 112, 101, 99, 116, 82, 97, 116, 105, 111]⟩))), (2, (.const (.string ⟨#[103, 114, 97, 100, 105, 101, 110, 116, 85, 110, 105, 116, 115]⟩)))]⟩
def p27_10_1 : RO := ⟨none, none, .store 47 (.tmp 2) (.tmp 6)⟩
def o27_10 : List RO := [p27_10_0, p27_10_1]
def x27_10 : RC := .ops o27_10
def x27_9 : RC := .seq x27_10 .ret
def p27_12_0 : RO := ⟨none, some 8, .binOp .eql 3 (.tmp 3) (.const (.int .i64 (2))) 3⟩
def p27_12_1 : RO := ⟨none, some 7, .assign (.tmp 8)⟩
def o27_12 : List RO := [p27_12_0, p27_12_1]
def x27_12 : RC := .ops o27_12
def p27_15_0 : RO := ⟨none, some 9, .build 47 #[(0, (.const (.string ⟨#[100, 101, 102, 105, 110, 105, 116, 105, 111, 110, 85, 82, 76]⟩)))]⟩
def p27_15_1 : RO := ⟨none, none, .store 47 (.tmp 2) (.tmp 9)⟩
def o27_15 : List RO := [p27_15_0, p27_15_1]
def x27_15 : RC := .ops o27_15
def x27_14 : RC := .seq x27_15 .ret
def x27_13 : RC := .cond (.tmp 7) x27_14 .skip
def x27_11 : RC := .seq x27_12 x27_13
def x27_8 : RC := .cond (.tmp 4) x27_9 x27_11
def x27_6 : RC := .seq x27_7 x27_8
def x27_5 : RC := .block 0 x27_6
def x27_3 : RC := .seq x27_4 x27_5
def p27_17_0 : RO := ⟨none, some 10, .build 47 #[]⟩
def p27_17_1 : RO := ⟨none, none, .store 47 (.tmp 2) (.tmp 10)⟩
def o27_17 : List RO := [p27_17_0, p27_17_1]
def x27_17 : RC := .ops o27_17
def x27_16 : RC := .seq x27_17 .ret
def x27_2 : RC := .seq x27_3 x27_16
def x27_0 : RC := .seq x27_1 x27_2
theorem x27_eq : Try.f27.body.map rc = some x27_0 := by kernel_rfl
def p28_1_0 : RO := ⟨none, some 2, .assign (.const (.slice none 0 0))⟩
def o28_1 : List RO := [p28_1_0]
def x28_1 : RC := .ops o28_1
def p28_4_0 : RO := ⟨none, some 3, .move (.tmp 0)⟩
def p28_4_1 : RO := ⟨none, some 4, .binOp .eql 25 (.tmp 3) (.const (.slice none 0 0)) 25⟩
def o28_4 : List RO := [p28_4_0, p28_4_1]
def x28_4 : RC := .ops o28_4
def p28_7_0 : RO := ⟨none, some 2, .assign (.const (.slice none 0 0))⟩
def o28_7 : List RO := [p28_7_0]
def x28_7 : RC := .ops o28_7
def x28_6 : RC := .seq x28_7 .ret
def x28_5 : RC := .cond (.tmp 4) x28_6 .skip
def x28_3 : RC := .seq x28_4 x28_5
def p28_9_0 : RO := ⟨none, some 5, .buildSlice 25 0 #[]⟩
def p28_9_1 : RO := ⟨none, some 6, .move (.tmp 0)⟩
def p28_9_2 : RO := ⟨none, some 7, .call ⟨.builtin .append, #[(.tmp 5), (.tmp 6)], #[25, 25]⟩⟩
def p28_9_3 : RO := ⟨none, some 2, .assign (.tmp 7)⟩
def o28_9 : List RO := [p28_9_0, p28_9_1, p28_9_2, p28_9_3]
def x28_9 : RC := .ops o28_9
def x28_8 : RC := .seq x28_9 .ret
def x28_2 : RC := .seq x28_3 x28_8
def x28_0 : RC := .seq x28_1 x28_2
theorem x28_eq : Try.f28.body.map rc = some x28_0 := by kernel_rfl
def p33_1_0 : RO := ⟨none, some 2, .assign (.const (.string ⟨#[]⟩))⟩
def o33_1 : List RO := [p33_1_0]
def x33_1 : RC := .ops o33_1
def p33_3_0 : RO := ⟨none, some 6, .move (.tmp 0)⟩
def p33_3_1 : RO := ⟨none, some 7, .convert 9 54 (.tmp 6)⟩
def p33_3_2 : RO := ⟨none, some 3, .assign (.tmp 7)⟩
def o33_3 : List RO := [p33_3_0, p33_3_1, p33_3_2]
def x33_3 : RC := .ops o33_3
def p33_6_0 : RO := ⟨none, some 8, .move (.tmp 3)⟩
def p33_6_1 : RO := ⟨none, some 9, .call ⟨.builtin .len, #[(.tmp 8)], #[54]⟩⟩
def p33_6_2 : RO := ⟨none, some 10, .move (.const (.int .i64 (0)))⟩
def o33_6 : List RO := [p33_6_0, p33_6_1, p33_6_2]
def x33_6 : RC := .ops o33_6
def p33_10_0 : RO := ⟨none, some 11, .binOp .lss 3 (.tmp 10) (.tmp 9) 3⟩
def o33_10 : List RO := [p33_10_0]
def x33_10 : RC := .ops o33_10
def x33_12 : RC := .cond (.tmp 11) .skip (.exit 0)
def p33_16_0 : RO := ⟨none, some 12, .move (.tmp 10)⟩
def p33_16_1 : RO := ⟨none, some 13, .indexAddr 54 (.tmp 8) (.tmp 10)⟩
def p33_16_2 : RO := ⟨none, some 14, .load 5 (.tmp 13)⟩
def p33_16_3 : RO := ⟨none, some 4, .assign (.tmp 12)⟩
def p33_16_4 : RO := ⟨none, some 5, .assign (.tmp 14)⟩
def o33_16 : List RO := [p33_16_0, p33_16_1, p33_16_2, p33_16_3, p33_16_4]
def x33_16 : RC := .ops o33_16
def p33_18_0 : RO := ⟨none, some 15, .move (.tmp 5)⟩
def p33_18_1 : RO := ⟨none, some 16, .binOp .leq 5 (.const (.int .u8 (65))) (.tmp 15) 5⟩
def p33_18_2 : RO := ⟨none, some 17, .move (.tmp 16)⟩
def p33_18_3 : RO := ⟨some (some 17, true), some 18, .move (.tmp 5)⟩
def p33_18_4 : RO := ⟨some (some 17, true), some 19, .binOp .leq 5 (.tmp 18) (.const (.int .u8 (90))) 5⟩
def p33_18_5 : RO := ⟨none, some 20, .pick (.tmp 17) (.tmp 19) (.const (.bool false))⟩
def o33_18 : List RO := [p33_18_0, p33_18_1, p33_18_2, p33_18_3, p33_18_4, p33_18_5]
def x33_18 : RC := .ops o33_18
def p33_20_0 : RO := ⟨none, some 21, .move (.tmp 3)⟩
def p33_20_1 : RO := ⟨none, some 22, .move (.tmp 4)⟩
def p33_20_2 : RO := ⟨none, some 23, .move (.tmp 5)⟩
def p33_20_3 : RO := ⟨none, some 24, .binOp .add 5 (.tmp 23) (.const (.int .u8 (32))) 5⟩
def p33_20_4 : RO := ⟨none, some 25, .indexAddr 54 (.tmp 21) (.tmp 22)⟩
def p33_20_5 : RO := ⟨none, none, .store 5 (.tmp 25) (.tmp 24)⟩
def o33_20 : List RO := [p33_20_0, p33_20_1, p33_20_2, p33_20_3, p33_20_4, p33_20_5]
def x33_20 : RC := .ops o33_20
def x33_19 : RC := .cond (.tmp 20) x33_20 .skip
def x33_17 : RC := .seq x33_18 x33_19
def x33_15 : RC := .seq x33_16 x33_17
def x33_14 : RC := .block 1 x33_15
def p33_21_0 : RO := ⟨none, some 26, .binOp .add 3 (.tmp 10) (.const (.int .i64 (1))) 3⟩
def p33_21_1 : RO := ⟨none, some 10, .move (.tmp 26)⟩
def o33_21 : List RO := [p33_21_0, p33_21_1]
def x33_21 : RC := .ops o33_21
def x33_13 : RC := .seq x33_14 x33_21
def x33_11 : RC := .seq x33_12 x33_13
def x33_9 : RC := .seq x33_10 x33_11
def x33_8 : RC := .loop x33_9
def x33_7 : RC := .block 0 x33_8
def x33_5 : RC := .seq x33_6 x33_7
def p33_23_0 : RO := ⟨none, some 27, .move (.tmp 3)⟩
def p33_23_1 : RO := ⟨none, some 28, .convert 54 9 (.tmp 27)⟩
def p33_23_2 : RO := ⟨none, some 2, .assign (.tmp 28)⟩
def o33_23 : List RO := [p33_23_0, p33_23_1, p33_23_2]
def x33_23 : RC := .ops o33_23
def x33_22 : RC := .seq x33_23 .ret
def x33_4 : RC := .seq x33_5 x33_22
def x33_2 : RC := .seq x33_3 x33_4
def x33_0 : RC := .seq x33_1 x33_2
theorem x33_eq : Try.f33.body.map rc = some x33_0 := by kernel_rfl
def p36_1_0 : RO := ⟨none, some 4, .assign (.const (.bool false))⟩
def o36_1 : List RO := [p36_1_0]
def x36_1 : RC := .ops o36_1
def p36_3_0 : RO := ⟨none, some 5, .move (.tmp 1)⟩
def p36_3_1 : RO := ⟨none, some 6, .binOp .neq 9 (.tmp 5) (.const (.string ⟨#[]⟩)) 9⟩
def p36_3_2 : RO := ⟨none, some 7, .move (.tmp 6)⟩
def p36_3_3 : RO := ⟨some (some 7, true), some 8, .move (.tmp 1)⟩
def p36_3_4 : RO := ⟨some (some 7, true), some 9, .call ⟨.value (.func 37), #[(.tmp 8), (.const (.string ⟨#[32]⟩))], #[9, 9]⟩⟩
def p36_3_5 : RO := ⟨some (some 7, true), some 10, .unOp .not 4 (.tmp 9)⟩
def p36_3_6 : RO := ⟨none, some 11, .pick (.tmp 7) (.tmp 10) (.const (.bool false))⟩
def p36_3_7 : RO := ⟨none, some 12, .move (.tmp 11)⟩
def p36_3_8 : RO := ⟨some (some 12, true), some 13, .move (.tmp 0)⟩
def p36_3_9 : RO := ⟨some (some 12, true), some 14, .move (.tmp 1)⟩
def p36_3_10 : RO := ⟨some (some 12, true), some 15, .binOp .add 9 (.const (.string ⟨#[32]⟩)) (.tmp 14) 9⟩
def p36_3_11 : RO := ⟨some (some 12, true), some 16, .binOp .add 9 (.tmp 15) (.const (.string ⟨#[32]⟩)) 9⟩
def p36_3_12 : RO := ⟨some (some 12, true), some 17, .call ⟨.value (.func 37), #[(.tmp 13), (.tmp 16)], #[9, 9]⟩⟩
def p36_3_13 : RO := ⟨none, some 18, .pick (.tmp 12) (.tmp 17) (.const (.bool false))⟩
def p36_3_14 : RO := ⟨none, some 4, .assign (.tmp 18)⟩
def o36_3 : List RO := [p36_3_0, p36_3_1, p36_3_2, p36_3_3, p36_3_4, p36_3_5, p36_3_6, p36_3_7, p36_3_8, p36_3_9, p36_3_10, p36_3_11, p36_3_12, p36_3_13, p36_3_14]
def x36_3 : RC := .ops o36_3
def x36_2 : RC := .seq x36_3 .ret
def x36_0 : RC := .seq x36_1 x36_2
theorem x36_eq : Try.f36.body.map rc = some x36_0 := by kernel_rfl
def tab : FuncId → Option (RC × List ResultVar × Nat)
  | 4 => some (x4_0, [.tmp 4], 19)
  | 14 => some (x14_0, [.tmp 4], 26)
  | 15 => some (x15_0, [.tmp 4], 30)
  | 16 => some (x16_0, [.tmp 4], 38)
  | 21 => some (x21_0, [.tmp 2], 33)
  | 23 => some (x23_0, [.tmp 4], 24)
  | 24 => some (x24_0, [.tmp 4], 24)
  | 27 => some (x27_0, [.cell 2 47], 11)
  | 28 => some (x28_0, [.tmp 2], 8)
  | 33 => some (x33_0, [.tmp 2], 29)
  | 36 => some (x36_0, [.tmp 4], 19)
  | _ => none
theorem tab_ok : TabOK Try.prog tab := by
  intro f x rs n h
  unfold tab at h
  split at h
  · injection h with h; injection h with h1 h; injection h with h2 h3; subst h1; subst h2; subst h3; exact ⟨_, Try.func4, rfl, rfl, x4_eq⟩
  · injection h with h; injection h with h1 h; injection h with h2 h3; subst h1; subst h2; subst h3; exact ⟨_, Try.func14, rfl, rfl, x14_eq⟩
  · injection h with h; injection h with h1 h; injection h with h2 h3; subst h1; subst h2; subst h3; exact ⟨_, Try.func15, rfl, rfl, x15_eq⟩
  · injection h with h; injection h with h1 h; injection h with h2 h3; subst h1; subst h2; subst h3; exact ⟨_, Try.func16, rfl, rfl, x16_eq⟩
  · injection h with h; injection h with h1 h; injection h with h2 h3; subst h1; subst h2; subst h3; exact ⟨_, Try.func21, rfl, rfl, x21_eq⟩
  · injection h with h; injection h with h1 h; injection h with h2 h3; subst h1; subst h2; subst h3; exact ⟨_, Try.func23, rfl, rfl, x23_eq⟩
  · injection h with h; injection h with h1 h; injection h with h2 h3; subst h1; subst h2; subst h3; exact ⟨_, Try.func24, rfl, rfl, x24_eq⟩
  · injection h with h; injection h with h1 h; injection h with h2 h3; subst h1; subst h2; subst h3; exact ⟨_, Try.func27, rfl, rfl, x27_eq⟩
  · injection h with h; injection h with h1 h; injection h with h2 h3; subst h1; subst h2; subst h3; exact ⟨_, Try.func28, rfl, rfl, x28_eq⟩
  · injection h with h; injection h with h1 h; injection h with h2 h3; subst h1; subst h2; subst h3; exact ⟨_, Try.func33, rfl, rfl, x33_eq⟩
  · injection h with h; injection h with h1 h; injection h with h2 h3; subst h1; subst h2; subst h3; exact ⟨_, Try.func36, rfl, rfl, x36_eq⟩
  · cases h
def WOK (W : World) : Prop := SomeInt W 0
theorem wok_of {W : World} (h : W.ShapedOpen Try.prog) : WOK W := Try.laysM144.s1_3 W h
theorem base : Base Try.prog := ⟨by kernel_rfl, by kernel_rfl⟩
def prim0 : FuncId → Option (List V → H → Option (V × H)) := fun _ => none
theorem prim0s (W : World) (hW : WOK W) : Prims Try.prog W prim0 := fun _ _ => PrimOK.none
structure T39 where
  fName : (List UInt8)
  fValue : (List UInt8)
instance : Inhabited T39 := ⟨⟨default, default⟩⟩
def T39.cells (x : T39) : List V := [.str x.fName, .str x.fValue]
structure T39.ok (W : World) (x : T39) : Prop where
  fName : (fun x => x.length ≤ 9223372036854775807) x.fName
  fValue : (fun x => x.length ≤ 9223372036854775807) x.fValue
theorem T39_form {W : World} {n : Nat} {cs : List V} (h : Wf Try.prog W n 39 cs) : ∃ x : T39, cs = x.cells ∧ x.ok W := by
  have e9 : Try.prog.cellsOf 9 = 1 := by kernel_rfl
  have e39 : Try.prog.cellsOf 39 = 2 := by kernel_rfl
  cases n with
  | zero => exact h.elim
  | succ n =>
    simp only [Wf, Try.underlying39, e39] at h
    obtain ⟨hl, hf⟩ := h
    match cs, hl with
    | [c0, c1], _ =>
      simp only [List.mem_cons, forall_eq_or_imp, List.not_mem_nil, false_implies, implies_true, and_true, e9, e39, List.drop_zero, List.drop_succ_cons, List.take_succ_cons, List.take_zero] at hf
      obtain ⟨h0, h1⟩ := hf
      obtain ⟨v0, rfl, r0⟩ := wf_strR Try.underlying9 h0
      obtain ⟨v1, rfl, r1⟩ := wf_strR Try.underlying9 h1
      exact ⟨⟨v0, v1⟩, rfl, ⟨r0, r1⟩⟩
def q37 (l : List V) : Option V :=
  match l with
  | [.str s, .str t] => if s.length < 4294967281 then some (.bool (Lib.contains s t)) else none
  | _ => none
def prim1 : FuncId → Option (List V → H → Option (V × H)) := setPrim prim0 37 q37
theorem prim1s (W : World) (hW : WOK W) : Prims Try.prog W prim1 := by
  refine Prims.addC (prim0s W hW) ⟨_, _, Try.func37, rfl⟩ ?_
  intro w hb args v h μ args' hv
  unfold q37 at h
  split at h
  · split at h
    · rename_i hc
      injection h with h; subst h
      obtain ⟨a, b, rfl, rfl, rfl⟩ := hv.strs2
      obtain ⟨m, hm⟩ := SomeInt.below hW hb
      have hl : a.size = a.data.toList.length := by rw [Array.length_toList]; rfl
      refine (Try.strings_Contains a b m w (by omega) hm).mono ?_
      rintro e w' ⟨rfl, rfl⟩
      exact ⟨_, rfl, by simp [VR], rfl⟩
    · cases h
  · cases h
theorem vin_ok {W : World} {t s : List UInt8} (h1 : tableOk t = true) (h2 : t.length < 4294967281) (h3 : s.length < 4294967281) : WpF Try.prog W prim1 36 [.str t, .str s] H.empty (fun v _ => v = .bool (among s t)) := by
  refine WpF.m tab_ok (by kernel_rfl) rfl ?_
  refine WpM.cfg (c' := ⟨.code x36_0, [], (.str t :: .str s :: us 17), [], H.empty, none⟩) (by kernel_rfl) ?_
  refine WpM.run tab_ok 10 ⟨.ops (p36_3_3 :: o36_3.drop 4), [.seq .ret], (.str t :: .str s :: U :: U :: .bool false :: .str s :: .bool (!(s == [])) :: .bool (!(s == [])) :: us 11), [], H.empty, none⟩ (by kernel_rfl) ?_
  refine WpM.guard (b := (!(s == []))) (by kernel_rfl) (fun c1 => ?_) (fun c1 => ?_)
  · have c1p := nbeq_t c1
    refine WpM.run tab_ok 1 ⟨.ops (p36_3_4 :: o36_3.drop 5), [.seq .ret], (.str t :: .str s :: U :: U :: .bool false :: .str s :: .bool (!(s == [])) :: .bool true :: .str s :: us 10), [], H.empty, none⟩ (by kernel_rfl) ?_
    refine WpM.givenQ (f := 37) (args := [.str s, .str [32]]) (q := q37) (.bool (Lib.contains s [32])) (by kernel_rfl) (by kernel_rfl) (by kernel_rfl) (by simp only [q37]; rw [if_pos (by omega)]) ?_
    refine WpM.run tab_ok 3 ⟨.ops (p36_3_8 :: o36_3.drop 9), [.seq .ret], (.str t :: .str s :: U :: U :: .bool false :: .str s :: .bool (!(s == [])) :: .bool true :: .str s :: .bool (Lib.contains s [32]) :: .bool (!(Lib.contains s [32])) :: .bool (!(Lib.contains s [32])) :: .bool (!(Lib.contains s [32])) :: us 6), [], H.empty, none⟩ (by kernel_rfl) ?_
    refine WpM.guard (b := (!(Lib.contains s [32]))) (by kernel_rfl) (fun c2 => ?_) (fun c2 => ?_)
    · have c2p := not_t c2
      refine WpM.run tab_ok 2 ⟨.ops (p36_3_10 :: o36_3.drop 11), [.seq .ret], (.str t :: .str s :: U :: U :: .bool false :: .str s :: .bool (!(s == [])) :: .bool true :: .str s :: .bool (Lib.contains s [32]) :: .bool (!(Lib.contains s [32])) :: .bool (!(Lib.contains s [32])) :: .bool true :: .str t :: .str s :: us 4), [], H.empty, none⟩ (by kernel_rfl) ?_
      refine WpM.op (.str ([32] ++ s)) _ (by kernel_rfl) (concat_str (by kernel_rfl) (by kernel_rfl) (by simp only [List.length_append, List.length_cons, List.length_nil]; omega)) ?_
      refine WpM.run tab_ok 0 ⟨.ops (p36_3_11 :: o36_3.drop 12), [.seq .ret], (.str t :: .str s :: U :: U :: .bool false :: .str s :: .bool (!(s == [])) :: .bool true :: .str s :: .bool (Lib.contains s [32]) :: .bool (!(Lib.contains s [32])) :: .bool (!(Lib.contains s [32])) :: .bool true :: .str t :: .str s :: .str ([32] ++ s) :: U :: U :: U :: []), [], H.empty, none⟩ (by kernel_rfl) ?_
      refine WpM.op (.str (([32] ++ s) ++ [32])) _ (by kernel_rfl) (concat_str (by kernel_rfl) (by kernel_rfl) (by simp only [List.length_append, List.length_cons, List.length_nil]; omega)) ?_
      refine WpM.run tab_ok 0 ⟨.ops (p36_3_12 :: o36_3.drop 13), [.seq .ret], (.str t :: .str s :: U :: U :: .bool false :: .str s :: .bool (!(s == [])) :: .bool true :: .str s :: .bool (Lib.contains s [32]) :: .bool (!(Lib.contains s [32])) :: .bool (!(Lib.contains s [32])) :: .bool true :: .str t :: .str s :: .str ([32] ++ s) :: .str (([32] ++ s) ++ [32]) :: U :: U :: []), [], H.empty, none⟩ (by kernel_rfl) ?_
      refine WpM.givenQ (f := 37) (args := [.str t, .str (([32] ++ s) ++ [32])]) (q := q37) (.bool (Lib.contains t (([32] ++ s) ++ [32]))) (by kernel_rfl) (by kernel_rfl) (by kernel_rfl) (by simp only [q37]; rw [if_pos (by omega)]) ?_
      refine WpM.run tab_ok 5 ⟨.done .ret, [], (.str t :: .str s :: U :: U :: .bool (Lib.contains t (([32] ++ s) ++ [32])) :: .str s :: .bool (!(s == [])) :: .bool true :: .str s :: .bool (Lib.contains s [32]) :: .bool (!(Lib.contains s [32])) :: .bool (!(Lib.contains s [32])) :: .bool true :: .str t :: .str s :: .str ([32] ++ s) :: .str (([32] ++ s) ++ [32]) :: .bool (Lib.contains t (([32] ++ s) ++ [32])) :: .bool (Lib.contains t (([32] ++ s) ++ [32])) :: []), [], H.empty, none⟩ (by kernel_rfl) ?_
      refine WpM.ret (.bool (Lib.contains t (([32] ++ s) ++ [32]))) H.empty (by kernel_rfl) (by kernel_rfl) ?_
      rw [← among_in h1]; simp only [(of_not_t c1), (of_not_t c2), Bool.true_and, Bool.false_and, Bool.and_true, Bool.and_false, Bool.or_false, Bool.false_or, Bool.true_or, Bool.or_true, Bool.not_true, Bool.not_false, List.cons_append, List.nil_append]
    · have c2p := not_f c2
      refine WpM.run tab_ok 10 ⟨.done .ret, [], (.str t :: .str s :: U :: U :: .bool false :: .str s :: .bool (!(s == [])) :: .bool true :: .str s :: .bool (Lib.contains s [32]) :: .bool (!(Lib.contains s [32])) :: .bool (!(Lib.contains s [32])) :: .bool false :: U :: U :: U :: U :: U :: .bool false :: []), [], H.empty, none⟩ (by kernel_rfl) ?_
      refine WpM.ret (.bool false) H.empty (by kernel_rfl) (by kernel_rfl) ?_
      rw [← among_in h1]; simp only [(of_not_t c1), (of_not_f c2), Bool.true_and, Bool.false_and, Bool.and_true, Bool.and_false, Bool.or_false, Bool.false_or, Bool.true_or, Bool.or_true, Bool.not_true, Bool.not_false, List.cons_append, List.nil_append]
  · have c1p := nbeq_f c1
    refine WpM.run tab_ok 15 ⟨.done .ret, [], (.str t :: .str s :: U :: U :: .bool false :: .str s :: .bool (!(s == [])) :: .bool false :: U :: U :: U :: .bool false :: .bool false :: U :: U :: U :: U :: U :: .bool false :: []), [], H.empty, none⟩ (by kernel_rfl) ?_
    refine WpM.ret (.bool false) H.empty (by kernel_rfl) (by kernel_rfl) ?_
    rw [← among_in h1]; simp only [(of_not_f c1), Bool.true_and, Bool.false_and, Bool.and_true, Bool.and_false, Bool.or_false, Bool.false_or, Bool.true_or, Bool.or_true, Bool.not_true, Bool.not_false, List.cons_append, List.nil_append]
def q36 (l : List V) : Option V :=
  match l with
  | [.str t, .str s] => if tableOk t = true ∧ t.length < 4294967281 ∧ s.length < 4294967281 then some (.bool (among s t)) else none
  | _ => none
def prim2 : FuncId → Option (List V → H → Option (V × H)) := setPrim prim1 36 q36
theorem prim2s (W : World) (hW : WOK W) : Prims Try.prog W prim2 := by
  refine Prims.add base (prim1s W hW) ⟨_, _, Try.func36, rfl⟩ ?_
  intro w _ args v h
  unfold q36 at h
  split at h
  · split at h
    · rename_i hc; injection h with h; subst h; exact ⟨by simp only [old_cons, old_nil, old_int, old_str, old_bool, old_agg, old_tup, old_nils, Bool.and_true, Bool.true_and, hc], by simp only [old_cons, old_nil, old_int, old_str, old_bool, old_agg, old_tup, old_nils, Bool.and_true, Bool.true_and, hc], vin_ok hc.1 hc.2.1 hc.2.2⟩
    · cases h
  · cases h
def q7 (l : List V) : Option V :=
  match l with
  | [] => some (.bool true)
  | _ => none
def prim3 : FuncId → Option (List V → H → Option (V × H)) := setPrim prim2 7 q7
theorem prim3s (W : World) (hW : WOK W) : Prims Try.prog W prim3 := by
  refine Prims.add base (prim2s W hW) ⟨_, _, Try.func7, rfl⟩ ?_
  intro w _ args v h
  unfold q7 at h
  split at h
  · injection h with h; subst h; exact ⟨by simp only [old_cons, old_nil, old_int, old_str, old_bool, old_agg, old_tup, old_nils, Bool.and_true, Bool.true_and], by simp only [old_cons, old_nil, old_int, old_str, old_bool, old_agg, old_tup, old_nils, Bool.and_true, Bool.true_and], WpF.found (n := 120) (by kernel_rfl)⟩
  · cases h
def lowB (c : UInt8) : UInt8 := if 65 ≤ c.toNat ∧ c.toNat ≤ 90 then UInt8.ofNat (c.toNat + 32) else c
def lower (s : List UInt8) : List UInt8 := s.map lowB
def lowAt (s : List UInt8) (i : Int) : List UInt8 := lower (s.take i.toNat) ++ s.drop i.toNat
theorem lower_length (s : List UInt8) : (lower s).length = s.length := by simp [lower]
theorem lowAt_length (s : List UInt8) (i : Int) : (lowAt s i).length = s.length := by simp only [lowAt, lower, List.length_append, List.length_map, List.length_take, List.length_drop]; omega
theorem lowAt_zero (s : List UInt8) : lowAt s 0 = s := by simp [lowAt, lower]
theorem lowAt_end {s : List UInt8} {i : Int} (h : ¬ i < (s.length : Int)) : lowAt s i = lower s := by
  unfold lowAt
  rw [List.take_of_length_le (by omega), List.drop_eq_nil_of_le (by omega), List.append_nil]
theorem lowAt_bt {s : List UInt8} {i : Int} (h0 : 0 ≤ i) (h : i < (s.length : Int)) : bt (lowAt s i) i = bt s i := by
  have hl : i.toNat < s.length := by omega
  unfold bt lowAt
  rw [List.getD_eq_getElem?_getD, List.getD_eq_getElem?_getD, List.getElem?_append_right (by simp [lower]; omega)]
  simp [lower, Nat.min_eq_left (Nat.le_of_lt hl)]
theorem lowAt_step {s : List UInt8} {i : Int} (h0 : 0 ≤ i) (h : i < (s.length : Int)) : lowAt s (i + 1) = (lowAt s i).set i.toNat (lowB (s.getD i.toNat 0)) := by
  obtain ⟨c, e1, e2, e3⟩ := bt_get h0 h
  have hl : i.toNat < s.length := by omega
  have hc : s.getD i.toNat 0 = c := by
    rw [List.getD_eq_getElem?_getD, List.getElem?_eq_getElem hl]
    have := List.drop_eq_getElem_cons hl
    rw [e1] at this
    injection this with h1 _
    exact h1.symm
  unfold lowAt
  rw [toNat_succ h0, e3, e1, hc, List.set_append_right _ _ (by simp [lower]; omega)]
  have hm : (lower (List.take i.toNat s)).length = i.toNat := by simp [lower]; omega
  rw [hm, Nat.sub_self]
  simp [lower]
theorem set_selfG {α : Type} {env : List α} {t : Nat} {v : α} (h : env[t]? = some v) : env.set t v = env := by
  apply List.ext_getElem?
  intro i
  rw [List.getElem?_set]
  split
  · rename_i e
    subst e
    split
    · exact h.symm
    · rename_i hn
      rw [List.getElem?_eq_none (Nat.le_of_not_lt hn)]
  · rfl
theorem lowAt_big {s : List UInt8} {i : Int} (h0 : 0 ≤ i) (h : i < (s.length : Int)) (h1 : 65 ≤ bt s i) (h2 : bt s i ≤ 90) : lowAt s (i + 1) = (lowAt s i).set i.toNat (UInt8.ofNat (bt s i + 32).toNat) := by
  rw [lowAt_step h0 h]
  congr 1
  unfold bt at h1 h2 ⊢
  unfold lowB
  rw [if_pos ⟨by omega, by omega⟩]
  congr 1
theorem lowAt_small {s : List UInt8} {i : Int} (h0 : 0 ≤ i) (h : i < (s.length : Int)) (h1 : ¬ (65 ≤ bt s i) ∨ ¬ (bt s i ≤ 90)) : lowAt s (i + 1) = lowAt s i := by
  rw [lowAt_step h0 h]
  have : lowB (s.getD i.toNat 0) = s.getD i.toNat 0 := by
    unfold bt at h1
    unfold lowB
    rw [if_neg (by omega)]
  rw [this]
  apply set_selfG
  have hl : i.toNat < s.length := by omega
  unfold lowAt
  rw [List.getElem?_append_right (by simp [lower]; omega), List.getD_eq_getElem?_getD]
  simp [lower, Nat.min_eq_left (Nat.le_of_lt hl), List.getElem?_eq_getElem hl]
theorem lowB_twice (c : UInt8) : lowB (lowB c) = lowB c := by
  unfold lowB
  split
  · rename_i h
    have : (UInt8.ofNat (c.toNat + 32)).toNat = c.toNat + 32 := UInt8.toNat_ofNat_of_lt' (by have := h.2; show c.toNat + 32 < 256; omega)
    rw [this, if_neg (by omega)]
  · rfl
theorem lower_twice (s : List UInt8) : lower (lower s) = lower s := by
  unfold lower
  rw [List.map_map]
  apply List.map_congr_left
  intro c _
  exact lowB_twice c
theorem low_loop {W : World} {s : List UInt8} (hs : s.length ≤ 140737488355328) (n : Nat) : ∀ (i : Int) (h : H) (p1 : Nat) (cur : List UInt8) (d4 d5 d11 d12 d13 d14 d15 d16 d17 d18 d19 d20 d21 d22 d23 d24 d25 d26 : V), n = ((s.length : Int) - i).toNat → (0 ≤ i) → (i ≤ (s.length : Int)) → (cur = lowAt s i) → (h.get p1 = some (.cells (bv cur) 5)) → (p1 < h.nx) → WpM Try.prog W prim3 ⟨.code x33_9, [.loop x33_9, .blk 0, .seq x33_22], (.str s :: U :: .str [] :: .slice (some (.new p1 0)) s.length s.length false :: d4 :: d5 :: .str s :: .slice (some (.new p1 0)) s.length s.length false :: .slice (some (.new p1 0)) s.length s.length false :: .int .i64 ((s.length : Int)) :: .int .i64 i :: d11 :: d12 :: d13 :: d14 :: d15 :: d16 :: d17 :: d18 :: d19 :: d20 :: d21 :: d22 :: d23 :: d24 :: d25 :: d26 :: U :: U :: []), [], h, none⟩ (retQ Try.prog W [.tmp 2] (fun v _ => v = .str (lower s))) := by
  induction n using Nat.strongRecOn with
  | _ n ih =>
    intro i h p1 cur d4 d5 d11 d12 d13 d14 d15 d16 d17 d18 d19 d20 d21 d22 d23 d24 d25 d26 hn h0 h1 hc g1 l1
    have hl : s.length = cur.length := by rw [hc, lowAt_length]
    have hl2 : (s.length : Int) = (cur.length : Int) := by omega
    have hb : 0 ≤ i → i < (s.length : Int) → bt cur i = bt s i := fun a b => by rw [hc, lowAt_bt a b]
    have hr := bt_range cur i
    refine WpM.run tab_ok 6 ⟨.code x33_12, [.seq x33_13, .loop x33_9, .blk 0, .seq x33_22], (.str s :: U :: .str [] :: .slice (some (.new p1 0)) s.length s.length false :: d4 :: d5 :: .str s :: .slice (some (.new p1 0)) s.length s.length false :: .slice (some (.new p1 0)) s.length s.length false :: .int .i64 ((s.length : Int)) :: .int .i64 i :: .bool (decide (i < ((s.length : Int)))) :: d12 :: d13 :: d14 :: d15 :: d16 :: d17 :: d18 :: d19 :: d20 :: d21 :: d22 :: d23 :: d24 :: d25 :: d26 :: U :: U :: []), [], h, none⟩ (by kernel_rfl) ?_
    refine WpM.cond (t := (decide (i < ((s.length : Int))))) (by kernel_rfl) (fun c101 => ?_) (fun c101 => ?_)
    · have c101p := dec_t c101
      refine WpM.run tab_ok 7 ⟨.ops (p33_16_1 :: o33_16.drop 2), [.seq x33_17, .blk 1, .seq x33_21, .loop x33_9, .blk 0, .seq x33_22], (.str s :: U :: .str [] :: .slice (some (.new p1 0)) s.length s.length false :: d4 :: d5 :: .str s :: .slice (some (.new p1 0)) s.length s.length false :: .slice (some (.new p1 0)) s.length s.length false :: .int .i64 ((s.length : Int)) :: .int .i64 i :: .bool (decide (i < ((s.length : Int)))) :: .int .i64 i :: d13 :: d14 :: d15 :: d16 :: d17 :: d18 :: d19 :: d20 :: d21 :: d22 :: d23 :: d24 :: d25 :: d26 :: U :: U :: []), [], h, none⟩ (by kernel_rfl) ?_
      refine WpM.op (.ptr (some (.new p1 (0 + i.toNat * 1)))) _ (by kernel_rfl) (indexAddr_sl (e := 5) (a := (.new p1 0)) (len := s.length) (lb := s.length) (ex := false) (z := 1) (k := .i64) (n := i) (by kernel_rfl) (by kernel_rfl) (by kernel_rfl) (by kernel_rfl) (by omega)) ?_
      refine WpM.run tab_ok 0 ⟨.ops (p33_16_2 :: o33_16.drop 3), [.seq x33_17, .blk 1, .seq x33_21, .loop x33_9, .blk 0, .seq x33_22], (.str s :: U :: .str [] :: .slice (some (.new p1 0)) s.length s.length false :: d4 :: d5 :: .str s :: .slice (some (.new p1 0)) s.length s.length false :: .slice (some (.new p1 0)) s.length s.length false :: .int .i64 ((s.length : Int)) :: .int .i64 i :: .bool (decide (i < ((s.length : Int)))) :: .int .i64 i :: .ptr (some (.new p1 (0 + i.toNat * 1))) :: d14 :: d15 :: d16 :: d17 :: d18 :: d19 :: d20 :: d21 :: d22 :: d23 :: d24 :: d25 :: d26 :: U :: U :: []), [], h, none⟩ (by kernel_rfl) ?_
      refine WpM.op (.int .u8 (bt cur i)) _ (by kernel_rfl) (load_new (o := (0 + i.toNat * 1)) (by kernel_rfl) g1 (bv_ld (i := i) (by kernel_rfl) (by omega) (by omega))) ?_
      refine WpM.run tab_ok 9 ⟨.ops (p33_18_3 :: o33_18.drop 4), [.seq x33_19, .blk 1, .seq x33_21, .loop x33_9, .blk 0, .seq x33_22], (.str s :: U :: .str [] :: .slice (some (.new p1 0)) s.length s.length false :: .int .i64 i :: .int .u8 (bt cur i) :: .str s :: .slice (some (.new p1 0)) s.length s.length false :: .slice (some (.new p1 0)) s.length s.length false :: .int .i64 ((s.length : Int)) :: .int .i64 i :: .bool (decide (i < ((s.length : Int)))) :: .int .i64 i :: .ptr (some (.new p1 (0 + i.toNat * 1))) :: .int .u8 (bt cur i) :: .int .u8 (bt cur i) :: .bool (decide ((65 : Int) ≤ (bt cur i))) :: .bool (decide ((65 : Int) ≤ (bt cur i))) :: d18 :: d19 :: d20 :: d21 :: d22 :: d23 :: d24 :: d25 :: d26 :: U :: U :: []), [], h, none⟩ (by kernel_rfl) ?_
      refine WpM.guard (b := (decide ((65 : Int) ≤ (bt cur i)))) (by kernel_rfl) (fun c102 => ?_) (fun c102 => ?_)
      · have c102p := dec_t c102
        refine WpM.run tab_ok 5 ⟨.code x33_19, [.blk 1, .seq x33_21, .loop x33_9, .blk 0, .seq x33_22], (.str s :: U :: .str [] :: .slice (some (.new p1 0)) s.length s.length false :: .int .i64 i :: .int .u8 (bt cur i) :: .str s :: .slice (some (.new p1 0)) s.length s.length false :: .slice (some (.new p1 0)) s.length s.length false :: .int .i64 ((s.length : Int)) :: .int .i64 i :: .bool (decide (i < ((s.length : Int)))) :: .int .i64 i :: .ptr (some (.new p1 (0 + i.toNat * 1))) :: .int .u8 (bt cur i) :: .int .u8 (bt cur i) :: .bool (decide ((65 : Int) ≤ (bt cur i))) :: .bool true :: .int .u8 (bt cur i) :: .bool (decide ((bt cur i) ≤ 90)) :: .bool (decide ((bt cur i) ≤ 90)) :: d21 :: d22 :: d23 :: d24 :: d25 :: d26 :: U :: U :: []), [], h, none⟩ (by kernel_rfl) ?_
        refine WpM.cond (t := (decide ((bt cur i) ≤ 90))) (by kernel_rfl) (fun c103 => ?_) (fun c103 => ?_)
        · have c103p := dec_t c103
          refine WpM.run tab_ok 4 ⟨.ops (p33_20_3 :: o33_20.drop 4), [.blk 1, .seq x33_21, .loop x33_9, .blk 0, .seq x33_22], (.str s :: U :: .str [] :: .slice (some (.new p1 0)) s.length s.length false :: .int .i64 i :: .int .u8 (bt cur i) :: .str s :: .slice (some (.new p1 0)) s.length s.length false :: .slice (some (.new p1 0)) s.length s.length false :: .int .i64 ((s.length : Int)) :: .int .i64 i :: .bool (decide (i < ((s.length : Int)))) :: .int .i64 i :: .ptr (some (.new p1 (0 + i.toNat * 1))) :: .int .u8 (bt cur i) :: .int .u8 (bt cur i) :: .bool (decide ((65 : Int) ≤ (bt cur i))) :: .bool true :: .int .u8 (bt cur i) :: .bool (decide ((bt cur i) ≤ 90)) :: .bool (decide ((bt cur i) ≤ 90)) :: .slice (some (.new p1 0)) s.length s.length false :: .int .i64 i :: .int .u8 (bt cur i) :: d24 :: d25 :: d26 :: U :: U :: []), [], h, none⟩ (by kernel_rfl) ?_
          refine WpM.op (.int .u8 ((bt cur i) + 32)) _ (by kernel_rfl) (arith_addU (by kernel_rfl) (by kernel_rfl) (by omega)) ?_
          refine WpM.run tab_ok 0 ⟨.ops (p33_20_4 :: o33_20.drop 5), [.blk 1, .seq x33_21, .loop x33_9, .blk 0, .seq x33_22], (.str s :: U :: .str [] :: .slice (some (.new p1 0)) s.length s.length false :: .int .i64 i :: .int .u8 (bt cur i) :: .str s :: .slice (some (.new p1 0)) s.length s.length false :: .slice (some (.new p1 0)) s.length s.length false :: .int .i64 ((s.length : Int)) :: .int .i64 i :: .bool (decide (i < ((s.length : Int)))) :: .int .i64 i :: .ptr (some (.new p1 (0 + i.toNat * 1))) :: .int .u8 (bt cur i) :: .int .u8 (bt cur i) :: .bool (decide ((65 : Int) ≤ (bt cur i))) :: .bool true :: .int .u8 (bt cur i) :: .bool (decide ((bt cur i) ≤ 90)) :: .bool (decide ((bt cur i) ≤ 90)) :: .slice (some (.new p1 0)) s.length s.length false :: .int .i64 i :: .int .u8 (bt cur i) :: .int .u8 ((bt cur i) + 32) :: d25 :: d26 :: U :: U :: []), [], h, none⟩ (by kernel_rfl) ?_
          refine WpM.op (.ptr (some (.new p1 (0 + i.toNat * 1)))) _ (by kernel_rfl) (indexAddr_sl (e := 5) (a := (.new p1 0)) (len := s.length) (lb := s.length) (ex := false) (z := 1) (k := .i64) (n := i) (by kernel_rfl) (by kernel_rfl) (by kernel_rfl) (by kernel_rfl) (by omega)) ?_
          refine WpM.run tab_ok 0 ⟨.ops (p33_20_5 :: o33_20.drop 6), [.blk 1, .seq x33_21, .loop x33_9, .blk 0, .seq x33_22], (.str s :: U :: .str [] :: .slice (some (.new p1 0)) s.length s.length false :: .int .i64 i :: .int .u8 (bt cur i) :: .str s :: .slice (some (.new p1 0)) s.length s.length false :: .slice (some (.new p1 0)) s.length s.length false :: .int .i64 ((s.length : Int)) :: .int .i64 i :: .bool (decide (i < ((s.length : Int)))) :: .int .i64 i :: .ptr (some (.new p1 (0 + i.toNat * 1))) :: .int .u8 (bt cur i) :: .int .u8 (bt cur i) :: .bool (decide ((65 : Int) ≤ (bt cur i))) :: .bool true :: .int .u8 (bt cur i) :: .bool (decide ((bt cur i) ≤ 90)) :: .bool (decide ((bt cur i) ≤ 90)) :: .slice (some (.new p1 0)) s.length s.length false :: .int .i64 i :: .int .u8 (bt cur i) :: .int .u8 ((bt cur i) + 32) :: .ptr (some (.new p1 (0 + i.toNat * 1))) :: d26 :: U :: U :: []), [], h, none⟩ (by kernel_rfl) ?_
          refine WpM.opS U p1 (some (.cells (bv (cur.set i.toNat (UInt8.ofNat ((bt cur i) + 32).toNat))) 5)) (by kernel_rfl) (store_new (o := (0 + i.toNat * 1)) (v := .int .u8 ((bt cur i) + 32)) (by kernel_rfl) (by kernel_rfl) g1 (bv_st (i := i) (by kernel_rfl) (by omega) (by omega) (by omega))) (fun h104 a105 => ?_)
          refine WpM.run tab_ok 4 ⟨.ops (p33_21_0 :: o33_21.drop 1), [.loop x33_9, .blk 0, .seq x33_22], (.str s :: U :: .str [] :: .slice (some (.new p1 0)) s.length s.length false :: .int .i64 i :: .int .u8 (bt cur i) :: .str s :: .slice (some (.new p1 0)) s.length s.length false :: .slice (some (.new p1 0)) s.length s.length false :: .int .i64 ((s.length : Int)) :: .int .i64 i :: .bool (decide (i < ((s.length : Int)))) :: .int .i64 i :: .ptr (some (.new p1 (0 + i.toNat * 1))) :: .int .u8 (bt cur i) :: .int .u8 (bt cur i) :: .bool (decide ((65 : Int) ≤ (bt cur i))) :: .bool true :: .int .u8 (bt cur i) :: .bool (decide ((bt cur i) ≤ 90)) :: .bool (decide ((bt cur i) ≤ 90)) :: .slice (some (.new p1 0)) s.length s.length false :: .int .i64 i :: .int .u8 (bt cur i) :: .int .u8 ((bt cur i) + 32) :: .ptr (some (.new p1 (0 + i.toNat * 1))) :: d26 :: U :: U :: []), [], h104, none⟩ (by kernel_rfl) ?_
          refine WpM.op (.int .i64 (i + 1)) _ (by kernel_rfl) (arith_add (by kernel_rfl) (by kernel_rfl) (by omega)) ?_
          refine WpM.run tab_ok 3 ⟨.code x33_9, [.loop x33_9, .blk 0, .seq x33_22], (.str s :: U :: .str [] :: .slice (some (.new p1 0)) s.length s.length false :: .int .i64 i :: .int .u8 (bt cur i) :: .str s :: .slice (some (.new p1 0)) s.length s.length false :: .slice (some (.new p1 0)) s.length s.length false :: .int .i64 ((s.length : Int)) :: .int .i64 (i + 1) :: .bool (decide (i < ((s.length : Int)))) :: .int .i64 i :: .ptr (some (.new p1 (0 + i.toNat * 1))) :: .int .u8 (bt cur i) :: .int .u8 (bt cur i) :: .bool (decide ((65 : Int) ≤ (bt cur i))) :: .bool true :: .int .u8 (bt cur i) :: .bool (decide ((bt cur i) ≤ 90)) :: .bool (decide ((bt cur i) ≤ 90)) :: .slice (some (.new p1 0)) s.length s.length false :: .int .i64 i :: .int .u8 (bt cur i) :: .int .u8 ((bt cur i) + 32) :: .ptr (some (.new p1 (0 + i.toNat * 1))) :: .int .i64 (i + 1) :: U :: U :: []), [], h104, none⟩ (by kernel_rfl) ?_
          refine ih _ ?_ _ h104 p1 (cur.set i.toNat (UInt8.ofNat ((bt cur i) + 32).toNat)) _ _ _ _ _ _ _ _ _ _ _ _ _ _ _ _ _ _ rfl ?_ ?_ ?_ ?_ ?_
          · omega
          · omega
          · omega
          · have hb2 := hb h0 (by omega)
            first
              | (rw [hc]; exact (lowAt_small h0 (by omega) (by first | (left; omega) | (right; omega))).symm)
              | (rw [lowAt_big h0 (by omega) (by omega) (by omega), ← hc, hb2])
          · first | exact a105.get
          · first | exact (a105.le l1)
        · have c103p := dec_f c103
          refine WpM.run tab_ok 4 ⟨.ops (p33_21_0 :: o33_21.drop 1), [.loop x33_9, .blk 0, .seq x33_22], (.str s :: U :: .str [] :: .slice (some (.new p1 0)) s.length s.length false :: .int .i64 i :: .int .u8 (bt cur i) :: .str s :: .slice (some (.new p1 0)) s.length s.length false :: .slice (some (.new p1 0)) s.length s.length false :: .int .i64 ((s.length : Int)) :: .int .i64 i :: .bool (decide (i < ((s.length : Int)))) :: .int .i64 i :: .ptr (some (.new p1 (0 + i.toNat * 1))) :: .int .u8 (bt cur i) :: .int .u8 (bt cur i) :: .bool (decide ((65 : Int) ≤ (bt cur i))) :: .bool true :: .int .u8 (bt cur i) :: .bool (decide ((bt cur i) ≤ 90)) :: .bool (decide ((bt cur i) ≤ 90)) :: d21 :: d22 :: d23 :: d24 :: d25 :: d26 :: U :: U :: []), [], h, none⟩ (by kernel_rfl) ?_
          refine WpM.op (.int .i64 (i + 1)) _ (by kernel_rfl) (arith_add (by kernel_rfl) (by kernel_rfl) (by omega)) ?_
          refine WpM.run tab_ok 3 ⟨.code x33_9, [.loop x33_9, .blk 0, .seq x33_22], (.str s :: U :: .str [] :: .slice (some (.new p1 0)) s.length s.length false :: .int .i64 i :: .int .u8 (bt cur i) :: .str s :: .slice (some (.new p1 0)) s.length s.length false :: .slice (some (.new p1 0)) s.length s.length false :: .int .i64 ((s.length : Int)) :: .int .i64 (i + 1) :: .bool (decide (i < ((s.length : Int)))) :: .int .i64 i :: .ptr (some (.new p1 (0 + i.toNat * 1))) :: .int .u8 (bt cur i) :: .int .u8 (bt cur i) :: .bool (decide ((65 : Int) ≤ (bt cur i))) :: .bool true :: .int .u8 (bt cur i) :: .bool (decide ((bt cur i) ≤ 90)) :: .bool (decide ((bt cur i) ≤ 90)) :: d21 :: d22 :: d23 :: d24 :: d25 :: .int .i64 (i + 1) :: U :: U :: []), [], h, none⟩ (by kernel_rfl) ?_
          refine ih _ ?_ _ h p1 (cur) _ _ _ _ _ _ _ _ _ _ _ _ _ _ _ _ _ _ rfl ?_ ?_ ?_ ?_ ?_
          · omega
          · omega
          · omega
          · have hb2 := hb h0 (by omega)
            first
              | (rw [hc]; exact (lowAt_small h0 (by omega) (by first | (left; omega) | (right; omega))).symm)
              | (rw [lowAt_big h0 (by omega) (by omega) (by omega), ← hc, hb2])
          · first | exact g1
          · first | exact l1
      · have c102p := dec_f c102
        refine WpM.run tab_ok 10 ⟨.ops (p33_21_0 :: o33_21.drop 1), [.loop x33_9, .blk 0, .seq x33_22], (.str s :: U :: .str [] :: .slice (some (.new p1 0)) s.length s.length false :: .int .i64 i :: .int .u8 (bt cur i) :: .str s :: .slice (some (.new p1 0)) s.length s.length false :: .slice (some (.new p1 0)) s.length s.length false :: .int .i64 ((s.length : Int)) :: .int .i64 i :: .bool (decide (i < ((s.length : Int)))) :: .int .i64 i :: .ptr (some (.new p1 (0 + i.toNat * 1))) :: .int .u8 (bt cur i) :: .int .u8 (bt cur i) :: .bool (decide ((65 : Int) ≤ (bt cur i))) :: .bool false :: U :: U :: .bool false :: d21 :: d22 :: d23 :: d24 :: d25 :: d26 :: U :: U :: []), [], h, none⟩ (by kernel_rfl) ?_
        refine WpM.op (.int .i64 (i + 1)) _ (by kernel_rfl) (arith_add (by kernel_rfl) (by kernel_rfl) (by omega)) ?_
        refine WpM.run tab_ok 3 ⟨.code x33_9, [.loop x33_9, .blk 0, .seq x33_22], (.str s :: U :: .str [] :: .slice (some (.new p1 0)) s.length s.length false :: .int .i64 i :: .int .u8 (bt cur i) :: .str s :: .slice (some (.new p1 0)) s.length s.length false :: .slice (some (.new p1 0)) s.length s.length false :: .int .i64 ((s.length : Int)) :: .int .i64 (i + 1) :: .bool (decide (i < ((s.length : Int)))) :: .int .i64 i :: .ptr (some (.new p1 (0 + i.toNat * 1))) :: .int .u8 (bt cur i) :: .int .u8 (bt cur i) :: .bool (decide ((65 : Int) ≤ (bt cur i))) :: .bool false :: U :: U :: .bool false :: d21 :: d22 :: d23 :: d24 :: d25 :: .int .i64 (i + 1) :: U :: U :: []), [], h, none⟩ (by kernel_rfl) ?_
        refine ih _ ?_ _ h p1 (cur) _ _ _ _ _ _ _ _ _ _ _ _ _ _ _ _ _ _ rfl ?_ ?_ ?_ ?_ ?_
        · omega
        · omega
        · omega
        · have hb2 := hb h0 (by omega)
          first
            | (rw [hc]; exact (lowAt_small h0 (by omega) (by first | (left; omega) | (right; omega))).symm)
            | (rw [lowAt_big h0 (by omega) (by omega) (by omega), ← hc, hb2])
        · first | exact g1
        · first | exact l1
    · have c101p := dec_f c101
      refine WpM.run tab_ok 8 ⟨.ops (p33_23_1 :: o33_23.drop 2), [.seq .ret], (.str s :: U :: .str [] :: .slice (some (.new p1 0)) s.length s.length false :: d4 :: d5 :: .str s :: .slice (some (.new p1 0)) s.length s.length false :: .slice (some (.new p1 0)) s.length s.length false :: .int .i64 ((s.length : Int)) :: .int .i64 i :: .bool (decide (i < ((s.length : Int)))) :: d12 :: d13 :: d14 :: d15 :: d16 :: d17 :: d18 :: d19 :: d20 :: d21 :: d22 :: d23 :: d24 :: d25 :: d26 :: .slice (some (.new p1 0)) s.length s.length false :: U :: []), [], h, none⟩ (by kernel_rfl) ?_
      refine WpM.op (.str cur) _ (by kernel_rfl) (conv_str (bs := cur) (e := 5) (i := p1) (len := s.length) (lb := s.length) (ex := false) (by kernel_rfl) (by kernel_rfl) (by kernel_rfl) (by kernel_rfl) g1 (by exact hl)) ?_
      refine WpM.run tab_ok 4 ⟨.done .ret, [], (.str s :: U :: .str cur :: .slice (some (.new p1 0)) s.length s.length false :: d4 :: d5 :: .str s :: .slice (some (.new p1 0)) s.length s.length false :: .slice (some (.new p1 0)) s.length s.length false :: .int .i64 ((s.length : Int)) :: .int .i64 i :: .bool (decide (i < ((s.length : Int)))) :: d12 :: d13 :: d14 :: d15 :: d16 :: d17 :: d18 :: d19 :: d20 :: d21 :: d22 :: d23 :: d24 :: d25 :: d26 :: .slice (some (.new p1 0)) s.length s.length false :: .str cur :: []), [], h, none⟩ (by kernel_rfl) ?_
      refine WpM.ret (.str cur) h (by kernel_rfl) (by kernel_rfl) ?_
      rw [hc, lowAt_end (by omega)]
theorem low_ok {W : World} {s : List UInt8} (hs : s.length ≤ 140737488355328) : WpF Try.prog W prim3 33 [.str s] H.empty (fun v _ => v = .str (lower s)) := by
  refine WpF.m tab_ok (by kernel_rfl) rfl ?_
  refine WpM.cfg (c' := ⟨.code x33_0, [], (.str s :: us 28), [], H.empty, none⟩) (by kernel_rfl) ?_
  refine WpM.run tab_ok 8 ⟨.ops (p33_3_1 :: o33_3.drop 2), [.seq x33_4], (.str s :: U :: .str [] :: U :: U :: U :: .str s :: us 22), [], H.empty, none⟩ (by kernel_rfl) ?_
  refine WpM.opA (fun p => .slice (some (.new p 0)) s.length s.length false) (.cells (bv s) 5) (by kernel_rfl) (by kernel_rfl) (fun p1 h2 a3 => ?_)
  refine WpM.run tab_ok 13 ⟨.code x33_9, [.loop x33_9, .blk 0, .seq x33_22], (.str s :: U :: .str [] :: .slice (some (.new p1 0)) s.length s.length false :: U :: U :: .str s :: .slice (some (.new p1 0)) s.length s.length false :: .slice (some (.new p1 0)) s.length s.length false :: .int .i64 ((s.length : Int)) :: .int .i64 0 :: us 18), [], h2, none⟩ (by kernel_rfl) ?_
  exact low_loop hs _ 0 _ _ s _ _ _ _ _ _ _ _ _ _ _ _ _ _ _ _ _ _ rfl (by omega) (by omega) (lowAt_zero s).symm a3.get a3.lt
def q33 (l : List V) : Option V :=
  match l with
  | [.str s] => if s.length ≤ 140737488355328 then some (.str (lower s)) else none
  | _ => none
def prim4 : FuncId → Option (List V → H → Option (V × H)) := setPrim prim3 33 q33
theorem prim4s (W : World) (hW : WOK W) : Prims Try.prog W prim4 := by
  refine Prims.add base (prim3s W hW) ⟨_, _, Try.func33, rfl⟩ ?_
  intro w _ args v h
  unfold q33 at h
  split at h
  · split at h
    · rename_i hc; injection h with h; subst h; exact ⟨by simp only [old_cons, old_nil, old_int, old_str, old_bool, old_agg, old_tup, old_nils, Bool.and_true, Bool.true_and, hc], by simp only [old_cons, old_nil, old_int, old_str, old_bool, old_agg, old_tup, old_nils, Bool.and_true, Bool.true_and, hc], low_ok hc⟩
    · cases h
  · cases h
theorem lowr_loop {W : World} {s : List UInt8} (hs : s.length ≤ 140737488355328) (n : Nat) : ∀ (i : Int) (h : H) (p1 : Nat) (cur : List UInt8) (d7 d8 d9 d10 d11 d12 d13 d14 d15 d16 d17 d18 d19 d20 d21 d22 d23 d24 d25 d26 d27 d28 d29 d30 : V), n = ((s.length : Int) - i).toNat → (0 ≤ i) → (i ≤ (s.length : Int)) → (cur = lowAt s i) → (h.get p1 = some (.cells (bv cur) 5)) → (p1 < h.nx) → WpM Try.prog W prim4 ⟨.code x21_9, [.loop x21_9, .blk 0, .seq x21_20], (.str s :: U :: .str [] :: .slice (some (.new p1 0)) s.length s.length false :: .int .i64 i :: .str s :: .slice (some (.new p1 0)) s.length s.length false :: d7 :: d8 :: d9 :: d10 :: d11 :: d12 :: d13 :: d14 :: d15 :: d16 :: d17 :: d18 :: d19 :: d20 :: d21 :: d22 :: d23 :: d24 :: d25 :: d26 :: d27 :: d28 :: d29 :: d30 :: U :: U :: []), [], h, none⟩ (retQ Try.prog W [.tmp 2] (fun v _ => v = .str (lower s))) := by
  induction n using Nat.strongRecOn with
  | _ n ih =>
    intro i h p1 cur d7 d8 d9 d10 d11 d12 d13 d14 d15 d16 d17 d18 d19 d20 d21 d22 d23 d24 d25 d26 d27 d28 d29 d30 hn h0 h1 hc g1 l1
    have hl : s.length = cur.length := by rw [hc, lowAt_length]
    have hl2 : (s.length : Int) = (cur.length : Int) := by omega
    have hb : 0 ≤ i → i < (s.length : Int) → bt cur i = bt s i := fun a b => by rw [hc, lowAt_bt a b]
    have hr := bt_range cur i
    refine WpM.run tab_ok 9 ⟨.code x21_12, [.seq x21_13, .loop x21_9, .blk 0, .seq x21_20], (.str s :: U :: .str [] :: .slice (some (.new p1 0)) s.length s.length false :: .int .i64 i :: .str s :: .slice (some (.new p1 0)) s.length s.length false :: .int .i64 i :: .slice (some (.new p1 0)) s.length s.length false :: .int .i64 ((s.length : Int)) :: .bool (decide (i < ((s.length : Int)))) :: d11 :: d12 :: d13 :: d14 :: d15 :: d16 :: d17 :: d18 :: d19 :: d20 :: d21 :: d22 :: d23 :: d24 :: d25 :: d26 :: d27 :: d28 :: d29 :: d30 :: U :: U :: []), [], h, none⟩ (by kernel_rfl) ?_
    refine WpM.cond (t := (decide (i < ((s.length : Int))))) (by kernel_rfl) (fun c101 => ?_) (fun c101 => ?_)
    · have c101p := dec_t c101
      refine WpM.run tab_ok 8 ⟨.ops (p21_16_2 :: o21_16.drop 3), [.seq x21_17, .blk 1, .seq x21_19, .loop x21_9, .blk 0, .seq x21_20], (.str s :: U :: .str [] :: .slice (some (.new p1 0)) s.length s.length false :: .int .i64 i :: .str s :: .slice (some (.new p1 0)) s.length s.length false :: .int .i64 i :: .slice (some (.new p1 0)) s.length s.length false :: .int .i64 ((s.length : Int)) :: .bool (decide (i < ((s.length : Int)))) :: d11 :: d12 :: .slice (some (.new p1 0)) s.length s.length false :: .int .i64 i :: d15 :: d16 :: d17 :: d18 :: d19 :: d20 :: d21 :: d22 :: d23 :: d24 :: d25 :: d26 :: d27 :: d28 :: d29 :: d30 :: U :: U :: []), [], h, none⟩ (by kernel_rfl) ?_
      refine WpM.op (.ptr (some (.new p1 (0 + i.toNat * 1)))) _ (by kernel_rfl) (indexAddr_sl (e := 5) (a := (.new p1 0)) (len := s.length) (lb := s.length) (ex := false) (z := 1) (k := .i64) (n := i) (by kernel_rfl) (by kernel_rfl) (by kernel_rfl) (by kernel_rfl) (by omega)) ?_
      refine WpM.run tab_ok 0 ⟨.ops (p21_16_3 :: o21_16.drop 4), [.seq x21_17, .blk 1, .seq x21_19, .loop x21_9, .blk 0, .seq x21_20], (.str s :: U :: .str [] :: .slice (some (.new p1 0)) s.length s.length false :: .int .i64 i :: .str s :: .slice (some (.new p1 0)) s.length s.length false :: .int .i64 i :: .slice (some (.new p1 0)) s.length s.length false :: .int .i64 ((s.length : Int)) :: .bool (decide (i < ((s.length : Int)))) :: d11 :: d12 :: .slice (some (.new p1 0)) s.length s.length false :: .int .i64 i :: .ptr (some (.new p1 (0 + i.toNat * 1))) :: d16 :: d17 :: d18 :: d19 :: d20 :: d21 :: d22 :: d23 :: d24 :: d25 :: d26 :: d27 :: d28 :: d29 :: d30 :: U :: U :: []), [], h, none⟩ (by kernel_rfl) ?_
      refine WpM.op (.int .u8 (bt cur i)) _ (by kernel_rfl) (load_new (o := (0 + i.toNat * 1)) (by kernel_rfl) g1 (bv_ld (i := i) (by kernel_rfl) (by omega) (by omega))) ?_
      refine WpM.run tab_ok 2 ⟨.ops (p21_16_6 :: o21_16.drop 7), [.seq x21_17, .blk 1, .seq x21_19, .loop x21_9, .blk 0, .seq x21_20], (.str s :: U :: .str [] :: .slice (some (.new p1 0)) s.length s.length false :: .int .i64 i :: .str s :: .slice (some (.new p1 0)) s.length s.length false :: .int .i64 i :: .slice (some (.new p1 0)) s.length s.length false :: .int .i64 ((s.length : Int)) :: .bool (decide (i < ((s.length : Int)))) :: d11 :: d12 :: .slice (some (.new p1 0)) s.length s.length false :: .int .i64 i :: .ptr (some (.new p1 (0 + i.toNat * 1))) :: .int .u8 (bt cur i) :: .bool (decide ((bt cur i) ≥ 65)) :: .bool (decide ((bt cur i) ≥ 65)) :: d19 :: d20 :: d21 :: d22 :: d23 :: d24 :: d25 :: d26 :: d27 :: d28 :: d29 :: d30 :: U :: U :: []), [], h, none⟩ (by kernel_rfl) ?_
      refine WpM.guard (b := (decide ((bt cur i) ≥ 65))) (by kernel_rfl) (fun c102 => ?_) (fun c102 => ?_)
      · have c102p := dec_t c102
        refine WpM.run tab_ok 2 ⟨.ops (p21_16_8 :: o21_16.drop 9), [.seq x21_17, .blk 1, .seq x21_19, .loop x21_9, .blk 0, .seq x21_20], (.str s :: U :: .str [] :: .slice (some (.new p1 0)) s.length s.length false :: .int .i64 i :: .str s :: .slice (some (.new p1 0)) s.length s.length false :: .int .i64 i :: .slice (some (.new p1 0)) s.length s.length false :: .int .i64 ((s.length : Int)) :: .bool (decide (i < ((s.length : Int)))) :: d11 :: d12 :: .slice (some (.new p1 0)) s.length s.length false :: .int .i64 i :: .ptr (some (.new p1 (0 + i.toNat * 1))) :: .int .u8 (bt cur i) :: .bool (decide ((bt cur i) ≥ 65)) :: .bool true :: .slice (some (.new p1 0)) s.length s.length false :: .int .i64 i :: d21 :: d22 :: d23 :: d24 :: d25 :: d26 :: d27 :: d28 :: d29 :: d30 :: U :: U :: []), [], h, none⟩ (by kernel_rfl) ?_
        refine WpM.op (.ptr (some (.new p1 (0 + i.toNat * 1)))) _ (by kernel_rfl) (indexAddr_sl (e := 5) (a := (.new p1 0)) (len := s.length) (lb := s.length) (ex := false) (z := 1) (k := .i64) (n := i) (by kernel_rfl) (by kernel_rfl) (by kernel_rfl) (by kernel_rfl) (by omega)) ?_
        refine WpM.run tab_ok 0 ⟨.ops (p21_16_9 :: o21_16.drop 10), [.seq x21_17, .blk 1, .seq x21_19, .loop x21_9, .blk 0, .seq x21_20], (.str s :: U :: .str [] :: .slice (some (.new p1 0)) s.length s.length false :: .int .i64 i :: .str s :: .slice (some (.new p1 0)) s.length s.length false :: .int .i64 i :: .slice (some (.new p1 0)) s.length s.length false :: .int .i64 ((s.length : Int)) :: .bool (decide (i < ((s.length : Int)))) :: d11 :: d12 :: .slice (some (.new p1 0)) s.length s.length false :: .int .i64 i :: .ptr (some (.new p1 (0 + i.toNat * 1))) :: .int .u8 (bt cur i) :: .bool (decide ((bt cur i) ≥ 65)) :: .bool true :: .slice (some (.new p1 0)) s.length s.length false :: .int .i64 i :: .ptr (some (.new p1 (0 + i.toNat * 1))) :: d22 :: d23 :: d24 :: d25 :: d26 :: d27 :: d28 :: d29 :: d30 :: U :: U :: []), [], h, none⟩ (by kernel_rfl) ?_
        refine WpM.op (.int .u8 (bt cur i)) _ (by kernel_rfl) (load_new (o := (0 + i.toNat * 1)) (by kernel_rfl) g1 (bv_ld (i := i) (by kernel_rfl) (by omega) (by omega))) ?_
        refine WpM.run tab_ok 4 ⟨.code x21_17, [.blk 1, .seq x21_19, .loop x21_9, .blk 0, .seq x21_20], (.str s :: U :: .str [] :: .slice (some (.new p1 0)) s.length s.length false :: .int .i64 i :: .str s :: .slice (some (.new p1 0)) s.length s.length false :: .int .i64 i :: .slice (some (.new p1 0)) s.length s.length false :: .int .i64 ((s.length : Int)) :: .bool (decide (i < ((s.length : Int)))) :: d11 :: d12 :: .slice (some (.new p1 0)) s.length s.length false :: .int .i64 i :: .ptr (some (.new p1 (0 + i.toNat * 1))) :: .int .u8 (bt cur i) :: .bool (decide ((bt cur i) ≥ 65)) :: .bool true :: .slice (some (.new p1 0)) s.length s.length false :: .int .i64 i :: .ptr (some (.new p1 (0 + i.toNat * 1))) :: .int .u8 (bt cur i) :: .bool (decide ((bt cur i) ≤ 90)) :: .bool (decide ((bt cur i) ≤ 90)) :: d25 :: d26 :: d27 :: d28 :: d29 :: d30 :: U :: U :: []), [], h, none⟩ (by kernel_rfl) ?_
        refine WpM.cond (t := (decide ((bt cur i) ≤ 90))) (by kernel_rfl) (fun c103 => ?_) (fun c103 => ?_)
        · have c103p := dec_t c103
          refine WpM.run tab_ok 3 ⟨.ops (p21_18_2 :: o21_18.drop 3), [.blk 1, .seq x21_19, .loop x21_9, .blk 0, .seq x21_20], (.str s :: U :: .str [] :: .slice (some (.new p1 0)) s.length s.length false :: .int .i64 i :: .str s :: .slice (some (.new p1 0)) s.length s.length false :: .int .i64 i :: .slice (some (.new p1 0)) s.length s.length false :: .int .i64 ((s.length : Int)) :: .bool (decide (i < ((s.length : Int)))) :: d11 :: d12 :: .slice (some (.new p1 0)) s.length s.length false :: .int .i64 i :: .ptr (some (.new p1 (0 + i.toNat * 1))) :: .int .u8 (bt cur i) :: .bool (decide ((bt cur i) ≥ 65)) :: .bool true :: .slice (some (.new p1 0)) s.length s.length false :: .int .i64 i :: .ptr (some (.new p1 (0 + i.toNat * 1))) :: .int .u8 (bt cur i) :: .bool (decide ((bt cur i) ≤ 90)) :: .bool (decide ((bt cur i) ≤ 90)) :: .slice (some (.new p1 0)) s.length s.length false :: .int .i64 i :: d27 :: d28 :: d29 :: d30 :: U :: U :: []), [], h, none⟩ (by kernel_rfl) ?_
          refine WpM.op (.ptr (some (.new p1 (0 + i.toNat * 1)))) _ (by kernel_rfl) (indexAddr_sl (e := 5) (a := (.new p1 0)) (len := s.length) (lb := s.length) (ex := false) (z := 1) (k := .i64) (n := i) (by kernel_rfl) (by kernel_rfl) (by kernel_rfl) (by kernel_rfl) (by omega)) ?_
          refine WpM.run tab_ok 0 ⟨.ops (p21_18_3 :: o21_18.drop 4), [.blk 1, .seq x21_19, .loop x21_9, .blk 0, .seq x21_20], (.str s :: U :: .str [] :: .slice (some (.new p1 0)) s.length s.length false :: .int .i64 i :: .str s :: .slice (some (.new p1 0)) s.length s.length false :: .int .i64 i :: .slice (some (.new p1 0)) s.length s.length false :: .int .i64 ((s.length : Int)) :: .bool (decide (i < ((s.length : Int)))) :: d11 :: d12 :: .slice (some (.new p1 0)) s.length s.length false :: .int .i64 i :: .ptr (some (.new p1 (0 + i.toNat * 1))) :: .int .u8 (bt cur i) :: .bool (decide ((bt cur i) ≥ 65)) :: .bool true :: .slice (some (.new p1 0)) s.length s.length false :: .int .i64 i :: .ptr (some (.new p1 (0 + i.toNat * 1))) :: .int .u8 (bt cur i) :: .bool (decide ((bt cur i) ≤ 90)) :: .bool (decide ((bt cur i) ≤ 90)) :: .slice (some (.new p1 0)) s.length s.length false :: .int .i64 i :: .ptr (some (.new p1 (0 + i.toNat * 1))) :: d28 :: d29 :: d30 :: U :: U :: []), [], h, none⟩ (by kernel_rfl) ?_
          refine WpM.op (.int .u8 (bt cur i)) _ (by kernel_rfl) (load_new (o := (0 + i.toNat * 1)) (by kernel_rfl) g1 (bv_ld (i := i) (by kernel_rfl) (by omega) (by omega))) ?_
          refine WpM.run tab_ok 0 ⟨.ops (p21_18_4 :: o21_18.drop 5), [.blk 1, .seq x21_19, .loop x21_9, .blk 0, .seq x21_20], (.str s :: U :: .str [] :: .slice (some (.new p1 0)) s.length s.length false :: .int .i64 i :: .str s :: .slice (some (.new p1 0)) s.length s.length false :: .int .i64 i :: .slice (some (.new p1 0)) s.length s.length false :: .int .i64 ((s.length : Int)) :: .bool (decide (i < ((s.length : Int)))) :: d11 :: d12 :: .slice (some (.new p1 0)) s.length s.length false :: .int .i64 i :: .ptr (some (.new p1 (0 + i.toNat * 1))) :: .int .u8 (bt cur i) :: .bool (decide ((bt cur i) ≥ 65)) :: .bool true :: .slice (some (.new p1 0)) s.length s.length false :: .int .i64 i :: .ptr (some (.new p1 (0 + i.toNat * 1))) :: .int .u8 (bt cur i) :: .bool (decide ((bt cur i) ≤ 90)) :: .bool (decide ((bt cur i) ≤ 90)) :: .slice (some (.new p1 0)) s.length s.length false :: .int .i64 i :: .ptr (some (.new p1 (0 + i.toNat * 1))) :: .int .u8 (bt cur i) :: d29 :: d30 :: U :: U :: []), [], h, none⟩ (by kernel_rfl) ?_
          refine WpM.op (.int .u8 ((bt cur i) + 32)) _ (by kernel_rfl) (arith_addU (by kernel_rfl) (by kernel_rfl) (by omega)) ?_
          refine WpM.run tab_ok 0 ⟨.ops (p21_18_5 :: o21_18.drop 6), [.blk 1, .seq x21_19, .loop x21_9, .blk 0, .seq x21_20], (.str s :: U :: .str [] :: .slice (some (.new p1 0)) s.length s.length false :: .int .i64 i :: .str s :: .slice (some (.new p1 0)) s.length s.length false :: .int .i64 i :: .slice (some (.new p1 0)) s.length s.length false :: .int .i64 ((s.length : Int)) :: .bool (decide (i < ((s.length : Int)))) :: d11 :: d12 :: .slice (some (.new p1 0)) s.length s.length false :: .int .i64 i :: .ptr (some (.new p1 (0 + i.toNat * 1))) :: .int .u8 (bt cur i) :: .bool (decide ((bt cur i) ≥ 65)) :: .bool true :: .slice (some (.new p1 0)) s.length s.length false :: .int .i64 i :: .ptr (some (.new p1 (0 + i.toNat * 1))) :: .int .u8 (bt cur i) :: .bool (decide ((bt cur i) ≤ 90)) :: .bool (decide ((bt cur i) ≤ 90)) :: .slice (some (.new p1 0)) s.length s.length false :: .int .i64 i :: .ptr (some (.new p1 (0 + i.toNat * 1))) :: .int .u8 (bt cur i) :: .int .u8 ((bt cur i) + 32) :: d30 :: U :: U :: []), [], h, none⟩ (by kernel_rfl) ?_
          refine WpM.op (.ptr (some (.new p1 (0 + i.toNat * 1)))) _ (by kernel_rfl) (indexAddr_sl (e := 5) (a := (.new p1 0)) (len := s.length) (lb := s.length) (ex := false) (z := 1) (k := .i64) (n := i) (by kernel_rfl) (by kernel_rfl) (by kernel_rfl) (by kernel_rfl) (by omega)) ?_
          refine WpM.run tab_ok 0 ⟨.ops (p21_18_6 :: o21_18.drop 7), [.blk 1, .seq x21_19, .loop x21_9, .blk 0, .seq x21_20], (.str s :: U :: .str [] :: .slice (some (.new p1 0)) s.length s.length false :: .int .i64 i :: .str s :: .slice (some (.new p1 0)) s.length s.length false :: .int .i64 i :: .slice (some (.new p1 0)) s.length s.length false :: .int .i64 ((s.length : Int)) :: .bool (decide (i < ((s.length : Int)))) :: d11 :: d12 :: .slice (some (.new p1 0)) s.length s.length false :: .int .i64 i :: .ptr (some (.new p1 (0 + i.toNat * 1))) :: .int .u8 (bt cur i) :: .bool (decide ((bt cur i) ≥ 65)) :: .bool true :: .slice (some (.new p1 0)) s.length s.length false :: .int .i64 i :: .ptr (some (.new p1 (0 + i.toNat * 1))) :: .int .u8 (bt cur i) :: .bool (decide ((bt cur i) ≤ 90)) :: .bool (decide ((bt cur i) ≤ 90)) :: .slice (some (.new p1 0)) s.length s.length false :: .int .i64 i :: .ptr (some (.new p1 (0 + i.toNat * 1))) :: .int .u8 (bt cur i) :: .int .u8 ((bt cur i) + 32) :: .ptr (some (.new p1 (0 + i.toNat * 1))) :: U :: U :: []), [], h, none⟩ (by kernel_rfl) ?_
          refine WpM.opS U p1 (some (.cells (bv (cur.set i.toNat (UInt8.ofNat ((bt cur i) + 32).toNat))) 5)) (by kernel_rfl) (store_new (o := (0 + i.toNat * 1)) (v := .int .u8 ((bt cur i) + 32)) (by kernel_rfl) (by kernel_rfl) g1 (bv_st (i := i) (by kernel_rfl) (by omega) (by omega) (by omega))) (fun h104 a105 => ?_)
          refine WpM.run tab_ok 5 ⟨.ops (p21_19_1 :: o21_19.drop 2), [.loop x21_9, .blk 0, .seq x21_20], (.str s :: U :: .str [] :: .slice (some (.new p1 0)) s.length s.length false :: .int .i64 i :: .str s :: .slice (some (.new p1 0)) s.length s.length false :: .int .i64 i :: .slice (some (.new p1 0)) s.length s.length false :: .int .i64 ((s.length : Int)) :: .bool (decide (i < ((s.length : Int)))) :: .int .i64 i :: d12 :: .slice (some (.new p1 0)) s.length s.length false :: .int .i64 i :: .ptr (some (.new p1 (0 + i.toNat * 1))) :: .int .u8 (bt cur i) :: .bool (decide ((bt cur i) ≥ 65)) :: .bool true :: .slice (some (.new p1 0)) s.length s.length false :: .int .i64 i :: .ptr (some (.new p1 (0 + i.toNat * 1))) :: .int .u8 (bt cur i) :: .bool (decide ((bt cur i) ≤ 90)) :: .bool (decide ((bt cur i) ≤ 90)) :: .slice (some (.new p1 0)) s.length s.length false :: .int .i64 i :: .ptr (some (.new p1 (0 + i.toNat * 1))) :: .int .u8 (bt cur i) :: .int .u8 ((bt cur i) + 32) :: .ptr (some (.new p1 (0 + i.toNat * 1))) :: U :: U :: []), [], h104, none⟩ (by kernel_rfl) ?_
          refine WpM.op (.int .i64 (i + 1)) _ (by kernel_rfl) (arith_add (by kernel_rfl) (by kernel_rfl) (by omega)) ?_
          refine WpM.run tab_ok 3 ⟨.code x21_9, [.loop x21_9, .blk 0, .seq x21_20], (.str s :: U :: .str [] :: .slice (some (.new p1 0)) s.length s.length false :: .int .i64 (i + 1) :: .str s :: .slice (some (.new p1 0)) s.length s.length false :: .int .i64 i :: .slice (some (.new p1 0)) s.length s.length false :: .int .i64 ((s.length : Int)) :: .bool (decide (i < ((s.length : Int)))) :: .int .i64 i :: .int .i64 (i + 1) :: .slice (some (.new p1 0)) s.length s.length false :: .int .i64 i :: .ptr (some (.new p1 (0 + i.toNat * 1))) :: .int .u8 (bt cur i) :: .bool (decide ((bt cur i) ≥ 65)) :: .bool true :: .slice (some (.new p1 0)) s.length s.length false :: .int .i64 i :: .ptr (some (.new p1 (0 + i.toNat * 1))) :: .int .u8 (bt cur i) :: .bool (decide ((bt cur i) ≤ 90)) :: .bool (decide ((bt cur i) ≤ 90)) :: .slice (some (.new p1 0)) s.length s.length false :: .int .i64 i :: .ptr (some (.new p1 (0 + i.toNat * 1))) :: .int .u8 (bt cur i) :: .int .u8 ((bt cur i) + 32) :: .ptr (some (.new p1 (0 + i.toNat * 1))) :: U :: U :: []), [], h104, none⟩ (by kernel_rfl) ?_
          refine ih _ ?_ _ h104 p1 (cur.set i.toNat (UInt8.ofNat ((bt cur i) + 32).toNat)) _ _ _ _ _ _ _ _ _ _ _ _ _ _ _ _ _ _ _ _ _ _ _ _ rfl ?_ ?_ ?_ ?_ ?_
          · omega
          · omega
          · omega
          · have hb2 := hb h0 (by omega)
            first
              | (rw [hc]; exact (lowAt_small h0 (by omega) (by first | (left; omega) | (right; omega))).symm)
              | (rw [lowAt_big h0 (by omega) (by omega) (by omega), ← hc, hb2])
          · first | exact a105.get
          · first | exact (a105.le l1)
        · have c103p := dec_f c103
          refine WpM.run tab_ok 5 ⟨.ops (p21_19_1 :: o21_19.drop 2), [.loop x21_9, .blk 0, .seq x21_20], (.str s :: U :: .str [] :: .slice (some (.new p1 0)) s.length s.length false :: .int .i64 i :: .str s :: .slice (some (.new p1 0)) s.length s.length false :: .int .i64 i :: .slice (some (.new p1 0)) s.length s.length false :: .int .i64 ((s.length : Int)) :: .bool (decide (i < ((s.length : Int)))) :: .int .i64 i :: d12 :: .slice (some (.new p1 0)) s.length s.length false :: .int .i64 i :: .ptr (some (.new p1 (0 + i.toNat * 1))) :: .int .u8 (bt cur i) :: .bool (decide ((bt cur i) ≥ 65)) :: .bool true :: .slice (some (.new p1 0)) s.length s.length false :: .int .i64 i :: .ptr (some (.new p1 (0 + i.toNat * 1))) :: .int .u8 (bt cur i) :: .bool (decide ((bt cur i) ≤ 90)) :: .bool (decide ((bt cur i) ≤ 90)) :: d25 :: d26 :: d27 :: d28 :: d29 :: d30 :: U :: U :: []), [], h, none⟩ (by kernel_rfl) ?_
          refine WpM.op (.int .i64 (i + 1)) _ (by kernel_rfl) (arith_add (by kernel_rfl) (by kernel_rfl) (by omega)) ?_
          refine WpM.run tab_ok 3 ⟨.code x21_9, [.loop x21_9, .blk 0, .seq x21_20], (.str s :: U :: .str [] :: .slice (some (.new p1 0)) s.length s.length false :: .int .i64 (i + 1) :: .str s :: .slice (some (.new p1 0)) s.length s.length false :: .int .i64 i :: .slice (some (.new p1 0)) s.length s.length false :: .int .i64 ((s.length : Int)) :: .bool (decide (i < ((s.length : Int)))) :: .int .i64 i :: .int .i64 (i + 1) :: .slice (some (.new p1 0)) s.length s.length false :: .int .i64 i :: .ptr (some (.new p1 (0 + i.toNat * 1))) :: .int .u8 (bt cur i) :: .bool (decide ((bt cur i) ≥ 65)) :: .bool true :: .slice (some (.new p1 0)) s.length s.length false :: .int .i64 i :: .ptr (some (.new p1 (0 + i.toNat * 1))) :: .int .u8 (bt cur i) :: .bool (decide ((bt cur i) ≤ 90)) :: .bool (decide ((bt cur i) ≤ 90)) :: d25 :: d26 :: d27 :: d28 :: d29 :: d30 :: U :: U :: []), [], h, none⟩ (by kernel_rfl) ?_
          refine ih _ ?_ _ h p1 (cur) _ _ _ _ _ _ _ _ _ _ _ _ _ _ _ _ _ _ _ _ _ _ _ _ rfl ?_ ?_ ?_ ?_ ?_
          · omega
          · omega
          · omega
          · have hb2 := hb h0 (by omega)
            first
              | (rw [hc]; exact (lowAt_small h0 (by omega) (by first | (left; omega) | (right; omega))).symm)
              | (rw [lowAt_big h0 (by omega) (by omega) (by omega), ← hc, hb2])
          · first | exact g1
          · first | exact l1
      · have c102p := dec_f c102
        refine WpM.run tab_ok 14 ⟨.ops (p21_19_1 :: o21_19.drop 2), [.loop x21_9, .blk 0, .seq x21_20], (.str s :: U :: .str [] :: .slice (some (.new p1 0)) s.length s.length false :: .int .i64 i :: .str s :: .slice (some (.new p1 0)) s.length s.length false :: .int .i64 i :: .slice (some (.new p1 0)) s.length s.length false :: .int .i64 ((s.length : Int)) :: .bool (decide (i < ((s.length : Int)))) :: .int .i64 i :: d12 :: .slice (some (.new p1 0)) s.length s.length false :: .int .i64 i :: .ptr (some (.new p1 (0 + i.toNat * 1))) :: .int .u8 (bt cur i) :: .bool (decide ((bt cur i) ≥ 65)) :: .bool false :: U :: U :: U :: U :: U :: .bool false :: d25 :: d26 :: d27 :: d28 :: d29 :: d30 :: U :: U :: []), [], h, none⟩ (by kernel_rfl) ?_
        refine WpM.op (.int .i64 (i + 1)) _ (by kernel_rfl) (arith_add (by kernel_rfl) (by kernel_rfl) (by omega)) ?_
        refine WpM.run tab_ok 3 ⟨.code x21_9, [.loop x21_9, .blk 0, .seq x21_20], (.str s :: U :: .str [] :: .slice (some (.new p1 0)) s.length s.length false :: .int .i64 (i + 1) :: .str s :: .slice (some (.new p1 0)) s.length s.length false :: .int .i64 i :: .slice (some (.new p1 0)) s.length s.length false :: .int .i64 ((s.length : Int)) :: .bool (decide (i < ((s.length : Int)))) :: .int .i64 i :: .int .i64 (i + 1) :: .slice (some (.new p1 0)) s.length s.length false :: .int .i64 i :: .ptr (some (.new p1 (0 + i.toNat * 1))) :: .int .u8 (bt cur i) :: .bool (decide ((bt cur i) ≥ 65)) :: .bool false :: U :: U :: U :: U :: U :: .bool false :: d25 :: d26 :: d27 :: d28 :: d29 :: d30 :: U :: U :: []), [], h, none⟩ (by kernel_rfl) ?_
        refine ih _ ?_ _ h p1 (cur) _ _ _ _ _ _ _ _ _ _ _ _ _ _ _ _ _ _ _ _ _ _ _ _ rfl ?_ ?_ ?_ ?_ ?_
        · omega
        · omega
        · omega
        · have hb2 := hb h0 (by omega)
          first
            | (rw [hc]; exact (lowAt_small h0 (by omega) (by first | (left; omega) | (right; omega))).symm)
            | (rw [lowAt_big h0 (by omega) (by omega) (by omega), ← hc, hb2])
        · first | exact g1
        · first | exact l1
    · have c101p := dec_f c101
      refine WpM.run tab_ok 8 ⟨.ops (p21_21_1 :: o21_21.drop 2), [.seq .ret], (.str s :: U :: .str [] :: .slice (some (.new p1 0)) s.length s.length false :: .int .i64 i :: .str s :: .slice (some (.new p1 0)) s.length s.length false :: .int .i64 i :: .slice (some (.new p1 0)) s.length s.length false :: .int .i64 ((s.length : Int)) :: .bool (decide (i < ((s.length : Int)))) :: d11 :: d12 :: d13 :: d14 :: d15 :: d16 :: d17 :: d18 :: d19 :: d20 :: d21 :: d22 :: d23 :: d24 :: d25 :: d26 :: d27 :: d28 :: d29 :: d30 :: .slice (some (.new p1 0)) s.length s.length false :: U :: []), [], h, none⟩ (by kernel_rfl) ?_
      refine WpM.op (.str cur) _ (by kernel_rfl) (conv_str (bs := cur) (e := 5) (i := p1) (len := s.length) (lb := s.length) (ex := false) (by kernel_rfl) (by kernel_rfl) (by kernel_rfl) (by kernel_rfl) g1 (by exact hl)) ?_
      refine WpM.run tab_ok 4 ⟨.done .ret, [], (.str s :: U :: .str cur :: .slice (some (.new p1 0)) s.length s.length false :: .int .i64 i :: .str s :: .slice (some (.new p1 0)) s.length s.length false :: .int .i64 i :: .slice (some (.new p1 0)) s.length s.length false :: .int .i64 ((s.length : Int)) :: .bool (decide (i < ((s.length : Int)))) :: d11 :: d12 :: d13 :: d14 :: d15 :: d16 :: d17 :: d18 :: d19 :: d20 :: d21 :: d22 :: d23 :: d24 :: d25 :: d26 :: d27 :: d28 :: d29 :: d30 :: .slice (some (.new p1 0)) s.length s.length false :: .str cur :: []), [], h, none⟩ (by kernel_rfl) ?_
      refine WpM.ret (.str cur) h (by kernel_rfl) (by kernel_rfl) ?_
      rw [hc, lowAt_end (by omega)]
theorem lowr_ok {W : World} {s : List UInt8} (hs : s.length ≤ 140737488355328) : WpF Try.prog W prim4 21 [.str s] H.empty (fun v _ => v = .str (lower s)) := by
  refine WpF.m tab_ok (by kernel_rfl) rfl ?_
  refine WpM.cfg (c' := ⟨.code x21_0, [], (.str s :: us 32), [], H.empty, none⟩) (by kernel_rfl) ?_
  refine WpM.run tab_ok 8 ⟨.ops (p21_3_1 :: o21_3.drop 2), [.seq x21_4], (.str s :: U :: .str [] :: U :: U :: .str s :: us 27), [], H.empty, none⟩ (by kernel_rfl) ?_
  refine WpM.opA (fun p => .slice (some (.new p 0)) s.length s.length false) (.cells (bv s) 5) (by kernel_rfl) (by kernel_rfl) (fun p1 h2 a3 => ?_)
  refine WpM.run tab_ok 11 ⟨.code x21_9, [.loop x21_9, .blk 0, .seq x21_20], (.str s :: U :: .str [] :: .slice (some (.new p1 0)) s.length s.length false :: .int .i64 0 :: .str s :: .slice (some (.new p1 0)) s.length s.length false :: us 26), [], h2, none⟩ (by kernel_rfl) ?_
  exact lowr_loop hs _ 0 _ _ s _ _ _ _ _ _ _ _ _ _ _ _ _ _ _ _ _ _ _ _ _ _ _ _ rfl (by omega) (by omega) (lowAt_zero s).symm a3.get a3.lt
def q21 (l : List V) : Option V :=
  match l with
  | [.str s] => if s.length ≤ 140737488355328 then some (.str (lower s)) else none
  | _ => none
def prim5 : FuncId → Option (List V → H → Option (V × H)) := setPrim prim4 21 q21
theorem prim5s (W : World) (hW : WOK W) : Prims Try.prog W prim5 := by
  refine Prims.add base (prim4s W hW) ⟨_, _, Try.func21, rfl⟩ ?_
  intro w _ args v h
  unfold q21 at h
  split at h
  · split at h
    · rename_i hc; injection h with h; subst h; exact ⟨by simp only [old_cons, old_nil, old_int, old_str, old_bool, old_agg, old_tup, old_nils, Bool.and_true, Bool.true_and, hc], by simp only [old_cons, old_nil, old_int, old_str, old_bool, old_agg, old_tup, old_nils, Bool.and_true, Bool.true_and, hc], lowr_ok hc⟩
    · cases h
  · cases h
def capM : List (List UInt8 × List UInt8) → List UInt8 → List UInt8
  | [], s => s
  | (a, b) :: l, s => if a == s then b else capM l s
def adjN (p : Int) (s : List UInt8) : List UInt8 := if p == 1 then capM [(k_viewbox, k_viewBox), (k_preserveaspectratio, k_preserveAspectRatio), (k_gradientunits, k_gradientUnits)] s else if p == 2 then capM [(k_definitionurl, k_definitionURL)] s else s
def adj (p : Int) (a : T39) : T39 := ⟨adjN p a.fName, a.fValue⟩
def adjAt (p : Int) (l : List T39) (i : Int) : List T39 := (l.take i.toNat).map (adj p) ++ l.drop i.toNat
theorem adjAt_zero (p : Int) (l : List T39) : adjAt p l 0 = l := by simp [adjAt]
theorem adjAt_length (p : Int) (l : List T39) (i : Int) : (adjAt p l i).length = l.length := by simp only [adjAt, List.length_append, List.length_map, List.length_take, List.length_drop]; omega
theorem adjAt_end {p : Int} {l : List T39} {i : Int} (h : ¬ i < (l.length : Int)) : adjAt p l i = l.map (adj p) := by
  unfold adjAt
  rw [List.take_of_length_le (by omega), List.drop_eq_nil_of_le (by omega), List.append_nil]
theorem adjAt_gt {p : Int} {l : List T39} {i : Int} (h0 : 0 ≤ i) (h : i < (l.length : Int)) : gt (adjAt p l i) i = gt l i := by
  have hl : i.toNat < l.length := by omega
  unfold gt adjAt
  rw [List.getD_eq_getElem?_getD, List.getD_eq_getElem?_getD, List.getElem?_append_right (by simp only [List.length_map, List.length_take]; omega)]
  simp [Nat.min_eq_left (Nat.le_of_lt hl)]
theorem adjAt_step {p : Int} {l : List T39} {i : Int} (h0 : 0 ≤ i) (h : i < (l.length : Int)) : (adjAt p l i).set i.toNat (adj p (gt l i)) = adjAt p l (i + 1) := by
  have hl : i.toNat < l.length := by omega
  unfold adjAt
  rw [toNat_succ h0, gt_take h0 h, gt_drop h0 h, List.set_append_right _ _ (by simp only [List.length_map, List.length_take]; omega)]
  have hm : ((l.take i.toNat).map (adj p)).length = i.toNat := by simp only [List.length_map, List.length_take]; omega
  rw [hm, Nat.sub_self]
  simp
theorem attrs1_loop {W : World} {la : Option Ad} {l : List T39} {cap : Nat} {h0 : H} (hA : Arr W 2 T39.cells la l) (hb : l.length ≤ 100000)  (n : Nat) : ∀ (i : Int) (h : H) (q tb : Nat) (cur : List T39) (d7 d15 d16 d17 d18 d19 d20 d21 d22 d23 d24 d25 d26 d27 d28 : V), n = ((l.length : Int) - i).toNat → (0 ≤ i) → (i ≤ (l.length : Int)) → (cur = adjAt 1 l i) → (h.get q = some (.cells (rv T39.cells cur) 39)) → (h.get tb = some (.cells [.str k_viewBox, .str k_preserveAspectRatio, .str k_gradientUnits] 47)) → (q < h.nx) → (tb < h.nx) → (HX h0 h) → (h0.nx ≤ q) → (q ≠ tb) → WpM Try.prog W prim5 ⟨.code x15_11, [.loop x15_11, .blk 0, .seq x15_21], (.int .i64 1 :: .slice la l.length cap true :: U :: U :: .slice none 0 0 true :: .ptr (some (.new tb 0)) :: .slice (some (.new q 0)) l.length l.length false :: d7 :: .int .i64 1 :: .agg [.str k_viewBox, .str k_preserveAspectRatio, .str k_gradientUnits] :: .slice la l.length cap true :: .slice (some (.new q 0)) l.length l.length false :: .slice (some (.new q 0)) l.length l.length false :: .int .i64 ((l.length : Int)) :: .int .i64 i :: d15 :: d16 :: d17 :: d18 :: d19 :: d20 :: d21 :: d22 :: d23 :: d24 :: d25 :: d26 :: d27 :: d28 :: U :: []), [], h, none⟩ (retQ Try.prog W [.tmp 4] (fun v h' => HX h0 h' ∧ ∃ q, v = .slice (some (.new q 0)) l.length l.length false ∧ h'.get q = some (.cells (rv T39.cells (l.map (adj 1))) 39) ∧ q < h'.nx)) := by
  induction n using Nat.strongRecOn with
  | _ n ih =>
    intro i h q tb cur d7 d15 d16 d17 d18 d19 d20 d21 d22 d23 d24 d25 d26 d27 d28 hn h0i h1i hc g1 g2 l1 l2 hx hq hne
    have hl : cur.length = l.length := by rw [hc, adjAt_length]
    have hg : i < (l.length : Int) → gt cur i = gt l i := fun hh => by rw [hc, adjAt_gt h0i hh]
    refine WpM.run tab_ok 6 ⟨.code x15_14, [.seq x15_15, .loop x15_11, .blk 0, .seq x15_21], (.int .i64 1 :: .slice la l.length cap true :: U :: U :: .slice none 0 0 true :: .ptr (some (.new tb 0)) :: .slice (some (.new q 0)) l.length l.length false :: d7 :: .int .i64 1 :: .agg [.str k_viewBox, .str k_preserveAspectRatio, .str k_gradientUnits] :: .slice la l.length cap true :: .slice (some (.new q 0)) l.length l.length false :: .slice (some (.new q 0)) l.length l.length false :: .int .i64 ((l.length : Int)) :: .int .i64 i :: .bool (decide (i < ((l.length : Int)))) :: d16 :: d17 :: d18 :: d19 :: d20 :: d21 :: d22 :: d23 :: d24 :: d25 :: d26 :: d27 :: d28 :: U :: []), [], h, none⟩ (by kernel_rfl) ?_
    refine WpM.cond (t := (decide (i < ((l.length : Int))))) (by kernel_rfl) (fun c101 => ?_) (fun c101 => ?_)
    · have c101p := dec_t c101
      refine WpM.run tab_ok 14 ⟨.draw m15_19 ((5, p15_19_3) :: o15_19.drop 4) [], [.blk 1, .seq x15_20, .loop x15_11, .blk 0, .seq x15_21], (.int .i64 1 :: .slice la l.length cap true :: U :: U :: .slice none 0 0 true :: .ptr (some (.new tb 0)) :: .slice (some (.new q 0)) l.length l.length false :: .int .i64 i :: .int .i64 1 :: .agg [.str k_viewBox, .str k_preserveAspectRatio, .str k_gradientUnits] :: .slice la l.length cap true :: .slice (some (.new q 0)) l.length l.length false :: .slice (some (.new q 0)) l.length l.length false :: .int .i64 ((l.length : Int)) :: .int .i64 i :: .bool (decide (i < ((l.length : Int)))) :: .int .i64 i :: d17 :: d18 :: .slice (some (.new tb 0)) 3 3 true :: .slice (some (.new q 0)) l.length l.length false :: .int .i64 i :: d22 :: d23 :: d24 :: d25 :: d26 :: d27 :: d28 :: U :: []), [], h, none⟩ (by kernel_rfl) ?_
      refine WpM.opD (.ptr (some (.new q (0 + i.toNat * 2)))) _ (by kernel_rfl) (by kernel_rfl) (indexAddr_sl (e := 39) (a := (.new q 0)) (len := l.length) (lb := l.length) (ex := false) (z := 2) (k := .i64) (n := i) (by kernel_rfl) (by kernel_rfl) (by kernel_rfl) (by kernel_rfl) (by omega)) (by kernel_rfl) ?_
      refine WpM.run tab_ok 1 ⟨.draw m15_19 ((7, p15_19_5) :: o15_19.drop 6) [], [.blk 1, .seq x15_20, .loop x15_11, .blk 0, .seq x15_21], (.int .i64 1 :: .slice la l.length cap true :: U :: U :: .slice none 0 0 true :: .ptr (some (.new tb 0)) :: .slice (some (.new q 0)) l.length l.length false :: .int .i64 i :: .int .i64 1 :: .agg [.str k_viewBox, .str k_preserveAspectRatio, .str k_gradientUnits] :: .slice la l.length cap true :: .slice (some (.new q 0)) l.length l.length false :: .slice (some (.new q 0)) l.length l.length false :: .int .i64 ((l.length : Int)) :: .int .i64 i :: .bool (decide (i < ((l.length : Int)))) :: .int .i64 i :: d17 :: d18 :: .slice (some (.new tb 0)) 3 3 true :: .slice (some (.new q 0)) l.length l.length false :: .int .i64 i :: .ptr (some (.new q (0 + i.toNat * 2))) :: .ptr (some (.new q (0 + i.toNat * 2 + 0))) :: d24 :: d25 :: d26 :: d27 :: d28 :: U :: []), [], h, none⟩ (by kernel_rfl) ?_
      refine WpM.opD (.str ((gt cur i).fName)) _ (by kernel_rfl) (by kernel_rfl) (load_new (o := (0 + i.toNat * 2 + 0)) (by kernel_rfl) g1 (rv_ld (z := 2) (f := T39.cells) (fun _ => rfl) (i := i) (by omega) (off := 0) (by kernel_rfl) (by decide) (by kernel_rfl) (by omega))) (by kernel_rfl) ?_
      refine WpM.run tab_ok 30 ⟨.ops (p23_14_1 :: o23_14.drop 2), [.seq x23_15, .blk 1, .seq x23_20, .loop x23_7, .blk 0, .seq x23_21, .callD [.tmp 4] (some 25) m15_19 (o15_19.drop 7) [(8, h)] (.int .i64 1 :: .slice la l.length cap true :: U :: U :: .slice none 0 0 true :: .ptr (some (.new tb 0)) :: .slice (some (.new q 0)) l.length l.length false :: .int .i64 i :: .int .i64 1 :: .agg [.str k_viewBox, .str k_preserveAspectRatio, .str k_gradientUnits] :: .slice la l.length cap true :: .slice (some (.new q 0)) l.length l.length false :: .slice (some (.new q 0)) l.length l.length false :: .int .i64 ((l.length : Int)) :: .int .i64 i :: .bool (decide (i < ((l.length : Int)))) :: .int .i64 i :: d17 :: d18 :: .slice (some (.new tb 0)) 3 3 true :: .slice (some (.new q 0)) l.length l.length false :: .int .i64 i :: .ptr (some (.new q (0 + i.toNat * 2))) :: .ptr (some (.new q (0 + i.toNat * 2 + 0))) :: .str ((gt cur i).fName) :: d25 :: d26 :: d27 :: d28 :: U :: []) [] none, .blk 1, .seq x15_20, .loop x15_11, .blk 0, .seq x15_21], (.slice (some (.new tb 0)) 3 3 true :: .str ((gt cur i).fName) :: U :: U :: .str [] :: U :: U :: .slice (some (.new tb 0)) 3 3 true :: .int .i64 3 :: .int .i64 0 :: .bool true :: .ptr (some (.new tb 0)) :: us 12), [], h, none⟩ (by kernel_rfl) ?_
      refine WpM.op (.str k_viewBox) _ (by kernel_rfl) (load_new (o := 0) (by kernel_rfl) g2 (by kernel_rfl)) ?_
      refine WpM.run tab_ok 15 ⟨.code x23_17, [.blk 1, .seq x23_20, .loop x23_7, .blk 0, .seq x23_21, .callD [.tmp 4] (some 25) m15_19 (o15_19.drop 7) [(8, h)] (.int .i64 1 :: .slice la l.length cap true :: U :: U :: .slice none 0 0 true :: .ptr (some (.new tb 0)) :: .slice (some (.new q 0)) l.length l.length false :: .int .i64 i :: .int .i64 1 :: .agg [.str k_viewBox, .str k_preserveAspectRatio, .str k_gradientUnits] :: .slice la l.length cap true :: .slice (some (.new q 0)) l.length l.length false :: .slice (some (.new q 0)) l.length l.length false :: .int .i64 ((l.length : Int)) :: .int .i64 i :: .bool (decide (i < ((l.length : Int)))) :: .int .i64 i :: d17 :: d18 :: .slice (some (.new tb 0)) 3 3 true :: .slice (some (.new q 0)) l.length l.length false :: .int .i64 i :: .ptr (some (.new q (0 + i.toNat * 2))) :: .ptr (some (.new q (0 + i.toNat * 2 + 0))) :: .str ((gt cur i).fName) :: d25 :: d26 :: d27 :: d28 :: U :: []) [] none, .blk 1, .seq x15_20, .loop x15_11, .blk 0, .seq x15_21], (.slice (some (.new tb 0)) 3 3 true :: .str ((gt cur i).fName) :: U :: U :: .str [] :: U :: .str k_viewBox :: .slice (some (.new tb 0)) 3 3 true :: .int .i64 3 :: .int .i64 0 :: .bool true :: .ptr (some (.new tb 0)) :: .str k_viewBox :: .str k_viewBox :: .bool true :: .bool true :: .str k_viewBox :: .str k_viewbox :: .str ((gt cur i).fName) :: .bool ((k_viewbox : List UInt8) == ((gt cur i).fName)) :: .bool ((k_viewbox : List UInt8) == ((gt cur i).fName)) :: U :: U :: U :: []), [], h, none⟩ (by kernel_rfl) ?_
      refine WpM.cond (t := ((k_viewbox : List UInt8) == ((gt cur i).fName))) (by kernel_rfl) (fun c102 => ?_) (fun c102 => ?_)
      · have c102p := beq_t c102
        refine WpM.run tab_ok 15 ⟨.draw m15_19 ((9, p15_19_9) :: o15_19.drop 10) [(8, h)], [.blk 1, .seq x15_20, .loop x15_11, .blk 0, .seq x15_21], (.int .i64 1 :: .slice la l.length cap true :: U :: U :: .slice none 0 0 true :: .ptr (some (.new tb 0)) :: .slice (some (.new q 0)) l.length l.length false :: .int .i64 i :: .int .i64 1 :: .agg [.str k_viewBox, .str k_preserveAspectRatio, .str k_gradientUnits] :: .slice la l.length cap true :: .slice (some (.new q 0)) l.length l.length false :: .slice (some (.new q 0)) l.length l.length false :: .int .i64 ((l.length : Int)) :: .int .i64 i :: .bool (decide (i < ((l.length : Int)))) :: .int .i64 i :: .slice (some (.new q 0)) l.length l.length false :: .int .i64 i :: .slice (some (.new tb 0)) 3 3 true :: .slice (some (.new q 0)) l.length l.length false :: .int .i64 i :: .ptr (some (.new q (0 + i.toNat * 2))) :: .ptr (some (.new q (0 + i.toNat * 2 + 0))) :: .str ((gt cur i).fName) :: .str k_viewBox :: d26 :: d27 :: d28 :: U :: []), [], h, none⟩ (by kernel_rfl) ?_
        refine WpM.opD (.ptr (some (.new q (0 + i.toNat * 2)))) _ (by kernel_rfl) (by kernel_rfl) (indexAddr_sl (e := 39) (a := (.new q 0)) (len := l.length) (lb := l.length) (ex := false) (z := 2) (k := .i64) (n := i) (by kernel_rfl) (by kernel_rfl) (by kernel_rfl) (by kernel_rfl) (by omega)) (by kernel_rfl) ?_
        refine WpM.run tab_ok 1 ⟨.draw m15_19 ((11, p15_19_11) :: o15_19.drop 12) [(8, h)], [.blk 1, .seq x15_20, .loop x15_11, .blk 0, .seq x15_21], (.int .i64 1 :: .slice la l.length cap true :: U :: U :: .slice none 0 0 true :: .ptr (some (.new tb 0)) :: .slice (some (.new q 0)) l.length l.length false :: .int .i64 i :: .int .i64 1 :: .agg [.str k_viewBox, .str k_preserveAspectRatio, .str k_gradientUnits] :: .slice la l.length cap true :: .slice (some (.new q 0)) l.length l.length false :: .slice (some (.new q 0)) l.length l.length false :: .int .i64 ((l.length : Int)) :: .int .i64 i :: .bool (decide (i < ((l.length : Int)))) :: .int .i64 i :: .slice (some (.new q 0)) l.length l.length false :: .int .i64 i :: .slice (some (.new tb 0)) 3 3 true :: .slice (some (.new q 0)) l.length l.length false :: .int .i64 i :: .ptr (some (.new q (0 + i.toNat * 2))) :: .ptr (some (.new q (0 + i.toNat * 2 + 0))) :: .str ((gt cur i).fName) :: .str k_viewBox :: .ptr (some (.new q (0 + i.toNat * 2))) :: .ptr (some (.new q (0 + i.toNat * 2 + 0))) :: d28 :: U :: []), [], h, none⟩ (by kernel_rfl) ?_
        refine WpM.opDS U q (some (.cells (rv T39.cells (cur.set i.toNat ((⟨k_viewBox, ((gt cur i).fValue)⟩ : T39)))) 39)) (by kernel_rfl) (by kernel_rfl) (store_new (o := (0 + i.toNat * 2 + 0)) (v := .str k_viewBox) (by kernel_rfl) (by kernel_rfl) g1 (rv_st (z := 2) (f := T39.cells) (fun _ => rfl) (i := i) (x := (⟨k_viewBox, ((gt cur i).fValue)⟩ : T39)) (by omega) (off := 0) (by kernel_rfl) (by kernel_rfl) (Nat.le_of_ble_eq_true rfl) (by kernel_rfl) (by omega))) (fun h103 a104 => ?_)
        refine WpM.run tab_ok 4 ⟨.ops (p15_20_0 :: o15_20.drop 1), [.loop x15_11, .blk 0, .seq x15_21], (.int .i64 1 :: .slice la l.length cap true :: U :: U :: .slice none 0 0 true :: .ptr (some (.new tb 0)) :: .slice (some (.new q 0)) l.length l.length false :: .int .i64 i :: .int .i64 1 :: .agg [.str k_viewBox, .str k_preserveAspectRatio, .str k_gradientUnits] :: .slice la l.length cap true :: .slice (some (.new q 0)) l.length l.length false :: .slice (some (.new q 0)) l.length l.length false :: .int .i64 ((l.length : Int)) :: .int .i64 i :: .bool (decide (i < ((l.length : Int)))) :: .int .i64 i :: .slice (some (.new q 0)) l.length l.length false :: .int .i64 i :: .slice (some (.new tb 0)) 3 3 true :: .slice (some (.new q 0)) l.length l.length false :: .int .i64 i :: .ptr (some (.new q (0 + i.toNat * 2))) :: .ptr (some (.new q (0 + i.toNat * 2 + 0))) :: .str ((gt cur i).fName) :: .str k_viewBox :: .ptr (some (.new q (0 + i.toNat * 2))) :: .ptr (some (.new q (0 + i.toNat * 2 + 0))) :: d28 :: U :: []), [], h103, none⟩ (by kernel_rfl) ?_
        refine WpM.op (.int .i64 (i + 1)) _ (by kernel_rfl) (arith_add (by kernel_rfl) (by kernel_rfl) (by omega)) ?_
        refine WpM.run tab_ok 3 ⟨.code x15_11, [.loop x15_11, .blk 0, .seq x15_21], (.int .i64 1 :: .slice la l.length cap true :: U :: U :: .slice none 0 0 true :: .ptr (some (.new tb 0)) :: .slice (some (.new q 0)) l.length l.length false :: .int .i64 i :: .int .i64 1 :: .agg [.str k_viewBox, .str k_preserveAspectRatio, .str k_gradientUnits] :: .slice la l.length cap true :: .slice (some (.new q 0)) l.length l.length false :: .slice (some (.new q 0)) l.length l.length false :: .int .i64 ((l.length : Int)) :: .int .i64 (i + 1) :: .bool (decide (i < ((l.length : Int)))) :: .int .i64 i :: .slice (some (.new q 0)) l.length l.length false :: .int .i64 i :: .slice (some (.new tb 0)) 3 3 true :: .slice (some (.new q 0)) l.length l.length false :: .int .i64 i :: .ptr (some (.new q (0 + i.toNat * 2))) :: .ptr (some (.new q (0 + i.toNat * 2 + 0))) :: .str ((gt cur i).fName) :: .str k_viewBox :: .ptr (some (.new q (0 + i.toNat * 2))) :: .ptr (some (.new q (0 + i.toNat * 2 + 0))) :: .int .i64 (i + 1) :: U :: []), [], h103, none⟩ (by kernel_rfl) ?_
        refine ih _ ?_ _ h103 q tb (cur.set i.toNat ((⟨k_viewBox, ((gt cur i).fValue)⟩ : T39))) _ _ _ _ _ _ _ _ _ _ _ _ _ _ _ rfl ?_ ?_ ?_ ?_ ?_ ?_ ?_ ?_ ?_ ?_
        · omega
        · omega
        · omega
        · have hg2 := hg (by omega)
          rw [← adjAt_step h0i (by omega), ← hc]
          congr 1
          rw [← hg2]
          first
            | (simp only [adj, adjN, capM, c102, Bool.true_and, Bool.false_and, Bool.and_true, Bool.and_false, Bool.or_false, Bool.false_or, Bool.true_or, Bool.or_true, Bool.not_true, Bool.not_false, Int.reduceBEq, beq_self_eq_true, if_true, Bool.false_eq_true, if_false]; done)
            | (simp only [adj, adjN, capM, c102, Bool.true_and, Bool.false_and, Bool.and_true, Bool.and_false, Bool.or_false, Bool.false_or, Bool.true_or, Bool.or_true, Bool.not_true, Bool.not_false, Int.reduceBEq, beq_self_eq_true, if_true, Bool.false_eq_true, if_false]; rfl)
        · exact a104.get
        · exact (a104.keep (by omega) g2)
        · exact (a104.le l1)
        · exact (a104.le l2)
        · exact (hx.put a104 (by have := (hx).nx; have := a104.nx; omega))
        · omega
        · omega
      · have c102p := beq_f c102
        refine WpM.run tab_ok 22 ⟨.ops (p23_14_1 :: o23_14.drop 2), [.seq x23_15, .blk 1, .seq x23_20, .loop x23_7, .blk 0, .seq x23_21, .callD [.tmp 4] (some 25) m15_19 (o15_19.drop 7) [(8, h)] (.int .i64 1 :: .slice la l.length cap true :: U :: U :: .slice none 0 0 true :: .ptr (some (.new tb 0)) :: .slice (some (.new q 0)) l.length l.length false :: .int .i64 i :: .int .i64 1 :: .agg [.str k_viewBox, .str k_preserveAspectRatio, .str k_gradientUnits] :: .slice la l.length cap true :: .slice (some (.new q 0)) l.length l.length false :: .slice (some (.new q 0)) l.length l.length false :: .int .i64 ((l.length : Int)) :: .int .i64 i :: .bool (decide (i < ((l.length : Int)))) :: .int .i64 i :: d17 :: d18 :: .slice (some (.new tb 0)) 3 3 true :: .slice (some (.new q 0)) l.length l.length false :: .int .i64 i :: .ptr (some (.new q (0 + i.toNat * 2))) :: .ptr (some (.new q (0 + i.toNat * 2 + 0))) :: .str ((gt cur i).fName) :: d25 :: d26 :: d27 :: d28 :: U :: []) [] none, .blk 1, .seq x15_20, .loop x15_11, .blk 0, .seq x15_21], (.slice (some (.new tb 0)) 3 3 true :: .str ((gt cur i).fName) :: U :: U :: .str [] :: U :: .str k_viewBox :: .slice (some (.new tb 0)) 3 3 true :: .int .i64 3 :: .int .i64 1 :: .bool true :: .ptr (some (.new tb 1)) :: .str k_viewBox :: .str k_viewBox :: .bool true :: .bool true :: .str k_viewBox :: .str k_viewbox :: .str ((gt cur i).fName) :: .bool ((k_viewbox : List UInt8) == ((gt cur i).fName)) :: .bool ((k_viewbox : List UInt8) == ((gt cur i).fName)) :: U :: .int .i64 1 :: U :: []), [], h, none⟩ (by kernel_rfl) ?_
        refine WpM.op (.str k_preserveAspectRatio) _ (by kernel_rfl) (load_new (o := 1) (by kernel_rfl) g2 (by kernel_rfl)) ?_
        refine WpM.run tab_ok 15 ⟨.code x23_17, [.blk 1, .seq x23_20, .loop x23_7, .blk 0, .seq x23_21, .callD [.tmp 4] (some 25) m15_19 (o15_19.drop 7) [(8, h)] (.int .i64 1 :: .slice la l.length cap true :: U :: U :: .slice none 0 0 true :: .ptr (some (.new tb 0)) :: .slice (some (.new q 0)) l.length l.length false :: .int .i64 i :: .int .i64 1 :: .agg [.str k_viewBox, .str k_preserveAspectRatio, .str k_gradientUnits] :: .slice la l.length cap true :: .slice (some (.new q 0)) l.length l.length false :: .slice (some (.new q 0)) l.length l.length false :: .int .i64 ((l.length : Int)) :: .int .i64 i :: .bool (decide (i < ((l.length : Int)))) :: .int .i64 i :: d17 :: d18 :: .slice (some (.new tb 0)) 3 3 true :: .slice (some (.new q 0)) l.length l.length false :: .int .i64 i :: .ptr (some (.new q (0 + i.toNat * 2))) :: .ptr (some (.new q (0 + i.toNat * 2 + 0))) :: .str ((gt cur i).fName) :: d25 :: d26 :: d27 :: d28 :: U :: []) [] none, .blk 1, .seq x15_20, .loop x15_11, .blk 0, .seq x15_21], (.slice (some (.new tb 0)) 3 3 true :: .str ((gt cur i).fName) :: U :: U :: .str [] :: U :: .str k_preserveAspectRatio :: .slice (some (.new tb 0)) 3 3 true :: .int .i64 3 :: .int .i64 1 :: .bool true :: .ptr (some (.new tb 1)) :: .str k_preserveAspectRatio :: .str k_preserveAspectRatio :: .bool true :: .bool true :: .str k_preserveAspectRatio :: .str k_preserveaspectratio :: .str ((gt cur i).fName) :: .bool ((k_preserveaspectratio : List UInt8) == ((gt cur i).fName)) :: .bool ((k_preserveaspectratio : List UInt8) == ((gt cur i).fName)) :: U :: .int .i64 1 :: U :: []), [], h, none⟩ (by kernel_rfl) ?_
        refine WpM.cond (t := ((k_preserveaspectratio : List UInt8) == ((gt cur i).fName))) (by kernel_rfl) (fun c105 => ?_) (fun c105 => ?_)
        · have c105p := beq_t c105
          refine WpM.run tab_ok 15 ⟨.draw m15_19 ((9, p15_19_9) :: o15_19.drop 10) [(8, h)], [.blk 1, .seq x15_20, .loop x15_11, .blk 0, .seq x15_21], (.int .i64 1 :: .slice la l.length cap true :: U :: U :: .slice none 0 0 true :: .ptr (some (.new tb 0)) :: .slice (some (.new q 0)) l.length l.length false :: .int .i64 i :: .int .i64 1 :: .agg [.str k_viewBox, .str k_preserveAspectRatio, .str k_gradientUnits] :: .slice la l.length cap true :: .slice (some (.new q 0)) l.length l.length false :: .slice (some (.new q 0)) l.length l.length false :: .int .i64 ((l.length : Int)) :: .int .i64 i :: .bool (decide (i < ((l.length : Int)))) :: .int .i64 i :: .slice (some (.new q 0)) l.length l.length false :: .int .i64 i :: .slice (some (.new tb 0)) 3 3 true :: .slice (some (.new q 0)) l.length l.length false :: .int .i64 i :: .ptr (some (.new q (0 + i.toNat * 2))) :: .ptr (some (.new q (0 + i.toNat * 2 + 0))) :: .str ((gt cur i).fName) :: .str k_preserveAspectRatio :: d26 :: d27 :: d28 :: U :: []), [], h, none⟩ (by kernel_rfl) ?_
          refine WpM.opD (.ptr (some (.new q (0 + i.toNat * 2)))) _ (by kernel_rfl) (by kernel_rfl) (indexAddr_sl (e := 39) (a := (.new q 0)) (len := l.length) (lb := l.length) (ex := false) (z := 2) (k := .i64) (n := i) (by kernel_rfl) (by kernel_rfl) (by kernel_rfl) (by kernel_rfl) (by omega)) (by kernel_rfl) ?_
          refine WpM.run tab_ok 1 ⟨.draw m15_19 ((11, p15_19_11) :: o15_19.drop 12) [(8, h)], [.blk 1, .seq x15_20, .loop x15_11, .blk 0, .seq x15_21], (.int .i64 1 :: .slice la l.length cap true :: U :: U :: .slice none 0 0 true :: .ptr (some (.new tb 0)) :: .slice (some (.new q 0)) l.length l.length false :: .int .i64 i :: .int .i64 1 :: .agg [.str k_viewBox, .str k_preserveAspectRatio, .str k_gradientUnits] :: .slice la l.length cap true :: .slice (some (.new q 0)) l.length l.length false :: .slice (some (.new q 0)) l.length l.length false :: .int .i64 ((l.length : Int)) :: .int .i64 i :: .bool (decide (i < ((l.length : Int)))) :: .int .i64 i :: .slice (some (.new q 0)) l.length l.length false :: .int .i64 i :: .slice (some (.new tb 0)) 3 3 true :: .slice (some (.new q 0)) l.length l.length false :: .int .i64 i :: .ptr (some (.new q (0 + i.toNat * 2))) :: .ptr (some (.new q (0 + i.toNat * 2 + 0))) :: .str ((gt cur i).fName) :: .str k_preserveAspectRatio :: .ptr (some (.new q (0 + i.toNat * 2))) :: .ptr (some (.new q (0 + i.toNat * 2 + 0))) :: d28 :: U :: []), [], h, none⟩ (by kernel_rfl) ?_
          refine WpM.opDS U q (some (.cells (rv T39.cells (cur.set i.toNat ((⟨k_preserveAspectRatio, ((gt cur i).fValue)⟩ : T39)))) 39)) (by kernel_rfl) (by kernel_rfl) (store_new (o := (0 + i.toNat * 2 + 0)) (v := .str k_preserveAspectRatio) (by kernel_rfl) (by kernel_rfl) g1 (rv_st (z := 2) (f := T39.cells) (fun _ => rfl) (i := i) (x := (⟨k_preserveAspectRatio, ((gt cur i).fValue)⟩ : T39)) (by omega) (off := 0) (by kernel_rfl) (by kernel_rfl) (Nat.le_of_ble_eq_true rfl) (by kernel_rfl) (by omega))) (fun h106 a107 => ?_)
          refine WpM.run tab_ok 4 ⟨.ops (p15_20_0 :: o15_20.drop 1), [.loop x15_11, .blk 0, .seq x15_21], (.int .i64 1 :: .slice la l.length cap true :: U :: U :: .slice none 0 0 true :: .ptr (some (.new tb 0)) :: .slice (some (.new q 0)) l.length l.length false :: .int .i64 i :: .int .i64 1 :: .agg [.str k_viewBox, .str k_preserveAspectRatio, .str k_gradientUnits] :: .slice la l.length cap true :: .slice (some (.new q 0)) l.length l.length false :: .slice (some (.new q 0)) l.length l.length false :: .int .i64 ((l.length : Int)) :: .int .i64 i :: .bool (decide (i < ((l.length : Int)))) :: .int .i64 i :: .slice (some (.new q 0)) l.length l.length false :: .int .i64 i :: .slice (some (.new tb 0)) 3 3 true :: .slice (some (.new q 0)) l.length l.length false :: .int .i64 i :: .ptr (some (.new q (0 + i.toNat * 2))) :: .ptr (some (.new q (0 + i.toNat * 2 + 0))) :: .str ((gt cur i).fName) :: .str k_preserveAspectRatio :: .ptr (some (.new q (0 + i.toNat * 2))) :: .ptr (some (.new q (0 + i.toNat * 2 + 0))) :: d28 :: U :: []), [], h106, none⟩ (by kernel_rfl) ?_
          refine WpM.op (.int .i64 (i + 1)) _ (by kernel_rfl) (arith_add (by kernel_rfl) (by kernel_rfl) (by omega)) ?_
          refine WpM.run tab_ok 3 ⟨.code x15_11, [.loop x15_11, .blk 0, .seq x15_21], (.int .i64 1 :: .slice la l.length cap true :: U :: U :: .slice none 0 0 true :: .ptr (some (.new tb 0)) :: .slice (some (.new q 0)) l.length l.length false :: .int .i64 i :: .int .i64 1 :: .agg [.str k_viewBox, .str k_preserveAspectRatio, .str k_gradientUnits] :: .slice la l.length cap true :: .slice (some (.new q 0)) l.length l.length false :: .slice (some (.new q 0)) l.length l.length false :: .int .i64 ((l.length : Int)) :: .int .i64 (i + 1) :: .bool (decide (i < ((l.length : Int)))) :: .int .i64 i :: .slice (some (.new q 0)) l.length l.length false :: .int .i64 i :: .slice (some (.new tb 0)) 3 3 true :: .slice (some (.new q 0)) l.length l.length false :: .int .i64 i :: .ptr (some (.new q (0 + i.toNat * 2))) :: .ptr (some (.new q (0 + i.toNat * 2 + 0))) :: .str ((gt cur i).fName) :: .str k_preserveAspectRatio :: .ptr (some (.new q (0 + i.toNat * 2))) :: .ptr (some (.new q (0 + i.toNat * 2 + 0))) :: .int .i64 (i + 1) :: U :: []), [], h106, none⟩ (by kernel_rfl) ?_
          refine ih _ ?_ _ h106 q tb (cur.set i.toNat ((⟨k_preserveAspectRatio, ((gt cur i).fValue)⟩ : T39))) _ _ _ _ _ _ _ _ _ _ _ _ _ _ _ rfl ?_ ?_ ?_ ?_ ?_ ?_ ?_ ?_ ?_ ?_
          · omega
          · omega
          · omega
          · have hg2 := hg (by omega)
            rw [← adjAt_step h0i (by omega), ← hc]
            congr 1
            rw [← hg2]
            first
              | (simp only [adj, adjN, capM, c102, c105, Bool.true_and, Bool.false_and, Bool.and_true, Bool.and_false, Bool.or_false, Bool.false_or, Bool.true_or, Bool.or_true, Bool.not_true, Bool.not_false, Int.reduceBEq, beq_self_eq_true, if_true, Bool.false_eq_true, if_false]; done)
              | (simp only [adj, adjN, capM, c102, c105, Bool.true_and, Bool.false_and, Bool.and_true, Bool.and_false, Bool.or_false, Bool.false_or, Bool.true_or, Bool.or_true, Bool.not_true, Bool.not_false, Int.reduceBEq, beq_self_eq_true, if_true, Bool.false_eq_true, if_false]; rfl)
          · exact a107.get
          · exact (a107.keep (by omega) g2)
          · exact (a107.le l1)
          · exact (a107.le l2)
          · exact (hx.put a107 (by have := (hx).nx; have := a107.nx; omega))
          · omega
          · omega
        · have c105p := beq_f c105
          refine WpM.run tab_ok 22 ⟨.ops (p23_14_1 :: o23_14.drop 2), [.seq x23_15, .blk 1, .seq x23_20, .loop x23_7, .blk 0, .seq x23_21, .callD [.tmp 4] (some 25) m15_19 (o15_19.drop 7) [(8, h)] (.int .i64 1 :: .slice la l.length cap true :: U :: U :: .slice none 0 0 true :: .ptr (some (.new tb 0)) :: .slice (some (.new q 0)) l.length l.length false :: .int .i64 i :: .int .i64 1 :: .agg [.str k_viewBox, .str k_preserveAspectRatio, .str k_gradientUnits] :: .slice la l.length cap true :: .slice (some (.new q 0)) l.length l.length false :: .slice (some (.new q 0)) l.length l.length false :: .int .i64 ((l.length : Int)) :: .int .i64 i :: .bool (decide (i < ((l.length : Int)))) :: .int .i64 i :: d17 :: d18 :: .slice (some (.new tb 0)) 3 3 true :: .slice (some (.new q 0)) l.length l.length false :: .int .i64 i :: .ptr (some (.new q (0 + i.toNat * 2))) :: .ptr (some (.new q (0 + i.toNat * 2 + 0))) :: .str ((gt cur i).fName) :: d25 :: d26 :: d27 :: d28 :: U :: []) [] none, .blk 1, .seq x15_20, .loop x15_11, .blk 0, .seq x15_21], (.slice (some (.new tb 0)) 3 3 true :: .str ((gt cur i).fName) :: U :: U :: .str [] :: U :: .str k_preserveAspectRatio :: .slice (some (.new tb 0)) 3 3 true :: .int .i64 3 :: .int .i64 2 :: .bool true :: .ptr (some (.new tb 2)) :: .str k_preserveAspectRatio :: .str k_preserveAspectRatio :: .bool true :: .bool true :: .str k_preserveAspectRatio :: .str k_preserveaspectratio :: .str ((gt cur i).fName) :: .bool ((k_preserveaspectratio : List UInt8) == ((gt cur i).fName)) :: .bool ((k_preserveaspectratio : List UInt8) == ((gt cur i).fName)) :: U :: .int .i64 2 :: U :: []), [], h, none⟩ (by kernel_rfl) ?_
          refine WpM.op (.str k_gradientUnits) _ (by kernel_rfl) (load_new (o := 2) (by kernel_rfl) g2 (by kernel_rfl)) ?_
          refine WpM.run tab_ok 15 ⟨.code x23_17, [.blk 1, .seq x23_20, .loop x23_7, .blk 0, .seq x23_21, .callD [.tmp 4] (some 25) m15_19 (o15_19.drop 7) [(8, h)] (.int .i64 1 :: .slice la l.length cap true :: U :: U :: .slice none 0 0 true :: .ptr (some (.new tb 0)) :: .slice (some (.new q 0)) l.length l.length false :: .int .i64 i :: .int .i64 1 :: .agg [.str k_viewBox, .str k_preserveAspectRatio, .str k_gradientUnits] :: .slice la l.length cap true :: .slice (some (.new q 0)) l.length l.length false :: .slice (some (.new q 0)) l.length l.length false :: .int .i64 ((l.length : Int)) :: .int .i64 i :: .bool (decide (i < ((l.length : Int)))) :: .int .i64 i :: d17 :: d18 :: .slice (some (.new tb 0)) 3 3 true :: .slice (some (.new q 0)) l.length l.length false :: .int .i64 i :: .ptr (some (.new q (0 + i.toNat * 2))) :: .ptr (some (.new q (0 + i.toNat * 2 + 0))) :: .str ((gt cur i).fName) :: d25 :: d26 :: d27 :: d28 :: U :: []) [] none, .blk 1, .seq x15_20, .loop x15_11, .blk 0, .seq x15_21], (.slice (some (.new tb 0)) 3 3 true :: .str ((gt cur i).fName) :: U :: U :: .str [] :: U :: .str k_gradientUnits :: .slice (some (.new tb 0)) 3 3 true :: .int .i64 3 :: .int .i64 2 :: .bool true :: .ptr (some (.new tb 2)) :: .str k_gradientUnits :: .str k_gradientUnits :: .bool true :: .bool true :: .str k_gradientUnits :: .str k_gradientunits :: .str ((gt cur i).fName) :: .bool ((k_gradientunits : List UInt8) == ((gt cur i).fName)) :: .bool ((k_gradientunits : List UInt8) == ((gt cur i).fName)) :: U :: .int .i64 2 :: U :: []), [], h, none⟩ (by kernel_rfl) ?_
          refine WpM.cond (t := ((k_gradientunits : List UInt8) == ((gt cur i).fName))) (by kernel_rfl) (fun c108 => ?_) (fun c108 => ?_)
          · have c108p := beq_t c108
            refine WpM.run tab_ok 15 ⟨.draw m15_19 ((9, p15_19_9) :: o15_19.drop 10) [(8, h)], [.blk 1, .seq x15_20, .loop x15_11, .blk 0, .seq x15_21], (.int .i64 1 :: .slice la l.length cap true :: U :: U :: .slice none 0 0 true :: .ptr (some (.new tb 0)) :: .slice (some (.new q 0)) l.length l.length false :: .int .i64 i :: .int .i64 1 :: .agg [.str k_viewBox, .str k_preserveAspectRatio, .str k_gradientUnits] :: .slice la l.length cap true :: .slice (some (.new q 0)) l.length l.length false :: .slice (some (.new q 0)) l.length l.length false :: .int .i64 ((l.length : Int)) :: .int .i64 i :: .bool (decide (i < ((l.length : Int)))) :: .int .i64 i :: .slice (some (.new q 0)) l.length l.length false :: .int .i64 i :: .slice (some (.new tb 0)) 3 3 true :: .slice (some (.new q 0)) l.length l.length false :: .int .i64 i :: .ptr (some (.new q (0 + i.toNat * 2))) :: .ptr (some (.new q (0 + i.toNat * 2 + 0))) :: .str ((gt cur i).fName) :: .str k_gradientUnits :: d26 :: d27 :: d28 :: U :: []), [], h, none⟩ (by kernel_rfl) ?_
            refine WpM.opD (.ptr (some (.new q (0 + i.toNat * 2)))) _ (by kernel_rfl) (by kernel_rfl) (indexAddr_sl (e := 39) (a := (.new q 0)) (len := l.length) (lb := l.length) (ex := false) (z := 2) (k := .i64) (n := i) (by kernel_rfl) (by kernel_rfl) (by kernel_rfl) (by kernel_rfl) (by omega)) (by kernel_rfl) ?_
            refine WpM.run tab_ok 1 ⟨.draw m15_19 ((11, p15_19_11) :: o15_19.drop 12) [(8, h)], [.blk 1, .seq x15_20, .loop x15_11, .blk 0, .seq x15_21], (.int .i64 1 :: .slice la l.length cap true :: U :: U :: .slice none 0 0 true :: .ptr (some (.new tb 0)) :: .slice (some (.new q 0)) l.length l.length false :: .int .i64 i :: .int .i64 1 :: .agg [.str k_viewBox, .str k_preserveAspectRatio, .str k_gradientUnits] :: .slice la l.length cap true :: .slice (some (.new q 0)) l.length l.length false :: .slice (some (.new q 0)) l.length l.length false :: .int .i64 ((l.length : Int)) :: .int .i64 i :: .bool (decide (i < ((l.length : Int)))) :: .int .i64 i :: .slice (some (.new q 0)) l.length l.length false :: .int .i64 i :: .slice (some (.new tb 0)) 3 3 true :: .slice (some (.new q 0)) l.length l.length false :: .int .i64 i :: .ptr (some (.new q (0 + i.toNat * 2))) :: .ptr (some (.new q (0 + i.toNat * 2 + 0))) :: .str ((gt cur i).fName) :: .str k_gradientUnits :: .ptr (some (.new q (0 + i.toNat * 2))) :: .ptr (some (.new q (0 + i.toNat * 2 + 0))) :: d28 :: U :: []), [], h, none⟩ (by kernel_rfl) ?_
            refine WpM.opDS U q (some (.cells (rv T39.cells (cur.set i.toNat ((⟨k_gradientUnits, ((gt cur i).fValue)⟩ : T39)))) 39)) (by kernel_rfl) (by kernel_rfl) (store_new (o := (0 + i.toNat * 2 + 0)) (v := .str k_gradientUnits) (by kernel_rfl) (by kernel_rfl) g1 (rv_st (z := 2) (f := T39.cells) (fun _ => rfl) (i := i) (x := (⟨k_gradientUnits, ((gt cur i).fValue)⟩ : T39)) (by omega) (off := 0) (by kernel_rfl) (by kernel_rfl) (Nat.le_of_ble_eq_true rfl) (by kernel_rfl) (by omega))) (fun h109 a110 => ?_)
            refine WpM.run tab_ok 4 ⟨.ops (p15_20_0 :: o15_20.drop 1), [.loop x15_11, .blk 0, .seq x15_21], (.int .i64 1 :: .slice la l.length cap true :: U :: U :: .slice none 0 0 true :: .ptr (some (.new tb 0)) :: .slice (some (.new q 0)) l.length l.length false :: .int .i64 i :: .int .i64 1 :: .agg [.str k_viewBox, .str k_preserveAspectRatio, .str k_gradientUnits] :: .slice la l.length cap true :: .slice (some (.new q 0)) l.length l.length false :: .slice (some (.new q 0)) l.length l.length false :: .int .i64 ((l.length : Int)) :: .int .i64 i :: .bool (decide (i < ((l.length : Int)))) :: .int .i64 i :: .slice (some (.new q 0)) l.length l.length false :: .int .i64 i :: .slice (some (.new tb 0)) 3 3 true :: .slice (some (.new q 0)) l.length l.length false :: .int .i64 i :: .ptr (some (.new q (0 + i.toNat * 2))) :: .ptr (some (.new q (0 + i.toNat * 2 + 0))) :: .str ((gt cur i).fName) :: .str k_gradientUnits :: .ptr (some (.new q (0 + i.toNat * 2))) :: .ptr (some (.new q (0 + i.toNat * 2 + 0))) :: d28 :: U :: []), [], h109, none⟩ (by kernel_rfl) ?_
            refine WpM.op (.int .i64 (i + 1)) _ (by kernel_rfl) (arith_add (by kernel_rfl) (by kernel_rfl) (by omega)) ?_
            refine WpM.run tab_ok 3 ⟨.code x15_11, [.loop x15_11, .blk 0, .seq x15_21], (.int .i64 1 :: .slice la l.length cap true :: U :: U :: .slice none 0 0 true :: .ptr (some (.new tb 0)) :: .slice (some (.new q 0)) l.length l.length false :: .int .i64 i :: .int .i64 1 :: .agg [.str k_viewBox, .str k_preserveAspectRatio, .str k_gradientUnits] :: .slice la l.length cap true :: .slice (some (.new q 0)) l.length l.length false :: .slice (some (.new q 0)) l.length l.length false :: .int .i64 ((l.length : Int)) :: .int .i64 (i + 1) :: .bool (decide (i < ((l.length : Int)))) :: .int .i64 i :: .slice (some (.new q 0)) l.length l.length false :: .int .i64 i :: .slice (some (.new tb 0)) 3 3 true :: .slice (some (.new q 0)) l.length l.length false :: .int .i64 i :: .ptr (some (.new q (0 + i.toNat * 2))) :: .ptr (some (.new q (0 + i.toNat * 2 + 0))) :: .str ((gt cur i).fName) :: .str k_gradientUnits :: .ptr (some (.new q (0 + i.toNat * 2))) :: .ptr (some (.new q (0 + i.toNat * 2 + 0))) :: .int .i64 (i + 1) :: U :: []), [], h109, none⟩ (by kernel_rfl) ?_
            refine ih _ ?_ _ h109 q tb (cur.set i.toNat ((⟨k_gradientUnits, ((gt cur i).fValue)⟩ : T39))) _ _ _ _ _ _ _ _ _ _ _ _ _ _ _ rfl ?_ ?_ ?_ ?_ ?_ ?_ ?_ ?_ ?_ ?_
            · omega
            · omega
            · omega
            · have hg2 := hg (by omega)
              rw [← adjAt_step h0i (by omega), ← hc]
              congr 1
              rw [← hg2]
              first
                | (simp only [adj, adjN, capM, c102, c105, c108, Bool.true_and, Bool.false_and, Bool.and_true, Bool.and_false, Bool.or_false, Bool.false_or, Bool.true_or, Bool.or_true, Bool.not_true, Bool.not_false, Int.reduceBEq, beq_self_eq_true, if_true, Bool.false_eq_true, if_false]; done)
                | (simp only [adj, adjN, capM, c102, c105, c108, Bool.true_and, Bool.false_and, Bool.and_true, Bool.and_false, Bool.or_false, Bool.false_or, Bool.true_or, Bool.or_true, Bool.not_true, Bool.not_false, Int.reduceBEq, beq_self_eq_true, if_true, Bool.false_eq_true, if_false]; rfl)
            · exact a110.get
            · exact (a110.keep (by omega) g2)
            · exact (a110.le l1)
            · exact (a110.le l2)
            · exact (hx.put a110 (by have := (hx).nx; have := a110.nx; omega))
            · omega
            · omega
          · have c108p := beq_f c108
            refine WpM.run tab_ok 30 ⟨.draw m15_19 ((9, p15_19_9) :: o15_19.drop 10) [(8, h)], [.blk 1, .seq x15_20, .loop x15_11, .blk 0, .seq x15_21], (.int .i64 1 :: .slice la l.length cap true :: U :: U :: .slice none 0 0 true :: .ptr (some (.new tb 0)) :: .slice (some (.new q 0)) l.length l.length false :: .int .i64 i :: .int .i64 1 :: .agg [.str k_viewBox, .str k_preserveAspectRatio, .str k_gradientUnits] :: .slice la l.length cap true :: .slice (some (.new q 0)) l.length l.length false :: .slice (some (.new q 0)) l.length l.length false :: .int .i64 ((l.length : Int)) :: .int .i64 i :: .bool (decide (i < ((l.length : Int)))) :: .int .i64 i :: .slice (some (.new q 0)) l.length l.length false :: .int .i64 i :: .slice (some (.new tb 0)) 3 3 true :: .slice (some (.new q 0)) l.length l.length false :: .int .i64 i :: .ptr (some (.new q (0 + i.toNat * 2))) :: .ptr (some (.new q (0 + i.toNat * 2 + 0))) :: .str ((gt cur i).fName) :: .str ((gt cur i).fName) :: d26 :: d27 :: d28 :: U :: []), [], h, none⟩ (by kernel_rfl) ?_
            refine WpM.opD (.ptr (some (.new q (0 + i.toNat * 2)))) _ (by kernel_rfl) (by kernel_rfl) (indexAddr_sl (e := 39) (a := (.new q 0)) (len := l.length) (lb := l.length) (ex := false) (z := 2) (k := .i64) (n := i) (by kernel_rfl) (by kernel_rfl) (by kernel_rfl) (by kernel_rfl) (by omega)) (by kernel_rfl) ?_
            refine WpM.run tab_ok 1 ⟨.draw m15_19 ((11, p15_19_11) :: o15_19.drop 12) [(8, h)], [.blk 1, .seq x15_20, .loop x15_11, .blk 0, .seq x15_21], (.int .i64 1 :: .slice la l.length cap true :: U :: U :: .slice none 0 0 true :: .ptr (some (.new tb 0)) :: .slice (some (.new q 0)) l.length l.length false :: .int .i64 i :: .int .i64 1 :: .agg [.str k_viewBox, .str k_preserveAspectRatio, .str k_gradientUnits] :: .slice la l.length cap true :: .slice (some (.new q 0)) l.length l.length false :: .slice (some (.new q 0)) l.length l.length false :: .int .i64 ((l.length : Int)) :: .int .i64 i :: .bool (decide (i < ((l.length : Int)))) :: .int .i64 i :: .slice (some (.new q 0)) l.length l.length false :: .int .i64 i :: .slice (some (.new tb 0)) 3 3 true :: .slice (some (.new q 0)) l.length l.length false :: .int .i64 i :: .ptr (some (.new q (0 + i.toNat * 2))) :: .ptr (some (.new q (0 + i.toNat * 2 + 0))) :: .str ((gt cur i).fName) :: .str ((gt cur i).fName) :: .ptr (some (.new q (0 + i.toNat * 2))) :: .ptr (some (.new q (0 + i.toNat * 2 + 0))) :: d28 :: U :: []), [], h, none⟩ (by kernel_rfl) ?_
            refine WpM.opDS U q (some (.cells (rv T39.cells (cur.set i.toNat ((gt cur i)))) 39)) (by kernel_rfl) (by kernel_rfl) (store_new (o := (0 + i.toNat * 2 + 0)) (v := .str ((gt cur i).fName)) (by kernel_rfl) (by kernel_rfl) g1 (rv_st (z := 2) (f := T39.cells) (fun _ => rfl) (i := i) (x := (gt cur i)) (by omega) (off := 0) (by kernel_rfl) (by kernel_rfl) (Nat.le_of_ble_eq_true rfl) (by kernel_rfl) (by omega))) (fun h111 a112 => ?_)
            refine WpM.run tab_ok 4 ⟨.ops (p15_20_0 :: o15_20.drop 1), [.loop x15_11, .blk 0, .seq x15_21], (.int .i64 1 :: .slice la l.length cap true :: U :: U :: .slice none 0 0 true :: .ptr (some (.new tb 0)) :: .slice (some (.new q 0)) l.length l.length false :: .int .i64 i :: .int .i64 1 :: .agg [.str k_viewBox, .str k_preserveAspectRatio, .str k_gradientUnits] :: .slice la l.length cap true :: .slice (some (.new q 0)) l.length l.length false :: .slice (some (.new q 0)) l.length l.length false :: .int .i64 ((l.length : Int)) :: .int .i64 i :: .bool (decide (i < ((l.length : Int)))) :: .int .i64 i :: .slice (some (.new q 0)) l.length l.length false :: .int .i64 i :: .slice (some (.new tb 0)) 3 3 true :: .slice (some (.new q 0)) l.length l.length false :: .int .i64 i :: .ptr (some (.new q (0 + i.toNat * 2))) :: .ptr (some (.new q (0 + i.toNat * 2 + 0))) :: .str ((gt cur i).fName) :: .str ((gt cur i).fName) :: .ptr (some (.new q (0 + i.toNat * 2))) :: .ptr (some (.new q (0 + i.toNat * 2 + 0))) :: d28 :: U :: []), [], h111, none⟩ (by kernel_rfl) ?_
            refine WpM.op (.int .i64 (i + 1)) _ (by kernel_rfl) (arith_add (by kernel_rfl) (by kernel_rfl) (by omega)) ?_
            refine WpM.run tab_ok 3 ⟨.code x15_11, [.loop x15_11, .blk 0, .seq x15_21], (.int .i64 1 :: .slice la l.length cap true :: U :: U :: .slice none 0 0 true :: .ptr (some (.new tb 0)) :: .slice (some (.new q 0)) l.length l.length false :: .int .i64 i :: .int .i64 1 :: .agg [.str k_viewBox, .str k_preserveAspectRatio, .str k_gradientUnits] :: .slice la l.length cap true :: .slice (some (.new q 0)) l.length l.length false :: .slice (some (.new q 0)) l.length l.length false :: .int .i64 ((l.length : Int)) :: .int .i64 (i + 1) :: .bool (decide (i < ((l.length : Int)))) :: .int .i64 i :: .slice (some (.new q 0)) l.length l.length false :: .int .i64 i :: .slice (some (.new tb 0)) 3 3 true :: .slice (some (.new q 0)) l.length l.length false :: .int .i64 i :: .ptr (some (.new q (0 + i.toNat * 2))) :: .ptr (some (.new q (0 + i.toNat * 2 + 0))) :: .str ((gt cur i).fName) :: .str ((gt cur i).fName) :: .ptr (some (.new q (0 + i.toNat * 2))) :: .ptr (some (.new q (0 + i.toNat * 2 + 0))) :: .int .i64 (i + 1) :: U :: []), [], h111, none⟩ (by kernel_rfl) ?_
            refine ih _ ?_ _ h111 q tb (cur.set i.toNat ((gt cur i))) _ _ _ _ _ _ _ _ _ _ _ _ _ _ _ rfl ?_ ?_ ?_ ?_ ?_ ?_ ?_ ?_ ?_ ?_
            · omega
            · omega
            · omega
            · have hg2 := hg (by omega)
              rw [← adjAt_step h0i (by omega), ← hc]
              congr 1
              rw [← hg2]
              first
                | (simp only [adj, adjN, capM, c102, c105, c108, Bool.true_and, Bool.false_and, Bool.and_true, Bool.and_false, Bool.or_false, Bool.false_or, Bool.true_or, Bool.or_true, Bool.not_true, Bool.not_false, Int.reduceBEq, beq_self_eq_true, if_true, Bool.false_eq_true, if_false]; done)
                | (simp only [adj, adjN, capM, c102, c105, c108, Bool.true_and, Bool.false_and, Bool.and_true, Bool.and_false, Bool.or_false, Bool.false_or, Bool.true_or, Bool.or_true, Bool.not_true, Bool.not_false, Int.reduceBEq, beq_self_eq_true, if_true, Bool.false_eq_true, if_false]; rfl)
            · exact a112.get
            · exact (a112.keep (by omega) g2)
            · exact (a112.le l1)
            · exact (a112.le l2)
            · exact (hx.put a112 (by have := (hx).nx; have := a112.nx; omega))
            · omega
            · omega
    · have c101p := dec_f c101
      refine WpM.run tab_ok 12 ⟨.done .ret, [], (.int .i64 1 :: .slice la l.length cap true :: U :: U :: .slice (some (.new q 0)) l.length l.length false :: .ptr (some (.new tb 0)) :: .slice (some (.new q 0)) l.length l.length false :: d7 :: .int .i64 1 :: .agg [.str k_viewBox, .str k_preserveAspectRatio, .str k_gradientUnits] :: .slice la l.length cap true :: .slice (some (.new q 0)) l.length l.length false :: .slice (some (.new q 0)) l.length l.length false :: .int .i64 ((l.length : Int)) :: .int .i64 i :: .bool (decide (i < ((l.length : Int)))) :: d16 :: d17 :: d18 :: d19 :: d20 :: d21 :: d22 :: d23 :: d24 :: d25 :: d26 :: d27 :: d28 :: .slice (some (.new q 0)) l.length l.length false :: []), [], h, none⟩ (by kernel_rfl) ?_
      refine WpM.ret (.slice (some (.new q 0)) l.length l.length false) h (by kernel_rfl) (by kernel_rfl) ?_
      exact ⟨hx, q, rfl, by rw [← adjAt_end (i := i) (by omega), ← hc]; exact g1, l1⟩
theorem attrs1_ok {W : World} {la : Option Ad} {l : List T39} {cap : Nat} {h0 : H} (hA : Arr W 2 T39.cells la l) (hb : l.length ≤ 100000) (hn : 0 < l.length) : WpF Try.prog W prim5 15 [.int .i64 1, .slice la l.length cap true] h0 (fun v h' => HX h0 h' ∧ ∃ q, v = .slice (some (.new q 0)) l.length l.length false ∧ h'.get q = some (.cells (rv T39.cells (l.map (adj 1))) 39) ∧ q < h'.nx) := by
  refine WpF.m tab_ok (by kernel_rfl) rfl ?_
  refine WpM.cfg (c' := ⟨.code x15_0, [], (.int .i64 1 :: .slice la l.length cap true :: us 28), [], h0, none⟩) (by kernel_rfl) ?_
  refine WpM.run tab_ok 11 ⟨.ops (p27_1_0 :: o27_1.drop 1), [.seq x27_2, .call [.cell 2 47] (some 9) (o15_3.drop 2) (.int .i64 1 :: .slice la l.length cap true :: U :: U :: .slice none 0 0 true :: U :: U :: U :: .int .i64 1 :: us 21) [] none, .seq x15_4], [.int .i64 1, U, U, U, U, U, U, U, U, U, U], [], h0, none⟩ (by kernel_rfl) ?_
  refine WpM.opA (fun p => .ptr (some (.new p 0))) (.cells [.str [], .str [], .str []] 47) (by kernel_rfl) (by kernel_rfl) (fun p1 h2 a3 => ?_)
  refine WpM.run tab_ok 19 ⟨.ops (p27_10_1 :: o27_10.drop 2), [.seq .ret, .blk 0, .seq x27_16, .call [.cell 2 47] (some 9) (o15_3.drop 2) (.int .i64 1 :: .slice la l.length cap true :: U :: U :: .slice none 0 0 true :: U :: U :: U :: .int .i64 1 :: us 21) [] none, .seq x15_4], [.int .i64 1, U, .ptr (some (.new p1 0)), .int .i64 1, .bool true, .bool true, .agg [.str k_viewBox, .str k_preserveAspectRatio, .str k_gradientUnits], U, U, U, U], [], h2, none⟩ (by kernel_rfl) ?_
  refine WpM.opS U p1 (some (.cells [.str k_viewBox, .str k_preserveAspectRatio, .str k_gradientUnits] 47)) (by kernel_rfl) (store_new (o := 0) (v := .agg [.str k_viewBox, .str k_preserveAspectRatio, .str k_gradientUnits]) (by kernel_rfl) (by kernel_rfl) a3.get (by kernel_rfl)) (fun h4 a5 => ?_)
  refine WpM.run tab_ok 5 ⟨.done .ret, [.call [.cell 2 47] (some 9) (o15_3.drop 2) (.int .i64 1 :: .slice la l.length cap true :: U :: U :: .slice none 0 0 true :: U :: U :: U :: .int .i64 1 :: us 21) [] none, .seq x15_4], [.int .i64 1, U, .ptr (some (.new p1 0)), .int .i64 1, .bool true, .bool true, .agg [.str k_viewBox, .str k_preserveAspectRatio, .str k_gradientUnits], U, U, U, U], [], h4, none⟩ (by kernel_rfl) ?_
  refine WpM.pop (.agg [.str k_viewBox, .str k_preserveAspectRatio, .str k_gradientUnits]) (by kernel_rfl) (resL_cell1 (o := 0) (by kernel_rfl) a5.get (by kernel_rfl)) ?_
  refine WpM.run tab_ok 0 ⟨.ops (p15_3_2 :: o15_3.drop 3), [.seq x15_4], (.int .i64 1 :: .slice la l.length cap true :: U :: U :: .slice none 0 0 true :: U :: U :: U :: .int .i64 1 :: .agg [.str k_viewBox, .str k_preserveAspectRatio, .str k_gradientUnits] :: us 20), [], h4, none⟩ (by kernel_rfl) ?_
  refine WpM.opA (fun p => .ptr (some (.new p 0))) (.cells [.str [], .str [], .str []] 47) (by kernel_rfl) (by kernel_rfl) (fun p6 h7 a8 => ?_)
  refine WpM.run tab_ok 0 ⟨.ops (p15_3_3 :: o15_3.drop 4), [.seq x15_4], (.int .i64 1 :: .slice la l.length cap true :: U :: U :: .slice none 0 0 true :: .ptr (some (.new p6 0)) :: U :: U :: .int .i64 1 :: .agg [.str k_viewBox, .str k_preserveAspectRatio, .str k_gradientUnits] :: us 20), [], h7, none⟩ (by kernel_rfl) ?_
  refine WpM.opS U p6 (some (.cells [.str k_viewBox, .str k_preserveAspectRatio, .str k_gradientUnits] 47)) (by kernel_rfl) (store_new (o := 0) (v := .agg [.str k_viewBox, .str k_preserveAspectRatio, .str k_gradientUnits]) (by kernel_rfl) (by kernel_rfl) a8.get (by kernel_rfl)) (fun h9 a10 => ?_)
  refine WpM.run tab_ok 15 ⟨.ops (p28_4_1 :: o28_4.drop 2), [.seq x28_5, .seq x28_8, .call [.tmp 2] (some 11) (o15_5.drop 2) (.int .i64 1 :: .slice la l.length cap true :: U :: U :: .slice none 0 0 true :: .ptr (some (.new p6 0)) :: U :: U :: .int .i64 1 :: .agg [.str k_viewBox, .str k_preserveAspectRatio, .str k_gradientUnits] :: .slice la l.length cap true :: us 19) [] none, .seq x15_6], [.slice la l.length cap true, U, .slice none 0 0 true, .slice la l.length cap true, U, U, U, U], [], h9, none⟩ (by kernel_rfl) ?_
  refine WpM.op (.bool false) _ (by kernel_rfl) (eq_nil (e := 39) (a := la) (n := l.length) (lb := cap) (ex := true) (by kernel_rfl) (by kernel_rfl) (hA.some hn).1 (by kernel_rfl)) ?_
  refine WpM.run tab_ok 7 ⟨.ops (p28_9_0 :: o28_9.drop 1), [.seq .ret, .call [.tmp 2] (some 11) (o15_5.drop 2) (.int .i64 1 :: .slice la l.length cap true :: U :: U :: .slice none 0 0 true :: .ptr (some (.new p6 0)) :: U :: U :: .int .i64 1 :: .agg [.str k_viewBox, .str k_preserveAspectRatio, .str k_gradientUnits] :: .slice la l.length cap true :: us 19) [] none, .seq x15_6], [.slice la l.length cap true, U, .slice none 0 0 true, .slice la l.length cap true, .bool false, U, U, U], [], h9, none⟩ (by kernel_rfl) ?_
  refine WpM.opA (fun p => .slice (some (.new p 0)) 0 0 true) (.cells [] 39) (by kernel_rfl) (by kernel_rfl) (fun p11 h12 a13 => ?_)
  refine WpM.run tab_ok 1 ⟨.ops (p28_9_2 :: o28_9.drop 3), [.seq .ret, .call [.tmp 2] (some 11) (o15_5.drop 2) (.int .i64 1 :: .slice la l.length cap true :: U :: U :: .slice none 0 0 true :: .ptr (some (.new p6 0)) :: U :: U :: .int .i64 1 :: .agg [.str k_viewBox, .str k_preserveAspectRatio, .str k_gradientUnits] :: .slice la l.length cap true :: us 19) [] none, .seq x15_6], [.slice la l.length cap true, U, .slice none 0 0 true, .slice la l.length cap true, .bool false, .slice (some (.new p11 0)) 0 0 true, .slice la l.length cap true, U], [], h12, none⟩ (by kernel_rfl) ?_
  refine WpM.opA (fun p => .slice (some (.new p 0)) l.length l.length false) (.cells (rv T39.cells l) 39) (by kernel_rfl) (app_step (s := .slice (some (.new p11 0)) 0 0 true) (x := .slice la l.length cap true) (by kernel_rfl) (by kernel_rfl) (app_op (at0 := 25) (at1 := 25) (e := 39) (size := 2) (bytes := 32) (n := l.length) (z0 := .agg [.str [], .str []]) (nc := (rv T39.cells l)) (by kernel_rfl) (by kernel_rfl) (by kernel_rfl) (by kernel_rfl) rfl rfl rfl (arr_first hA _) (app_empty (by omega) (rv_length (f := T39.cells) (fun _ => rfl) _) (rv_all_one (fun _ => rfl) _) (by omega) (by omega)))) (fun p14 h15 a16 => ?_)
  refine WpM.run tab_ok 18 ⟨.code x15_11, [.loop x15_11, .blk 0, .seq x15_21], (.int .i64 1 :: .slice la l.length cap true :: U :: U :: .slice none 0 0 true :: .ptr (some (.new p6 0)) :: .slice (some (.new p14 0)) l.length l.length false :: U :: .int .i64 1 :: .agg [.str k_viewBox, .str k_preserveAspectRatio, .str k_gradientUnits] :: .slice la l.length cap true :: .slice (some (.new p14 0)) l.length l.length false :: .slice (some (.new p14 0)) l.length l.length false :: .int .i64 ((l.length : Int)) :: .int .i64 0 :: us 15), [], h15, none⟩ (by kernel_rfl) ?_
  exact attrs1_loop hA hb _ 0 _ _ _ l _ _ _ _ _ _ _ _ _ _ _ _ _ _ _ rfl (by omega) (by omega) (adjAt_zero _ _).symm a16.get (a16.keep (a13.le (a10.le a8.lt)) (a13.keep (a10.le a8.lt) a10.get)) a16.lt (a16.le (a13.le (a10.le a8.lt))) (((((((HX.refl h0).alloc a3).put a5 (by have := a3.eq; have := a3.nx; have := a5.nx; have := a8.eq; have := a8.nx; have := a10.nx; have := a13.eq; have := a13.nx; have := a16.eq; have := a16.nx; omega)).alloc a8).put a10 (by have := a3.eq; have := a3.nx; have := a5.nx; have := a8.eq; have := a8.nx; have := a10.nx; have := a13.eq; have := a13.nx; have := a16.eq; have := a16.nx; omega)).alloc a13).alloc a16) (by have := a3.eq; have := a3.nx; have := a5.nx; have := a8.eq; have := a8.nx; have := a10.nx; have := a13.eq; have := a13.nx; have := a16.eq; have := a16.nx; omega) (by have := a3.eq; have := a3.nx; have := a5.nx; have := a8.eq; have := a8.nx; have := a10.nx; have := a13.eq; have := a13.nx; have := a16.eq; have := a16.nx; omega)
theorem attrs2_loop {W : World} {la : Option Ad} {l : List T39} {cap : Nat} {h0 : H} (hA : Arr W 2 T39.cells la l) (hb : l.length ≤ 100000)  (n : Nat) : ∀ (i : Int) (h : H) (q tb : Nat) (cur : List T39) (d7 d15 d16 d17 d18 d19 d20 d21 d22 d23 d24 d25 d26 d27 d28 : V), n = ((l.length : Int) - i).toNat → (0 ≤ i) → (i ≤ (l.length : Int)) → (cur = adjAt 2 l i) → (h.get q = some (.cells (rv T39.cells cur) 39)) → (h.get tb = some (.cells [.str k_definitionURL, .str [], .str []] 47)) → (q < h.nx) → (tb < h.nx) → (HX h0 h) → (h0.nx ≤ q) → (q ≠ tb) → WpM Try.prog W prim5 ⟨.code x15_11, [.loop x15_11, .blk 0, .seq x15_21], (.int .i64 2 :: .slice la l.length cap true :: U :: U :: .slice none 0 0 true :: .ptr (some (.new tb 0)) :: .slice (some (.new q 0)) l.length l.length false :: d7 :: .int .i64 2 :: .agg [.str k_definitionURL, .str [], .str []] :: .slice la l.length cap true :: .slice (some (.new q 0)) l.length l.length false :: .slice (some (.new q 0)) l.length l.length false :: .int .i64 ((l.length : Int)) :: .int .i64 i :: d15 :: d16 :: d17 :: d18 :: d19 :: d20 :: d21 :: d22 :: d23 :: d24 :: d25 :: d26 :: d27 :: d28 :: U :: []), [], h, none⟩ (retQ Try.prog W [.tmp 4] (fun v h' => HX h0 h' ∧ ∃ q, v = .slice (some (.new q 0)) l.length l.length false ∧ h'.get q = some (.cells (rv T39.cells (l.map (adj 2))) 39) ∧ q < h'.nx)) := by
  induction n using Nat.strongRecOn with
  | _ n ih =>
    intro i h q tb cur d7 d15 d16 d17 d18 d19 d20 d21 d22 d23 d24 d25 d26 d27 d28 hn h0i h1i hc g1 g2 l1 l2 hx hq hne
    have hl : cur.length = l.length := by rw [hc, adjAt_length]
    have hg : i < (l.length : Int) → gt cur i = gt l i := fun hh => by rw [hc, adjAt_gt h0i hh]
    refine WpM.run tab_ok 6 ⟨.code x15_14, [.seq x15_15, .loop x15_11, .blk 0, .seq x15_21], (.int .i64 2 :: .slice la l.length cap true :: U :: U :: .slice none 0 0 true :: .ptr (some (.new tb 0)) :: .slice (some (.new q 0)) l.length l.length false :: d7 :: .int .i64 2 :: .agg [.str k_definitionURL, .str [], .str []] :: .slice la l.length cap true :: .slice (some (.new q 0)) l.length l.length false :: .slice (some (.new q 0)) l.length l.length false :: .int .i64 ((l.length : Int)) :: .int .i64 i :: .bool (decide (i < ((l.length : Int)))) :: d16 :: d17 :: d18 :: d19 :: d20 :: d21 :: d22 :: d23 :: d24 :: d25 :: d26 :: d27 :: d28 :: U :: []), [], h, none⟩ (by kernel_rfl) ?_
    refine WpM.cond (t := (decide (i < ((l.length : Int))))) (by kernel_rfl) (fun c101 => ?_) (fun c101 => ?_)
    · have c101p := dec_t c101
      refine WpM.run tab_ok 14 ⟨.draw m15_19 ((5, p15_19_3) :: o15_19.drop 4) [], [.blk 1, .seq x15_20, .loop x15_11, .blk 0, .seq x15_21], (.int .i64 2 :: .slice la l.length cap true :: U :: U :: .slice none 0 0 true :: .ptr (some (.new tb 0)) :: .slice (some (.new q 0)) l.length l.length false :: .int .i64 i :: .int .i64 2 :: .agg [.str k_definitionURL, .str [], .str []] :: .slice la l.length cap true :: .slice (some (.new q 0)) l.length l.length false :: .slice (some (.new q 0)) l.length l.length false :: .int .i64 ((l.length : Int)) :: .int .i64 i :: .bool (decide (i < ((l.length : Int)))) :: .int .i64 i :: d17 :: d18 :: .slice (some (.new tb 0)) 3 3 true :: .slice (some (.new q 0)) l.length l.length false :: .int .i64 i :: d22 :: d23 :: d24 :: d25 :: d26 :: d27 :: d28 :: U :: []), [], h, none⟩ (by kernel_rfl) ?_
      refine WpM.opD (.ptr (some (.new q (0 + i.toNat * 2)))) _ (by kernel_rfl) (by kernel_rfl) (indexAddr_sl (e := 39) (a := (.new q 0)) (len := l.length) (lb := l.length) (ex := false) (z := 2) (k := .i64) (n := i) (by kernel_rfl) (by kernel_rfl) (by kernel_rfl) (by kernel_rfl) (by omega)) (by kernel_rfl) ?_
      refine WpM.run tab_ok 1 ⟨.draw m15_19 ((7, p15_19_5) :: o15_19.drop 6) [], [.blk 1, .seq x15_20, .loop x15_11, .blk 0, .seq x15_21], (.int .i64 2 :: .slice la l.length cap true :: U :: U :: .slice none 0 0 true :: .ptr (some (.new tb 0)) :: .slice (some (.new q 0)) l.length l.length false :: .int .i64 i :: .int .i64 2 :: .agg [.str k_definitionURL, .str [], .str []] :: .slice la l.length cap true :: .slice (some (.new q 0)) l.length l.length false :: .slice (some (.new q 0)) l.length l.length false :: .int .i64 ((l.length : Int)) :: .int .i64 i :: .bool (decide (i < ((l.length : Int)))) :: .int .i64 i :: d17 :: d18 :: .slice (some (.new tb 0)) 3 3 true :: .slice (some (.new q 0)) l.length l.length false :: .int .i64 i :: .ptr (some (.new q (0 + i.toNat * 2))) :: .ptr (some (.new q (0 + i.toNat * 2 + 0))) :: d24 :: d25 :: d26 :: d27 :: d28 :: U :: []), [], h, none⟩ (by kernel_rfl) ?_
      refine WpM.opD (.str ((gt cur i).fName)) _ (by kernel_rfl) (by kernel_rfl) (load_new (o := (0 + i.toNat * 2 + 0)) (by kernel_rfl) g1 (rv_ld (z := 2) (f := T39.cells) (fun _ => rfl) (i := i) (by omega) (off := 0) (by kernel_rfl) (by decide) (by kernel_rfl) (by omega))) (by kernel_rfl) ?_
      refine WpM.run tab_ok 30 ⟨.ops (p23_14_1 :: o23_14.drop 2), [.seq x23_15, .blk 1, .seq x23_20, .loop x23_7, .blk 0, .seq x23_21, .callD [.tmp 4] (some 25) m15_19 (o15_19.drop 7) [(8, h)] (.int .i64 2 :: .slice la l.length cap true :: U :: U :: .slice none 0 0 true :: .ptr (some (.new tb 0)) :: .slice (some (.new q 0)) l.length l.length false :: .int .i64 i :: .int .i64 2 :: .agg [.str k_definitionURL, .str [], .str []] :: .slice la l.length cap true :: .slice (some (.new q 0)) l.length l.length false :: .slice (some (.new q 0)) l.length l.length false :: .int .i64 ((l.length : Int)) :: .int .i64 i :: .bool (decide (i < ((l.length : Int)))) :: .int .i64 i :: d17 :: d18 :: .slice (some (.new tb 0)) 3 3 true :: .slice (some (.new q 0)) l.length l.length false :: .int .i64 i :: .ptr (some (.new q (0 + i.toNat * 2))) :: .ptr (some (.new q (0 + i.toNat * 2 + 0))) :: .str ((gt cur i).fName) :: d25 :: d26 :: d27 :: d28 :: U :: []) [] none, .blk 1, .seq x15_20, .loop x15_11, .blk 0, .seq x15_21], (.slice (some (.new tb 0)) 3 3 true :: .str ((gt cur i).fName) :: U :: U :: .str [] :: U :: U :: .slice (some (.new tb 0)) 3 3 true :: .int .i64 3 :: .int .i64 0 :: .bool true :: .ptr (some (.new tb 0)) :: us 12), [], h, none⟩ (by kernel_rfl) ?_
      refine WpM.op (.str k_definitionURL) _ (by kernel_rfl) (load_new (o := 0) (by kernel_rfl) g2 (by kernel_rfl)) ?_
      refine WpM.run tab_ok 15 ⟨.code x23_17, [.blk 1, .seq x23_20, .loop x23_7, .blk 0, .seq x23_21, .callD [.tmp 4] (some 25) m15_19 (o15_19.drop 7) [(8, h)] (.int .i64 2 :: .slice la l.length cap true :: U :: U :: .slice none 0 0 true :: .ptr (some (.new tb 0)) :: .slice (some (.new q 0)) l.length l.length false :: .int .i64 i :: .int .i64 2 :: .agg [.str k_definitionURL, .str [], .str []] :: .slice la l.length cap true :: .slice (some (.new q 0)) l.length l.length false :: .slice (some (.new q 0)) l.length l.length false :: .int .i64 ((l.length : Int)) :: .int .i64 i :: .bool (decide (i < ((l.length : Int)))) :: .int .i64 i :: d17 :: d18 :: .slice (some (.new tb 0)) 3 3 true :: .slice (some (.new q 0)) l.length l.length false :: .int .i64 i :: .ptr (some (.new q (0 + i.toNat * 2))) :: .ptr (some (.new q (0 + i.toNat * 2 + 0))) :: .str ((gt cur i).fName) :: d25 :: d26 :: d27 :: d28 :: U :: []) [] none, .blk 1, .seq x15_20, .loop x15_11, .blk 0, .seq x15_21], (.slice (some (.new tb 0)) 3 3 true :: .str ((gt cur i).fName) :: U :: U :: .str [] :: U :: .str k_definitionURL :: .slice (some (.new tb 0)) 3 3 true :: .int .i64 3 :: .int .i64 0 :: .bool true :: .ptr (some (.new tb 0)) :: .str k_definitionURL :: .str k_definitionURL :: .bool true :: .bool true :: .str k_definitionURL :: .str k_definitionurl :: .str ((gt cur i).fName) :: .bool ((k_definitionurl : List UInt8) == ((gt cur i).fName)) :: .bool ((k_definitionurl : List UInt8) == ((gt cur i).fName)) :: U :: U :: U :: []), [], h, none⟩ (by kernel_rfl) ?_
      refine WpM.cond (t := ((k_definitionurl : List UInt8) == ((gt cur i).fName))) (by kernel_rfl) (fun c102 => ?_) (fun c102 => ?_)
      · have c102p := beq_t c102
        refine WpM.run tab_ok 15 ⟨.draw m15_19 ((9, p15_19_9) :: o15_19.drop 10) [(8, h)], [.blk 1, .seq x15_20, .loop x15_11, .blk 0, .seq x15_21], (.int .i64 2 :: .slice la l.length cap true :: U :: U :: .slice none 0 0 true :: .ptr (some (.new tb 0)) :: .slice (some (.new q 0)) l.length l.length false :: .int .i64 i :: .int .i64 2 :: .agg [.str k_definitionURL, .str [], .str []] :: .slice la l.length cap true :: .slice (some (.new q 0)) l.length l.length false :: .slice (some (.new q 0)) l.length l.length false :: .int .i64 ((l.length : Int)) :: .int .i64 i :: .bool (decide (i < ((l.length : Int)))) :: .int .i64 i :: .slice (some (.new q 0)) l.length l.length false :: .int .i64 i :: .slice (some (.new tb 0)) 3 3 true :: .slice (some (.new q 0)) l.length l.length false :: .int .i64 i :: .ptr (some (.new q (0 + i.toNat * 2))) :: .ptr (some (.new q (0 + i.toNat * 2 + 0))) :: .str ((gt cur i).fName) :: .str k_definitionURL :: d26 :: d27 :: d28 :: U :: []), [], h, none⟩ (by kernel_rfl) ?_
        refine WpM.opD (.ptr (some (.new q (0 + i.toNat * 2)))) _ (by kernel_rfl) (by kernel_rfl) (indexAddr_sl (e := 39) (a := (.new q 0)) (len := l.length) (lb := l.length) (ex := false) (z := 2) (k := .i64) (n := i) (by kernel_rfl) (by kernel_rfl) (by kernel_rfl) (by kernel_rfl) (by omega)) (by kernel_rfl) ?_
        refine WpM.run tab_ok 1 ⟨.draw m15_19 ((11, p15_19_11) :: o15_19.drop 12) [(8, h)], [.blk 1, .seq x15_20, .loop x15_11, .blk 0, .seq x15_21], (.int .i64 2 :: .slice la l.length cap true :: U :: U :: .slice none 0 0 true :: .ptr (some (.new tb 0)) :: .slice (some (.new q 0)) l.length l.length false :: .int .i64 i :: .int .i64 2 :: .agg [.str k_definitionURL, .str [], .str []] :: .slice la l.length cap true :: .slice (some (.new q 0)) l.length l.length false :: .slice (some (.new q 0)) l.length l.length false :: .int .i64 ((l.length : Int)) :: .int .i64 i :: .bool (decide (i < ((l.length : Int)))) :: .int .i64 i :: .slice (some (.new q 0)) l.length l.length false :: .int .i64 i :: .slice (some (.new tb 0)) 3 3 true :: .slice (some (.new q 0)) l.length l.length false :: .int .i64 i :: .ptr (some (.new q (0 + i.toNat * 2))) :: .ptr (some (.new q (0 + i.toNat * 2 + 0))) :: .str ((gt cur i).fName) :: .str k_definitionURL :: .ptr (some (.new q (0 + i.toNat * 2))) :: .ptr (some (.new q (0 + i.toNat * 2 + 0))) :: d28 :: U :: []), [], h, none⟩ (by kernel_rfl) ?_
        refine WpM.opDS U q (some (.cells (rv T39.cells (cur.set i.toNat ((⟨k_definitionURL, ((gt cur i).fValue)⟩ : T39)))) 39)) (by kernel_rfl) (by kernel_rfl) (store_new (o := (0 + i.toNat * 2 + 0)) (v := .str k_definitionURL) (by kernel_rfl) (by kernel_rfl) g1 (rv_st (z := 2) (f := T39.cells) (fun _ => rfl) (i := i) (x := (⟨k_definitionURL, ((gt cur i).fValue)⟩ : T39)) (by omega) (off := 0) (by kernel_rfl) (by kernel_rfl) (Nat.le_of_ble_eq_true rfl) (by kernel_rfl) (by omega))) (fun h103 a104 => ?_)
        refine WpM.run tab_ok 4 ⟨.ops (p15_20_0 :: o15_20.drop 1), [.loop x15_11, .blk 0, .seq x15_21], (.int .i64 2 :: .slice la l.length cap true :: U :: U :: .slice none 0 0 true :: .ptr (some (.new tb 0)) :: .slice (some (.new q 0)) l.length l.length false :: .int .i64 i :: .int .i64 2 :: .agg [.str k_definitionURL, .str [], .str []] :: .slice la l.length cap true :: .slice (some (.new q 0)) l.length l.length false :: .slice (some (.new q 0)) l.length l.length false :: .int .i64 ((l.length : Int)) :: .int .i64 i :: .bool (decide (i < ((l.length : Int)))) :: .int .i64 i :: .slice (some (.new q 0)) l.length l.length false :: .int .i64 i :: .slice (some (.new tb 0)) 3 3 true :: .slice (some (.new q 0)) l.length l.length false :: .int .i64 i :: .ptr (some (.new q (0 + i.toNat * 2))) :: .ptr (some (.new q (0 + i.toNat * 2 + 0))) :: .str ((gt cur i).fName) :: .str k_definitionURL :: .ptr (some (.new q (0 + i.toNat * 2))) :: .ptr (some (.new q (0 + i.toNat * 2 + 0))) :: d28 :: U :: []), [], h103, none⟩ (by kernel_rfl) ?_
        refine WpM.op (.int .i64 (i + 1)) _ (by kernel_rfl) (arith_add (by kernel_rfl) (by kernel_rfl) (by omega)) ?_
        refine WpM.run tab_ok 3 ⟨.code x15_11, [.loop x15_11, .blk 0, .seq x15_21], (.int .i64 2 :: .slice la l.length cap true :: U :: U :: .slice none 0 0 true :: .ptr (some (.new tb 0)) :: .slice (some (.new q 0)) l.length l.length false :: .int .i64 i :: .int .i64 2 :: .agg [.str k_definitionURL, .str [], .str []] :: .slice la l.length cap true :: .slice (some (.new q 0)) l.length l.length false :: .slice (some (.new q 0)) l.length l.length false :: .int .i64 ((l.length : Int)) :: .int .i64 (i + 1) :: .bool (decide (i < ((l.length : Int)))) :: .int .i64 i :: .slice (some (.new q 0)) l.length l.length false :: .int .i64 i :: .slice (some (.new tb 0)) 3 3 true :: .slice (some (.new q 0)) l.length l.length false :: .int .i64 i :: .ptr (some (.new q (0 + i.toNat * 2))) :: .ptr (some (.new q (0 + i.toNat * 2 + 0))) :: .str ((gt cur i).fName) :: .str k_definitionURL :: .ptr (some (.new q (0 + i.toNat * 2))) :: .ptr (some (.new q (0 + i.toNat * 2 + 0))) :: .int .i64 (i + 1) :: U :: []), [], h103, none⟩ (by kernel_rfl) ?_
        refine ih _ ?_ _ h103 q tb (cur.set i.toNat ((⟨k_definitionURL, ((gt cur i).fValue)⟩ : T39))) _ _ _ _ _ _ _ _ _ _ _ _ _ _ _ rfl ?_ ?_ ?_ ?_ ?_ ?_ ?_ ?_ ?_ ?_
        · omega
        · omega
        · omega
        · have hg2 := hg (by omega)
          rw [← adjAt_step h0i (by omega), ← hc]
          congr 1
          rw [← hg2]
          first
            | (simp only [adj, adjN, capM, c102, Bool.true_and, Bool.false_and, Bool.and_true, Bool.and_false, Bool.or_false, Bool.false_or, Bool.true_or, Bool.or_true, Bool.not_true, Bool.not_false, Int.reduceBEq, beq_self_eq_true, if_true, Bool.false_eq_true, if_false]; done)
            | (simp only [adj, adjN, capM, c102, Bool.true_and, Bool.false_and, Bool.and_true, Bool.and_false, Bool.or_false, Bool.false_or, Bool.true_or, Bool.or_true, Bool.not_true, Bool.not_false, Int.reduceBEq, beq_self_eq_true, if_true, Bool.false_eq_true, if_false]; rfl)
        · exact a104.get
        · exact (a104.keep (by omega) g2)
        · exact (a104.le l1)
        · exact (a104.le l2)
        · exact (hx.put a104 (by have := (hx).nx; have := a104.nx; omega))
        · omega
        · omega
      · have c102p := beq_f c102
        refine WpM.run tab_ok 22 ⟨.ops (p23_14_1 :: o23_14.drop 2), [.seq x23_15, .blk 1, .seq x23_20, .loop x23_7, .blk 0, .seq x23_21, .callD [.tmp 4] (some 25) m15_19 (o15_19.drop 7) [(8, h)] (.int .i64 2 :: .slice la l.length cap true :: U :: U :: .slice none 0 0 true :: .ptr (some (.new tb 0)) :: .slice (some (.new q 0)) l.length l.length false :: .int .i64 i :: .int .i64 2 :: .agg [.str k_definitionURL, .str [], .str []] :: .slice la l.length cap true :: .slice (some (.new q 0)) l.length l.length false :: .slice (some (.new q 0)) l.length l.length false :: .int .i64 ((l.length : Int)) :: .int .i64 i :: .bool (decide (i < ((l.length : Int)))) :: .int .i64 i :: d17 :: d18 :: .slice (some (.new tb 0)) 3 3 true :: .slice (some (.new q 0)) l.length l.length false :: .int .i64 i :: .ptr (some (.new q (0 + i.toNat * 2))) :: .ptr (some (.new q (0 + i.toNat * 2 + 0))) :: .str ((gt cur i).fName) :: d25 :: d26 :: d27 :: d28 :: U :: []) [] none, .blk 1, .seq x15_20, .loop x15_11, .blk 0, .seq x15_21], (.slice (some (.new tb 0)) 3 3 true :: .str ((gt cur i).fName) :: U :: U :: .str [] :: U :: .str k_definitionURL :: .slice (some (.new tb 0)) 3 3 true :: .int .i64 3 :: .int .i64 1 :: .bool true :: .ptr (some (.new tb 1)) :: .str k_definitionURL :: .str k_definitionURL :: .bool true :: .bool true :: .str k_definitionURL :: .str k_definitionurl :: .str ((gt cur i).fName) :: .bool ((k_definitionurl : List UInt8) == ((gt cur i).fName)) :: .bool ((k_definitionurl : List UInt8) == ((gt cur i).fName)) :: U :: .int .i64 1 :: U :: []), [], h, none⟩ (by kernel_rfl) ?_
        refine WpM.op (.str []) _ (by kernel_rfl) (load_new (o := 1) (by kernel_rfl) g2 (by kernel_rfl)) ?_
        refine WpM.run tab_ok 38 ⟨.ops (p23_14_1 :: o23_14.drop 2), [.seq x23_15, .blk 1, .seq x23_20, .loop x23_7, .blk 0, .seq x23_21, .callD [.tmp 4] (some 25) m15_19 (o15_19.drop 7) [(8, h)] (.int .i64 2 :: .slice la l.length cap true :: U :: U :: .slice none 0 0 true :: .ptr (some (.new tb 0)) :: .slice (some (.new q 0)) l.length l.length false :: .int .i64 i :: .int .i64 2 :: .agg [.str k_definitionURL, .str [], .str []] :: .slice la l.length cap true :: .slice (some (.new q 0)) l.length l.length false :: .slice (some (.new q 0)) l.length l.length false :: .int .i64 ((l.length : Int)) :: .int .i64 i :: .bool (decide (i < ((l.length : Int)))) :: .int .i64 i :: d17 :: d18 :: .slice (some (.new tb 0)) 3 3 true :: .slice (some (.new q 0)) l.length l.length false :: .int .i64 i :: .ptr (some (.new q (0 + i.toNat * 2))) :: .ptr (some (.new q (0 + i.toNat * 2 + 0))) :: .str ((gt cur i).fName) :: d25 :: d26 :: d27 :: d28 :: U :: []) [] none, .blk 1, .seq x15_20, .loop x15_11, .blk 0, .seq x15_21], (.slice (some (.new tb 0)) 3 3 true :: .str ((gt cur i).fName) :: U :: U :: .str [] :: U :: .str [] :: .slice (some (.new tb 0)) 3 3 true :: .int .i64 3 :: .int .i64 2 :: .bool true :: .ptr (some (.new tb 2)) :: .str [] :: .str [] :: .bool false :: .bool false :: U :: U :: U :: U :: .bool false :: U :: .int .i64 2 :: U :: []), [], h, none⟩ (by kernel_rfl) ?_
        refine WpM.op (.str []) _ (by kernel_rfl) (load_new (o := 2) (by kernel_rfl) g2 (by kernel_rfl)) ?_
        refine WpM.run tab_ok 46 ⟨.draw m15_19 ((9, p15_19_9) :: o15_19.drop 10) [(8, h)], [.blk 1, .seq x15_20, .loop x15_11, .blk 0, .seq x15_21], (.int .i64 2 :: .slice la l.length cap true :: U :: U :: .slice none 0 0 true :: .ptr (some (.new tb 0)) :: .slice (some (.new q 0)) l.length l.length false :: .int .i64 i :: .int .i64 2 :: .agg [.str k_definitionURL, .str [], .str []] :: .slice la l.length cap true :: .slice (some (.new q 0)) l.length l.length false :: .slice (some (.new q 0)) l.length l.length false :: .int .i64 ((l.length : Int)) :: .int .i64 i :: .bool (decide (i < ((l.length : Int)))) :: .int .i64 i :: .slice (some (.new q 0)) l.length l.length false :: .int .i64 i :: .slice (some (.new tb 0)) 3 3 true :: .slice (some (.new q 0)) l.length l.length false :: .int .i64 i :: .ptr (some (.new q (0 + i.toNat * 2))) :: .ptr (some (.new q (0 + i.toNat * 2 + 0))) :: .str ((gt cur i).fName) :: .str ((gt cur i).fName) :: d26 :: d27 :: d28 :: U :: []), [], h, none⟩ (by kernel_rfl) ?_
        refine WpM.opD (.ptr (some (.new q (0 + i.toNat * 2)))) _ (by kernel_rfl) (by kernel_rfl) (indexAddr_sl (e := 39) (a := (.new q 0)) (len := l.length) (lb := l.length) (ex := false) (z := 2) (k := .i64) (n := i) (by kernel_rfl) (by kernel_rfl) (by kernel_rfl) (by kernel_rfl) (by omega)) (by kernel_rfl) ?_
        refine WpM.run tab_ok 1 ⟨.draw m15_19 ((11, p15_19_11) :: o15_19.drop 12) [(8, h)], [.blk 1, .seq x15_20, .loop x15_11, .blk 0, .seq x15_21], (.int .i64 2 :: .slice la l.length cap true :: U :: U :: .slice none 0 0 true :: .ptr (some (.new tb 0)) :: .slice (some (.new q 0)) l.length l.length false :: .int .i64 i :: .int .i64 2 :: .agg [.str k_definitionURL, .str [], .str []] :: .slice la l.length cap true :: .slice (some (.new q 0)) l.length l.length false :: .slice (some (.new q 0)) l.length l.length false :: .int .i64 ((l.length : Int)) :: .int .i64 i :: .bool (decide (i < ((l.length : Int)))) :: .int .i64 i :: .slice (some (.new q 0)) l.length l.length false :: .int .i64 i :: .slice (some (.new tb 0)) 3 3 true :: .slice (some (.new q 0)) l.length l.length false :: .int .i64 i :: .ptr (some (.new q (0 + i.toNat * 2))) :: .ptr (some (.new q (0 + i.toNat * 2 + 0))) :: .str ((gt cur i).fName) :: .str ((gt cur i).fName) :: .ptr (some (.new q (0 + i.toNat * 2))) :: .ptr (some (.new q (0 + i.toNat * 2 + 0))) :: d28 :: U :: []), [], h, none⟩ (by kernel_rfl) ?_
        refine WpM.opDS U q (some (.cells (rv T39.cells (cur.set i.toNat ((gt cur i)))) 39)) (by kernel_rfl) (by kernel_rfl) (store_new (o := (0 + i.toNat * 2 + 0)) (v := .str ((gt cur i).fName)) (by kernel_rfl) (by kernel_rfl) g1 (rv_st (z := 2) (f := T39.cells) (fun _ => rfl) (i := i) (x := (gt cur i)) (by omega) (off := 0) (by kernel_rfl) (by kernel_rfl) (Nat.le_of_ble_eq_true rfl) (by kernel_rfl) (by omega))) (fun h105 a106 => ?_)
        refine WpM.run tab_ok 4 ⟨.ops (p15_20_0 :: o15_20.drop 1), [.loop x15_11, .blk 0, .seq x15_21], (.int .i64 2 :: .slice la l.length cap true :: U :: U :: .slice none 0 0 true :: .ptr (some (.new tb 0)) :: .slice (some (.new q 0)) l.length l.length false :: .int .i64 i :: .int .i64 2 :: .agg [.str k_definitionURL, .str [], .str []] :: .slice la l.length cap true :: .slice (some (.new q 0)) l.length l.length false :: .slice (some (.new q 0)) l.length l.length false :: .int .i64 ((l.length : Int)) :: .int .i64 i :: .bool (decide (i < ((l.length : Int)))) :: .int .i64 i :: .slice (some (.new q 0)) l.length l.length false :: .int .i64 i :: .slice (some (.new tb 0)) 3 3 true :: .slice (some (.new q 0)) l.length l.length false :: .int .i64 i :: .ptr (some (.new q (0 + i.toNat * 2))) :: .ptr (some (.new q (0 + i.toNat * 2 + 0))) :: .str ((gt cur i).fName) :: .str ((gt cur i).fName) :: .ptr (some (.new q (0 + i.toNat * 2))) :: .ptr (some (.new q (0 + i.toNat * 2 + 0))) :: d28 :: U :: []), [], h105, none⟩ (by kernel_rfl) ?_
        refine WpM.op (.int .i64 (i + 1)) _ (by kernel_rfl) (arith_add (by kernel_rfl) (by kernel_rfl) (by omega)) ?_
        refine WpM.run tab_ok 3 ⟨.code x15_11, [.loop x15_11, .blk 0, .seq x15_21], (.int .i64 2 :: .slice la l.length cap true :: U :: U :: .slice none 0 0 true :: .ptr (some (.new tb 0)) :: .slice (some (.new q 0)) l.length l.length false :: .int .i64 i :: .int .i64 2 :: .agg [.str k_definitionURL, .str [], .str []] :: .slice la l.length cap true :: .slice (some (.new q 0)) l.length l.length false :: .slice (some (.new q 0)) l.length l.length false :: .int .i64 ((l.length : Int)) :: .int .i64 (i + 1) :: .bool (decide (i < ((l.length : Int)))) :: .int .i64 i :: .slice (some (.new q 0)) l.length l.length false :: .int .i64 i :: .slice (some (.new tb 0)) 3 3 true :: .slice (some (.new q 0)) l.length l.length false :: .int .i64 i :: .ptr (some (.new q (0 + i.toNat * 2))) :: .ptr (some (.new q (0 + i.toNat * 2 + 0))) :: .str ((gt cur i).fName) :: .str ((gt cur i).fName) :: .ptr (some (.new q (0 + i.toNat * 2))) :: .ptr (some (.new q (0 + i.toNat * 2 + 0))) :: .int .i64 (i + 1) :: U :: []), [], h105, none⟩ (by kernel_rfl) ?_
        refine ih _ ?_ _ h105 q tb (cur.set i.toNat ((gt cur i))) _ _ _ _ _ _ _ _ _ _ _ _ _ _ _ rfl ?_ ?_ ?_ ?_ ?_ ?_ ?_ ?_ ?_ ?_
        · omega
        · omega
        · omega
        · have hg2 := hg (by omega)
          rw [← adjAt_step h0i (by omega), ← hc]
          congr 1
          rw [← hg2]
          first
            | (simp only [adj, adjN, capM, c102, Bool.true_and, Bool.false_and, Bool.and_true, Bool.and_false, Bool.or_false, Bool.false_or, Bool.true_or, Bool.or_true, Bool.not_true, Bool.not_false, Int.reduceBEq, beq_self_eq_true, if_true, Bool.false_eq_true, if_false]; done)
            | (simp only [adj, adjN, capM, c102, Bool.true_and, Bool.false_and, Bool.and_true, Bool.and_false, Bool.or_false, Bool.false_or, Bool.true_or, Bool.or_true, Bool.not_true, Bool.not_false, Int.reduceBEq, beq_self_eq_true, if_true, Bool.false_eq_true, if_false]; rfl)
        · exact a106.get
        · exact (a106.keep (by omega) g2)
        · exact (a106.le l1)
        · exact (a106.le l2)
        · exact (hx.put a106 (by have := (hx).nx; have := a106.nx; omega))
        · omega
        · omega
    · have c101p := dec_f c101
      refine WpM.run tab_ok 12 ⟨.done .ret, [], (.int .i64 2 :: .slice la l.length cap true :: U :: U :: .slice (some (.new q 0)) l.length l.length false :: .ptr (some (.new tb 0)) :: .slice (some (.new q 0)) l.length l.length false :: d7 :: .int .i64 2 :: .agg [.str k_definitionURL, .str [], .str []] :: .slice la l.length cap true :: .slice (some (.new q 0)) l.length l.length false :: .slice (some (.new q 0)) l.length l.length false :: .int .i64 ((l.length : Int)) :: .int .i64 i :: .bool (decide (i < ((l.length : Int)))) :: d16 :: d17 :: d18 :: d19 :: d20 :: d21 :: d22 :: d23 :: d24 :: d25 :: d26 :: d27 :: d28 :: .slice (some (.new q 0)) l.length l.length false :: []), [], h, none⟩ (by kernel_rfl) ?_
      refine WpM.ret (.slice (some (.new q 0)) l.length l.length false) h (by kernel_rfl) (by kernel_rfl) ?_
      exact ⟨hx, q, rfl, by rw [← adjAt_end (i := i) (by omega), ← hc]; exact g1, l1⟩
theorem attrs2_ok {W : World} {la : Option Ad} {l : List T39} {cap : Nat} {h0 : H} (hA : Arr W 2 T39.cells la l) (hb : l.length ≤ 100000) (hn : 0 < l.length) : WpF Try.prog W prim5 15 [.int .i64 2, .slice la l.length cap true] h0 (fun v h' => HX h0 h' ∧ ∃ q, v = .slice (some (.new q 0)) l.length l.length false ∧ h'.get q = some (.cells (rv T39.cells (l.map (adj 2))) 39) ∧ q < h'.nx) := by
  refine WpF.m tab_ok (by kernel_rfl) rfl ?_
  refine WpM.cfg (c' := ⟨.code x15_0, [], (.int .i64 2 :: .slice la l.length cap true :: us 28), [], h0, none⟩) (by kernel_rfl) ?_
  refine WpM.run tab_ok 11 ⟨.ops (p27_1_0 :: o27_1.drop 1), [.seq x27_2, .call [.cell 2 47] (some 9) (o15_3.drop 2) (.int .i64 2 :: .slice la l.length cap true :: U :: U :: .slice none 0 0 true :: U :: U :: U :: .int .i64 2 :: us 21) [] none, .seq x15_4], [.int .i64 2, U, U, U, U, U, U, U, U, U, U], [], h0, none⟩ (by kernel_rfl) ?_
  refine WpM.opA (fun p => .ptr (some (.new p 0))) (.cells [.str [], .str [], .str []] 47) (by kernel_rfl) (by kernel_rfl) (fun p1 h2 a3 => ?_)
  refine WpM.run tab_ok 26 ⟨.ops (p27_15_1 :: o27_15.drop 2), [.seq .ret, .blk 0, .seq x27_16, .call [.cell 2 47] (some 9) (o15_3.drop 2) (.int .i64 2 :: .slice la l.length cap true :: U :: U :: .slice none 0 0 true :: U :: U :: U :: .int .i64 2 :: us 21) [] none, .seq x15_4], [.int .i64 2, U, .ptr (some (.new p1 0)), .int .i64 2, .bool false, .bool false, U, .bool true, .bool true, .agg [.str k_definitionURL, .str [], .str []], U], [], h2, none⟩ (by kernel_rfl) ?_
  refine WpM.opS U p1 (some (.cells [.str k_definitionURL, .str [], .str []] 47)) (by kernel_rfl) (store_new (o := 0) (v := .agg [.str k_definitionURL, .str [], .str []]) (by kernel_rfl) (by kernel_rfl) a3.get (by kernel_rfl)) (fun h4 a5 => ?_)
  refine WpM.run tab_ok 5 ⟨.done .ret, [.call [.cell 2 47] (some 9) (o15_3.drop 2) (.int .i64 2 :: .slice la l.length cap true :: U :: U :: .slice none 0 0 true :: U :: U :: U :: .int .i64 2 :: us 21) [] none, .seq x15_4], [.int .i64 2, U, .ptr (some (.new p1 0)), .int .i64 2, .bool false, .bool false, U, .bool true, .bool true, .agg [.str k_definitionURL, .str [], .str []], U], [], h4, none⟩ (by kernel_rfl) ?_
  refine WpM.pop (.agg [.str k_definitionURL, .str [], .str []]) (by kernel_rfl) (resL_cell1 (o := 0) (by kernel_rfl) a5.get (by kernel_rfl)) ?_
  refine WpM.run tab_ok 0 ⟨.ops (p15_3_2 :: o15_3.drop 3), [.seq x15_4], (.int .i64 2 :: .slice la l.length cap true :: U :: U :: .slice none 0 0 true :: U :: U :: U :: .int .i64 2 :: .agg [.str k_definitionURL, .str [], .str []] :: us 20), [], h4, none⟩ (by kernel_rfl) ?_
  refine WpM.opA (fun p => .ptr (some (.new p 0))) (.cells [.str [], .str [], .str []] 47) (by kernel_rfl) (by kernel_rfl) (fun p6 h7 a8 => ?_)
  refine WpM.run tab_ok 0 ⟨.ops (p15_3_3 :: o15_3.drop 4), [.seq x15_4], (.int .i64 2 :: .slice la l.length cap true :: U :: U :: .slice none 0 0 true :: .ptr (some (.new p6 0)) :: U :: U :: .int .i64 2 :: .agg [.str k_definitionURL, .str [], .str []] :: us 20), [], h7, none⟩ (by kernel_rfl) ?_
  refine WpM.opS U p6 (some (.cells [.str k_definitionURL, .str [], .str []] 47)) (by kernel_rfl) (store_new (o := 0) (v := .agg [.str k_definitionURL, .str [], .str []]) (by kernel_rfl) (by kernel_rfl) a8.get (by kernel_rfl)) (fun h9 a10 => ?_)
  refine WpM.run tab_ok 15 ⟨.ops (p28_4_1 :: o28_4.drop 2), [.seq x28_5, .seq x28_8, .call [.tmp 2] (some 11) (o15_5.drop 2) (.int .i64 2 :: .slice la l.length cap true :: U :: U :: .slice none 0 0 true :: .ptr (some (.new p6 0)) :: U :: U :: .int .i64 2 :: .agg [.str k_definitionURL, .str [], .str []] :: .slice la l.length cap true :: us 19) [] none, .seq x15_6], [.slice la l.length cap true, U, .slice none 0 0 true, .slice la l.length cap true, U, U, U, U], [], h9, none⟩ (by kernel_rfl) ?_
  refine WpM.op (.bool false) _ (by kernel_rfl) (eq_nil (e := 39) (a := la) (n := l.length) (lb := cap) (ex := true) (by kernel_rfl) (by kernel_rfl) (hA.some hn).1 (by kernel_rfl)) ?_
  refine WpM.run tab_ok 7 ⟨.ops (p28_9_0 :: o28_9.drop 1), [.seq .ret, .call [.tmp 2] (some 11) (o15_5.drop 2) (.int .i64 2 :: .slice la l.length cap true :: U :: U :: .slice none 0 0 true :: .ptr (some (.new p6 0)) :: U :: U :: .int .i64 2 :: .agg [.str k_definitionURL, .str [], .str []] :: .slice la l.length cap true :: us 19) [] none, .seq x15_6], [.slice la l.length cap true, U, .slice none 0 0 true, .slice la l.length cap true, .bool false, U, U, U], [], h9, none⟩ (by kernel_rfl) ?_
  refine WpM.opA (fun p => .slice (some (.new p 0)) 0 0 true) (.cells [] 39) (by kernel_rfl) (by kernel_rfl) (fun p11 h12 a13 => ?_)
  refine WpM.run tab_ok 1 ⟨.ops (p28_9_2 :: o28_9.drop 3), [.seq .ret, .call [.tmp 2] (some 11) (o15_5.drop 2) (.int .i64 2 :: .slice la l.length cap true :: U :: U :: .slice none 0 0 true :: .ptr (some (.new p6 0)) :: U :: U :: .int .i64 2 :: .agg [.str k_definitionURL, .str [], .str []] :: .slice la l.length cap true :: us 19) [] none, .seq x15_6], [.slice la l.length cap true, U, .slice none 0 0 true, .slice la l.length cap true, .bool false, .slice (some (.new p11 0)) 0 0 true, .slice la l.length cap true, U], [], h12, none⟩ (by kernel_rfl) ?_
  refine WpM.opA (fun p => .slice (some (.new p 0)) l.length l.length false) (.cells (rv T39.cells l) 39) (by kernel_rfl) (app_step (s := .slice (some (.new p11 0)) 0 0 true) (x := .slice la l.length cap true) (by kernel_rfl) (by kernel_rfl) (app_op (at0 := 25) (at1 := 25) (e := 39) (size := 2) (bytes := 32) (n := l.length) (z0 := .agg [.str [], .str []]) (nc := (rv T39.cells l)) (by kernel_rfl) (by kernel_rfl) (by kernel_rfl) (by kernel_rfl) rfl rfl rfl (arr_first hA _) (app_empty (by omega) (rv_length (f := T39.cells) (fun _ => rfl) _) (rv_all_one (fun _ => rfl) _) (by omega) (by omega)))) (fun p14 h15 a16 => ?_)
  refine WpM.run tab_ok 18 ⟨.code x15_11, [.loop x15_11, .blk 0, .seq x15_21], (.int .i64 2 :: .slice la l.length cap true :: U :: U :: .slice none 0 0 true :: .ptr (some (.new p6 0)) :: .slice (some (.new p14 0)) l.length l.length false :: U :: .int .i64 2 :: .agg [.str k_definitionURL, .str [], .str []] :: .slice la l.length cap true :: .slice (some (.new p14 0)) l.length l.length false :: .slice (some (.new p14 0)) l.length l.length false :: .int .i64 ((l.length : Int)) :: .int .i64 0 :: us 15), [], h15, none⟩ (by kernel_rfl) ?_
  exact attrs2_loop hA hb _ 0 _ _ _ l _ _ _ _ _ _ _ _ _ _ _ _ _ _ _ rfl (by omega) (by omega) (adjAt_zero _ _).symm a16.get (a16.keep (a13.le (a10.le a8.lt)) (a13.keep (a10.le a8.lt) a10.get)) a16.lt (a16.le (a13.le (a10.le a8.lt))) (((((((HX.refl h0).alloc a3).put a5 (by have := a3.eq; have := a3.nx; have := a5.nx; have := a8.eq; have := a8.nx; have := a10.nx; have := a13.eq; have := a13.nx; have := a16.eq; have := a16.nx; omega)).alloc a8).put a10 (by have := a3.eq; have := a3.nx; have := a5.nx; have := a8.eq; have := a8.nx; have := a10.nx; have := a13.eq; have := a13.nx; have := a16.eq; have := a16.nx; omega)).alloc a13).alloc a16) (by have := a3.eq; have := a3.nx; have := a5.nx; have := a8.eq; have := a8.nx; have := a10.nx; have := a13.eq; have := a13.nx; have := a16.eq; have := a16.nx; omega) (by have := a3.eq; have := a3.nx; have := a5.nx; have := a8.eq; have := a8.nx; have := a10.nx; have := a13.eq; have := a13.nx; have := a16.eq; have := a16.nx; omega)
theorem attrs0_loop {W : World} {la : Option Ad} {l : List T39} {cap : Nat} {h0 : H} (hA : Arr W 2 T39.cells la l) (hb : l.length ≤ 100000)  {p : Int} (hp1 : (p == 1) = false) (hp2 : (p == 2) = false) (n : Nat) : ∀ (i : Int) (h : H) (q tb : Nat) (cur : List T39) (d7 d15 d16 d17 d18 d19 d20 d21 d22 d23 d24 d25 d26 d27 d28 : V), n = ((l.length : Int) - i).toNat → (0 ≤ i) → (i ≤ (l.length : Int)) → (cur = adjAt p l i) → (h.get q = some (.cells (rv T39.cells cur) 39)) → (h.get tb = some (.cells [.str [], .str [], .str []] 47)) → (q < h.nx) → (tb < h.nx) → (HX h0 h) → (h0.nx ≤ q) → (q ≠ tb) → WpM Try.prog W prim5 ⟨.code x15_11, [.loop x15_11, .blk 0, .seq x15_21], (.int .i64 p :: .slice la l.length cap true :: U :: U :: .slice none 0 0 true :: .ptr (some (.new tb 0)) :: .slice (some (.new q 0)) l.length l.length false :: d7 :: .int .i64 p :: .agg [.str [], .str [], .str []] :: .slice la l.length cap true :: .slice (some (.new q 0)) l.length l.length false :: .slice (some (.new q 0)) l.length l.length false :: .int .i64 ((l.length : Int)) :: .int .i64 i :: d15 :: d16 :: d17 :: d18 :: d19 :: d20 :: d21 :: d22 :: d23 :: d24 :: d25 :: d26 :: d27 :: d28 :: U :: []), [], h, none⟩ (retQ Try.prog W [.tmp 4] (fun v h' => HX h0 h' ∧ ∃ q, v = .slice (some (.new q 0)) l.length l.length false ∧ h'.get q = some (.cells (rv T39.cells (l.map (adj p))) 39) ∧ q < h'.nx)) := by
  induction n using Nat.strongRecOn with
  | _ n ih =>
    intro i h q tb cur d7 d15 d16 d17 d18 d19 d20 d21 d22 d23 d24 d25 d26 d27 d28 hn h0i h1i hc g1 g2 l1 l2 hx hq hne
    have hl : cur.length = l.length := by rw [hc, adjAt_length]
    have hg : i < (l.length : Int) → gt cur i = gt l i := fun hh => by rw [hc, adjAt_gt h0i hh]
    refine WpM.run tab_ok 6 ⟨.code x15_14, [.seq x15_15, .loop x15_11, .blk 0, .seq x15_21], (.int .i64 p :: .slice la l.length cap true :: U :: U :: .slice none 0 0 true :: .ptr (some (.new tb 0)) :: .slice (some (.new q 0)) l.length l.length false :: d7 :: .int .i64 p :: .agg [.str [], .str [], .str []] :: .slice la l.length cap true :: .slice (some (.new q 0)) l.length l.length false :: .slice (some (.new q 0)) l.length l.length false :: .int .i64 ((l.length : Int)) :: .int .i64 i :: .bool (decide (i < ((l.length : Int)))) :: d16 :: d17 :: d18 :: d19 :: d20 :: d21 :: d22 :: d23 :: d24 :: d25 :: d26 :: d27 :: d28 :: U :: []), [], h, none⟩ (by kernel_rfl) ?_
    refine WpM.cond (t := (decide (i < ((l.length : Int))))) (by kernel_rfl) (fun c101 => ?_) (fun c101 => ?_)
    · have c101p := dec_t c101
      refine WpM.run tab_ok 14 ⟨.draw m15_19 ((5, p15_19_3) :: o15_19.drop 4) [], [.blk 1, .seq x15_20, .loop x15_11, .blk 0, .seq x15_21], (.int .i64 p :: .slice la l.length cap true :: U :: U :: .slice none 0 0 true :: .ptr (some (.new tb 0)) :: .slice (some (.new q 0)) l.length l.length false :: .int .i64 i :: .int .i64 p :: .agg [.str [], .str [], .str []] :: .slice la l.length cap true :: .slice (some (.new q 0)) l.length l.length false :: .slice (some (.new q 0)) l.length l.length false :: .int .i64 ((l.length : Int)) :: .int .i64 i :: .bool (decide (i < ((l.length : Int)))) :: .int .i64 i :: d17 :: d18 :: .slice (some (.new tb 0)) 3 3 true :: .slice (some (.new q 0)) l.length l.length false :: .int .i64 i :: d22 :: d23 :: d24 :: d25 :: d26 :: d27 :: d28 :: U :: []), [], h, none⟩ (by kernel_rfl) ?_
      refine WpM.opD (.ptr (some (.new q (0 + i.toNat * 2)))) _ (by kernel_rfl) (by kernel_rfl) (indexAddr_sl (e := 39) (a := (.new q 0)) (len := l.length) (lb := l.length) (ex := false) (z := 2) (k := .i64) (n := i) (by kernel_rfl) (by kernel_rfl) (by kernel_rfl) (by kernel_rfl) (by omega)) (by kernel_rfl) ?_
      refine WpM.run tab_ok 1 ⟨.draw m15_19 ((7, p15_19_5) :: o15_19.drop 6) [], [.blk 1, .seq x15_20, .loop x15_11, .blk 0, .seq x15_21], (.int .i64 p :: .slice la l.length cap true :: U :: U :: .slice none 0 0 true :: .ptr (some (.new tb 0)) :: .slice (some (.new q 0)) l.length l.length false :: .int .i64 i :: .int .i64 p :: .agg [.str [], .str [], .str []] :: .slice la l.length cap true :: .slice (some (.new q 0)) l.length l.length false :: .slice (some (.new q 0)) l.length l.length false :: .int .i64 ((l.length : Int)) :: .int .i64 i :: .bool (decide (i < ((l.length : Int)))) :: .int .i64 i :: d17 :: d18 :: .slice (some (.new tb 0)) 3 3 true :: .slice (some (.new q 0)) l.length l.length false :: .int .i64 i :: .ptr (some (.new q (0 + i.toNat * 2))) :: .ptr (some (.new q (0 + i.toNat * 2 + 0))) :: d24 :: d25 :: d26 :: d27 :: d28 :: U :: []), [], h, none⟩ (by kernel_rfl) ?_
      refine WpM.opD (.str ((gt cur i).fName)) _ (by kernel_rfl) (by kernel_rfl) (load_new (o := (0 + i.toNat * 2 + 0)) (by kernel_rfl) g1 (rv_ld (z := 2) (f := T39.cells) (fun _ => rfl) (i := i) (by omega) (off := 0) (by kernel_rfl) (by decide) (by kernel_rfl) (by omega))) (by kernel_rfl) ?_
      refine WpM.run tab_ok 30 ⟨.ops (p23_14_1 :: o23_14.drop 2), [.seq x23_15, .blk 1, .seq x23_20, .loop x23_7, .blk 0, .seq x23_21, .callD [.tmp 4] (some 25) m15_19 (o15_19.drop 7) [(8, h)] (.int .i64 p :: .slice la l.length cap true :: U :: U :: .slice none 0 0 true :: .ptr (some (.new tb 0)) :: .slice (some (.new q 0)) l.length l.length false :: .int .i64 i :: .int .i64 p :: .agg [.str [], .str [], .str []] :: .slice la l.length cap true :: .slice (some (.new q 0)) l.length l.length false :: .slice (some (.new q 0)) l.length l.length false :: .int .i64 ((l.length : Int)) :: .int .i64 i :: .bool (decide (i < ((l.length : Int)))) :: .int .i64 i :: d17 :: d18 :: .slice (some (.new tb 0)) 3 3 true :: .slice (some (.new q 0)) l.length l.length false :: .int .i64 i :: .ptr (some (.new q (0 + i.toNat * 2))) :: .ptr (some (.new q (0 + i.toNat * 2 + 0))) :: .str ((gt cur i).fName) :: d25 :: d26 :: d27 :: d28 :: U :: []) [] none, .blk 1, .seq x15_20, .loop x15_11, .blk 0, .seq x15_21], (.slice (some (.new tb 0)) 3 3 true :: .str ((gt cur i).fName) :: U :: U :: .str [] :: U :: U :: .slice (some (.new tb 0)) 3 3 true :: .int .i64 3 :: .int .i64 0 :: .bool true :: .ptr (some (.new tb 0)) :: us 12), [], h, none⟩ (by kernel_rfl) ?_
      refine WpM.op (.str []) _ (by kernel_rfl) (load_new (o := 0) (by kernel_rfl) g2 (by kernel_rfl)) ?_
      refine WpM.run tab_ok 38 ⟨.ops (p23_14_1 :: o23_14.drop 2), [.seq x23_15, .blk 1, .seq x23_20, .loop x23_7, .blk 0, .seq x23_21, .callD [.tmp 4] (some 25) m15_19 (o15_19.drop 7) [(8, h)] (.int .i64 p :: .slice la l.length cap true :: U :: U :: .slice none 0 0 true :: .ptr (some (.new tb 0)) :: .slice (some (.new q 0)) l.length l.length false :: .int .i64 i :: .int .i64 p :: .agg [.str [], .str [], .str []] :: .slice la l.length cap true :: .slice (some (.new q 0)) l.length l.length false :: .slice (some (.new q 0)) l.length l.length false :: .int .i64 ((l.length : Int)) :: .int .i64 i :: .bool (decide (i < ((l.length : Int)))) :: .int .i64 i :: d17 :: d18 :: .slice (some (.new tb 0)) 3 3 true :: .slice (some (.new q 0)) l.length l.length false :: .int .i64 i :: .ptr (some (.new q (0 + i.toNat * 2))) :: .ptr (some (.new q (0 + i.toNat * 2 + 0))) :: .str ((gt cur i).fName) :: d25 :: d26 :: d27 :: d28 :: U :: []) [] none, .blk 1, .seq x15_20, .loop x15_11, .blk 0, .seq x15_21], (.slice (some (.new tb 0)) 3 3 true :: .str ((gt cur i).fName) :: U :: U :: .str [] :: U :: .str [] :: .slice (some (.new tb 0)) 3 3 true :: .int .i64 3 :: .int .i64 1 :: .bool true :: .ptr (some (.new tb 1)) :: .str [] :: .str [] :: .bool false :: .bool false :: U :: U :: U :: U :: .bool false :: U :: .int .i64 1 :: U :: []), [], h, none⟩ (by kernel_rfl) ?_
      refine WpM.op (.str []) _ (by kernel_rfl) (load_new (o := 1) (by kernel_rfl) g2 (by kernel_rfl)) ?_
      refine WpM.run tab_ok 38 ⟨.ops (p23_14_1 :: o23_14.drop 2), [.seq x23_15, .blk 1, .seq x23_20, .loop x23_7, .blk 0, .seq x23_21, .callD [.tmp 4] (some 25) m15_19 (o15_19.drop 7) [(8, h)] (.int .i64 p :: .slice la l.length cap true :: U :: U :: .slice none 0 0 true :: .ptr (some (.new tb 0)) :: .slice (some (.new q 0)) l.length l.length false :: .int .i64 i :: .int .i64 p :: .agg [.str [], .str [], .str []] :: .slice la l.length cap true :: .slice (some (.new q 0)) l.length l.length false :: .slice (some (.new q 0)) l.length l.length false :: .int .i64 ((l.length : Int)) :: .int .i64 i :: .bool (decide (i < ((l.length : Int)))) :: .int .i64 i :: d17 :: d18 :: .slice (some (.new tb 0)) 3 3 true :: .slice (some (.new q 0)) l.length l.length false :: .int .i64 i :: .ptr (some (.new q (0 + i.toNat * 2))) :: .ptr (some (.new q (0 + i.toNat * 2 + 0))) :: .str ((gt cur i).fName) :: d25 :: d26 :: d27 :: d28 :: U :: []) [] none, .blk 1, .seq x15_20, .loop x15_11, .blk 0, .seq x15_21], (.slice (some (.new tb 0)) 3 3 true :: .str ((gt cur i).fName) :: U :: U :: .str [] :: U :: .str [] :: .slice (some (.new tb 0)) 3 3 true :: .int .i64 3 :: .int .i64 2 :: .bool true :: .ptr (some (.new tb 2)) :: .str [] :: .str [] :: .bool false :: .bool false :: U :: U :: U :: U :: .bool false :: U :: .int .i64 2 :: U :: []), [], h, none⟩ (by kernel_rfl) ?_
      refine WpM.op (.str []) _ (by kernel_rfl) (load_new (o := 2) (by kernel_rfl) g2 (by kernel_rfl)) ?_
      refine WpM.run tab_ok 46 ⟨.draw m15_19 ((9, p15_19_9) :: o15_19.drop 10) [(8, h)], [.blk 1, .seq x15_20, .loop x15_11, .blk 0, .seq x15_21], (.int .i64 p :: .slice la l.length cap true :: U :: U :: .slice none 0 0 true :: .ptr (some (.new tb 0)) :: .slice (some (.new q 0)) l.length l.length false :: .int .i64 i :: .int .i64 p :: .agg [.str [], .str [], .str []] :: .slice la l.length cap true :: .slice (some (.new q 0)) l.length l.length false :: .slice (some (.new q 0)) l.length l.length false :: .int .i64 ((l.length : Int)) :: .int .i64 i :: .bool (decide (i < ((l.length : Int)))) :: .int .i64 i :: .slice (some (.new q 0)) l.length l.length false :: .int .i64 i :: .slice (some (.new tb 0)) 3 3 true :: .slice (some (.new q 0)) l.length l.length false :: .int .i64 i :: .ptr (some (.new q (0 + i.toNat * 2))) :: .ptr (some (.new q (0 + i.toNat * 2 + 0))) :: .str ((gt cur i).fName) :: .str ((gt cur i).fName) :: d26 :: d27 :: d28 :: U :: []), [], h, none⟩ (by kernel_rfl) ?_
      refine WpM.opD (.ptr (some (.new q (0 + i.toNat * 2)))) _ (by kernel_rfl) (by kernel_rfl) (indexAddr_sl (e := 39) (a := (.new q 0)) (len := l.length) (lb := l.length) (ex := false) (z := 2) (k := .i64) (n := i) (by kernel_rfl) (by kernel_rfl) (by kernel_rfl) (by kernel_rfl) (by omega)) (by kernel_rfl) ?_
      refine WpM.run tab_ok 1 ⟨.draw m15_19 ((11, p15_19_11) :: o15_19.drop 12) [(8, h)], [.blk 1, .seq x15_20, .loop x15_11, .blk 0, .seq x15_21], (.int .i64 p :: .slice la l.length cap true :: U :: U :: .slice none 0 0 true :: .ptr (some (.new tb 0)) :: .slice (some (.new q 0)) l.length l.length false :: .int .i64 i :: .int .i64 p :: .agg [.str [], .str [], .str []] :: .slice la l.length cap true :: .slice (some (.new q 0)) l.length l.length false :: .slice (some (.new q 0)) l.length l.length false :: .int .i64 ((l.length : Int)) :: .int .i64 i :: .bool (decide (i < ((l.length : Int)))) :: .int .i64 i :: .slice (some (.new q 0)) l.length l.length false :: .int .i64 i :: .slice (some (.new tb 0)) 3 3 true :: .slice (some (.new q 0)) l.length l.length false :: .int .i64 i :: .ptr (some (.new q (0 + i.toNat * 2))) :: .ptr (some (.new q (0 + i.toNat * 2 + 0))) :: .str ((gt cur i).fName) :: .str ((gt cur i).fName) :: .ptr (some (.new q (0 + i.toNat * 2))) :: .ptr (some (.new q (0 + i.toNat * 2 + 0))) :: d28 :: U :: []), [], h, none⟩ (by kernel_rfl) ?_
      refine WpM.opDS U q (some (.cells (rv T39.cells (cur.set i.toNat ((gt cur i)))) 39)) (by kernel_rfl) (by kernel_rfl) (store_new (o := (0 + i.toNat * 2 + 0)) (v := .str ((gt cur i).fName)) (by kernel_rfl) (by kernel_rfl) g1 (rv_st (z := 2) (f := T39.cells) (fun _ => rfl) (i := i) (x := (gt cur i)) (by omega) (off := 0) (by kernel_rfl) (by kernel_rfl) (Nat.le_of_ble_eq_true rfl) (by kernel_rfl) (by omega))) (fun h102 a103 => ?_)
      refine WpM.run tab_ok 4 ⟨.ops (p15_20_0 :: o15_20.drop 1), [.loop x15_11, .blk 0, .seq x15_21], (.int .i64 p :: .slice la l.length cap true :: U :: U :: .slice none 0 0 true :: .ptr (some (.new tb 0)) :: .slice (some (.new q 0)) l.length l.length false :: .int .i64 i :: .int .i64 p :: .agg [.str [], .str [], .str []] :: .slice la l.length cap true :: .slice (some (.new q 0)) l.length l.length false :: .slice (some (.new q 0)) l.length l.length false :: .int .i64 ((l.length : Int)) :: .int .i64 i :: .bool (decide (i < ((l.length : Int)))) :: .int .i64 i :: .slice (some (.new q 0)) l.length l.length false :: .int .i64 i :: .slice (some (.new tb 0)) 3 3 true :: .slice (some (.new q 0)) l.length l.length false :: .int .i64 i :: .ptr (some (.new q (0 + i.toNat * 2))) :: .ptr (some (.new q (0 + i.toNat * 2 + 0))) :: .str ((gt cur i).fName) :: .str ((gt cur i).fName) :: .ptr (some (.new q (0 + i.toNat * 2))) :: .ptr (some (.new q (0 + i.toNat * 2 + 0))) :: d28 :: U :: []), [], h102, none⟩ (by kernel_rfl) ?_
      refine WpM.op (.int .i64 (i + 1)) _ (by kernel_rfl) (arith_add (by kernel_rfl) (by kernel_rfl) (by omega)) ?_
      refine WpM.run tab_ok 3 ⟨.code x15_11, [.loop x15_11, .blk 0, .seq x15_21], (.int .i64 p :: .slice la l.length cap true :: U :: U :: .slice none 0 0 true :: .ptr (some (.new tb 0)) :: .slice (some (.new q 0)) l.length l.length false :: .int .i64 i :: .int .i64 p :: .agg [.str [], .str [], .str []] :: .slice la l.length cap true :: .slice (some (.new q 0)) l.length l.length false :: .slice (some (.new q 0)) l.length l.length false :: .int .i64 ((l.length : Int)) :: .int .i64 (i + 1) :: .bool (decide (i < ((l.length : Int)))) :: .int .i64 i :: .slice (some (.new q 0)) l.length l.length false :: .int .i64 i :: .slice (some (.new tb 0)) 3 3 true :: .slice (some (.new q 0)) l.length l.length false :: .int .i64 i :: .ptr (some (.new q (0 + i.toNat * 2))) :: .ptr (some (.new q (0 + i.toNat * 2 + 0))) :: .str ((gt cur i).fName) :: .str ((gt cur i).fName) :: .ptr (some (.new q (0 + i.toNat * 2))) :: .ptr (some (.new q (0 + i.toNat * 2 + 0))) :: .int .i64 (i + 1) :: U :: []), [], h102, none⟩ (by kernel_rfl) ?_
      refine ih _ ?_ _ h102 q tb (cur.set i.toNat ((gt cur i))) _ _ _ _ _ _ _ _ _ _ _ _ _ _ _ rfl ?_ ?_ ?_ ?_ ?_ ?_ ?_ ?_ ?_ ?_
      · omega
      · omega
      · omega
      · have hg2 := hg (by omega)
        rw [← adjAt_step h0i (by omega), ← hc]
        congr 1
        rw [← hg2]
        first
          | (simp only [adj, adjN, capM, hp1, hp2, Bool.true_and, Bool.false_and, Bool.and_true, Bool.and_false, Bool.or_false, Bool.false_or, Bool.true_or, Bool.or_true, Bool.not_true, Bool.not_false, Int.reduceBEq, beq_self_eq_true, if_true, Bool.false_eq_true, if_false]; done)
          | (simp only [adj, adjN, capM, hp1, hp2, Bool.true_and, Bool.false_and, Bool.and_true, Bool.and_false, Bool.or_false, Bool.false_or, Bool.true_or, Bool.or_true, Bool.not_true, Bool.not_false, Int.reduceBEq, beq_self_eq_true, if_true, Bool.false_eq_true, if_false]; rfl)
      · exact a103.get
      · exact (a103.keep (by omega) g2)
      · exact (a103.le l1)
      · exact (a103.le l2)
      · exact (hx.put a103 (by have := (hx).nx; have := a103.nx; omega))
      · omega
      · omega
    · have c101p := dec_f c101
      refine WpM.run tab_ok 12 ⟨.done .ret, [], (.int .i64 p :: .slice la l.length cap true :: U :: U :: .slice (some (.new q 0)) l.length l.length false :: .ptr (some (.new tb 0)) :: .slice (some (.new q 0)) l.length l.length false :: d7 :: .int .i64 p :: .agg [.str [], .str [], .str []] :: .slice la l.length cap true :: .slice (some (.new q 0)) l.length l.length false :: .slice (some (.new q 0)) l.length l.length false :: .int .i64 ((l.length : Int)) :: .int .i64 i :: .bool (decide (i < ((l.length : Int)))) :: d16 :: d17 :: d18 :: d19 :: d20 :: d21 :: d22 :: d23 :: d24 :: d25 :: d26 :: d27 :: d28 :: .slice (some (.new q 0)) l.length l.length false :: []), [], h, none⟩ (by kernel_rfl) ?_
      refine WpM.ret (.slice (some (.new q 0)) l.length l.length false) h (by kernel_rfl) (by kernel_rfl) ?_
      exact ⟨hx, q, rfl, by rw [← adjAt_end (i := i) (by omega), ← hc]; exact g1, l1⟩
theorem attrs0_ok {W : World} {la : Option Ad} {l : List T39} {cap : Nat} {h0 : H} (hA : Arr W 2 T39.cells la l) (hb : l.length ≤ 100000) (hn : 0 < l.length) {p : Int} (hp1 : (p == 1) = false) (hp2 : (p == 2) = false) : WpF Try.prog W prim5 15 [.int .i64 p, .slice la l.length cap true] h0 (fun v h' => HX h0 h' ∧ ∃ q, v = .slice (some (.new q 0)) l.length l.length false ∧ h'.get q = some (.cells (rv T39.cells (l.map (adj p))) 39) ∧ q < h'.nx) := by
  refine WpF.m tab_ok (by kernel_rfl) rfl ?_
  refine WpM.cfg (c' := ⟨.code x15_0, [], (.int .i64 p :: .slice la l.length cap true :: us 28), [], h0, none⟩) (by kernel_rfl) ?_
  refine WpM.run tab_ok 11 ⟨.ops (p27_1_0 :: o27_1.drop 1), [.seq x27_2, .call [.cell 2 47] (some 9) (o15_3.drop 2) (.int .i64 p :: .slice la l.length cap true :: U :: U :: .slice none 0 0 true :: U :: U :: U :: .int .i64 p :: us 21) [] none, .seq x15_4], [.int .i64 p, U, U, U, U, U, U, U, U, U, U], [], h0, none⟩ (by kernel_rfl) ?_
  refine WpM.opA (fun p => .ptr (some (.new p 0))) (.cells [.str [], .str [], .str []] 47) (by kernel_rfl) (by kernel_rfl) (fun p1 h2 a3 => ?_)
  refine WpM.run tab_ok 15 ⟨.code x27_8, [.blk 0, .seq x27_16, .call [.cell 2 47] (some 9) (o15_3.drop 2) (.int .i64 p :: .slice la l.length cap true :: U :: U :: .slice none 0 0 true :: U :: U :: U :: .int .i64 p :: us 21) [] none, .seq x15_4], [.int .i64 p, U, .ptr (some (.new p1 0)), .int .i64 p, .bool (p == 1), .bool (p == 1), U, U, U, U, U], [], h2, none⟩ (by kernel_rfl) ?_
  refine WpM.cond (t := (p == 1)) (by kernel_rfl) (fun e_ => absurd (e_.symm.trans hp1) (by decide)) (fun e_ => ?_)
  refine WpM.run tab_ok 6 ⟨.code x27_13, [.blk 0, .seq x27_16, .call [.cell 2 47] (some 9) (o15_3.drop 2) (.int .i64 p :: .slice la l.length cap true :: U :: U :: .slice none 0 0 true :: U :: U :: U :: .int .i64 p :: us 21) [] none, .seq x15_4], [.int .i64 p, U, .ptr (some (.new p1 0)), .int .i64 p, .bool (p == 1), .bool (p == 1), U, .bool (p == 2), .bool (p == 2), U, U], [], h2, none⟩ (by kernel_rfl) ?_
  refine WpM.cond (t := (p == 2)) (by kernel_rfl) (fun e_ => absurd (e_.symm.trans hp2) (by decide)) (fun e_ => ?_)
  refine WpM.run tab_ok 6 ⟨.ops (p27_17_1 :: o27_17.drop 2), [.seq .ret, .call [.cell 2 47] (some 9) (o15_3.drop 2) (.int .i64 p :: .slice la l.length cap true :: U :: U :: .slice none 0 0 true :: U :: U :: U :: .int .i64 p :: us 21) [] none, .seq x15_4], [.int .i64 p, U, .ptr (some (.new p1 0)), .int .i64 p, .bool (p == 1), .bool (p == 1), U, .bool (p == 2), .bool (p == 2), U, .agg [.str [], .str [], .str []]], [], h2, none⟩ (by kernel_rfl) ?_
  refine WpM.opS U p1 (some (.cells [.str [], .str [], .str []] 47)) (by kernel_rfl) (store_new (o := 0) (v := .agg [.str [], .str [], .str []]) (by kernel_rfl) (by kernel_rfl) a3.get (by kernel_rfl)) (fun h4 a5 => ?_)
  refine WpM.run tab_ok 3 ⟨.done .ret, [.call [.cell 2 47] (some 9) (o15_3.drop 2) (.int .i64 p :: .slice la l.length cap true :: U :: U :: .slice none 0 0 true :: U :: U :: U :: .int .i64 p :: us 21) [] none, .seq x15_4], [.int .i64 p, U, .ptr (some (.new p1 0)), .int .i64 p, .bool (p == 1), .bool (p == 1), U, .bool (p == 2), .bool (p == 2), U, .agg [.str [], .str [], .str []]], [], h4, none⟩ (by kernel_rfl) ?_
  refine WpM.pop (.agg [.str [], .str [], .str []]) (by kernel_rfl) (resL_cell1 (o := 0) (by kernel_rfl) a5.get (by kernel_rfl)) ?_
  refine WpM.run tab_ok 0 ⟨.ops (p15_3_2 :: o15_3.drop 3), [.seq x15_4], (.int .i64 p :: .slice la l.length cap true :: U :: U :: .slice none 0 0 true :: U :: U :: U :: .int .i64 p :: .agg [.str [], .str [], .str []] :: us 20), [], h4, none⟩ (by kernel_rfl) ?_
  refine WpM.opA (fun p => .ptr (some (.new p 0))) (.cells [.str [], .str [], .str []] 47) (by kernel_rfl) (by kernel_rfl) (fun p6 h7 a8 => ?_)
  refine WpM.run tab_ok 0 ⟨.ops (p15_3_3 :: o15_3.drop 4), [.seq x15_4], (.int .i64 p :: .slice la l.length cap true :: U :: U :: .slice none 0 0 true :: .ptr (some (.new p6 0)) :: U :: U :: .int .i64 p :: .agg [.str [], .str [], .str []] :: us 20), [], h7, none⟩ (by kernel_rfl) ?_
  refine WpM.opS U p6 (some (.cells [.str [], .str [], .str []] 47)) (by kernel_rfl) (store_new (o := 0) (v := .agg [.str [], .str [], .str []]) (by kernel_rfl) (by kernel_rfl) a8.get (by kernel_rfl)) (fun h9 a10 => ?_)
  refine WpM.run tab_ok 15 ⟨.ops (p28_4_1 :: o28_4.drop 2), [.seq x28_5, .seq x28_8, .call [.tmp 2] (some 11) (o15_5.drop 2) (.int .i64 p :: .slice la l.length cap true :: U :: U :: .slice none 0 0 true :: .ptr (some (.new p6 0)) :: U :: U :: .int .i64 p :: .agg [.str [], .str [], .str []] :: .slice la l.length cap true :: us 19) [] none, .seq x15_6], [.slice la l.length cap true, U, .slice none 0 0 true, .slice la l.length cap true, U, U, U, U], [], h9, none⟩ (by kernel_rfl) ?_
  refine WpM.op (.bool false) _ (by kernel_rfl) (eq_nil (e := 39) (a := la) (n := l.length) (lb := cap) (ex := true) (by kernel_rfl) (by kernel_rfl) (hA.some hn).1 (by kernel_rfl)) ?_
  refine WpM.run tab_ok 7 ⟨.ops (p28_9_0 :: o28_9.drop 1), [.seq .ret, .call [.tmp 2] (some 11) (o15_5.drop 2) (.int .i64 p :: .slice la l.length cap true :: U :: U :: .slice none 0 0 true :: .ptr (some (.new p6 0)) :: U :: U :: .int .i64 p :: .agg [.str [], .str [], .str []] :: .slice la l.length cap true :: us 19) [] none, .seq x15_6], [.slice la l.length cap true, U, .slice none 0 0 true, .slice la l.length cap true, .bool false, U, U, U], [], h9, none⟩ (by kernel_rfl) ?_
  refine WpM.opA (fun p => .slice (some (.new p 0)) 0 0 true) (.cells [] 39) (by kernel_rfl) (by kernel_rfl) (fun p11 h12 a13 => ?_)
  refine WpM.run tab_ok 1 ⟨.ops (p28_9_2 :: o28_9.drop 3), [.seq .ret, .call [.tmp 2] (some 11) (o15_5.drop 2) (.int .i64 p :: .slice la l.length cap true :: U :: U :: .slice none 0 0 true :: .ptr (some (.new p6 0)) :: U :: U :: .int .i64 p :: .agg [.str [], .str [], .str []] :: .slice la l.length cap true :: us 19) [] none, .seq x15_6], [.slice la l.length cap true, U, .slice none 0 0 true, .slice la l.length cap true, .bool false, .slice (some (.new p11 0)) 0 0 true, .slice la l.length cap true, U], [], h12, none⟩ (by kernel_rfl) ?_
  refine WpM.opA (fun p => .slice (some (.new p 0)) l.length l.length false) (.cells (rv T39.cells l) 39) (by kernel_rfl) (app_step (s := .slice (some (.new p11 0)) 0 0 true) (x := .slice la l.length cap true) (by kernel_rfl) (by kernel_rfl) (app_op (at0 := 25) (at1 := 25) (e := 39) (size := 2) (bytes := 32) (n := l.length) (z0 := .agg [.str [], .str []]) (nc := (rv T39.cells l)) (by kernel_rfl) (by kernel_rfl) (by kernel_rfl) (by kernel_rfl) rfl rfl rfl (arr_first hA _) (app_empty (by omega) (rv_length (f := T39.cells) (fun _ => rfl) _) (rv_all_one (fun _ => rfl) _) (by omega) (by omega)))) (fun p14 h15 a16 => ?_)
  refine WpM.run tab_ok 18 ⟨.code x15_11, [.loop x15_11, .blk 0, .seq x15_21], (.int .i64 p :: .slice la l.length cap true :: U :: U :: .slice none 0 0 true :: .ptr (some (.new p6 0)) :: .slice (some (.new p14 0)) l.length l.length false :: U :: .int .i64 p :: .agg [.str [], .str [], .str []] :: .slice la l.length cap true :: .slice (some (.new p14 0)) l.length l.length false :: .slice (some (.new p14 0)) l.length l.length false :: .int .i64 ((l.length : Int)) :: .int .i64 0 :: us 15), [], h15, none⟩ (by kernel_rfl) ?_
  exact attrs0_loop hA hb hp1 hp2 _ 0 _ _ _ l _ _ _ _ _ _ _ _ _ _ _ _ _ _ _ rfl (by omega) (by omega) (adjAt_zero _ _).symm a16.get (a16.keep (a13.le (a10.le a8.lt)) (a13.keep (a10.le a8.lt) a10.get)) a16.lt (a16.le (a13.le (a10.le a8.lt))) (((((((HX.refl h0).alloc a3).put a5 (by have := a3.eq; have := a3.nx; have := a5.nx; have := a8.eq; have := a8.nx; have := a10.nx; have := a13.eq; have := a13.nx; have := a16.eq; have := a16.nx; omega)).alloc a8).put a10 (by have := a3.eq; have := a3.nx; have := a5.nx; have := a8.eq; have := a8.nx; have := a10.nx; have := a13.eq; have := a13.nx; have := a16.eq; have := a16.nx; omega)).alloc a13).alloc a16) (by have := a3.eq; have := a3.nx; have := a5.nx; have := a8.eq; have := a8.nx; have := a10.nx; have := a13.eq; have := a13.nx; have := a16.eq; have := a16.nx; omega) (by have := a3.eq; have := a3.nx; have := a5.nx; have := a8.eq; have := a8.nx; have := a10.nx; have := a13.eq; have := a13.nx; have := a16.eq; have := a16.nx; omega)
theorem map_take_succ {p : Int} {l : List T39} {i : Int} (h0 : 0 ≤ i) (h : i < (l.length : Int)) : (l.take (i + 1).toNat).map (adj p) = (l.take i.toNat).map (adj p) ++ [adj p (gt l i)] := by
  rw [toNat_succ h0, gt_take h0 h, List.map_append]; rfl
end Go.Proofs.Ytjfnoiknjeklhaa.Dg
