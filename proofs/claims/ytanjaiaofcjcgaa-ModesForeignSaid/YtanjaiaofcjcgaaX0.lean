/-
  The code of chapter 21, as it is walked; names among names; what a token ends.
-/
import Derived.Test.YtanjaiaofcjcgaaChecked
import Derived.Test.YtanjaiaofcjcgaaDgS32
set_option linter.unusedVariables false
set_option linter.unusedSimpArgs false
namespace Go.Proofs.Ytanjaiaofcjcgaa.Dg
open Go Go.RowKit
set_option maxRecDepth 20000
def k_td : List UInt8 := [116, 100]
def k_th : List UInt8 := [116, 104]
def k_tbodytheadtfoot : List UInt8 := [116, 98, 111, 100, 121, 32, 116, 104, 101, 97, 100, 32, 116, 102, 111, 111, 116]
def k_tbody : List UInt8 := [116, 98, 111, 100, 121]
def k_thead : List UInt8 := [116, 104, 101, 97, 100]
def k_tfoot : List UInt8 := [116, 102, 111, 111, 116]
def k_captioncolcolgroup : List UInt8 := [99, 97, 112, 116, 105, 111, 110, 32, 99, 111, 108, 32, 99, 111, 108, 103, 114, 111, 117, 112]
def k_caption : List UInt8 := [99, 97, 112, 116, 105, 111, 110]
def k_col : List UInt8 := [99, 111, 108]
def k_colgroup : List UInt8 := [99, 111, 108, 103, 114, 111, 117, 112]
def k_tr : List UInt8 := [116, 114]
def k_table : List UInt8 := [116, 97, 98, 108, 101]
def k_head : List UInt8 := [104, 101, 97, 100]
def k_body : List UInt8 := [98, 111, 100, 121]
def k_html : List UInt8 := [104, 116, 109, 108]
def p3_1_0 : RO := ⟨none, some 4, .assign (.const (.bool false))⟩
def o3_1 : List RO := [p3_1_0]
def x3_1 : RC := .ops o3_1
def p3_4_0 : RO := ⟨none, some 5, .move (.tmp 0)⟩
def p3_4_1 : RO := ⟨none, some 6, .call ⟨.builtin .len, #[(.tmp 5)], #[22]⟩⟩
def p3_4_2 : RO := ⟨none, some 7, .binOp .gtr 3 (.tmp 6) (.const (.int .i64 (500))) 3⟩
def o3_4 : List RO := [p3_4_0, p3_4_1, p3_4_2]
def x3_4 : RC := .ops o3_4
def p3_7_0 : RO := ⟨none, some 8, .call ⟨.value (.func 7), #[], #[]⟩⟩
def p3_7_1 : RO := ⟨none, some 4, .assign (.tmp 8)⟩
def o3_7 : List RO := [p3_7_0, p3_7_1]
def x3_7 : RC := .ops o3_7
def x3_6 : RC := .seq x3_7 .ret
def x3_5 : RC := .cond (.tmp 7) x3_6 .skip
def x3_3 : RC := .seq x3_4 x3_5
def p3_9_0 : RO := ⟨none, some 9, .move (.tmp 0)⟩
def p3_9_1 : RO := ⟨none, some 10, .move (.tmp 1)⟩
def p3_9_2 : RO := ⟨none, some 11, .call ⟨.value (.func 8), #[(.tmp 9), (.tmp 10)], #[22, 4]⟩⟩
def p3_9_3 : RO := ⟨none, some 12, .move (.tmp 0)⟩
def p3_9_4 : RO := ⟨none, some 13, .move (.tmp 1)⟩
def p3_9_5 : RO := ⟨none, some 14, .call ⟨.value (.func 9), #[(.tmp 12), (.tmp 13)], #[22, 4]⟩⟩
def p3_9_6 : RO := ⟨none, some 15, .binOp .eql 3 (.tmp 11) (.tmp 14) 3⟩
def p3_9_7 : RO := ⟨none, some 16, .move (.tmp 15)⟩
def p3_9_8 : RO := ⟨some (some 16, true), some 17, .call ⟨.value (.func 7), #[], #[]⟩⟩
def p3_9_9 : RO := ⟨none, some 18, .pick (.tmp 16) (.tmp 17) (.const (.bool false))⟩
def p3_9_10 : RO := ⟨none, some 4, .assign (.tmp 18)⟩
def o3_9 : List RO := [p3_9_0, p3_9_1, p3_9_2, p3_9_3, p3_9_4, p3_9_5, p3_9_6, p3_9_7, p3_9_8, p3_9_9, p3_9_10]
def x3_9 : RC := .ops o3_9
def x3_8 : RC := .seq x3_9 .ret
def x3_2 : RC := .seq x3_3 x3_8
def x3_0 : RC := .seq x3_1 x3_2
theorem x3_eq : Try.f3.body.map rc = some x3_0 := by kernel_rfl
def p4_1_0 : RO := ⟨none, some 3, .box 30 (.tmp 1)⟩
def p4_1_1 : RO := ⟨none, some 4, .assign (.const (.bool false))⟩
def o4_1 : List RO := [p4_1_0, p4_1_1]
def x4_1 : RC := .ops o4_1
def p4_4_0 : RO := ⟨none, some 5, .fieldAddr 30 (.tmp 3) 2⟩
def p4_4_1 : RO := ⟨none, some 6, .load 9 (.tmp 5)⟩
def p4_4_2 : RO := ⟨none, some 7, .call ⟨.builtin .len, #[(.tmp 6)], #[9]⟩⟩
def p4_4_3 : RO := ⟨none, some 8, .binOp .gtr 3 (.tmp 7) (.const (.int .i64 (5000))) 3⟩
def o4_4 : List RO := [p4_4_0, p4_4_1, p4_4_2, p4_4_3]
def x4_4 : RC := .ops o4_4
def p4_7_0 : RO := ⟨none, some 9, .call ⟨.value (.func 7), #[], #[]⟩⟩
def p4_7_1 : RO := ⟨none, some 4, .assign (.tmp 9)⟩
def o4_7 : List RO := [p4_7_0, p4_7_1]
def x4_7 : RC := .ops o4_7
def x4_6 : RC := .seq x4_7 .ret
def x4_5 : RC := .cond (.tmp 8) x4_6 .skip
def x4_3 : RC := .seq x4_4 x4_5
def p4_9_0 : RO := ⟨none, some 10, .move (.tmp 0)⟩
def p4_9_1 : RO := ⟨none, some 11, .load 30 (.tmp 3)⟩
def p4_9_2 : RO := ⟨none, some 12, .call ⟨.value (.func 10), #[(.tmp 10), (.tmp 11)], #[3, 30]⟩⟩
def p4_9_3 : RO := ⟨none, some 13, .move (.tmp 0)⟩
def p4_9_4 : RO := ⟨none, some 14, .load 30 (.tmp 3)⟩
def p4_9_5 : RO := ⟨none, some 15, .call ⟨.value (.func 11), #[(.tmp 13), (.tmp 14)], #[3, 30]⟩⟩
def p4_9_6 : RO := ⟨none, some 16, .binOp .eql 4 (.tmp 12) (.tmp 15) 4⟩
def p4_9_7 : RO := ⟨none, some 17, .move (.tmp 16)⟩
def p4_9_8 : RO := ⟨some (some 17, true), some 18, .fieldAddr 30 (.tmp 3) 2⟩
def p4_9_9 : RO := ⟨some (some 17, true), some 19, .load 9 (.tmp 18)⟩
def p4_9_10 : RO := ⟨some (some 17, true), some 20, .call ⟨.value (.func 12), #[(.tmp 19)], #[9]⟩⟩
def p4_9_11 : RO := ⟨some (some 17, true), some 21, .fieldAddr 30 (.tmp 3) 2⟩
def p4_9_12 : RO := ⟨some (some 17, true), some 22, .load 9 (.tmp 21)⟩
def p4_9_13 : RO := ⟨some (some 17, true), some 23, .call ⟨.value (.func 13), #[(.tmp 22)], #[9]⟩⟩
def p4_9_14 : RO := ⟨some (some 17, true), some 24, .binOp .eql 4 (.tmp 20) (.tmp 23) 4⟩
def p4_9_15 : RO := ⟨none, some 25, .pick (.tmp 17) (.tmp 24) (.const (.bool false))⟩
def p4_9_16 : RO := ⟨none, some 26, .move (.tmp 25)⟩
def p4_9_17 : RO := ⟨some (some 26, true), some 27, .fieldAddr 30 (.tmp 3) 2⟩
def p4_9_18 : RO := ⟨some (some 26, true), some 28, .load 9 (.tmp 27)⟩
def p4_9_19 : RO := ⟨some (some 26, true), some 29, .call ⟨.value (.func 14), #[(.tmp 28)], #[9]⟩⟩
def p4_9_20 : RO := ⟨some (some 26, true), some 30, .fieldAddr 30 (.tmp 3) 2⟩
def p4_9_21 : RO := ⟨some (some 26, true), some 31, .load 9 (.tmp 30)⟩
def p4_9_22 : RO := ⟨some (some 26, true), some 32, .call ⟨.value (.func 15), #[(.tmp 31)], #[9]⟩⟩
def p4_9_23 : RO := ⟨some (some 26, true), some 33, .binOp .eql 4 (.tmp 29) (.tmp 32) 4⟩
def p4_9_24 : RO := ⟨none, some 34, .pick (.tmp 26) (.tmp 33) (.const (.bool false))⟩
def p4_9_25 : RO := ⟨none, some 35, .move (.tmp 34)⟩
def p4_9_26 : RO := ⟨some (some 35, true), some 36, .call ⟨.value (.func 7), #[], #[]⟩⟩
def p4_9_27 : RO := ⟨none, some 37, .pick (.tmp 35) (.tmp 36) (.const (.bool false))⟩
def p4_9_28 : RO := ⟨none, some 4, .assign (.tmp 37)⟩
def o4_9 : List (Nat × RO) := [(0, p4_9_0), (1, p4_9_1), (2, p4_9_2), (3, p4_9_3), (4, p4_9_4), (5, p4_9_5), (6, p4_9_6), (7, p4_9_7), (8, p4_9_8), (9, p4_9_9), (10, p4_9_10), (11, p4_9_11), (12, p4_9_12), (13, p4_9_13), (14, p4_9_14), (15, p4_9_15), (16, p4_9_16), (17, p4_9_17), (18, p4_9_18), (19, p4_9_19), (20, p4_9_20), (21, p4_9_21), (22, p4_9_22), (23, p4_9_23), (24, p4_9_24), (25, p4_9_25), (26, p4_9_26), (27, p4_9_27), (28, p4_9_28)]
def m4_9 : List Nat := [0, 0, 3, 0, 0, 31, 63, 127, 255, 511, 1023, 255, 2303, 8191, 16383, 32767, 65535, 131071, 262143, 524287, 131071, 1179647, 4194303, 8388607, 16777215, 33554431, 67108863, 134217727, 268435455]
def x4_9 : RC := .draw o4_9 m4_9
def x4_8 : RC := .seq x4_9 .ret
def x4_2 : RC := .seq x4_3 x4_8
def x4_0 : RC := .seq x4_1 x4_2
theorem x4_eq : Try.f4.body.map rc = some x4_0 := by kernel_rfl
def p5_1_0 : RO := ⟨none, some 4, .box 34 (.tmp 1)⟩
def p5_1_1 : RO := ⟨none, some 6, .assign (.const (.bool false))⟩
def o5_1 : List RO := [p5_1_0, p5_1_1]
def x5_1 : RC := .ops o5_1
def p5_4_0 : RO := ⟨none, some 8, .move (.tmp 0)⟩
def p5_4_1 : RO := ⟨none, some 9, .call ⟨.builtin .len, #[(.tmp 8)], #[22]⟩⟩
def p5_4_2 : RO := ⟨none, some 10, .binOp .eql 3 (.tmp 9) (.const (.int .i64 (0))) 3⟩
def p5_4_3 : RO := ⟨none, some 11, .move (.tmp 10)⟩
def p5_4_4 : RO := ⟨some (some 11, false), some 12, .move (.tmp 0)⟩
def p5_4_5 : RO := ⟨some (some 11, false), some 13, .call ⟨.builtin .len, #[(.tmp 12)], #[22]⟩⟩
def p5_4_6 : RO := ⟨some (some 11, false), some 14, .binOp .gtr 3 (.tmp 13) (.const (.int .i64 (300))) 3⟩
def p5_4_7 : RO := ⟨none, some 15, .pick (.tmp 11) (.const (.bool true)) (.tmp 14)⟩
def p5_4_8 : RO := ⟨none, some 16, .move (.tmp 15)⟩
def p5_4_9 : RO := ⟨some (some 16, false), some 17, .fieldAddr 34 (.tmp 4) 1⟩
def p5_4_10 : RO := ⟨some (some 16, false), some 18, .load 3 (.tmp 17)⟩
def p5_4_11 : RO := ⟨some (some 16, false), some 19, .binOp .eql 3 (.tmp 18) (.const (.int .i64 (0))) 3⟩
def p5_4_12 : RO := ⟨none, some 20, .pick (.tmp 16) (.const (.bool true)) (.tmp 19)⟩
def o5_4 : List RO := [p5_4_0, p5_4_1, p5_4_2, p5_4_3, p5_4_4, p5_4_5, p5_4_6, p5_4_7, p5_4_8, p5_4_9, p5_4_10, p5_4_11, p5_4_12]
def x5_4 : RC := .ops o5_4
def p5_7_0 : RO := ⟨none, some 21, .call ⟨.value (.func 7), #[], #[]⟩⟩
def p5_7_1 : RO := ⟨none, some 6, .assign (.tmp 21)⟩
def o5_7 : List RO := [p5_7_0, p5_7_1]
def x5_7 : RC := .ops o5_7
def x5_6 : RC := .seq x5_7 .ret
def x5_5 : RC := .cond (.tmp 20) x5_6 .skip
def x5_3 : RC := .seq x5_4 x5_5
def p5_9_0 : RO := ⟨none, some 22, .move (.tmp 0)⟩
def p5_9_1 : RO := ⟨none, some 23, .call ⟨.builtin .append, #[(.const (.slice none 0 0)), (.tmp 22)], #[22, 22]⟩⟩
def p5_9_2 : RO := ⟨none, some 24, .load 34 (.tmp 4)⟩
def p5_9_3 : RO := ⟨none, some 25, .buildSlice 22 1 #[(0, (.tmp 24))]⟩
def p5_9_4 : RO := ⟨none, some 26, .call ⟨.builtin .append, #[(.tmp 23), (.tmp 25)], #[22, 22]⟩⟩
def p5_9_5 : RO := ⟨none, some 7, .assign (.tmp 26)⟩
def o5_9 : List (Nat × RO) := [(0, p5_9_0), (1, p5_9_1), (2, p5_9_2), (3, p5_9_3), (4, p5_9_4), (5, p5_9_5)]
def m5_9 : List Nat := [0, 1, 0, 4, 15, 31]
def x5_9 : RC := .draw o5_9 m5_9
def p5_11_0 : RO := ⟨none, some 27, .move (.tmp 7)⟩
def p5_11_1 : RO := ⟨none, some 28, .move (.tmp 2)⟩
def p5_11_2 : RO := ⟨none, some 29, .call ⟨.value (.func 8), #[(.tmp 27), (.tmp 28)], #[22, 4]⟩⟩
def p5_11_3 : RO := ⟨none, some 30, .move (.tmp 0)⟩
def p5_11_4 : RO := ⟨none, some 31, .move (.tmp 2)⟩
def p5_11_5 : RO := ⟨none, some 32, .call ⟨.value (.func 8), #[(.tmp 30), (.tmp 31)], #[22, 4]⟩⟩
def p5_11_6 : RO := ⟨none, some 33, .binOp .eql 3 (.tmp 29) (.tmp 32) 3⟩
def p5_11_7 : RO := ⟨none, some 34, .move (.tmp 33)⟩
def p5_11_8 : RO := ⟨some (some 34, true), some 35, .call ⟨.value (.func 7), #[], #[]⟩⟩
def p5_11_9 : RO := ⟨none, some 36, .pick (.tmp 34) (.tmp 35) (.const (.bool false))⟩
def p5_11_10 : RO := ⟨none, some 6, .assign (.tmp 36)⟩
def o5_11 : List RO := [p5_11_0, p5_11_1, p5_11_2, p5_11_3, p5_11_4, p5_11_5, p5_11_6, p5_11_7, p5_11_8, p5_11_9, p5_11_10]
def x5_11 : RC := .ops o5_11
def x5_10 : RC := .seq x5_11 .ret
def x5_8 : RC := .seq x5_9 x5_10
def x5_2 : RC := .seq x5_3 x5_8
def x5_0 : RC := .seq x5_1 x5_2
theorem x5_eq : Try.f5.body.map rc = some x5_0 := by kernel_rfl
def p6_1_0 : RO := ⟨none, some 1, .box 30 (.tmp 0)⟩
def p6_1_1 : RO := ⟨none, some 2, .assign (.const (.bool false))⟩
def o6_1 : List RO := [p6_1_0, p6_1_1]
def x6_1 : RC := .ops o6_1
def p6_4_0 : RO := ⟨none, some 7, .fieldAddr 30 (.tmp 1) 2⟩
def p6_4_1 : RO := ⟨none, some 8, .load 9 (.tmp 7)⟩
def p6_4_2 : RO := ⟨none, some 9, .call ⟨.builtin .len, #[(.tmp 8)], #[9]⟩⟩
def p6_4_3 : RO := ⟨none, some 10, .binOp .gtr 3 (.tmp 9) (.const (.int .i64 (5000))) 3⟩
def o6_4 : List RO := [p6_4_0, p6_4_1, p6_4_2, p6_4_3]
def x6_4 : RC := .ops o6_4
def p6_7_0 : RO := ⟨none, some 11, .call ⟨.value (.func 7), #[], #[]⟩⟩
def p6_7_1 : RO := ⟨none, some 2, .assign (.tmp 11)⟩
def o6_7 : List RO := [p6_7_0, p6_7_1]
def x6_7 : RC := .ops o6_7
def x6_6 : RC := .seq x6_7 .ret
def x6_5 : RC := .cond (.tmp 10) x6_6 .skip
def x6_3 : RC := .seq x6_4 x6_5
def p6_9_0 : RO := ⟨none, some 12, .load 30 (.tmp 1)⟩
def p6_9_1 : RO := ⟨none, some 13, .call ⟨.value (.func 10), #[(.const (.int .i64 (11))), (.tmp 12)], #[3, 30]⟩⟩
def p6_9_2 : RO := ⟨none, some 14, .load 30 (.tmp 1)⟩
def p6_9_3 : RO := ⟨none, some 15, .call ⟨.value (.func 10), #[(.const (.int .i64 (12))), (.tmp 14)], #[3, 30]⟩⟩
def p6_9_4 : RO := ⟨none, some 16, .load 30 (.tmp 1)⟩
def p6_9_5 : RO := ⟨none, some 17, .call ⟨.value (.func 10), #[(.const (.int .i64 (13))), (.tmp 16)], #[3, 30]⟩⟩
def p6_9_6 : RO := ⟨none, some 18, .load 30 (.tmp 1)⟩
def p6_9_7 : RO := ⟨none, some 19, .call ⟨.value (.func 10), #[(.const (.int .i64 (9))), (.tmp 18)], #[3, 30]⟩⟩
def p6_9_8 : RO := ⟨none, some 3, .assign (.tmp 13)⟩
def p6_9_9 : RO := ⟨none, some 4, .assign (.tmp 15)⟩
def p6_9_10 : RO := ⟨none, some 5, .assign (.tmp 17)⟩
def p6_9_11 : RO := ⟨none, some 6, .assign (.tmp 19)⟩
def o6_9 : List (Nat × RO) := [(0, p6_9_0), (1, p6_9_1), (2, p6_9_2), (3, p6_9_3), (4, p6_9_4), (5, p6_9_5), (6, p6_9_6), (7, p6_9_7), (8, p6_9_8), (9, p6_9_9), (10, p6_9_10), (11, p6_9_11)]
def m6_9 : List Nat := [0, 1, 0, 7, 0, 31, 0, 127, 255, 511, 1023, 2047]
def x6_9 : RC := .draw o6_9 m6_9
def p6_11_0 : RO := ⟨none, some 20, .move (.tmp 3)⟩
def p6_11_1 : RO := ⟨none, some 21, .unOp .not 4 (.tmp 20)⟩
def p6_11_2 : RO := ⟨none, some 22, .move (.tmp 21)⟩
def p6_11_3 : RO := ⟨some (some 22, false), some 23, .move (.tmp 4)⟩
def p6_11_4 : RO := ⟨none, some 24, .pick (.tmp 22) (.const (.bool true)) (.tmp 23)⟩
def p6_11_5 : RO := ⟨none, some 25, .move (.tmp 24)⟩
def p6_11_6 : RO := ⟨some (some 25, true), some 26, .move (.tmp 4)⟩
def p6_11_7 : RO := ⟨some (some 25, true), some 27, .unOp .not 4 (.tmp 26)⟩
def p6_11_8 : RO := ⟨some (some 25, true), some 28, .move (.tmp 27)⟩
def p6_11_9 : RO := ⟨some (some 28, false), some 29, .move (.tmp 5)⟩
def p6_11_10 : RO := ⟨some (some 25, true), some 30, .pick (.tmp 28) (.const (.bool true)) (.tmp 29)⟩
def p6_11_11 : RO := ⟨none, some 31, .pick (.tmp 25) (.tmp 30) (.const (.bool false))⟩
def p6_11_12 : RO := ⟨none, some 32, .move (.tmp 31)⟩
def p6_11_13 : RO := ⟨some (some 32, true), some 33, .move (.tmp 6)⟩
def p6_11_14 : RO := ⟨some (some 32, true), some 34, .unOp .not 4 (.tmp 33)⟩
def p6_11_15 : RO := ⟨some (some 32, true), some 35, .move (.tmp 34)⟩
def p6_11_16 : RO := ⟨some (some 35, false), some 36, .move (.tmp 5)⟩
def p6_11_17 : RO := ⟨some (some 32, true), some 37, .pick (.tmp 35) (.const (.bool true)) (.tmp 36)⟩
def p6_11_18 : RO := ⟨none, some 38, .pick (.tmp 32) (.tmp 37) (.const (.bool false))⟩
def p6_11_19 : RO := ⟨none, some 39, .move (.tmp 38)⟩
def p6_11_20 : RO := ⟨some (some 39, true), some 40, .move (.tmp 4)⟩
def p6_11_21 : RO := ⟨some (some 39, true), some 41, .unOp .not 4 (.tmp 40)⟩
def p6_11_22 : RO := ⟨some (some 39, true), some 42, .move (.tmp 41)⟩
def p6_11_23 : RO := ⟨some (some 42, false), some 43, .move (.tmp 6)⟩
def p6_11_24 : RO := ⟨some (some 39, true), some 44, .pick (.tmp 42) (.const (.bool true)) (.tmp 43)⟩
def p6_11_25 : RO := ⟨none, some 45, .pick (.tmp 39) (.tmp 44) (.const (.bool false))⟩
def p6_11_26 : RO := ⟨none, some 46, .move (.tmp 45)⟩
def p6_11_27 : RO := ⟨some (some 46, true), some 47, .call ⟨.value (.func 7), #[], #[]⟩⟩
def p6_11_28 : RO := ⟨none, some 48, .pick (.tmp 46) (.tmp 47) (.const (.bool false))⟩
def p6_11_29 : RO := ⟨none, some 2, .assign (.tmp 48)⟩
def o6_11 : List RO := [p6_11_0, p6_11_1, p6_11_2, p6_11_3, p6_11_4, p6_11_5, p6_11_6, p6_11_7, p6_11_8, p6_11_9, p6_11_10, p6_11_11, p6_11_12, p6_11_13, p6_11_14, p6_11_15, p6_11_16, p6_11_17, p6_11_18, p6_11_19, p6_11_20, p6_11_21, p6_11_22, p6_11_23, p6_11_24, p6_11_25, p6_11_26, p6_11_27, p6_11_28, p6_11_29]
def x6_11 : RC := .ops o6_11
def x6_10 : RC := .seq x6_11 .ret
def x6_8 : RC := .seq x6_9 x6_10
def x6_2 : RC := .seq x6_3 x6_8
def x6_0 : RC := .seq x6_1 x6_2
theorem x6_eq : Try.f6.body.map rc = some x6_0 := by kernel_rfl
def p8_1_0 : RO := ⟨none, some 3, .box 4 (.tmp 1)⟩
def p8_1_1 : RO := ⟨none, some 4, .alloc 3⟩
def o8_1 : List RO := [p8_1_0, p8_1_1]
def x8_1 : RC := .ops o8_1
def p8_4_0 : RO := ⟨none, some 8, .move (.tmp 0)⟩
def p8_4_1 : RO := ⟨none, some 9, .call ⟨.value (.func 16), #[(.tmp 8)], #[22]⟩⟩
def o8_4 : List RO := [p8_4_0, p8_4_1]
def x8_4 : RC := .ops o8_4
def p8_8_0 : RO := ⟨none, some 5, .assign (.tmp 10)⟩
def o8_8 : List RO := [p8_8_0]
def x8_8 : RC := .ops o8_8
def p8_9_0 : RO := ⟨none, some 6, .alloc 34⟩
def p8_9_1 : RO := ⟨none, none, .store 34 (.tmp 6) (.tmp 11)⟩
def o8_9 : List RO := [p8_9_0, p8_9_1]
def x8_9 : RC := .ops o8_9
def x8_7 : RC := .seq x8_8 x8_9
def p8_13_0 : RO := ⟨none, some 12, .fieldAddr 34 (.tmp 6) 1⟩
def p8_13_1 : RO := ⟨none, some 13, .load 3 (.tmp 12)⟩
def p8_13_2 : RO := ⟨none, some 14, .binOp .neq 3 (.tmp 13) (.const (.int .i64 (0))) 3⟩
def o8_13 : List RO := [p8_13_0, p8_13_1, p8_13_2]
def x8_13 : RC := .ops o8_13
def x8_14 : RC := .cond (.tmp 14) (.exit 1) .skip
def x8_12 : RC := .seq x8_13 x8_14
def p8_16_0 : RO := ⟨none, some 7, .assign (.const (.int .i64 (-1)))⟩
def o8_16 : List RO := [p8_16_0]
def x8_16 : RC := .ops o8_16
def p8_20_0 : RO := ⟨none, some 16, .fieldAddr 34 (.tmp 6) 2⟩
def p8_20_1 : RO := ⟨none, some 17, .load 9 (.tmp 16)⟩
def p8_20_2 : RO := ⟨none, some 18, .call ⟨.value (.func 12), #[(.tmp 17)], #[9]⟩⟩
def p8_20_3 : RO := ⟨none, some 15, .assign (.tmp 18)⟩
def o8_20 : List RO := [p8_20_0, p8_20_1, p8_20_2, p8_20_3]
def x8_20 : RC := .ops o8_20
def p8_22_0 : RO := ⟨none, some 7, .assign (.const (.int .i64 (13)))⟩
def o8_22 : List RO := [p8_22_0]
def x8_22 : RC := .ops o8_22
def p8_24_0 : RO := ⟨none, some 20, .fieldAddr 34 (.tmp 6) 2⟩
def p8_24_1 : RO := ⟨none, some 21, .load 9 (.tmp 20)⟩
def p8_24_2 : RO := ⟨none, some 22, .call ⟨.value (.func 14), #[(.tmp 21)], #[9]⟩⟩
def p8_24_3 : RO := ⟨none, some 19, .assign (.tmp 22)⟩
def o8_24 : List RO := [p8_24_0, p8_24_1, p8_24_2, p8_24_3]
def x8_24 : RC := .ops o8_24
def p8_26_0 : RO := ⟨none, some 7, .assign (.const (.int .i64 (11)))⟩
def o8_26 : List RO := [p8_26_0]
def x8_26 : RC := .ops o8_26
def p8_28_0 : RO := ⟨none, some 24, .fieldAddr 34 (.tmp 6) 2⟩
def p8_28_1 : RO := ⟨none, some 25, .load 9 (.tmp 24)⟩
def p8_28_2 : RO := ⟨none, some 26, .binOp .eql 9 (.tmp 25) (.const (.string ⟨#[116, 114]⟩)) 9⟩
def p8_28_3 : RO := ⟨none, some 23, .assign (.tmp 26)⟩
def o8_28 : List RO := [p8_28_0, p8_28_1, p8_28_2, p8_28_3]
def x8_28 : RC := .ops o8_28
def p8_30_0 : RO := ⟨none, some 7, .assign (.const (.int .i64 (12)))⟩
def o8_30 : List RO := [p8_30_0]
def x8_30 : RC := .ops o8_30
def p8_32_0 : RO := ⟨none, some 28, .fieldAddr 34 (.tmp 6) 2⟩
def p8_32_1 : RO := ⟨none, some 29, .load 9 (.tmp 28)⟩
def p8_32_2 : RO := ⟨none, some 30, .binOp .eql 9 (.tmp 29) (.const (.string ⟨#[99, 97, 112, 116, 105, 111, 110]⟩)) 9⟩
def p8_32_3 : RO := ⟨none, some 27, .assign (.tmp 30)⟩
def o8_32 : List RO := [p8_32_0, p8_32_1, p8_32_2, p8_32_3]
def x8_32 : RC := .ops o8_32
def p8_34_0 : RO := ⟨none, some 7, .assign (.const (.int .i64 (9)))⟩
def o8_34 : List RO := [p8_34_0]
def x8_34 : RC := .ops o8_34
def p8_36_0 : RO := ⟨none, some 32, .fieldAddr 34 (.tmp 6) 2⟩
def p8_36_1 : RO := ⟨none, some 33, .load 9 (.tmp 32)⟩
def p8_36_2 : RO := ⟨none, some 34, .binOp .eql 9 (.tmp 33) (.const (.string ⟨#[99, 111, 108, 103, 114, 111, 117, 112]⟩)) 9⟩
def p8_36_3 : RO := ⟨none, some 31, .assign (.tmp 34)⟩
def o8_36 : List RO := [p8_36_0, p8_36_1, p8_36_2, p8_36_3]
def x8_36 : RC := .ops o8_36
def p8_38_0 : RO := ⟨none, some 7, .assign (.const (.int .i64 (10)))⟩
def o8_38 : List RO := [p8_38_0]
def x8_38 : RC := .ops o8_38
def p8_40_0 : RO := ⟨none, some 36, .fieldAddr 34 (.tmp 6) 2⟩
def p8_40_1 : RO := ⟨none, some 37, .load 9 (.tmp 36)⟩
def p8_40_2 : RO := ⟨none, some 38, .binOp .eql 9 (.tmp 37) (.const (.string ⟨#[116, 97, 98, 108, 101]⟩)) 9⟩
def p8_40_3 : RO := ⟨none, some 35, .assign (.tmp 38)⟩
def o8_40 : List RO := [p8_40_0, p8_40_1, p8_40_2, p8_40_3]
def x8_40 : RC := .ops o8_40
def p8_42_0 : RO := ⟨none, some 7, .assign (.const (.int .i64 (7)))⟩
def o8_42 : List RO := [p8_42_0]
def x8_42 : RC := .ops o8_42
def p8_44_0 : RO := ⟨none, some 40, .fieldAddr 34 (.tmp 6) 2⟩
def p8_44_1 : RO := ⟨none, some 41, .load 9 (.tmp 40)⟩
def p8_44_2 : RO := ⟨none, some 42, .binOp .eql 9 (.tmp 41) (.const (.string ⟨#[104, 101, 97, 100]⟩)) 9⟩
def p8_44_3 : RO := ⟨none, some 39, .assign (.tmp 42)⟩
def o8_44 : List RO := [p8_44_0, p8_44_1, p8_44_2, p8_44_3]
def x8_44 : RC := .ops o8_44
def p8_46_0 : RO := ⟨none, some 7, .assign (.const (.int .i64 (3)))⟩
def o8_46 : List RO := [p8_46_0]
def x8_46 : RC := .ops o8_46
def p8_48_0 : RO := ⟨none, some 44, .fieldAddr 34 (.tmp 6) 2⟩
def p8_48_1 : RO := ⟨none, some 45, .load 9 (.tmp 44)⟩
def p8_48_2 : RO := ⟨none, some 46, .binOp .eql 9 (.tmp 45) (.const (.string ⟨#[98, 111, 100, 121]⟩)) 9⟩
def p8_48_3 : RO := ⟨none, some 43, .assign (.tmp 46)⟩
def o8_48 : List RO := [p8_48_0, p8_48_1, p8_48_2, p8_48_3]
def x8_48 : RC := .ops o8_48
def p8_51_0 : RO := ⟨none, none, .store 3 (.tmp 4) (.const (.int .i64 (5)))⟩
def o8_51 : List RO := [p8_51_0]
def x8_51 : RC := .ops o8_51
def x8_50 : RC := .seq x8_51 .ret
def p8_53_0 : RO := ⟨none, some 48, .fieldAddr 34 (.tmp 6) 2⟩
def p8_53_1 : RO := ⟨none, some 49, .load 9 (.tmp 48)⟩
def p8_53_2 : RO := ⟨none, some 50, .binOp .eql 9 (.tmp 49) (.const (.string ⟨#[104, 116, 109, 108]⟩)) 9⟩
def p8_53_3 : RO := ⟨none, some 51, .move (.tmp 50)⟩
def p8_53_4 : RO := ⟨some (some 51, true), some 52, .load 4 (.tmp 3)⟩
def p8_53_5 : RO := ⟨none, some 53, .pick (.tmp 51) (.tmp 52) (.const (.bool false))⟩
def p8_53_6 : RO := ⟨none, some 47, .assign (.tmp 53)⟩
def o8_53 : List RO := [p8_53_0, p8_53_1, p8_53_2, p8_53_3, p8_53_4, p8_53_5, p8_53_6]
def x8_53 : RC := .ops o8_53
def p8_56_0 : RO := ⟨none, none, .store 3 (.tmp 4) (.const (.int .i64 (4)))⟩
def o8_56 : List RO := [p8_56_0]
def x8_56 : RC := .ops o8_56
def x8_55 : RC := .seq x8_56 .ret
def p8_58_0 : RO := ⟨none, some 55, .fieldAddr 34 (.tmp 6) 2⟩
def p8_58_1 : RO := ⟨none, some 56, .load 9 (.tmp 55)⟩
def p8_58_2 : RO := ⟨none, some 57, .binOp .eql 9 (.tmp 56) (.const (.string ⟨#[104, 116, 109, 108]⟩)) 9⟩
def p8_58_3 : RO := ⟨none, some 54, .assign (.tmp 57)⟩
def o8_58 : List RO := [p8_58_0, p8_58_1, p8_58_2, p8_58_3]
def x8_58 : RC := .ops o8_58
def p8_61_0 : RO := ⟨none, none, .store 3 (.tmp 4) (.const (.int .i64 (2)))⟩
def o8_61 : List RO := [p8_61_0]
def x8_61 : RC := .ops o8_61
def x8_60 : RC := .seq x8_61 .ret
def x8_59 : RC := .cond (.tmp 54) x8_60 .skip
def x8_57 : RC := .seq x8_58 x8_59
def x8_54 : RC := .cond (.tmp 47) x8_55 x8_57
def x8_52 : RC := .seq x8_53 x8_54
def x8_49 : RC := .cond (.tmp 43) x8_50 x8_52
def x8_47 : RC := .seq x8_48 x8_49
def x8_45 : RC := .cond (.tmp 39) x8_46 x8_47
def x8_43 : RC := .seq x8_44 x8_45
def x8_41 : RC := .cond (.tmp 35) x8_42 x8_43
def x8_39 : RC := .seq x8_40 x8_41
def x8_37 : RC := .cond (.tmp 31) x8_38 x8_39
def x8_35 : RC := .seq x8_36 x8_37
def x8_33 : RC := .cond (.tmp 27) x8_34 x8_35
def x8_31 : RC := .seq x8_32 x8_33
def x8_29 : RC := .cond (.tmp 23) x8_30 x8_31
def x8_27 : RC := .seq x8_28 x8_29
def x8_25 : RC := .cond (.tmp 19) x8_26 x8_27
def x8_23 : RC := .seq x8_24 x8_25
def x8_21 : RC := .cond (.tmp 15) x8_22 x8_23
def x8_19 : RC := .seq x8_20 x8_21
def x8_18 : RC := .block 2 x8_19
def p8_63_0 : RO := ⟨none, some 58, .move (.tmp 7)⟩
def p8_63_1 : RO := ⟨none, some 59, .binOp .geq 3 (.tmp 58) (.const (.int .i64 (0))) 3⟩
def p8_63_2 : RO := ⟨none, some 60, .move (.tmp 59)⟩
def p8_63_3 : RO := ⟨some (some 60, true), some 61, .move (.tmp 5)⟩
def p8_63_4 : RO := ⟨some (some 60, true), some 62, .binOp .gtr 3 (.tmp 61) (.const (.int .i64 (0))) 3⟩
def p8_63_5 : RO := ⟨none, some 63, .pick (.tmp 60) (.tmp 62) (.const (.bool false))⟩
def o8_63 : List RO := [p8_63_0, p8_63_1, p8_63_2, p8_63_3, p8_63_4, p8_63_5]
def x8_63 : RC := .ops o8_63
def p8_66_0 : RO := ⟨none, some 64, .move (.tmp 7)⟩
def p8_66_1 : RO := ⟨none, none, .store 3 (.tmp 4) (.tmp 64)⟩
def o8_66 : List RO := [p8_66_0, p8_66_1]
def x8_66 : RC := .ops o8_66
def x8_65 : RC := .seq x8_66 .ret
def x8_64 : RC := .cond (.tmp 63) x8_65 .skip
def x8_62 : RC := .seq x8_63 x8_64
def x8_17 : RC := .seq x8_18 x8_62
def x8_15 : RC := .seq x8_16 x8_17
def x8_11 : RC := .seq x8_12 x8_15
def x8_10 : RC := .block 1 x8_11
noncomputable def a8_0 : Code := (rangeOf Try.f8 0).1
noncomputable def b8_0 : Code := (rangeOf Try.f8 0).2
theorem a8_0_rc : rc a8_0 = x8_7 := by kernel_rfl
theorem b8_0_rc : rc b8_0 = x8_10 := by kernel_rfl
noncomputable def x8_6 : RC := .range (.tmp 9) #[10, 11] a8_0 b8_0
noncomputable def x8_5 : RC := .block 0 x8_6
noncomputable def x8_3 : RC := .seq x8_4 x8_5
def p8_68_0 : RO := ⟨none, none, .store 3 (.tmp 4) (.const (.int .i64 (5)))⟩
def o8_68 : List RO := [p8_68_0]
def x8_68 : RC := .ops o8_68
def x8_67 : RC := .seq x8_68 .ret
noncomputable def x8_2 : RC := .seq x8_3 x8_67
noncomputable def x8_0 : RC := .seq x8_1 x8_2
theorem x8_eq : Try.f8.body.map rc = some x8_0 := by kernel_rfl
def p9_1_0 : RO := ⟨none, some 4, .assign (.const (.int .i64 (0)))⟩
def o9_1 : List RO := [p9_1_0]
def x9_1 : RC := .ops o9_1
def p9_4_0 : RO := ⟨none, some 7, .move (.tmp 0)⟩
def p9_4_1 : RO := ⟨none, some 8, .call ⟨.builtin .len, #[(.tmp 7)], #[22]⟩⟩
def p9_4_2 : RO := ⟨none, some 9, .binOp .sub 3 (.tmp 8) (.const (.int .i64 (1))) 3⟩
def p9_4_3 : RO := ⟨none, some 5, .assign (.tmp 9)⟩
def o9_4 : List RO := [p9_4_0, p9_4_1, p9_4_2, p9_4_3]
def x9_4 : RC := .ops o9_4
def p9_9_0 : RO := ⟨none, some 10, .move (.tmp 5)⟩
def p9_9_1 : RO := ⟨none, some 11, .binOp .geq 3 (.tmp 10) (.const (.int .i64 (0))) 3⟩
def o9_9 : List RO := [p9_9_0, p9_9_1]
def x9_9 : RC := .ops o9_9
def x9_10 : RC := .cond (.tmp 11) .skip (.exit 0)
def x9_8 : RC := .seq x9_9 x9_10
def p9_14_0 : RO := ⟨none, some 14, .move (.tmp 0)⟩
def p9_14_1 : RO := ⟨none, some 15, .move (.tmp 5)⟩
def p9_14_2 : RO := ⟨none, some 16, .indexAddr 22 (.tmp 14) (.tmp 15)⟩
def p9_14_3 : RO := ⟨none, some 17, .load 34 (.tmp 16)⟩
def p9_14_4 : RO := ⟨none, some 6, .alloc 34⟩
def p9_14_5 : RO := ⟨none, none, .store 34 (.tmp 6) (.tmp 17)⟩
def o9_14 : List RO := [p9_14_0, p9_14_1, p9_14_2, p9_14_3, p9_14_4, p9_14_5]
def x9_14 : RC := .ops o9_14
def p9_17_0 : RO := ⟨none, some 18, .fieldAddr 34 (.tmp 6) 1⟩
def p9_17_1 : RO := ⟨none, some 19, .load 3 (.tmp 18)⟩
def p9_17_2 : RO := ⟨none, some 20, .binOp .neq 3 (.tmp 19) (.const (.int .i64 (0))) 3⟩
def o9_17 : List RO := [p9_17_0, p9_17_1, p9_17_2]
def x9_17 : RC := .ops o9_17
def x9_18 : RC := .cond (.tmp 20) (.exit 1) .skip
def x9_16 : RC := .seq x9_17 x9_18
def p9_21_0 : RO := ⟨none, some 21, .move (.tmp 5)⟩
def p9_21_1 : RO := ⟨none, some 22, .binOp .gtr 3 (.tmp 21) (.const (.int .i64 (0))) 3⟩
def o9_21 : List RO := [p9_21_0, p9_21_1]
def x9_21 : RC := .ops o9_21
def p9_25_0 : RO := ⟨none, some 24, .fieldAddr 34 (.tmp 6) 2⟩
def p9_25_1 : RO := ⟨none, some 25, .load 9 (.tmp 24)⟩
def p9_25_2 : RO := ⟨none, some 26, .call ⟨.value (.func 13), #[(.tmp 25)], #[9]⟩⟩
def p9_25_3 : RO := ⟨none, some 23, .assign (.tmp 26)⟩
def o9_25 : List RO := [p9_25_0, p9_25_1, p9_25_2, p9_25_3]
def x9_25 : RC := .ops o9_25
def p9_28_0 : RO := ⟨none, some 4, .assign (.const (.int .i64 (13)))⟩
def o9_28 : List RO := [p9_28_0]
def x9_28 : RC := .ops o9_28
def x9_27 : RC := .seq x9_28 .ret
def p9_30_0 : RO := ⟨none, some 28, .fieldAddr 34 (.tmp 6) 2⟩
def p9_30_1 : RO := ⟨none, some 29, .load 9 (.tmp 28)⟩
def p9_30_2 : RO := ⟨none, some 30, .binOp .eql 9 (.tmp 29) (.const (.string ⟨#[116, 114]⟩)) 9⟩
def p9_30_3 : RO := ⟨none, some 27, .assign (.tmp 30)⟩
def o9_30 : List RO := [p9_30_0, p9_30_1, p9_30_2, p9_30_3]
def x9_30 : RC := .ops o9_30
def p9_33_0 : RO := ⟨none, some 4, .assign (.const (.int .i64 (12)))⟩
def o9_33 : List RO := [p9_33_0]
def x9_33 : RC := .ops o9_33
def x9_32 : RC := .seq x9_33 .ret
def p9_35_0 : RO := ⟨none, some 32, .fieldAddr 34 (.tmp 6) 2⟩
def p9_35_1 : RO := ⟨none, some 33, .load 9 (.tmp 32)⟩
def p9_35_2 : RO := ⟨none, some 34, .call ⟨.value (.func 15), #[(.tmp 33)], #[9]⟩⟩
def p9_35_3 : RO := ⟨none, some 31, .assign (.tmp 34)⟩
def o9_35 : List RO := [p9_35_0, p9_35_1, p9_35_2, p9_35_3]
def x9_35 : RC := .ops o9_35
def p9_38_0 : RO := ⟨none, some 4, .assign (.const (.int .i64 (11)))⟩
def o9_38 : List RO := [p9_38_0]
def x9_38 : RC := .ops o9_38
def x9_37 : RC := .seq x9_38 .ret
def p9_40_0 : RO := ⟨none, some 36, .fieldAddr 34 (.tmp 6) 2⟩
def p9_40_1 : RO := ⟨none, some 37, .load 9 (.tmp 36)⟩
def p9_40_2 : RO := ⟨none, some 38, .binOp .eql 9 (.tmp 37) (.const (.string ⟨#[99, 97, 112, 116, 105, 111, 110]⟩)) 9⟩
def p9_40_3 : RO := ⟨none, some 35, .assign (.tmp 38)⟩
def o9_40 : List RO := [p9_40_0, p9_40_1, p9_40_2, p9_40_3]
def x9_40 : RC := .ops o9_40
def p9_43_0 : RO := ⟨none, some 4, .assign (.const (.int .i64 (9)))⟩
def o9_43 : List RO := [p9_43_0]
def x9_43 : RC := .ops o9_43
def x9_42 : RC := .seq x9_43 .ret
def p9_45_0 : RO := ⟨none, some 40, .fieldAddr 34 (.tmp 6) 2⟩
def p9_45_1 : RO := ⟨none, some 41, .load 9 (.tmp 40)⟩
def p9_45_2 : RO := ⟨none, some 42, .binOp .eql 9 (.tmp 41) (.const (.string ⟨#[99, 111, 108, 103, 114, 111, 117, 112]⟩)) 9⟩
def p9_45_3 : RO := ⟨none, some 39, .assign (.tmp 42)⟩
def o9_45 : List RO := [p9_45_0, p9_45_1, p9_45_2, p9_45_3]
def x9_45 : RC := .ops o9_45
def p9_48_0 : RO := ⟨none, some 4, .assign (.const (.int .i64 (10)))⟩
def o9_48 : List RO := [p9_48_0]
def x9_48 : RC := .ops o9_48
def x9_47 : RC := .seq x9_48 .ret
def p9_50_0 : RO := ⟨none, some 44, .fieldAddr 34 (.tmp 6) 2⟩
def p9_50_1 : RO := ⟨none, some 45, .load 9 (.tmp 44)⟩
def p9_50_2 : RO := ⟨none, some 46, .binOp .eql 9 (.tmp 45) (.const (.string ⟨#[116, 97, 98, 108, 101]⟩)) 9⟩
def p9_50_3 : RO := ⟨none, some 43, .assign (.tmp 46)⟩
def o9_50 : List RO := [p9_50_0, p9_50_1, p9_50_2, p9_50_3]
def x9_50 : RC := .ops o9_50
def p9_53_0 : RO := ⟨none, some 4, .assign (.const (.int .i64 (7)))⟩
def o9_53 : List RO := [p9_53_0]
def x9_53 : RC := .ops o9_53
def x9_52 : RC := .seq x9_53 .ret
def p9_55_0 : RO := ⟨none, some 48, .fieldAddr 34 (.tmp 6) 2⟩
def p9_55_1 : RO := ⟨none, some 49, .load 9 (.tmp 48)⟩
def p9_55_2 : RO := ⟨none, some 50, .binOp .eql 9 (.tmp 49) (.const (.string ⟨#[104, 101, 97, 100]⟩)) 9⟩
def p9_55_3 : RO := ⟨none, some 47, .assign (.tmp 50)⟩
def o9_55 : List RO := [p9_55_0, p9_55_1, p9_55_2, p9_55_3]
def x9_55 : RC := .ops o9_55
def p9_58_0 : RO := ⟨none, some 4, .assign (.const (.int .i64 (3)))⟩
def o9_58 : List RO := [p9_58_0]
def x9_58 : RC := .ops o9_58
def x9_57 : RC := .seq x9_58 .ret
def x9_56 : RC := .cond (.tmp 47) x9_57 .skip
def x9_54 : RC := .seq x9_55 x9_56
def x9_51 : RC := .cond (.tmp 43) x9_52 x9_54
def x9_49 : RC := .seq x9_50 x9_51
def x9_46 : RC := .cond (.tmp 39) x9_47 x9_49
def x9_44 : RC := .seq x9_45 x9_46
def x9_41 : RC := .cond (.tmp 35) x9_42 x9_44
def x9_39 : RC := .seq x9_40 x9_41
def x9_36 : RC := .cond (.tmp 31) x9_37 x9_39
def x9_34 : RC := .seq x9_35 x9_36
def x9_31 : RC := .cond (.tmp 27) x9_32 x9_34
def x9_29 : RC := .seq x9_30 x9_31
def x9_26 : RC := .cond (.tmp 23) x9_27 x9_29
def x9_24 : RC := .seq x9_25 x9_26
def x9_23 : RC := .block 2 x9_24
def x9_22 : RC := .cond (.tmp 22) x9_23 .skip
def x9_20 : RC := .seq x9_21 x9_22
def p9_61_0 : RO := ⟨none, some 51, .fieldAddr 34 (.tmp 6) 2⟩
def p9_61_1 : RO := ⟨none, some 52, .load 9 (.tmp 51)⟩
def p9_61_2 : RO := ⟨none, some 53, .binOp .eql 9 (.tmp 52) (.const (.string ⟨#[98, 111, 100, 121]⟩)) 9⟩
def o9_61 : List RO := [p9_61_0, p9_61_1, p9_61_2]
def x9_61 : RC := .ops o9_61
def p9_64_0 : RO := ⟨none, some 4, .assign (.const (.int .i64 (5)))⟩
def o9_64 : List RO := [p9_64_0]
def x9_64 : RC := .ops o9_64
def x9_63 : RC := .seq x9_64 .ret
def x9_62 : RC := .cond (.tmp 53) x9_63 .skip
def x9_60 : RC := .seq x9_61 x9_62
def p9_66_0 : RO := ⟨none, some 54, .fieldAddr 34 (.tmp 6) 2⟩
def p9_66_1 : RO := ⟨none, some 55, .load 9 (.tmp 54)⟩
def p9_66_2 : RO := ⟨none, some 56, .binOp .eql 9 (.tmp 55) (.const (.string ⟨#[104, 116, 109, 108]⟩)) 9⟩
def o9_66 : List RO := [p9_66_0, p9_66_1, p9_66_2]
def x9_66 : RC := .ops o9_66
def p9_70_0 : RO := ⟨none, some 57, .move (.tmp 1)⟩
def o9_70 : List RO := [p9_70_0]
def x9_70 : RC := .ops o9_70
def p9_73_0 : RO := ⟨none, some 4, .assign (.const (.int .i64 (4)))⟩
def o9_73 : List RO := [p9_73_0]
def x9_73 : RC := .ops o9_73
def x9_72 : RC := .seq x9_73 .ret
def x9_71 : RC := .cond (.tmp 57) x9_72 .skip
def x9_69 : RC := .seq x9_70 x9_71
def p9_75_0 : RO := ⟨none, some 4, .assign (.const (.int .i64 (2)))⟩
def o9_75 : List RO := [p9_75_0]
def x9_75 : RC := .ops o9_75
def x9_74 : RC := .seq x9_75 .ret
def x9_68 : RC := .seq x9_69 x9_74
def x9_67 : RC := .cond (.tmp 56) x9_68 .skip
def x9_65 : RC := .seq x9_66 x9_67
def x9_59 : RC := .seq x9_60 x9_65
def x9_19 : RC := .seq x9_20 x9_59
def x9_15 : RC := .seq x9_16 x9_19
def x9_13 : RC := .seq x9_14 x9_15
def x9_12 : RC := .block 1 x9_13
def p9_76_0 : RO := ⟨none, some 12, .move (.tmp 5)⟩
def p9_76_1 : RO := ⟨none, some 13, .binOp .sub 3 (.tmp 12) (.const (.int .i64 (1))) 3⟩
def p9_76_2 : RO := ⟨none, some 5, .assign (.tmp 13)⟩
def o9_76 : List RO := [p9_76_0, p9_76_1, p9_76_2]
def x9_76 : RC := .ops o9_76
def x9_11 : RC := .seq x9_12 x9_76
def x9_7 : RC := .seq x9_8 x9_11
def x9_6 : RC := .loop x9_7
def x9_5 : RC := .block 0 x9_6
def x9_3 : RC := .seq x9_4 x9_5
def p9_78_0 : RO := ⟨none, some 4, .assign (.const (.int .i64 (5)))⟩
def o9_78 : List RO := [p9_78_0]
def x9_78 : RC := .ops o9_78
def x9_77 : RC := .seq x9_78 .ret
def x9_2 : RC := .seq x9_3 x9_77
def x9_0 : RC := .seq x9_1 x9_2
theorem x9_eq : Try.f9.body.map rc = some x9_0 := by kernel_rfl
def p10_1_0 : RO := ⟨none, some 3, .box 30 (.tmp 1)⟩
def p10_1_1 : RO := ⟨none, some 4, .assign (.const (.bool false))⟩
def o10_1 : List RO := [p10_1_0, p10_1_1]
def x10_1 : RC := .ops o10_1
def p10_3_0 : RO := ⟨none, some 8, .fieldAddr 30 (.tmp 3) 0⟩
def p10_3_1 : RO := ⟨none, some 9, .load 3 (.tmp 8)⟩
def p10_3_2 : RO := ⟨none, some 10, .binOp .eql 3 (.tmp 9) (.const (.int .i64 (2))) 3⟩
def p10_3_3 : RO := ⟨none, some 11, .fieldAddr 30 (.tmp 3) 0⟩
def p10_3_4 : RO := ⟨none, some 12, .load 3 (.tmp 11)⟩
def p10_3_5 : RO := ⟨none, some 13, .binOp .eql 3 (.tmp 12) (.const (.int .i64 (3))) 3⟩
def p10_3_6 : RO := ⟨none, some 5, .assign (.tmp 10)⟩
def p10_3_7 : RO := ⟨none, some 6, .assign (.tmp 13)⟩
def o10_3 : List (Nat × RO) := [(0, p10_3_0), (1, p10_3_1), (2, p10_3_2), (3, p10_3_3), (4, p10_3_4), (5, p10_3_5), (6, p10_3_6), (7, p10_3_7)]
def m10_3 : List Nat := [0, 1, 3, 0, 8, 24, 7, 127]
def x10_3 : RC := .draw o10_3 m10_3
def p10_5_0 : RO := ⟨none, some 14, .move (.tmp 5)⟩
def p10_5_1 : RO := ⟨none, some 15, .move (.tmp 14)⟩
def p10_5_2 : RO := ⟨some (some 15, true), some 16, .fieldAddr 30 (.tmp 3) 2⟩
def p10_5_3 : RO := ⟨some (some 15, true), some 17, .load 9 (.tmp 16)⟩
def p10_5_4 : RO := ⟨some (some 15, true), some 18, .binOp .eql 9 (.tmp 17) (.const (.string ⟨#[99, 97, 112, 116, 105, 111, 110]⟩)) 9⟩
def p10_5_5 : RO := ⟨some (some 15, true), some 19, .move (.tmp 18)⟩
def p10_5_6 : RO := ⟨some (some 19, false), some 20, .fieldAddr 30 (.tmp 3) 2⟩
def p10_5_7 : RO := ⟨some (some 19, false), some 21, .load 9 (.tmp 20)⟩
def p10_5_8 : RO := ⟨some (some 19, false), some 22, .binOp .eql 9 (.tmp 21) (.const (.string ⟨#[99, 111, 108]⟩)) 9⟩
def p10_5_9 : RO := ⟨some (some 15, true), some 23, .pick (.tmp 19) (.const (.bool true)) (.tmp 22)⟩
def p10_5_10 : RO := ⟨some (some 15, true), some 24, .move (.tmp 23)⟩
def p10_5_11 : RO := ⟨some (some 24, false), some 25, .fieldAddr 30 (.tmp 3) 2⟩
def p10_5_12 : RO := ⟨some (some 24, false), some 26, .load 9 (.tmp 25)⟩
def p10_5_13 : RO := ⟨some (some 24, false), some 27, .binOp .eql 9 (.tmp 26) (.const (.string ⟨#[99, 111, 108, 103, 114, 111, 117, 112]⟩)) 9⟩
def p10_5_14 : RO := ⟨some (some 15, true), some 28, .pick (.tmp 24) (.const (.bool true)) (.tmp 27)⟩
def p10_5_15 : RO := ⟨some (some 15, true), some 29, .move (.tmp 28)⟩
def p10_5_16 : RO := ⟨some (some 29, false), some 30, .fieldAddr 30 (.tmp 3) 2⟩
def p10_5_17 : RO := ⟨some (some 29, false), some 31, .load 9 (.tmp 30)⟩
def p10_5_18 : RO := ⟨some (some 29, false), some 32, .call ⟨.value (.func 14), #[(.tmp 31)], #[9]⟩⟩
def p10_5_19 : RO := ⟨some (some 15, true), some 33, .pick (.tmp 29) (.const (.bool true)) (.tmp 32)⟩
def p10_5_20 : RO := ⟨none, some 34, .pick (.tmp 15) (.tmp 33) (.const (.bool false))⟩
def p10_5_21 : RO := ⟨none, some 35, .move (.tmp 34)⟩
def p10_5_22 : RO := ⟨some (some 35, false), some 36, .move (.tmp 6)⟩
def p10_5_23 : RO := ⟨some (some 35, false), some 37, .move (.tmp 36)⟩
def p10_5_24 : RO := ⟨some (some 37, true), some 38, .fieldAddr 30 (.tmp 3) 2⟩
def p10_5_25 : RO := ⟨some (some 37, true), some 39, .load 9 (.tmp 38)⟩
def p10_5_26 : RO := ⟨some (some 37, true), some 40, .binOp .eql 9 (.tmp 39) (.const (.string ⟨#[116, 97, 98, 108, 101]⟩)) 9⟩
def p10_5_27 : RO := ⟨some (some 35, false), some 41, .pick (.tmp 37) (.tmp 40) (.const (.bool false))⟩
def p10_5_28 : RO := ⟨none, some 42, .pick (.tmp 35) (.const (.bool true)) (.tmp 41)⟩
def p10_5_29 : RO := ⟨none, some 7, .assign (.tmp 42)⟩
def o10_5 : List RO := [p10_5_0, p10_5_1, p10_5_2, p10_5_3, p10_5_4, p10_5_5, p10_5_6, p10_5_7, p10_5_8, p10_5_9, p10_5_10, p10_5_11, p10_5_12, p10_5_13, p10_5_14, p10_5_15, p10_5_16, p10_5_17, p10_5_18, p10_5_19, p10_5_20, p10_5_21, p10_5_22, p10_5_23, p10_5_24, p10_5_25, p10_5_26, p10_5_27, p10_5_28, p10_5_29]
def x10_5 : RC := .ops o10_5
def p10_8_0 : RO := ⟨none, some 43, .move (.tmp 0)⟩
def o10_8 : List RO := [p10_8_0]
def x10_8 : RC := .ops o10_8
def p10_21_0 : RO := ⟨none, some 45, .binOp .eql 3 (.tmp 43) (.const (.int .i64 (13))) 3⟩
def p10_21_1 : RO := ⟨none, some 44, .assign (.tmp 45)⟩
def o10_21 : List RO := [p10_21_0, p10_21_1]
def x10_21 : RC := .ops o10_21
def x10_22 : RC := .cond (.tmp 44) (.exit 1) .skip
def x10_20 : RC := .seq x10_21 x10_22
def p10_25_0 : RO := ⟨none, some 47, .binOp .eql 3 (.tmp 43) (.const (.int .i64 (9))) 3⟩
def p10_25_1 : RO := ⟨none, some 46, .assign (.tmp 47)⟩
def o10_25 : List RO := [p10_25_0, p10_25_1]
def x10_25 : RC := .ops o10_25
def x10_26 : RC := .cond (.tmp 46) (.exit 2) .skip
def x10_24 : RC := .seq x10_25 x10_26
def p10_29_0 : RO := ⟨none, some 49, .binOp .eql 3 (.tmp 43) (.const (.int .i64 (12))) 3⟩
def p10_29_1 : RO := ⟨none, some 48, .assign (.tmp 49)⟩
def o10_29 : List RO := [p10_29_0, p10_29_1]
def x10_29 : RC := .ops o10_29
def x10_30 : RC := .cond (.tmp 48) (.exit 3) .skip
def x10_28 : RC := .seq x10_29 x10_30
def p10_32_0 : RO := ⟨none, some 51, .binOp .eql 3 (.tmp 43) (.const (.int .i64 (11))) 3⟩
def p10_32_1 : RO := ⟨none, some 50, .assign (.tmp 51)⟩
def o10_32 : List RO := [p10_32_0, p10_32_1]
def x10_32 : RC := .ops o10_32
def x10_33 : RC := .cond (.tmp 50) (.exit 4) .skip
def x10_31 : RC := .seq x10_32 x10_33
def x10_27 : RC := .seq x10_28 x10_31
def x10_23 : RC := .seq x10_24 x10_27
def x10_19 : RC := .seq x10_20 x10_23
def x10_18 : RC := .seq x10_19 (.exit 0)
def x10_17 : RC := .block 1 x10_18
def p10_35_0 : RO := ⟨none, some 52, .move (.tmp 6)⟩
def p10_35_1 : RO := ⟨none, some 53, .move (.tmp 52)⟩
def p10_35_2 : RO := ⟨some (some 53, true), some 54, .fieldAddr 30 (.tmp 3) 2⟩
def p10_35_3 : RO := ⟨some (some 53, true), some 55, .load 9 (.tmp 54)⟩
def p10_35_4 : RO := ⟨some (some 53, true), some 56, .call ⟨.value (.func 14), #[(.tmp 55)], #[9]⟩⟩
def p10_35_5 : RO := ⟨some (some 53, true), some 57, .move (.tmp 56)⟩
def p10_35_6 : RO := ⟨some (some 57, false), some 58, .fieldAddr 30 (.tmp 3) 2⟩
def p10_35_7 : RO := ⟨some (some 57, false), some 59, .load 9 (.tmp 58)⟩
def p10_35_8 : RO := ⟨some (some 57, false), some 60, .binOp .eql 9 (.tmp 59) (.const (.string ⟨#[116, 114]⟩)) 9⟩
def p10_35_9 : RO := ⟨some (some 53, true), some 61, .pick (.tmp 57) (.const (.bool true)) (.tmp 60)⟩
def p10_35_10 : RO := ⟨none, some 62, .pick (.tmp 53) (.tmp 61) (.const (.bool false))⟩
def o10_35 : List RO := [p10_35_0, p10_35_1, p10_35_2, p10_35_3, p10_35_4, p10_35_5, p10_35_6, p10_35_7, p10_35_8, p10_35_9, p10_35_10]
def x10_35 : RC := .ops o10_35
def p10_38_0 : RO := ⟨none, some 4, .assign (.const (.bool true))⟩
def o10_38 : List RO := [p10_38_0]
def x10_38 : RC := .ops o10_38
def x10_37 : RC := .seq x10_38 .ret
def x10_36 : RC := .cond (.tmp 62) x10_37 .skip
def x10_34 : RC := .seq x10_35 x10_36
def x10_16 : RC := .seq x10_17 x10_34
def x10_15 : RC := .block 2 x10_16
def p10_40_0 : RO := ⟨none, some 63, .move (.tmp 5)⟩
def p10_40_1 : RO := ⟨none, some 64, .move (.tmp 63)⟩
def p10_40_2 : RO := ⟨some (some 64, true), some 65, .fieldAddr 30 (.tmp 3) 2⟩
def p10_40_3 : RO := ⟨some (some 64, true), some 66, .load 9 (.tmp 65)⟩
def p10_40_4 : RO := ⟨some (some 64, true), some 67, .call ⟨.value (.func 12), #[(.tmp 66)], #[9]⟩⟩
def p10_40_5 : RO := ⟨none, some 68, .pick (.tmp 64) (.tmp 67) (.const (.bool false))⟩
def o10_40 : List RO := [p10_40_0, p10_40_1, p10_40_2, p10_40_3, p10_40_4, p10_40_5]
def x10_40 : RC := .ops o10_40
def p10_43_0 : RO := ⟨none, some 4, .assign (.const (.bool true))⟩
def o10_43 : List RO := [p10_43_0]
def x10_43 : RC := .ops o10_43
def x10_42 : RC := .seq x10_43 .ret
def x10_41 : RC := .cond (.tmp 68) x10_42 .skip
def x10_39 : RC := .seq x10_40 x10_41
def x10_14 : RC := .seq x10_15 x10_39
def x10_13 : RC := .block 3 x10_14
def p10_45_0 : RO := ⟨none, some 69, .move (.tmp 5)⟩
def p10_45_1 : RO := ⟨none, some 70, .move (.tmp 69)⟩
def p10_45_2 : RO := ⟨some (some 70, true), some 71, .fieldAddr 30 (.tmp 3) 2⟩
def p10_45_3 : RO := ⟨some (some 70, true), some 72, .load 9 (.tmp 71)⟩
def p10_45_4 : RO := ⟨some (some 70, true), some 73, .binOp .eql 9 (.tmp 72) (.const (.string ⟨#[116, 114]⟩)) 9⟩
def p10_45_5 : RO := ⟨none, some 74, .pick (.tmp 70) (.tmp 73) (.const (.bool false))⟩
def o10_45 : List RO := [p10_45_0, p10_45_1, p10_45_2, p10_45_3, p10_45_4, p10_45_5]
def x10_45 : RC := .ops o10_45
def p10_48_0 : RO := ⟨none, some 4, .assign (.const (.bool true))⟩
def o10_48 : List RO := [p10_48_0]
def x10_48 : RC := .ops o10_48
def x10_47 : RC := .seq x10_48 .ret
def x10_46 : RC := .cond (.tmp 74) x10_47 .skip
def x10_44 : RC := .seq x10_45 x10_46
def x10_12 : RC := .seq x10_13 x10_44
def x10_11 : RC := .block 4 x10_12
def p10_51_0 : RO := ⟨none, some 75, .move (.tmp 7)⟩
def p10_51_1 : RO := ⟨none, some 4, .assign (.tmp 75)⟩
def o10_51 : List RO := [p10_51_0, p10_51_1]
def x10_51 : RC := .ops o10_51
def x10_50 : RC := .seq x10_51 .ret
def x10_49 : RC := .seq x10_50 (.exit 0)
def x10_10 : RC := .seq x10_11 x10_49
def x10_9 : RC := .block 0 x10_10
def x10_7 : RC := .seq x10_8 x10_9
def p10_53_0 : RO := ⟨none, some 4, .assign (.const (.bool false))⟩
def o10_53 : List RO := [p10_53_0]
def x10_53 : RC := .ops o10_53
def x10_52 : RC := .seq x10_53 .ret
def x10_6 : RC := .seq x10_7 x10_52
def x10_4 : RC := .seq x10_5 x10_6
def x10_2 : RC := .seq x10_3 x10_4
def x10_0 : RC := .seq x10_1 x10_2
theorem x10_eq : Try.f10.body.map rc = some x10_0 := by kernel_rfl
def p11_1_0 : RO := ⟨none, some 3, .box 30 (.tmp 1)⟩
def p11_1_1 : RO := ⟨none, some 4, .assign (.const (.bool false))⟩
def o11_1 : List RO := [p11_1_0, p11_1_1]
def x11_1 : RC := .ops o11_1
def p11_3_0 : RO := ⟨none, some 8, .move (.tmp 0)⟩
def p11_3_1 : RO := ⟨none, some 9, .binOp .eql 3 (.tmp 8) (.const (.int .i64 (13))) 3⟩
def p11_3_2 : RO := ⟨none, some 5, .assign (.tmp 9)⟩
def o11_3 : List RO := [p11_3_0, p11_3_1, p11_3_2]
def x11_3 : RC := .ops o11_3
def p11_5_0 : RO := ⟨none, some 10, .move (.tmp 0)⟩
def p11_5_1 : RO := ⟨none, some 11, .binOp .eql 3 (.tmp 10) (.const (.int .i64 (9))) 3⟩
def p11_5_2 : RO := ⟨none, some 6, .assign (.tmp 11)⟩
def o11_5 : List RO := [p11_5_0, p11_5_1, p11_5_2]
def x11_5 : RC := .ops o11_5
def p11_7_0 : RO := ⟨none, some 12, .move (.tmp 0)⟩
def p11_7_1 : RO := ⟨none, some 13, .binOp .eql 3 (.tmp 12) (.const (.int .i64 (12))) 3⟩
def p11_7_2 : RO := ⟨none, some 7, .assign (.tmp 13)⟩
def o11_7 : List RO := [p11_7_0, p11_7_1, p11_7_2]
def x11_7 : RC := .ops o11_7
def p11_10_0 : RO := ⟨none, some 14, .move (.tmp 5)⟩
def p11_10_1 : RO := ⟨none, some 15, .unOp .not 4 (.tmp 14)⟩
def p11_10_2 : RO := ⟨none, some 16, .move (.tmp 15)⟩
def p11_10_3 : RO := ⟨some (some 16, true), some 17, .move (.tmp 6)⟩
def p11_10_4 : RO := ⟨some (some 16, true), some 18, .unOp .not 4 (.tmp 17)⟩
def p11_10_5 : RO := ⟨none, some 19, .pick (.tmp 16) (.tmp 18) (.const (.bool false))⟩
def p11_10_6 : RO := ⟨none, some 20, .move (.tmp 19)⟩
def p11_10_7 : RO := ⟨some (some 20, true), some 21, .move (.tmp 7)⟩
def p11_10_8 : RO := ⟨some (some 20, true), some 22, .unOp .not 4 (.tmp 21)⟩
def p11_10_9 : RO := ⟨none, some 23, .pick (.tmp 20) (.tmp 22) (.const (.bool false))⟩
def p11_10_10 : RO := ⟨none, some 24, .move (.tmp 23)⟩
def p11_10_11 : RO := ⟨some (some 24, true), some 25, .move (.tmp 0)⟩
def p11_10_12 : RO := ⟨some (some 24, true), some 26, .binOp .neq 3 (.tmp 25) (.const (.int .i64 (11))) 3⟩
def p11_10_13 : RO := ⟨none, some 27, .pick (.tmp 24) (.tmp 26) (.const (.bool false))⟩
def o11_10 : List RO := [p11_10_0, p11_10_1, p11_10_2, p11_10_3, p11_10_4, p11_10_5, p11_10_6, p11_10_7, p11_10_8, p11_10_9, p11_10_10, p11_10_11, p11_10_12, p11_10_13]
def x11_10 : RC := .ops o11_10
def p11_13_0 : RO := ⟨none, some 4, .assign (.const (.bool false))⟩
def o11_13 : List RO := [p11_13_0]
def x11_13 : RC := .ops o11_13
def x11_12 : RC := .seq x11_13 .ret
def x11_11 : RC := .cond (.tmp 27) x11_12 .skip
def x11_9 : RC := .seq x11_10 x11_11
def p11_16_0 : RO := ⟨none, some 28, .fieldAddr 30 (.tmp 3) 0⟩
def p11_16_1 : RO := ⟨none, some 29, .load 3 (.tmp 28)⟩
def o11_16 : List RO := [p11_16_0, p11_16_1]
def x11_16 : RC := .ops o11_16
def p11_19_0 : RO := ⟨none, some 31, .binOp .eql 3 (.tmp 29) (.const (.int .i64 (2))) 3⟩
def p11_19_1 : RO := ⟨none, some 30, .assign (.tmp 31)⟩
def o11_19 : List RO := [p11_19_0, p11_19_1]
def x11_19 : RC := .ops o11_19
def p11_23_0 : RO := ⟨none, some 33, .fieldAddr 30 (.tmp 3) 2⟩
def p11_23_1 : RO := ⟨none, some 34, .load 9 (.tmp 33)⟩
def p11_23_2 : RO := ⟨none, some 35, .call ⟨.value (.func 17), #[(.tmp 34), (.const (.string ⟨#[99, 97, 112, 116, 105, 111, 110, 32, 99, 111, 108, 32, 99, 111, 108, 103, 114, 111, 117, 112]⟩))], #[9, 9]⟩⟩
def p11_23_3 : RO := ⟨none, some 36, .move (.tmp 35)⟩
def p11_23_4 : RO := ⟨some (some 36, false), some 37, .fieldAddr 30 (.tmp 3) 2⟩
def p11_23_5 : RO := ⟨some (some 36, false), some 38, .load 9 (.tmp 37)⟩
def p11_23_6 : RO := ⟨some (some 36, false), some 39, .call ⟨.value (.func 15), #[(.tmp 38)], #[9]⟩⟩
def p11_23_7 : RO := ⟨none, some 40, .pick (.tmp 36) (.const (.bool true)) (.tmp 39)⟩
def p11_23_8 : RO := ⟨none, some 32, .assign (.tmp 40)⟩
def o11_23 : List RO := [p11_23_0, p11_23_1, p11_23_2, p11_23_3, p11_23_4, p11_23_5, p11_23_6, p11_23_7, p11_23_8]
def x11_23 : RC := .ops o11_23
def p11_26_0 : RO := ⟨none, some 4, .assign (.const (.bool true))⟩
def o11_26 : List RO := [p11_26_0]
def x11_26 : RC := .ops o11_26
def x11_25 : RC := .seq x11_26 .ret
def p11_28_0 : RO := ⟨none, some 42, .fieldAddr 30 (.tmp 3) 2⟩
def p11_28_1 : RO := ⟨none, some 43, .load 9 (.tmp 42)⟩
def p11_28_2 : RO := ⟨none, some 44, .binOp .eql 9 (.tmp 43) (.const (.string ⟨#[116, 114]⟩)) 9⟩
def p11_28_3 : RO := ⟨none, some 41, .assign (.tmp 44)⟩
def o11_28 : List RO := [p11_28_0, p11_28_1, p11_28_2, p11_28_3]
def x11_28 : RC := .ops o11_28
def p11_31_0 : RO := ⟨none, some 45, .move (.tmp 5)⟩
def p11_31_1 : RO := ⟨none, some 46, .move (.tmp 45)⟩
def p11_31_2 : RO := ⟨some (some 46, false), some 47, .move (.tmp 6)⟩
def p11_31_3 : RO := ⟨none, some 48, .pick (.tmp 46) (.const (.bool true)) (.tmp 47)⟩
def p11_31_4 : RO := ⟨none, some 49, .move (.tmp 48)⟩
def p11_31_5 : RO := ⟨some (some 49, false), some 50, .move (.tmp 7)⟩
def p11_31_6 : RO := ⟨none, some 51, .pick (.tmp 49) (.const (.bool true)) (.tmp 50)⟩
def p11_31_7 : RO := ⟨none, some 4, .assign (.tmp 51)⟩
def o11_31 : List RO := [p11_31_0, p11_31_1, p11_31_2, p11_31_3, p11_31_4, p11_31_5, p11_31_6, p11_31_7]
def x11_31 : RC := .ops o11_31
def x11_30 : RC := .seq x11_31 .ret
def p11_33_0 : RO := ⟨none, some 53, .fieldAddr 30 (.tmp 3) 2⟩
def p11_33_1 : RO := ⟨none, some 54, .load 9 (.tmp 53)⟩
def p11_33_2 : RO := ⟨none, some 55, .call ⟨.value (.func 13), #[(.tmp 54)], #[9]⟩⟩
def p11_33_3 : RO := ⟨none, some 52, .assign (.tmp 55)⟩
def o11_33 : List RO := [p11_33_0, p11_33_1, p11_33_2, p11_33_3]
def x11_33 : RC := .ops o11_33
def p11_36_0 : RO := ⟨none, some 56, .move (.tmp 5)⟩
def p11_36_1 : RO := ⟨none, some 57, .move (.tmp 56)⟩
def p11_36_2 : RO := ⟨some (some 57, false), some 58, .move (.tmp 6)⟩
def p11_36_3 : RO := ⟨none, some 59, .pick (.tmp 57) (.const (.bool true)) (.tmp 58)⟩
def p11_36_4 : RO := ⟨none, some 4, .assign (.tmp 59)⟩
def o11_36 : List RO := [p11_36_0, p11_36_1, p11_36_2, p11_36_3, p11_36_4]
def x11_36 : RC := .ops o11_36
def x11_35 : RC := .seq x11_36 .ret
def x11_34 : RC := .cond (.tmp 52) x11_35 .skip
def x11_32 : RC := .seq x11_33 x11_34
def x11_29 : RC := .cond (.tmp 41) x11_30 x11_32
def x11_27 : RC := .seq x11_28 x11_29
def x11_24 : RC := .cond (.tmp 32) x11_25 x11_27
def x11_22 : RC := .seq x11_23 x11_24
def x11_21 : RC := .block 1 x11_22
def p11_38_0 : RO := ⟨none, some 61, .binOp .eql 3 (.tmp 29) (.const (.int .i64 (3))) 3⟩
def p11_38_1 : RO := ⟨none, some 60, .assign (.tmp 61)⟩
def o11_38 : List RO := [p11_38_0, p11_38_1]
def x11_38 : RC := .ops o11_38
def p11_41_0 : RO := ⟨none, some 62, .fieldAddr 30 (.tmp 3) 2⟩
def p11_41_1 : RO := ⟨none, some 63, .load 9 (.tmp 62)⟩
def p11_41_2 : RO := ⟨none, some 64, .binOp .eql 9 (.tmp 63) (.const (.string ⟨#[116, 97, 98, 108, 101]⟩)) 9⟩
def p11_41_3 : RO := ⟨none, some 65, .move (.tmp 64)⟩
def p11_41_4 : RO := ⟨some (some 65, false), some 66, .move (.tmp 5)⟩
def p11_41_5 : RO := ⟨some (some 65, false), some 67, .move (.tmp 66)⟩
def p11_41_6 : RO := ⟨some (some 67, true), some 68, .fieldAddr 30 (.tmp 3) 2⟩
def p11_41_7 : RO := ⟨some (some 67, true), some 69, .load 9 (.tmp 68)⟩
def p11_41_8 : RO := ⟨some (some 67, true), some 70, .binOp .eql 9 (.tmp 69) (.const (.string ⟨#[116, 114]⟩)) 9⟩
def p11_41_9 : RO := ⟨some (some 67, true), some 71, .move (.tmp 70)⟩
def p11_41_10 : RO := ⟨some (some 71, false), some 72, .fieldAddr 30 (.tmp 3) 2⟩
def p11_41_11 : RO := ⟨some (some 71, false), some 73, .load 9 (.tmp 72)⟩
def p11_41_12 : RO := ⟨some (some 71, false), some 74, .call ⟨.value (.func 15), #[(.tmp 73)], #[9]⟩⟩
def p11_41_13 : RO := ⟨some (some 67, true), some 75, .pick (.tmp 71) (.const (.bool true)) (.tmp 74)⟩
def p11_41_14 : RO := ⟨some (some 65, false), some 76, .pick (.tmp 67) (.tmp 75) (.const (.bool false))⟩
def p11_41_15 : RO := ⟨none, some 77, .pick (.tmp 65) (.const (.bool true)) (.tmp 76)⟩
def p11_41_16 : RO := ⟨none, some 4, .assign (.tmp 77)⟩
def o11_41 : List RO := [p11_41_0, p11_41_1, p11_41_2, p11_41_3, p11_41_4, p11_41_5, p11_41_6, p11_41_7, p11_41_8, p11_41_9, p11_41_10, p11_41_11, p11_41_12, p11_41_13, p11_41_14, p11_41_15, p11_41_16]
def x11_41 : RC := .ops o11_41
def x11_40 : RC := .seq x11_41 .ret
def x11_39 : RC := .cond (.tmp 60) x11_40 .skip
def x11_37 : RC := .seq x11_38 x11_39
def x11_20 : RC := .cond (.tmp 30) x11_21 x11_37
def x11_18 : RC := .seq x11_19 x11_20
def x11_17 : RC := .block 0 x11_18
def x11_15 : RC := .seq x11_16 x11_17
def p11_43_0 : RO := ⟨none, some 4, .assign (.const (.bool false))⟩
def o11_43 : List RO := [p11_43_0]
def x11_43 : RC := .ops o11_43
def x11_42 : RC := .seq x11_43 .ret
def x11_14 : RC := .seq x11_15 x11_42
def x11_8 : RC := .seq x11_9 x11_14
def x11_6 : RC := .seq x11_7 x11_8
def x11_4 : RC := .seq x11_5 x11_6
def x11_2 : RC := .seq x11_3 x11_4
def x11_0 : RC := .seq x11_1 x11_2
theorem x11_eq : Try.f11.body.map rc = some x11_0 := by kernel_rfl
def p12_1_0 : RO := ⟨none, some 2, .assign (.const (.bool false))⟩
def o12_1 : List RO := [p12_1_0]
def x12_1 : RC := .ops o12_1
def p12_3_0 : RO := ⟨none, some 3, .move (.tmp 0)⟩
def p12_3_1 : RO := ⟨none, some 4, .binOp .eql 9 (.tmp 3) (.const (.string ⟨#[116, 100]⟩)) 9⟩
def p12_3_2 : RO := ⟨none, some 5, .move (.tmp 4)⟩
def p12_3_3 : RO := ⟨some (some 5, false), some 6, .move (.tmp 0)⟩
def p12_3_4 : RO := ⟨some (some 5, false), some 7, .binOp .eql 9 (.tmp 6) (.const (.string ⟨#[116, 104]⟩)) 9⟩
def p12_3_5 : RO := ⟨none, some 8, .pick (.tmp 5) (.const (.bool true)) (.tmp 7)⟩
def p12_3_6 : RO := ⟨none, some 2, .assign (.tmp 8)⟩
def o12_3 : List RO := [p12_3_0, p12_3_1, p12_3_2, p12_3_3, p12_3_4, p12_3_5, p12_3_6]
def x12_3 : RC := .ops o12_3
def x12_2 : RC := .seq x12_3 .ret
def x12_0 : RC := .seq x12_1 x12_2
theorem x12_eq : Try.f12.body.map rc = some x12_0 := by kernel_rfl
def p13_1_0 : RO := ⟨none, some 2, .assign (.const (.bool false))⟩
def o13_1 : List RO := [p13_1_0]
def x13_1 : RC := .ops o13_1
def p13_3_0 : RO := ⟨none, some 3, .move (.tmp 0)⟩
def p13_3_1 : RO := ⟨none, some 4, .binOp .eql 9 (.tmp 3) (.const (.string ⟨#[116, 100]⟩)) 9⟩
def p13_3_2 : RO := ⟨none, some 5, .move (.tmp 4)⟩
def p13_3_3 : RO := ⟨some (some 5, false), some 6, .move (.tmp 0)⟩
def p13_3_4 : RO := ⟨some (some 5, false), some 7, .binOp .eql 9 (.tmp 6) (.const (.string ⟨#[116, 104]⟩)) 9⟩
def p13_3_5 : RO := ⟨none, some 8, .pick (.tmp 5) (.const (.bool true)) (.tmp 7)⟩
def p13_3_6 : RO := ⟨none, some 2, .assign (.tmp 8)⟩
def o13_3 : List RO := [p13_3_0, p13_3_1, p13_3_2, p13_3_3, p13_3_4, p13_3_5, p13_3_6]
def x13_3 : RC := .ops o13_3
def x13_2 : RC := .seq x13_3 .ret
def x13_0 : RC := .seq x13_1 x13_2
theorem x13_eq : Try.f13.body.map rc = some x13_0 := by kernel_rfl
def p14_1_0 : RO := ⟨none, some 2, .assign (.const (.bool false))⟩
def o14_1 : List RO := [p14_1_0]
def x14_1 : RC := .ops o14_1
def p14_3_0 : RO := ⟨none, some 3, .move (.tmp 0)⟩
def p14_3_1 : RO := ⟨none, some 4, .binOp .eql 9 (.tmp 3) (.const (.string ⟨#[116, 98, 111, 100, 121]⟩)) 9⟩
def p14_3_2 : RO := ⟨none, some 5, .move (.tmp 4)⟩
def p14_3_3 : RO := ⟨some (some 5, false), some 6, .move (.tmp 0)⟩
def p14_3_4 : RO := ⟨some (some 5, false), some 7, .binOp .eql 9 (.tmp 6) (.const (.string ⟨#[116, 104, 101, 97, 100]⟩)) 9⟩
def p14_3_5 : RO := ⟨none, some 8, .pick (.tmp 5) (.const (.bool true)) (.tmp 7)⟩
def p14_3_6 : RO := ⟨none, some 9, .move (.tmp 8)⟩
def p14_3_7 : RO := ⟨some (some 9, false), some 10, .move (.tmp 0)⟩
def p14_3_8 : RO := ⟨some (some 9, false), some 11, .binOp .eql 9 (.tmp 10) (.const (.string ⟨#[116, 102, 111, 111, 116]⟩)) 9⟩
def p14_3_9 : RO := ⟨none, some 12, .pick (.tmp 9) (.const (.bool true)) (.tmp 11)⟩
def p14_3_10 : RO := ⟨none, some 2, .assign (.tmp 12)⟩
def o14_3 : List RO := [p14_3_0, p14_3_1, p14_3_2, p14_3_3, p14_3_4, p14_3_5, p14_3_6, p14_3_7, p14_3_8, p14_3_9, p14_3_10]
def x14_3 : RC := .ops o14_3
def x14_2 : RC := .seq x14_3 .ret
def x14_0 : RC := .seq x14_1 x14_2
theorem x14_eq : Try.f14.body.map rc = some x14_0 := by kernel_rfl
def p15_1_0 : RO := ⟨none, some 2, .assign (.const (.bool false))⟩
def o15_1 : List RO := [p15_1_0]
def x15_1 : RC := .ops o15_1
def p15_3_0 : RO := ⟨none, some 3, .move (.tmp 0)⟩
def p15_3_1 : RO := ⟨none, some 4, .call ⟨.value (.func 17), #[(.tmp 3), (.const (.string ⟨#[116, 98, 111, 100, 121, 32, 116, 104, 101, 97, 100, 32, 116, 102, 111, 111, 116]⟩))], #[9, 9]⟩⟩
def p15_3_2 : RO := ⟨none, some 2, .assign (.tmp 4)⟩
def o15_3 : List RO := [p15_3_0, p15_3_1, p15_3_2]
def x15_3 : RC := .ops o15_3
def x15_2 : RC := .seq x15_3 .ret
def x15_0 : RC := .seq x15_1 x15_2
theorem x15_eq : Try.f15.body.map rc = some x15_0 := by kernel_rfl
def p16_1_0 : RO := ⟨none, some 1, .box 22 (.tmp 0)⟩
def p16_1_1 : RO := ⟨none, some 2, .assign (.const (.nilFunc))⟩
def o16_1 : List RO := [p16_1_0, p16_1_1]
def x16_1 : RC := .ops o16_1
def p16_3_0 : RO := ⟨none, some 3, .makeFunc (.func 18) #[] #[(.tmp 1)]⟩
def p16_3_1 : RO := ⟨none, some 2, .assign (.tmp 3)⟩
def o16_3 : List RO := [p16_3_0, p16_3_1]
def x16_3 : RC := .ops o16_3
def x16_2 : RC := .seq x16_3 .ret
def x16_0 : RC := .seq x16_1 x16_2
theorem x16_eq : Try.f16.body.map rc = some x16_0 := by kernel_rfl
def p17_1_0 : RO := ⟨none, some 4, .assign (.const (.bool false))⟩
def o17_1 : List RO := [p17_1_0]
def x17_1 : RC := .ops o17_1
def p17_3_0 : RO := ⟨none, some 5, .assign (.const (.int .i64 (0)))⟩
def o17_3 : List RO := [p17_3_0]
def x17_3 : RC := .ops o17_3
def p17_6_0 : RO := ⟨none, some 6, .assign (.const (.int .i64 (0)))⟩
def o17_6 : List RO := [p17_6_0]
def x17_6 : RC := .ops o17_6
def p17_11_0 : RO := ⟨none, some 7, .move (.tmp 6)⟩
def p17_11_1 : RO := ⟨none, some 8, .move (.tmp 1)⟩
def p17_11_2 : RO := ⟨none, some 9, .call ⟨.builtin .len, #[(.tmp 8)], #[9]⟩⟩
def p17_11_3 : RO := ⟨none, some 10, .binOp .leq 3 (.tmp 7) (.tmp 9) 3⟩
def o17_11 : List RO := [p17_11_0, p17_11_1, p17_11_2, p17_11_3]
def x17_11 : RC := .ops o17_11
def x17_12 : RC := .cond (.tmp 10) .skip (.exit 0)
def x17_10 : RC := .seq x17_11 x17_12
def p17_16_0 : RO := ⟨none, some 13, .move (.tmp 6)⟩
def p17_16_1 : RO := ⟨none, some 14, .move (.tmp 1)⟩
def p17_16_2 : RO := ⟨none, some 15, .call ⟨.builtin .len, #[(.tmp 14)], #[9]⟩⟩
def p17_16_3 : RO := ⟨none, some 16, .binOp .eql 3 (.tmp 13) (.tmp 15) 3⟩
def p17_16_4 : RO := ⟨none, some 17, .move (.tmp 16)⟩
def p17_16_5 : RO := ⟨some (some 17, false), some 18, .move (.tmp 1)⟩
def p17_16_6 : RO := ⟨some (some 17, false), some 19, .move (.tmp 6)⟩
def p17_16_7 : RO := ⟨some (some 17, false), some 20, .index 9 (.tmp 18) (.tmp 19)⟩
def p17_16_8 : RO := ⟨some (some 17, false), some 21, .binOp .eql 5 (.tmp 20) (.const (.int .u8 (32))) 5⟩
def p17_16_9 : RO := ⟨none, some 22, .pick (.tmp 17) (.const (.bool true)) (.tmp 21)⟩
def o17_16 : List RO := [p17_16_0, p17_16_1, p17_16_2, p17_16_3, p17_16_4, p17_16_5, p17_16_6, p17_16_7, p17_16_8, p17_16_9]
def x17_16 : RC := .ops o17_16
def p17_20_0 : RO := ⟨none, some 23, .move (.tmp 1)⟩
def p17_20_1 : RO := ⟨none, some 24, .move (.tmp 5)⟩
def p17_20_2 : RO := ⟨none, some 25, .move (.tmp 6)⟩
def p17_20_3 : RO := ⟨none, some 26, .slice 9 (.tmp 23) (some (.tmp 24)) (some (.tmp 25)) none⟩
def p17_20_4 : RO := ⟨none, some 27, .move (.tmp 0)⟩
def p17_20_5 : RO := ⟨none, some 28, .binOp .eql 9 (.tmp 26) (.tmp 27) 9⟩
def p17_20_6 : RO := ⟨none, some 29, .move (.tmp 28)⟩
def p17_20_7 : RO := ⟨some (some 29, true), some 30, .move (.tmp 6)⟩
def p17_20_8 : RO := ⟨some (some 29, true), some 31, .move (.tmp 5)⟩
def p17_20_9 : RO := ⟨some (some 29, true), some 32, .binOp .gtr 3 (.tmp 30) (.tmp 31) 3⟩
def p17_20_10 : RO := ⟨none, some 33, .pick (.tmp 29) (.tmp 32) (.const (.bool false))⟩
def o17_20 : List RO := [p17_20_0, p17_20_1, p17_20_2, p17_20_3, p17_20_4, p17_20_5, p17_20_6, p17_20_7, p17_20_8, p17_20_9, p17_20_10]
def x17_20 : RC := .ops o17_20
def p17_23_0 : RO := ⟨none, some 4, .assign (.const (.bool true))⟩
def o17_23 : List RO := [p17_23_0]
def x17_23 : RC := .ops o17_23
def x17_22 : RC := .seq x17_23 .ret
def x17_21 : RC := .cond (.tmp 33) x17_22 .skip
def x17_19 : RC := .seq x17_20 x17_21
def p17_24_0 : RO := ⟨none, some 34, .move (.tmp 6)⟩
def p17_24_1 : RO := ⟨none, some 35, .binOp .add 3 (.tmp 34) (.const (.int .i64 (1))) 3⟩
def p17_24_2 : RO := ⟨none, some 5, .assign (.tmp 35)⟩
def o17_24 : List RO := [p17_24_0, p17_24_1, p17_24_2]
def x17_24 : RC := .ops o17_24
def x17_18 : RC := .seq x17_19 x17_24
def x17_17 : RC := .cond (.tmp 22) x17_18 .skip
def x17_15 : RC := .seq x17_16 x17_17
def x17_14 : RC := .block 1 x17_15
def p17_25_0 : RO := ⟨none, some 11, .move (.tmp 6)⟩
def p17_25_1 : RO := ⟨none, some 12, .binOp .add 3 (.tmp 11) (.const (.int .i64 (1))) 3⟩
def p17_25_2 : RO := ⟨none, some 6, .assign (.tmp 12)⟩
def o17_25 : List RO := [p17_25_0, p17_25_1, p17_25_2]
def x17_25 : RC := .ops o17_25
def x17_13 : RC := .seq x17_14 x17_25
def x17_9 : RC := .seq x17_10 x17_13
def x17_8 : RC := .loop x17_9
def x17_7 : RC := .block 0 x17_8
def x17_5 : RC := .seq x17_6 x17_7
def p17_27_0 : RO := ⟨none, some 4, .assign (.const (.bool false))⟩
def o17_27 : List RO := [p17_27_0]
def x17_27 : RC := .ops o17_27
def x17_26 : RC := .seq x17_27 .ret
def x17_4 : RC := .seq x17_5 x17_26
def x17_2 : RC := .seq x17_3 x17_4
def x17_0 : RC := .seq x17_1 x17_2
theorem x17_eq : Try.f17.body.map rc = some x17_0 := by kernel_rfl
def p18_1_0 : RO := ⟨none, some 4, .load 22 (.tmp 1)⟩
def p18_1_1 : RO := ⟨none, some 5, .call ⟨.builtin .len, #[(.tmp 4)], #[22]⟩⟩
def p18_1_2 : RO := ⟨none, some 6, .binOp .sub 3 (.tmp 5) (.const (.int .i64 (1))) 3⟩
def p18_1_3 : RO := ⟨none, some 3, .assign (.tmp 6)⟩
def o18_1 : List RO := [p18_1_0, p18_1_1, p18_1_2, p18_1_3]
def x18_1 : RC := .ops o18_1
def p18_6_0 : RO := ⟨none, some 7, .move (.tmp 3)⟩
def p18_6_1 : RO := ⟨none, some 8, .binOp .geq 3 (.tmp 7) (.const (.int .i64 (0))) 3⟩
def o18_6 : List RO := [p18_6_0, p18_6_1]
def x18_6 : RC := .ops o18_6
def x18_7 : RC := .cond (.tmp 8) .skip (.exit 0)
def x18_5 : RC := .seq x18_6 x18_7
def p18_11_0 : RO := ⟨none, some 11, .move (.tmp 0)⟩
def p18_11_1 : RO := ⟨none, some 12, .move (.tmp 3)⟩
def p18_11_2 : RO := ⟨none, some 13, .load 22 (.tmp 1)⟩
def p18_11_3 : RO := ⟨none, some 14, .move (.tmp 3)⟩
def p18_11_4 : RO := ⟨none, some 15, .indexAddr 22 (.tmp 13) (.tmp 14)⟩
def p18_11_5 : RO := ⟨none, some 16, .load 34 (.tmp 15)⟩
def p18_11_6 : RO := ⟨none, some 17, .call ⟨.value (.tmp 11), #[(.tmp 12), (.tmp 16)], #[3, 34]⟩⟩
def p18_11_7 : RO := ⟨none, some 18, .unOp .not 4 (.tmp 17)⟩
def o18_11 : List RO := [p18_11_0, p18_11_1, p18_11_2, p18_11_3, p18_11_4, p18_11_5, p18_11_6, p18_11_7]
def x18_11 : RC := .ops o18_11
def x18_12 : RC := .cond (.tmp 18) .ret .skip
def x18_10 : RC := .seq x18_11 x18_12
def x18_9 : RC := .block 1 x18_10
def p18_13_0 : RO := ⟨none, some 9, .move (.tmp 3)⟩
def p18_13_1 : RO := ⟨none, some 10, .binOp .sub 3 (.tmp 9) (.const (.int .i64 (1))) 3⟩
def p18_13_2 : RO := ⟨none, some 3, .assign (.tmp 10)⟩
def o18_13 : List RO := [p18_13_0, p18_13_1, p18_13_2]
def x18_13 : RC := .ops o18_13
def x18_8 : RC := .seq x18_9 x18_13
def x18_4 : RC := .seq x18_5 x18_8
def x18_3 : RC := .loop x18_4
def x18_2 : RC := .block 0 x18_3
def x18_0 : RC := .seq x18_1 x18_2
theorem x18_eq : Try.f18.body.map rc = some x18_0 := by kernel_rfl
noncomputable def tab : FuncId → Option (RC × List ResultVar × Nat)
  | 3 => some (x3_0, [.tmp 4], 19)
  | 4 => some (x4_0, [.tmp 4], 38)
  | 5 => some (x5_0, [.tmp 6], 37)
  | 6 => some (x6_0, [.tmp 2], 49)
  | 8 => some (x8_0, [.cell 4 3], 65)
  | 9 => some (x9_0, [.tmp 4], 58)
  | 10 => some (x10_0, [.tmp 4], 76)
  | 11 => some (x11_0, [.tmp 4], 78)
  | 12 => some (x12_0, [.tmp 2], 9)
  | 13 => some (x13_0, [.tmp 2], 9)
  | 14 => some (x14_0, [.tmp 2], 13)
  | 15 => some (x15_0, [.tmp 2], 5)
  | 16 => some (x16_0, [.tmp 2], 4)
  | 17 => some (x17_0, [.tmp 4], 36)
  | 18 => some (x18_0, [], 19)
  | _ => none
theorem tab_ok : TabOK Try.prog tab := by
  intro f x rs n h
  unfold tab at h
  split at h
  · injection h with h; injection h with h1 h; injection h with h2 h3; subst h1; subst h2; subst h3; exact ⟨_, Try.func3, rfl, rfl, x3_eq⟩
  · injection h with h; injection h with h1 h; injection h with h2 h3; subst h1; subst h2; subst h3; exact ⟨_, Try.func4, rfl, rfl, x4_eq⟩
  · injection h with h; injection h with h1 h; injection h with h2 h3; subst h1; subst h2; subst h3; exact ⟨_, Try.func5, rfl, rfl, x5_eq⟩
  · injection h with h; injection h with h1 h; injection h with h2 h3; subst h1; subst h2; subst h3; exact ⟨_, Try.func6, rfl, rfl, x6_eq⟩
  · injection h with h; injection h with h1 h; injection h with h2 h3; subst h1; subst h2; subst h3; exact ⟨_, Try.func8, rfl, rfl, x8_eq⟩
  · injection h with h; injection h with h1 h; injection h with h2 h3; subst h1; subst h2; subst h3; exact ⟨_, Try.func9, rfl, rfl, x9_eq⟩
  · injection h with h; injection h with h1 h; injection h with h2 h3; subst h1; subst h2; subst h3; exact ⟨_, Try.func10, rfl, rfl, x10_eq⟩
  · injection h with h; injection h with h1 h; injection h with h2 h3; subst h1; subst h2; subst h3; exact ⟨_, Try.func11, rfl, rfl, x11_eq⟩
  · injection h with h; injection h with h1 h; injection h with h2 h3; subst h1; subst h2; subst h3; exact ⟨_, Try.func12, rfl, rfl, x12_eq⟩
  · injection h with h; injection h with h1 h; injection h with h2 h3; subst h1; subst h2; subst h3; exact ⟨_, Try.func13, rfl, rfl, x13_eq⟩
  · injection h with h; injection h with h1 h; injection h with h2 h3; subst h1; subst h2; subst h3; exact ⟨_, Try.func14, rfl, rfl, x14_eq⟩
  · injection h with h; injection h with h1 h; injection h with h2 h3; subst h1; subst h2; subst h3; exact ⟨_, Try.func15, rfl, rfl, x15_eq⟩
  · injection h with h; injection h with h1 h; injection h with h2 h3; subst h1; subst h2; subst h3; exact ⟨_, Try.func16, rfl, rfl, x16_eq⟩
  · injection h with h; injection h with h1 h; injection h with h2 h3; subst h1; subst h2; subst h3; exact ⟨_, Try.func17, rfl, rfl, x17_eq⟩
  · injection h with h; injection h with h1 h; injection h with h2 h3; subst h1; subst h2; subst h3; exact ⟨_, Try.func18, rfl, rfl, x18_eq⟩
  · cases h
def WOK (W : World) : Prop := True
theorem wok_of {W : World} (h : W.ShapedOpen Try.prog) : WOK W := trivial
theorem base : Base Try.prog := ⟨by kernel_rfl, by kernel_rfl⟩
def prim0 : FuncId → Option (List V → H → Option (V × H)) := fun _ => none
theorem prim0s (W : World) (hW : WOK W) : Prims Try.prog W prim0 := fun _ _ => PrimOK.none
theorem among_loop {W : World} {s t : List UInt8} (ht : t.length ≤ 140737488355328) {ans : Bool} (n : Nat) : ∀ (f : Int) (i : Int) (d4 d7 d8 d9 d10 d11 d12 d13 d14 d15 d16 d17 d18 d19 d20 d21 d22 d23 d24 d25 d26 d27 d28 d29 d30 d31 d32 d33 d34 d35 : V), n = ((t.length : Int) + 1 - i).toNat → (0 ≤ f) → (f ≤ i) → (i ≤ (t.length : Int) + 1) → (i = (t.length : Int) + 1 → f = i) → (ans = amongAt s t f i) → WpM Try.prog W prim0 ⟨.code x17_9, [.loop x17_9, .blk 0, .seq x17_26], (.str s :: .str t :: U :: U :: d4 :: .int .i64 f :: .int .i64 i :: d7 :: d8 :: d9 :: d10 :: d11 :: d12 :: d13 :: d14 :: d15 :: d16 :: d17 :: d18 :: d19 :: d20 :: d21 :: d22 :: d23 :: d24 :: d25 :: d26 :: d27 :: d28 :: d29 :: d30 :: d31 :: d32 :: d33 :: d34 :: d35 :: []), [], H.empty, none⟩ (retQ Try.prog W [.tmp 4] (fun v _ => v = .bool ans)) := by
  induction n using Nat.strongRecOn with
  | _ n ih =>
    intro f i  d4 d7 d8 d9 d10 d11 d12 d13 d14 d15 d16 d17 d18 d19 d20 d21 d22 d23 d24 d25 d26 d27 d28 d29 d30 d31 d32 d33 d34 d35 hn h0 h1 h2 h3 hA
    refine WpM.run tab_ok 9 ⟨.code x17_12, [.seq x17_13, .loop x17_9, .blk 0, .seq x17_26], (.str s :: .str t :: U :: U :: d4 :: .int .i64 f :: .int .i64 i :: .int .i64 i :: .str t :: .int .i64 ((t.length : Int)) :: .bool (decide (i ≤ ((t.length : Int)))) :: d11 :: d12 :: d13 :: d14 :: d15 :: d16 :: d17 :: d18 :: d19 :: d20 :: d21 :: d22 :: d23 :: d24 :: d25 :: d26 :: d27 :: d28 :: d29 :: d30 :: d31 :: d32 :: d33 :: d34 :: d35 :: []), [], H.empty, none⟩ (by kernel_rfl) ?_
    refine WpM.cond (t := (decide (i ≤ ((t.length : Int))))) (by kernel_rfl) (fun c101 => ?_) (fun c101 => ?_)
    · have c101p := dec_t c101
      refine WpM.run tab_ok 11 ⟨.ops (p17_16_5 :: o17_16.drop 6), [.seq x17_17, .blk 1, .seq x17_25, .loop x17_9, .blk 0, .seq x17_26], (.str s :: .str t :: U :: U :: d4 :: .int .i64 f :: .int .i64 i :: .int .i64 i :: .str t :: .int .i64 ((t.length : Int)) :: .bool (decide (i ≤ ((t.length : Int)))) :: d11 :: d12 :: .int .i64 i :: .str t :: .int .i64 ((t.length : Int)) :: .bool (i == ((t.length : Int))) :: .bool (i == ((t.length : Int))) :: d18 :: d19 :: d20 :: d21 :: d22 :: d23 :: d24 :: d25 :: d26 :: d27 :: d28 :: d29 :: d30 :: d31 :: d32 :: d33 :: d34 :: d35 :: []), [], H.empty, none⟩ (by kernel_rfl) ?_
      refine WpM.guard (b := (i == ((t.length : Int)))) (by kernel_rfl) (fun c102 => ?_) (fun c102 => ?_)
      · have c102p := beq_t c102
        refine WpM.run tab_ok 14 ⟨.ops (p17_20_3 :: o17_20.drop 4), [.seq x17_21, .seq x17_24, .blk 1, .seq x17_25, .loop x17_9, .blk 0, .seq x17_26], (.str s :: .str t :: U :: U :: d4 :: .int .i64 f :: .int .i64 i :: .int .i64 i :: .str t :: .int .i64 ((t.length : Int)) :: .bool (decide (i ≤ ((t.length : Int)))) :: d11 :: d12 :: .int .i64 i :: .str t :: .int .i64 ((t.length : Int)) :: .bool (i == ((t.length : Int))) :: .bool true :: U :: U :: U :: U :: .bool true :: .str t :: .int .i64 f :: .int .i64 i :: d26 :: d27 :: d28 :: d29 :: d30 :: d31 :: d32 :: d33 :: d34 :: d35 :: []), [], H.empty, none⟩ (by kernel_rfl) ?_
        refine WpM.op (.str ((t.take (i.toNat)).drop (f.toNat))) _ (by kernel_rfl) (slice_str (by kernel_rfl) (by kernel_rfl) (by kernel_rfl) (by kernel_rfl) (optNat_some (k := .i64) (n := f) (by omega)) (optNat_some (k := .i64) (n := i) (by omega)) (by simp only [Option.getD_some, Option.getD_none]; omega)) ?_
        refine WpM.run tab_ok 3 ⟨.ops (p17_20_7 :: o17_20.drop 8), [.seq x17_21, .seq x17_24, .blk 1, .seq x17_25, .loop x17_9, .blk 0, .seq x17_26], (.str s :: .str t :: U :: U :: d4 :: .int .i64 f :: .int .i64 i :: .int .i64 i :: .str t :: .int .i64 ((t.length : Int)) :: .bool (decide (i ≤ ((t.length : Int)))) :: d11 :: d12 :: .int .i64 i :: .str t :: .int .i64 ((t.length : Int)) :: .bool (i == ((t.length : Int))) :: .bool true :: U :: U :: U :: U :: .bool true :: .str t :: .int .i64 f :: .int .i64 i :: .str ((t.take (i.toNat)).drop (f.toNat)) :: .str s :: .bool (((t.take (i.toNat)).drop (f.toNat)) == s) :: .bool (((t.take (i.toNat)).drop (f.toNat)) == s) :: d30 :: d31 :: d32 :: d33 :: d34 :: d35 :: []), [], H.empty, none⟩ (by kernel_rfl) ?_
        refine WpM.guard (b := (((t.take (i.toNat)).drop (f.toNat)) == s)) (by kernel_rfl) (fun c103 => ?_) (fun c103 => ?_)
        · have c103p := beq_t c103
          refine WpM.run tab_ok 6 ⟨.code x17_21, [.seq x17_24, .blk 1, .seq x17_25, .loop x17_9, .blk 0, .seq x17_26], (.str s :: .str t :: U :: U :: d4 :: .int .i64 f :: .int .i64 i :: .int .i64 i :: .str t :: .int .i64 ((t.length : Int)) :: .bool (decide (i ≤ ((t.length : Int)))) :: d11 :: d12 :: .int .i64 i :: .str t :: .int .i64 ((t.length : Int)) :: .bool (i == ((t.length : Int))) :: .bool true :: U :: U :: U :: U :: .bool true :: .str t :: .int .i64 f :: .int .i64 i :: .str ((t.take (i.toNat)).drop (f.toNat)) :: .str s :: .bool (((t.take (i.toNat)).drop (f.toNat)) == s) :: .bool true :: .int .i64 i :: .int .i64 f :: .bool (decide (i > f)) :: .bool (decide (i > f)) :: d34 :: d35 :: []), [], H.empty, none⟩ (by kernel_rfl) ?_
          refine WpM.cond (t := (decide (i > f))) (by kernel_rfl) (fun c104 => ?_) (fun c104 => ?_)
          · have c104p := dec_t c104
            refine WpM.run tab_ok 12 ⟨.done .ret, [], (.str s :: .str t :: U :: U :: .bool true :: .int .i64 f :: .int .i64 i :: .int .i64 i :: .str t :: .int .i64 ((t.length : Int)) :: .bool (decide (i ≤ ((t.length : Int)))) :: d11 :: d12 :: .int .i64 i :: .str t :: .int .i64 ((t.length : Int)) :: .bool (i == ((t.length : Int))) :: .bool true :: U :: U :: U :: U :: .bool true :: .str t :: .int .i64 f :: .int .i64 i :: .str ((t.take (i.toNat)).drop (f.toNat)) :: .str s :: .bool (((t.take (i.toNat)).drop (f.toNat)) == s) :: .bool true :: .int .i64 i :: .int .i64 f :: .bool (decide (i > f)) :: .bool (decide (i > f)) :: d34 :: d35 :: []), [], H.empty, none⟩ (by kernel_rfl) ?_
            refine WpM.ret (.bool true) H.empty (by kernel_rfl) (by kernel_rfl) ?_
            first
              | (rw [hA, among_end h0 h1 (by assumption)]; simp only [c101, c102, c103, c104, Bool.true_and, Bool.false_and, Bool.and_true, Bool.and_false, Bool.or_false, Bool.false_or, Bool.true_or, Bool.or_true]; done)
              | (rw [hA, among_blank h0 h1 (by omega) (by assumption)]; simp only [c101, c102, c103, c104, Bool.true_and, Bool.false_and, Bool.and_true, Bool.and_false, Bool.or_false, Bool.false_or, Bool.true_or, Bool.or_true]; done)
              | (rw [hA, h3 (by omega), among_past (by omega)])
          · have c104p := dec_f c104
            refine WpM.run tab_ok 4 ⟨.ops (p17_24_1 :: o17_24.drop 2), [.blk 1, .seq x17_25, .loop x17_9, .blk 0, .seq x17_26], (.str s :: .str t :: U :: U :: d4 :: .int .i64 f :: .int .i64 i :: .int .i64 i :: .str t :: .int .i64 ((t.length : Int)) :: .bool (decide (i ≤ ((t.length : Int)))) :: d11 :: d12 :: .int .i64 i :: .str t :: .int .i64 ((t.length : Int)) :: .bool (i == ((t.length : Int))) :: .bool true :: U :: U :: U :: U :: .bool true :: .str t :: .int .i64 f :: .int .i64 i :: .str ((t.take (i.toNat)).drop (f.toNat)) :: .str s :: .bool (((t.take (i.toNat)).drop (f.toNat)) == s) :: .bool true :: .int .i64 i :: .int .i64 f :: .bool (decide (i > f)) :: .bool (decide (i > f)) :: .int .i64 i :: d35 :: []), [], H.empty, none⟩ (by kernel_rfl) ?_
            refine WpM.op (.int .i64 (i + 1)) _ (by kernel_rfl) (arith_add (by kernel_rfl) (by kernel_rfl) (by omega)) ?_
            refine WpM.run tab_ok 6 ⟨.ops (p17_25_1 :: o17_25.drop 2), [.loop x17_9, .blk 0, .seq x17_26], (.str s :: .str t :: U :: U :: d4 :: .int .i64 (i + 1) :: .int .i64 i :: .int .i64 i :: .str t :: .int .i64 ((t.length : Int)) :: .bool (decide (i ≤ ((t.length : Int)))) :: .int .i64 i :: d12 :: .int .i64 i :: .str t :: .int .i64 ((t.length : Int)) :: .bool (i == ((t.length : Int))) :: .bool true :: U :: U :: U :: U :: .bool true :: .str t :: .int .i64 f :: .int .i64 i :: .str ((t.take (i.toNat)).drop (f.toNat)) :: .str s :: .bool (((t.take (i.toNat)).drop (f.toNat)) == s) :: .bool true :: .int .i64 i :: .int .i64 f :: .bool (decide (i > f)) :: .bool (decide (i > f)) :: .int .i64 i :: .int .i64 (i + 1) :: []), [], H.empty, none⟩ (by kernel_rfl) ?_
            refine WpM.op (.int .i64 (i + 1)) _ (by kernel_rfl) (arith_add (by kernel_rfl) (by kernel_rfl) (by omega)) ?_
            refine WpM.run tab_ok 3 ⟨.code x17_9, [.loop x17_9, .blk 0, .seq x17_26], (.str s :: .str t :: U :: U :: d4 :: .int .i64 (i + 1) :: .int .i64 (i + 1) :: .int .i64 i :: .str t :: .int .i64 ((t.length : Int)) :: .bool (decide (i ≤ ((t.length : Int)))) :: .int .i64 i :: .int .i64 (i + 1) :: .int .i64 i :: .str t :: .int .i64 ((t.length : Int)) :: .bool (i == ((t.length : Int))) :: .bool true :: U :: U :: U :: U :: .bool true :: .str t :: .int .i64 f :: .int .i64 i :: .str ((t.take (i.toNat)).drop (f.toNat)) :: .str s :: .bool (((t.take (i.toNat)).drop (f.toNat)) == s) :: .bool true :: .int .i64 i :: .int .i64 f :: .bool (decide (i > f)) :: .bool (decide (i > f)) :: .int .i64 i :: .int .i64 (i + 1) :: []), [], H.empty, none⟩ (by kernel_rfl) ?_
            refine ih _ ?_ _ _  _ _ _ _ _ _ _ _ _ _ _ _ _ _ _ _ _ _ _ _ _ _ _ _ _ _ _ _ _ _ rfl ?_ ?_ ?_ ?_ ?_
            · omega
            · omega
            · omega
            · omega
            · omega
            · first
              | (rw [hA]; exact among_step h0 h1 (by omega) (by assumption))
              | (rw [hA, among_blank h0 h1 (by omega) (by assumption)]; simp only [c101, c102, c103, c104, Bool.true_and, Bool.false_and, Bool.and_true, Bool.and_false, Bool.or_false, Bool.false_or, Bool.true_or, Bool.or_true]; done)
              | (rw [hA, among_end h0 h1 (by assumption), among_past (by omega)]; simp only [c101, c102, c103, c104, Bool.true_and, Bool.false_and, Bool.and_true, Bool.and_false, Bool.or_false, Bool.false_or, Bool.true_or, Bool.or_true]; done)
        · have c103p := beq_f c103
          refine WpM.run tab_ok 11 ⟨.ops (p17_24_1 :: o17_24.drop 2), [.blk 1, .seq x17_25, .loop x17_9, .blk 0, .seq x17_26], (.str s :: .str t :: U :: U :: d4 :: .int .i64 f :: .int .i64 i :: .int .i64 i :: .str t :: .int .i64 ((t.length : Int)) :: .bool (decide (i ≤ ((t.length : Int)))) :: d11 :: d12 :: .int .i64 i :: .str t :: .int .i64 ((t.length : Int)) :: .bool (i == ((t.length : Int))) :: .bool true :: U :: U :: U :: U :: .bool true :: .str t :: .int .i64 f :: .int .i64 i :: .str ((t.take (i.toNat)).drop (f.toNat)) :: .str s :: .bool (((t.take (i.toNat)).drop (f.toNat)) == s) :: .bool false :: U :: U :: U :: .bool false :: .int .i64 i :: d35 :: []), [], H.empty, none⟩ (by kernel_rfl) ?_
          refine WpM.op (.int .i64 (i + 1)) _ (by kernel_rfl) (arith_add (by kernel_rfl) (by kernel_rfl) (by omega)) ?_
          refine WpM.run tab_ok 6 ⟨.ops (p17_25_1 :: o17_25.drop 2), [.loop x17_9, .blk 0, .seq x17_26], (.str s :: .str t :: U :: U :: d4 :: .int .i64 (i + 1) :: .int .i64 i :: .int .i64 i :: .str t :: .int .i64 ((t.length : Int)) :: .bool (decide (i ≤ ((t.length : Int)))) :: .int .i64 i :: d12 :: .int .i64 i :: .str t :: .int .i64 ((t.length : Int)) :: .bool (i == ((t.length : Int))) :: .bool true :: U :: U :: U :: U :: .bool true :: .str t :: .int .i64 f :: .int .i64 i :: .str ((t.take (i.toNat)).drop (f.toNat)) :: .str s :: .bool (((t.take (i.toNat)).drop (f.toNat)) == s) :: .bool false :: U :: U :: U :: .bool false :: .int .i64 i :: .int .i64 (i + 1) :: []), [], H.empty, none⟩ (by kernel_rfl) ?_
          refine WpM.op (.int .i64 (i + 1)) _ (by kernel_rfl) (arith_add (by kernel_rfl) (by kernel_rfl) (by omega)) ?_
          refine WpM.run tab_ok 3 ⟨.code x17_9, [.loop x17_9, .blk 0, .seq x17_26], (.str s :: .str t :: U :: U :: d4 :: .int .i64 (i + 1) :: .int .i64 (i + 1) :: .int .i64 i :: .str t :: .int .i64 ((t.length : Int)) :: .bool (decide (i ≤ ((t.length : Int)))) :: .int .i64 i :: .int .i64 (i + 1) :: .int .i64 i :: .str t :: .int .i64 ((t.length : Int)) :: .bool (i == ((t.length : Int))) :: .bool true :: U :: U :: U :: U :: .bool true :: .str t :: .int .i64 f :: .int .i64 i :: .str ((t.take (i.toNat)).drop (f.toNat)) :: .str s :: .bool (((t.take (i.toNat)).drop (f.toNat)) == s) :: .bool false :: U :: U :: U :: .bool false :: .int .i64 i :: .int .i64 (i + 1) :: []), [], H.empty, none⟩ (by kernel_rfl) ?_
          refine ih _ ?_ _ _  _ _ _ _ _ _ _ _ _ _ _ _ _ _ _ _ _ _ _ _ _ _ _ _ _ _ _ _ _ _ rfl ?_ ?_ ?_ ?_ ?_
          · omega
          · omega
          · omega
          · omega
          · omega
          · first
            | (rw [hA]; exact among_step h0 h1 (by omega) (by assumption))
            | (rw [hA, among_blank h0 h1 (by omega) (by assumption)]; simp only [c101, c102, c103, Bool.true_and, Bool.false_and, Bool.and_true, Bool.and_false, Bool.or_false, Bool.false_or, Bool.true_or, Bool.or_true]; done)
            | (rw [hA, among_end h0 h1 (by assumption), among_past (by omega)]; simp only [c101, c102, c103, Bool.true_and, Bool.false_and, Bool.and_true, Bool.and_false, Bool.or_false, Bool.false_or, Bool.true_or, Bool.or_true]; done)
      · have c102p := beq_f c102
        refine WpM.run tab_ok 2 ⟨.ops (p17_16_7 :: o17_16.drop 8), [.seq x17_17, .blk 1, .seq x17_25, .loop x17_9, .blk 0, .seq x17_26], (.str s :: .str t :: U :: U :: d4 :: .int .i64 f :: .int .i64 i :: .int .i64 i :: .str t :: .int .i64 ((t.length : Int)) :: .bool (decide (i ≤ ((t.length : Int)))) :: d11 :: d12 :: .int .i64 i :: .str t :: .int .i64 ((t.length : Int)) :: .bool (i == ((t.length : Int))) :: .bool false :: .str t :: .int .i64 i :: d20 :: d21 :: d22 :: d23 :: d24 :: d25 :: d26 :: d27 :: d28 :: d29 :: d30 :: d31 :: d32 :: d33 :: d34 :: d35 :: []), [], H.empty, none⟩ (by kernel_rfl) ?_
        refine WpM.op (.int .u8 (bt t i)) _ (by kernel_rfl) (index_str (k := .i64) (by kernel_rfl) (by kernel_rfl) (by kernel_rfl) (by omega)) ?_
        refine WpM.run tab_ok 4 ⟨.code x17_17, [.blk 1, .seq x17_25, .loop x17_9, .blk 0, .seq x17_26], (.str s :: .str t :: U :: U :: d4 :: .int .i64 f :: .int .i64 i :: .int .i64 i :: .str t :: .int .i64 ((t.length : Int)) :: .bool (decide (i ≤ ((t.length : Int)))) :: d11 :: d12 :: .int .i64 i :: .str t :: .int .i64 ((t.length : Int)) :: .bool (i == ((t.length : Int))) :: .bool false :: .str t :: .int .i64 i :: .int .u8 (bt t i) :: .bool ((bt t i) == 32) :: .bool ((bt t i) == 32) :: d23 :: d24 :: d25 :: d26 :: d27 :: d28 :: d29 :: d30 :: d31 :: d32 :: d33 :: d34 :: d35 :: []), [], H.empty, none⟩ (by kernel_rfl) ?_
        refine WpM.cond (t := ((bt t i) == 32)) (by kernel_rfl) (fun c105 => ?_) (fun c105 => ?_)
        · have c105p := beq_t c105
          refine WpM.run tab_ok 6 ⟨.ops (p17_20_3 :: o17_20.drop 4), [.seq x17_21, .seq x17_24, .blk 1, .seq x17_25, .loop x17_9, .blk 0, .seq x17_26], (.str s :: .str t :: U :: U :: d4 :: .int .i64 f :: .int .i64 i :: .int .i64 i :: .str t :: .int .i64 ((t.length : Int)) :: .bool (decide (i ≤ ((t.length : Int)))) :: d11 :: d12 :: .int .i64 i :: .str t :: .int .i64 ((t.length : Int)) :: .bool (i == ((t.length : Int))) :: .bool false :: .str t :: .int .i64 i :: .int .u8 (bt t i) :: .bool ((bt t i) == 32) :: .bool ((bt t i) == 32) :: .str t :: .int .i64 f :: .int .i64 i :: d26 :: d27 :: d28 :: d29 :: d30 :: d31 :: d32 :: d33 :: d34 :: d35 :: []), [], H.empty, none⟩ (by kernel_rfl) ?_
          refine WpM.op (.str ((t.take (i.toNat)).drop (f.toNat))) _ (by kernel_rfl) (slice_str (by kernel_rfl) (by kernel_rfl) (by kernel_rfl) (by kernel_rfl) (optNat_some (k := .i64) (n := f) (by omega)) (optNat_some (k := .i64) (n := i) (by omega)) (by simp only [Option.getD_some, Option.getD_none]; omega)) ?_
          refine WpM.run tab_ok 3 ⟨.ops (p17_20_7 :: o17_20.drop 8), [.seq x17_21, .seq x17_24, .blk 1, .seq x17_25, .loop x17_9, .blk 0, .seq x17_26], (.str s :: .str t :: U :: U :: d4 :: .int .i64 f :: .int .i64 i :: .int .i64 i :: .str t :: .int .i64 ((t.length : Int)) :: .bool (decide (i ≤ ((t.length : Int)))) :: d11 :: d12 :: .int .i64 i :: .str t :: .int .i64 ((t.length : Int)) :: .bool (i == ((t.length : Int))) :: .bool false :: .str t :: .int .i64 i :: .int .u8 (bt t i) :: .bool ((bt t i) == 32) :: .bool ((bt t i) == 32) :: .str t :: .int .i64 f :: .int .i64 i :: .str ((t.take (i.toNat)).drop (f.toNat)) :: .str s :: .bool (((t.take (i.toNat)).drop (f.toNat)) == s) :: .bool (((t.take (i.toNat)).drop (f.toNat)) == s) :: d30 :: d31 :: d32 :: d33 :: d34 :: d35 :: []), [], H.empty, none⟩ (by kernel_rfl) ?_
          refine WpM.guard (b := (((t.take (i.toNat)).drop (f.toNat)) == s)) (by kernel_rfl) (fun c106 => ?_) (fun c106 => ?_)
          · have c106p := beq_t c106
            refine WpM.run tab_ok 6 ⟨.code x17_21, [.seq x17_24, .blk 1, .seq x17_25, .loop x17_9, .blk 0, .seq x17_26], (.str s :: .str t :: U :: U :: d4 :: .int .i64 f :: .int .i64 i :: .int .i64 i :: .str t :: .int .i64 ((t.length : Int)) :: .bool (decide (i ≤ ((t.length : Int)))) :: d11 :: d12 :: .int .i64 i :: .str t :: .int .i64 ((t.length : Int)) :: .bool (i == ((t.length : Int))) :: .bool false :: .str t :: .int .i64 i :: .int .u8 (bt t i) :: .bool ((bt t i) == 32) :: .bool ((bt t i) == 32) :: .str t :: .int .i64 f :: .int .i64 i :: .str ((t.take (i.toNat)).drop (f.toNat)) :: .str s :: .bool (((t.take (i.toNat)).drop (f.toNat)) == s) :: .bool true :: .int .i64 i :: .int .i64 f :: .bool (decide (i > f)) :: .bool (decide (i > f)) :: d34 :: d35 :: []), [], H.empty, none⟩ (by kernel_rfl) ?_
            refine WpM.cond (t := (decide (i > f))) (by kernel_rfl) (fun c107 => ?_) (fun c107 => ?_)
            · have c107p := dec_t c107
              refine WpM.run tab_ok 12 ⟨.done .ret, [], (.str s :: .str t :: U :: U :: .bool true :: .int .i64 f :: .int .i64 i :: .int .i64 i :: .str t :: .int .i64 ((t.length : Int)) :: .bool (decide (i ≤ ((t.length : Int)))) :: d11 :: d12 :: .int .i64 i :: .str t :: .int .i64 ((t.length : Int)) :: .bool (i == ((t.length : Int))) :: .bool false :: .str t :: .int .i64 i :: .int .u8 (bt t i) :: .bool ((bt t i) == 32) :: .bool ((bt t i) == 32) :: .str t :: .int .i64 f :: .int .i64 i :: .str ((t.take (i.toNat)).drop (f.toNat)) :: .str s :: .bool (((t.take (i.toNat)).drop (f.toNat)) == s) :: .bool true :: .int .i64 i :: .int .i64 f :: .bool (decide (i > f)) :: .bool (decide (i > f)) :: d34 :: d35 :: []), [], H.empty, none⟩ (by kernel_rfl) ?_
              refine WpM.ret (.bool true) H.empty (by kernel_rfl) (by kernel_rfl) ?_
              first
                | (rw [hA, among_end h0 h1 (by assumption)]; simp only [c101, c102, c105, c106, c107, Bool.true_and, Bool.false_and, Bool.and_true, Bool.and_false, Bool.or_false, Bool.false_or, Bool.true_or, Bool.or_true]; done)
                | (rw [hA, among_blank h0 h1 (by omega) (by assumption)]; simp only [c101, c102, c105, c106, c107, Bool.true_and, Bool.false_and, Bool.and_true, Bool.and_false, Bool.or_false, Bool.false_or, Bool.true_or, Bool.or_true]; done)
                | (rw [hA, h3 (by omega), among_past (by omega)])
            · have c107p := dec_f c107
              refine WpM.run tab_ok 4 ⟨.ops (p17_24_1 :: o17_24.drop 2), [.blk 1, .seq x17_25, .loop x17_9, .blk 0, .seq x17_26], (.str s :: .str t :: U :: U :: d4 :: .int .i64 f :: .int .i64 i :: .int .i64 i :: .str t :: .int .i64 ((t.length : Int)) :: .bool (decide (i ≤ ((t.length : Int)))) :: d11 :: d12 :: .int .i64 i :: .str t :: .int .i64 ((t.length : Int)) :: .bool (i == ((t.length : Int))) :: .bool false :: .str t :: .int .i64 i :: .int .u8 (bt t i) :: .bool ((bt t i) == 32) :: .bool ((bt t i) == 32) :: .str t :: .int .i64 f :: .int .i64 i :: .str ((t.take (i.toNat)).drop (f.toNat)) :: .str s :: .bool (((t.take (i.toNat)).drop (f.toNat)) == s) :: .bool true :: .int .i64 i :: .int .i64 f :: .bool (decide (i > f)) :: .bool (decide (i > f)) :: .int .i64 i :: d35 :: []), [], H.empty, none⟩ (by kernel_rfl) ?_
              refine WpM.op (.int .i64 (i + 1)) _ (by kernel_rfl) (arith_add (by kernel_rfl) (by kernel_rfl) (by omega)) ?_
              refine WpM.run tab_ok 6 ⟨.ops (p17_25_1 :: o17_25.drop 2), [.loop x17_9, .blk 0, .seq x17_26], (.str s :: .str t :: U :: U :: d4 :: .int .i64 (i + 1) :: .int .i64 i :: .int .i64 i :: .str t :: .int .i64 ((t.length : Int)) :: .bool (decide (i ≤ ((t.length : Int)))) :: .int .i64 i :: d12 :: .int .i64 i :: .str t :: .int .i64 ((t.length : Int)) :: .bool (i == ((t.length : Int))) :: .bool false :: .str t :: .int .i64 i :: .int .u8 (bt t i) :: .bool ((bt t i) == 32) :: .bool ((bt t i) == 32) :: .str t :: .int .i64 f :: .int .i64 i :: .str ((t.take (i.toNat)).drop (f.toNat)) :: .str s :: .bool (((t.take (i.toNat)).drop (f.toNat)) == s) :: .bool true :: .int .i64 i :: .int .i64 f :: .bool (decide (i > f)) :: .bool (decide (i > f)) :: .int .i64 i :: .int .i64 (i + 1) :: []), [], H.empty, none⟩ (by kernel_rfl) ?_
              refine WpM.op (.int .i64 (i + 1)) _ (by kernel_rfl) (arith_add (by kernel_rfl) (by kernel_rfl) (by omega)) ?_
              refine WpM.run tab_ok 3 ⟨.code x17_9, [.loop x17_9, .blk 0, .seq x17_26], (.str s :: .str t :: U :: U :: d4 :: .int .i64 (i + 1) :: .int .i64 (i + 1) :: .int .i64 i :: .str t :: .int .i64 ((t.length : Int)) :: .bool (decide (i ≤ ((t.length : Int)))) :: .int .i64 i :: .int .i64 (i + 1) :: .int .i64 i :: .str t :: .int .i64 ((t.length : Int)) :: .bool (i == ((t.length : Int))) :: .bool false :: .str t :: .int .i64 i :: .int .u8 (bt t i) :: .bool ((bt t i) == 32) :: .bool ((bt t i) == 32) :: .str t :: .int .i64 f :: .int .i64 i :: .str ((t.take (i.toNat)).drop (f.toNat)) :: .str s :: .bool (((t.take (i.toNat)).drop (f.toNat)) == s) :: .bool true :: .int .i64 i :: .int .i64 f :: .bool (decide (i > f)) :: .bool (decide (i > f)) :: .int .i64 i :: .int .i64 (i + 1) :: []), [], H.empty, none⟩ (by kernel_rfl) ?_
              refine ih _ ?_ _ _  _ _ _ _ _ _ _ _ _ _ _ _ _ _ _ _ _ _ _ _ _ _ _ _ _ _ _ _ _ _ rfl ?_ ?_ ?_ ?_ ?_
              · omega
              · omega
              · omega
              · omega
              · omega
              · first
                | (rw [hA]; exact among_step h0 h1 (by omega) (by assumption))
                | (rw [hA, among_blank h0 h1 (by omega) (by assumption)]; simp only [c101, c102, c105, c106, c107, Bool.true_and, Bool.false_and, Bool.and_true, Bool.and_false, Bool.or_false, Bool.false_or, Bool.true_or, Bool.or_true]; done)
                | (rw [hA, among_end h0 h1 (by assumption), among_past (by omega)]; simp only [c101, c102, c105, c106, c107, Bool.true_and, Bool.false_and, Bool.and_true, Bool.and_false, Bool.or_false, Bool.false_or, Bool.true_or, Bool.or_true]; done)
          · have c106p := beq_f c106
            refine WpM.run tab_ok 11 ⟨.ops (p17_24_1 :: o17_24.drop 2), [.blk 1, .seq x17_25, .loop x17_9, .blk 0, .seq x17_26], (.str s :: .str t :: U :: U :: d4 :: .int .i64 f :: .int .i64 i :: .int .i64 i :: .str t :: .int .i64 ((t.length : Int)) :: .bool (decide (i ≤ ((t.length : Int)))) :: d11 :: d12 :: .int .i64 i :: .str t :: .int .i64 ((t.length : Int)) :: .bool (i == ((t.length : Int))) :: .bool false :: .str t :: .int .i64 i :: .int .u8 (bt t i) :: .bool ((bt t i) == 32) :: .bool ((bt t i) == 32) :: .str t :: .int .i64 f :: .int .i64 i :: .str ((t.take (i.toNat)).drop (f.toNat)) :: .str s :: .bool (((t.take (i.toNat)).drop (f.toNat)) == s) :: .bool false :: U :: U :: U :: .bool false :: .int .i64 i :: d35 :: []), [], H.empty, none⟩ (by kernel_rfl) ?_
            refine WpM.op (.int .i64 (i + 1)) _ (by kernel_rfl) (arith_add (by kernel_rfl) (by kernel_rfl) (by omega)) ?_
            refine WpM.run tab_ok 6 ⟨.ops (p17_25_1 :: o17_25.drop 2), [.loop x17_9, .blk 0, .seq x17_26], (.str s :: .str t :: U :: U :: d4 :: .int .i64 (i + 1) :: .int .i64 i :: .int .i64 i :: .str t :: .int .i64 ((t.length : Int)) :: .bool (decide (i ≤ ((t.length : Int)))) :: .int .i64 i :: d12 :: .int .i64 i :: .str t :: .int .i64 ((t.length : Int)) :: .bool (i == ((t.length : Int))) :: .bool false :: .str t :: .int .i64 i :: .int .u8 (bt t i) :: .bool ((bt t i) == 32) :: .bool ((bt t i) == 32) :: .str t :: .int .i64 f :: .int .i64 i :: .str ((t.take (i.toNat)).drop (f.toNat)) :: .str s :: .bool (((t.take (i.toNat)).drop (f.toNat)) == s) :: .bool false :: U :: U :: U :: .bool false :: .int .i64 i :: .int .i64 (i + 1) :: []), [], H.empty, none⟩ (by kernel_rfl) ?_
            refine WpM.op (.int .i64 (i + 1)) _ (by kernel_rfl) (arith_add (by kernel_rfl) (by kernel_rfl) (by omega)) ?_
            refine WpM.run tab_ok 3 ⟨.code x17_9, [.loop x17_9, .blk 0, .seq x17_26], (.str s :: .str t :: U :: U :: d4 :: .int .i64 (i + 1) :: .int .i64 (i + 1) :: .int .i64 i :: .str t :: .int .i64 ((t.length : Int)) :: .bool (decide (i ≤ ((t.length : Int)))) :: .int .i64 i :: .int .i64 (i + 1) :: .int .i64 i :: .str t :: .int .i64 ((t.length : Int)) :: .bool (i == ((t.length : Int))) :: .bool false :: .str t :: .int .i64 i :: .int .u8 (bt t i) :: .bool ((bt t i) == 32) :: .bool ((bt t i) == 32) :: .str t :: .int .i64 f :: .int .i64 i :: .str ((t.take (i.toNat)).drop (f.toNat)) :: .str s :: .bool (((t.take (i.toNat)).drop (f.toNat)) == s) :: .bool false :: U :: U :: U :: .bool false :: .int .i64 i :: .int .i64 (i + 1) :: []), [], H.empty, none⟩ (by kernel_rfl) ?_
            refine ih _ ?_ _ _  _ _ _ _ _ _ _ _ _ _ _ _ _ _ _ _ _ _ _ _ _ _ _ _ _ _ _ _ _ _ rfl ?_ ?_ ?_ ?_ ?_
            · omega
            · omega
            · omega
            · omega
            · omega
            · first
              | (rw [hA]; exact among_step h0 h1 (by omega) (by assumption))
              | (rw [hA, among_blank h0 h1 (by omega) (by assumption)]; simp only [c101, c102, c105, c106, Bool.true_and, Bool.false_and, Bool.and_true, Bool.and_false, Bool.or_false, Bool.false_or, Bool.true_or, Bool.or_true]; done)
              | (rw [hA, among_end h0 h1 (by assumption), among_past (by omega)]; simp only [c101, c102, c105, c106, Bool.true_and, Bool.false_and, Bool.and_true, Bool.and_false, Bool.or_false, Bool.false_or, Bool.true_or, Bool.or_true]; done)
        · have c105p := beq_f c105
          refine WpM.run tab_ok 5 ⟨.ops (p17_25_1 :: o17_25.drop 2), [.loop x17_9, .blk 0, .seq x17_26], (.str s :: .str t :: U :: U :: d4 :: .int .i64 f :: .int .i64 i :: .int .i64 i :: .str t :: .int .i64 ((t.length : Int)) :: .bool (decide (i ≤ ((t.length : Int)))) :: .int .i64 i :: d12 :: .int .i64 i :: .str t :: .int .i64 ((t.length : Int)) :: .bool (i == ((t.length : Int))) :: .bool false :: .str t :: .int .i64 i :: .int .u8 (bt t i) :: .bool ((bt t i) == 32) :: .bool ((bt t i) == 32) :: d23 :: d24 :: d25 :: d26 :: d27 :: d28 :: d29 :: d30 :: d31 :: d32 :: d33 :: d34 :: d35 :: []), [], H.empty, none⟩ (by kernel_rfl) ?_
          refine WpM.op (.int .i64 (i + 1)) _ (by kernel_rfl) (arith_add (by kernel_rfl) (by kernel_rfl) (by omega)) ?_
          refine WpM.run tab_ok 3 ⟨.code x17_9, [.loop x17_9, .blk 0, .seq x17_26], (.str s :: .str t :: U :: U :: d4 :: .int .i64 f :: .int .i64 (i + 1) :: .int .i64 i :: .str t :: .int .i64 ((t.length : Int)) :: .bool (decide (i ≤ ((t.length : Int)))) :: .int .i64 i :: .int .i64 (i + 1) :: .int .i64 i :: .str t :: .int .i64 ((t.length : Int)) :: .bool (i == ((t.length : Int))) :: .bool false :: .str t :: .int .i64 i :: .int .u8 (bt t i) :: .bool ((bt t i) == 32) :: .bool ((bt t i) == 32) :: d23 :: d24 :: d25 :: d26 :: d27 :: d28 :: d29 :: d30 :: d31 :: d32 :: d33 :: d34 :: d35 :: []), [], H.empty, none⟩ (by kernel_rfl) ?_
          refine ih _ ?_ _ _  _ _ _ _ _ _ _ _ _ _ _ _ _ _ _ _ _ _ _ _ _ _ _ _ _ _ _ _ _ _ rfl ?_ ?_ ?_ ?_ ?_
          · omega
          · omega
          · omega
          · omega
          · omega
          · first
            | (rw [hA]; exact among_step h0 h1 (by omega) (by assumption))
            | (rw [hA, among_blank h0 h1 (by omega) (by assumption)]; simp only [c101, c102, c105, Bool.true_and, Bool.false_and, Bool.and_true, Bool.and_false, Bool.or_false, Bool.false_or, Bool.true_or, Bool.or_true]; done)
            | (rw [hA, among_end h0 h1 (by assumption), among_past (by omega)]; simp only [c101, c102, c105, Bool.true_and, Bool.false_and, Bool.and_true, Bool.and_false, Bool.or_false, Bool.false_or, Bool.true_or, Bool.or_true]; done)
    · have c101p := dec_f c101
      refine WpM.run tab_ok 11 ⟨.done .ret, [], (.str s :: .str t :: U :: U :: .bool false :: .int .i64 f :: .int .i64 i :: .int .i64 i :: .str t :: .int .i64 ((t.length : Int)) :: .bool (decide (i ≤ ((t.length : Int)))) :: d11 :: d12 :: d13 :: d14 :: d15 :: d16 :: d17 :: d18 :: d19 :: d20 :: d21 :: d22 :: d23 :: d24 :: d25 :: d26 :: d27 :: d28 :: d29 :: d30 :: d31 :: d32 :: d33 :: d34 :: d35 :: []), [], H.empty, none⟩ (by kernel_rfl) ?_
      refine WpM.ret (.bool false) H.empty (by kernel_rfl) (by kernel_rfl) ?_
      first
        | (rw [hA, among_end h0 h1 (by assumption)]; simp only [c101, Bool.true_and, Bool.false_and, Bool.and_true, Bool.and_false, Bool.or_false, Bool.false_or, Bool.true_or, Bool.or_true]; done)
        | (rw [hA, among_blank h0 h1 (by omega) (by assumption)]; simp only [c101, Bool.true_and, Bool.false_and, Bool.and_true, Bool.and_false, Bool.or_false, Bool.false_or, Bool.true_or, Bool.or_true]; done)
        | (rw [hA, h3 (by omega), among_past (by omega)])
theorem among_ok {W : World} {s t : List UInt8} (ht : t.length ≤ 140737488355328) : WpF Try.prog W prim0 17 [.str s, .str t] H.empty (fun v _ => v = .bool (among s t)) := by
  refine WpF.m tab_ok (by kernel_rfl) rfl ?_
  refine WpM.cfg (c' := ⟨.code x17_0, [], (.str s :: .str t :: us 34), [], H.empty, none⟩) (by kernel_rfl) ?_
  refine WpM.run tab_ok 18 ⟨.code x17_9, [.loop x17_9, .blk 0, .seq x17_26], (.str s :: .str t :: U :: U :: .bool false :: .int .i64 0 :: .int .i64 0 :: us 29), [], H.empty, none⟩ (by kernel_rfl) ?_
  exact among_loop ht _ 0 0 _ _ _ _ _ _ _ _ _ _ _ _ _ _ _ _ _ _ _ _ _ _ _ _ _ _ _ _ _ _ rfl (by omega) (by omega) (by omega) (by omega) (by rw [amongAt_start])
def q17 (l : List V) : Option V :=
  match l with
  | [.str s, .str t] => if t.length ≤ 140737488355328 then some (.bool (among s t)) else none
  | _ => none
def prim1 : FuncId → Option (List V → H → Option (V × H)) := setPrim prim0 17 q17
theorem prim1s (W : World) (hW : WOK W) : Prims Try.prog W prim1 := by
  refine Prims.add base (prim0s W hW) ⟨_, _, Try.func17, rfl⟩ ?_
  intro w _ args v h
  unfold q17 at h
  split at h
  · split at h
    · rename_i hc; injection h with h; subst h; exact ⟨by simp only [old_cons, old_nil, old_int, old_str, old_bool, old_agg, old_tup, old_nils, Bool.and_true, Bool.true_and, hc], by simp only [old_cons, old_nil, old_int, old_str, old_bool, old_agg, old_tup, old_nils, Bool.and_true, Bool.true_and, hc], among_ok hc⟩
    · cases h
  · cases h
def q7 (l : List V) : Option V :=
  match l with
  | [] => some (.bool true)
  | _ => none
def prim2 : FuncId → Option (List V → H → Option (V × H)) := setPrim prim1 7 q7
theorem prim2s (W : World) (hW : WOK W) : Prims Try.prog W prim2 := by
  refine Prims.add base (prim1s W hW) ⟨_, _, Try.func7, rfl⟩ ?_
  intro w _ args v h
  unfold q7 at h
  split at h
  · injection h with h; subst h; exact ⟨by simp only [old_cons, old_nil, old_int, old_str, old_bool, old_agg, old_tup, old_nils, Bool.and_true, Bool.true_and], by simp only [old_cons, old_nil, old_int, old_str, old_bool, old_agg, old_tup, old_nils, Bool.and_true, Bool.true_and], WpF.found (n := 40) (by kernel_rfl)⟩
  · cases h
theorem cell {W : World} {s : List UInt8} : WpF Try.prog W prim2 12 [.str s] H.empty (fun v _ => v = .bool (s == k_td || s == k_th)) := by
  refine WpF.m tab_ok (by kernel_rfl) rfl ?_
  refine WpM.cfg (c' := ⟨.code x12_0, [], [.str s, U, U, U, U, U, U, U, U], [], H.empty, none⟩) (by kernel_rfl) ?_
  refine WpM.run tab_ok 10 ⟨.ops (p12_3_3 :: o12_3.drop 4), [.seq .ret], [.str s, U, .bool false, .str s, .bool (s == k_td), .bool (s == k_td), U, U, U], [], H.empty, none⟩ (by kernel_rfl) ?_
  refine WpM.guard (b := (s == k_td)) (by kernel_rfl) (fun c1 => ?_) (fun c1 => ?_)
  · have c1p := beq_t c1
    subst c1p
    refine WpM.run tab_ok 7 ⟨.done .ret, [], [.str k_td, U, .bool true, .str k_td, .bool true, .bool true, U, U, .bool true], [], H.empty, none⟩ (by kernel_rfl) ?_
    refine WpM.ret (.bool true) H.empty (by kernel_rfl) (by kernel_rfl) ?_
    first | rfl | (simp [*]; done)
  · have c1p := beq_f c1
    refine WpM.run tab_ok 7 ⟨.done .ret, [], [.str s, U, .bool (s == k_th), .str s, .bool (s == k_td), .bool false, .str s, .bool (s == k_th), .bool (s == k_th)], [], H.empty, none⟩ (by kernel_rfl) ?_
    refine WpM.ret (.bool (s == k_th)) H.empty (by kernel_rfl) (by kernel_rfl) ?_
    first | rfl | (simp [*]; done)
def q12 (l : List V) : Option V :=
  match l with
  | [.str s] => some (.bool (s == k_td || s == k_th))
  | _ => none
def prim3 : FuncId → Option (List V → H → Option (V × H)) := setPrim prim2 12 q12
theorem prim3s (W : World) (hW : WOK W) : Prims Try.prog W prim3 := by
  refine Prims.add base (prim2s W hW) ⟨_, _, Try.func12, rfl⟩ ?_
  intro w _ args v h
  unfold q12 at h
  split at h
  · injection h with h; subst h; exact ⟨by simp only [old_cons, old_nil, old_int, old_str, old_bool, old_agg, old_tup, old_nils, Bool.and_true, Bool.true_and], by simp only [old_cons, old_nil, old_int, old_str, old_bool, old_agg, old_tup, old_nils, Bool.and_true, Bool.true_and], cell⟩
  · cases h
theorem cellr {W : World} {s : List UInt8} : WpF Try.prog W prim3 13 [.str s] H.empty (fun v _ => v = .bool (s == k_td || s == k_th)) := by
  refine WpF.m tab_ok (by kernel_rfl) rfl ?_
  refine WpM.cfg (c' := ⟨.code x13_0, [], [.str s, U, U, U, U, U, U, U, U], [], H.empty, none⟩) (by kernel_rfl) ?_
  refine WpM.run tab_ok 10 ⟨.ops (p13_3_3 :: o13_3.drop 4), [.seq .ret], [.str s, U, .bool false, .str s, .bool (s == k_td), .bool (s == k_td), U, U, U], [], H.empty, none⟩ (by kernel_rfl) ?_
  refine WpM.guard (b := (s == k_td)) (by kernel_rfl) (fun c1 => ?_) (fun c1 => ?_)
  · have c1p := beq_t c1
    subst c1p
    refine WpM.run tab_ok 7 ⟨.done .ret, [], [.str k_td, U, .bool true, .str k_td, .bool true, .bool true, U, U, .bool true], [], H.empty, none⟩ (by kernel_rfl) ?_
    refine WpM.ret (.bool true) H.empty (by kernel_rfl) (by kernel_rfl) ?_
    first | rfl | (simp [*]; done)
  · have c1p := beq_f c1
    refine WpM.run tab_ok 7 ⟨.done .ret, [], [.str s, U, .bool (s == k_th), .str s, .bool (s == k_td), .bool false, .str s, .bool (s == k_th), .bool (s == k_th)], [], H.empty, none⟩ (by kernel_rfl) ?_
    refine WpM.ret (.bool (s == k_th)) H.empty (by kernel_rfl) (by kernel_rfl) ?_
    first | rfl | (simp [*]; done)
def q13 (l : List V) : Option V :=
  match l with
  | [.str s] => some (.bool (s == k_td || s == k_th))
  | _ => none
def prim4 : FuncId → Option (List V → H → Option (V × H)) := setPrim prim3 13 q13
theorem prim4s (W : World) (hW : WOK W) : Prims Try.prog W prim4 := by
  refine Prims.add base (prim3s W hW) ⟨_, _, Try.func13, rfl⟩ ?_
  intro w _ args v h
  unfold q13 at h
  split at h
  · injection h with h; subst h; exact ⟨by simp only [old_cons, old_nil, old_int, old_str, old_bool, old_agg, old_tup, old_nils, Bool.and_true, Bool.true_and], by simp only [old_cons, old_nil, old_int, old_str, old_bool, old_agg, old_tup, old_nils, Bool.and_true, Bool.true_and], cellr⟩
  · cases h
theorem am_k_tbodytheadtfoot (s : List UInt8) : among s k_tbodytheadtfoot = (s == k_tbody || (s == k_thead || s == k_tfoot)) := by
  unfold among
  rw [show words k_tbodytheadtfoot = [k_tbody, k_thead, k_tfoot] from by kernel_rfl]
  simp only [List.any_cons, List.any_nil, Bool.or_false]
theorem am_k_captioncolcolgroup (s : List UInt8) : among s k_captioncolcolgroup = (s == k_caption || (s == k_col || s == k_colgroup)) := by
  unfold among
  rw [show words k_captioncolcolgroup = [k_caption, k_col, k_colgroup] from by kernel_rfl]
  simp only [List.any_cons, List.any_nil, Bool.or_false]
theorem rows {W : World} {s : List UInt8} : WpF Try.prog W prim4 14 [.str s] H.empty (fun v _ => v = .bool (s == k_tbody || (s == k_thead || s == k_tfoot))) := by
  refine WpF.m tab_ok (by kernel_rfl) rfl ?_
  refine WpM.cfg (c' := ⟨.code x14_0, [], (.str s :: us 12), [], H.empty, none⟩) (by kernel_rfl) ?_
  refine WpM.run tab_ok 10 ⟨.ops (p14_3_3 :: o14_3.drop 4), [.seq .ret], (.str s :: U :: .bool false :: .str s :: .bool (s == k_tbody) :: .bool (s == k_tbody) :: us 7), [], H.empty, none⟩ (by kernel_rfl) ?_
  refine WpM.guard (b := (s == k_tbody)) (by kernel_rfl) (fun c1 => ?_) (fun c1 => ?_)
  · have c1p := beq_t c1
    subst c1p
    refine WpM.run tab_ok 11 ⟨.done .ret, [], (.str k_tbody :: U :: .bool true :: .str k_tbody :: .bool true :: .bool true :: U :: U :: .bool true :: .bool true :: U :: U :: .bool true :: []), [], H.empty, none⟩ (by kernel_rfl) ?_
    refine WpM.ret (.bool true) H.empty (by kernel_rfl) (by kernel_rfl) ?_
    first | rfl | (exact congrArg V.bool (am_k_tbodytheadtfoot _)) | (simp [*]; done)
  · have c1p := beq_f c1
    refine WpM.run tab_ok 4 ⟨.ops (p14_3_7 :: o14_3.drop 8), [.seq .ret], (.str s :: U :: .bool false :: .str s :: .bool (s == k_tbody) :: .bool false :: .str s :: .bool (s == k_thead) :: .bool (s == k_thead) :: .bool (s == k_thead) :: U :: U :: U :: []), [], H.empty, none⟩ (by kernel_rfl) ?_
    refine WpM.guard (b := (s == k_thead)) (by kernel_rfl) (fun c2 => ?_) (fun c2 => ?_)
    · have c2p := beq_t c2
      subst c2p
      refine WpM.run tab_ok 7 ⟨.done .ret, [], (.str k_thead :: U :: .bool true :: .str k_thead :: .bool false :: .bool false :: .str k_thead :: .bool true :: .bool true :: .bool true :: U :: U :: .bool true :: []), [], H.empty, none⟩ (by kernel_rfl) ?_
      refine WpM.ret (.bool true) H.empty (by kernel_rfl) (by kernel_rfl) ?_
      first | rfl | (exact congrArg V.bool (am_k_tbodytheadtfoot _)) | (simp [*]; done)
    · have c2p := beq_f c2
      refine WpM.run tab_ok 7 ⟨.done .ret, [], (.str s :: U :: .bool (s == k_tfoot) :: .str s :: .bool (s == k_tbody) :: .bool false :: .str s :: .bool (s == k_thead) :: .bool (s == k_thead) :: .bool false :: .str s :: .bool (s == k_tfoot) :: .bool (s == k_tfoot) :: []), [], H.empty, none⟩ (by kernel_rfl) ?_
      refine WpM.ret (.bool (s == k_tfoot)) H.empty (by kernel_rfl) (by kernel_rfl) ?_
      first | rfl | (exact congrArg V.bool (am_k_tbodytheadtfoot _)) | (simp [*]; done)
def q14 (l : List V) : Option V :=
  match l with
  | [.str s] => some (.bool (s == k_tbody || (s == k_thead || s == k_tfoot)))
  | _ => none
def prim5 : FuncId → Option (List V → H → Option (V × H)) := setPrim prim4 14 q14
theorem prim5s (W : World) (hW : WOK W) : Prims Try.prog W prim5 := by
  refine Prims.add base (prim4s W hW) ⟨_, _, Try.func14, rfl⟩ ?_
  intro w _ args v h
  unfold q14 at h
  split at h
  · injection h with h; subst h; exact ⟨by simp only [old_cons, old_nil, old_int, old_str, old_bool, old_agg, old_tup, old_nils, Bool.and_true, Bool.true_and], by simp only [old_cons, old_nil, old_int, old_str, old_bool, old_agg, old_tup, old_nils, Bool.and_true, Bool.true_and], rows⟩
  · cases h
theorem rowsr {W : World} {s : List UInt8} : WpF Try.prog W prim5 15 [.str s] H.empty (fun v _ => v = .bool (s == k_tbody || (s == k_thead || s == k_tfoot))) := by
  refine WpF.m tab_ok (by kernel_rfl) rfl ?_
  refine WpM.cfg (c' := ⟨.code x15_0, [], [.str s, U, U, U, U], [], H.empty, none⟩) (by kernel_rfl) ?_
  refine WpM.run tab_ok 13 ⟨.done .ret, [], [.str s, U, .bool (among s k_tbodytheadtfoot), .str s, .bool (among s k_tbodytheadtfoot)], [], H.empty, none⟩ (by kernel_rfl) ?_
  refine WpM.ret (.bool (among s k_tbodytheadtfoot)) H.empty (by kernel_rfl) (by kernel_rfl) ?_
  first | rfl | (exact congrArg V.bool (am_k_tbodytheadtfoot _)) | (simp [*]; done)
def q15 (l : List V) : Option V :=
  match l with
  | [.str s] => some (.bool (s == k_tbody || (s == k_thead || s == k_tfoot)))
  | _ => none
def prim6 : FuncId → Option (List V → H → Option (V × H)) := setPrim prim5 15 q15
theorem prim6s (W : World) (hW : WOK W) : Prims Try.prog W prim6 := by
  refine Prims.add base (prim5s W hW) ⟨_, _, Try.func15, rfl⟩ ?_
  intro w _ args v h
  unfold q15 at h
  split at h
  · injection h with h; subst h; exact ⟨by simp only [old_cons, old_nil, old_int, old_str, old_bool, old_agg, old_tup, old_nils, Bool.and_true, Bool.true_and], by simp only [old_cons, old_nil, old_int, old_str, old_bool, old_agg, old_tup, old_nils, Bool.and_true, Bool.true_and], rowsr⟩
  · cases h
def closesM (m k : Int) (s : List UInt8) : Bool :=
  (m == 13 && (k == 3 && ((s == k_tbody || (s == k_thead || s == k_tfoot)) || s == k_tr))) ||
  ((m == 13 || m == 9) && (k == 2 && (s == k_td || s == k_th))) ||
  ((m == 13 || (m == 9 || m == 12)) && (k == 2 && s == k_tr)) ||
  ((m == 13 || (m == 9 || (m == 12 || m == 11))) && ((k == 2 && (among s k_captioncolcolgroup || (s == k_tbody || (s == k_thead || s == k_tfoot)))) || (k == 3 && s == k_table)))
end Go.Proofs.Ytanjaiaofcjcgaa.Dg
