/-
  The code of chapter 20, as it is walked.
-/
import Derived.Test.YtjfnoiknjeklhaaChecked
import Derived.Test.YtjfnoiknjeklhaaShelf
import Derived.Test.YtjfnoiknjeklhaaDgS31
set_option linter.unusedVariables false
set_option linter.unusedSimpArgs false
namespace Go.Proofs.Ytjfnoiknjeklhaa.Dg
open Go Go.RowKit
set_option maxRecDepth 20000
def k_foreignObject : List UInt8 := [102, 111, 114, 101, 105, 103, 110, 79, 98, 106, 101, 99, 116]
def k_linearGradient : List UInt8 := [108, 105, 110, 101, 97, 114, 71, 114, 97, 100, 105, 101, 110, 116]
def k_radialGradient : List UInt8 := [114, 97, 100, 105, 97, 108, 71, 114, 97, 100, 105, 101, 110, 116]
def k_textPath : List UInt8 := [116, 101, 120, 116, 80, 97, 116, 104]
def k_clipPath : List UInt8 := [99, 108, 105, 112, 80, 97, 116, 104]
def k_animateTransform : List UInt8 := [97, 110, 105, 109, 97, 116, 101, 84, 114, 97, 110, 115, 102, 111, 114, 109]
def k_foreignobject : List UInt8 := [102, 111, 114, 101, 105, 103, 110, 111, 98, 106, 101, 99, 116]
def k_lineargradient : List UInt8 := [108, 105, 110, 101, 97, 114, 103, 114, 97, 100, 105, 101, 110, 116]
def k_radialgradient : List UInt8 := [114, 97, 100, 105, 97, 108, 103, 114, 97, 100, 105, 101, 110, 116]
def k_textpath : List UInt8 := [116, 101, 120, 116, 112, 97, 116, 104]
def k_clippath : List UInt8 := [99, 108, 105, 112, 112, 97, 116, 104]
def k_animatetransform : List UInt8 := [97, 110, 105, 109, 97, 116, 101, 116, 114, 97, 110, 115, 102, 111, 114, 109]
def k_mi : List UInt8 := [109, 105]
def k_mo : List UInt8 := [109, 111]
def k_mn : List UInt8 := [109, 110]
def k_ms : List UInt8 := [109, 115]
def k_mtext : List UInt8 := [109, 116, 101, 120, 116]
def k_desc : List UInt8 := [100, 101, 115, 99]
def k_title : List UInt8 := [116, 105, 116, 108, 101]
def k_mimomnmsmtext : List UInt8 := [109, 105, 32, 109, 111, 32, 109, 110, 32, 109, 115, 32, 109, 116, 101, 120, 116]
def k_foreignObjectdesctitle : List UInt8 := [102, 111, 114, 101, 105, 103, 110, 79, 98, 106, 101, 99, 116, 32, 100, 101, 115, 99, 32, 116, 105, 116, 108, 101]
def k_color : List UInt8 := [99, 111, 108, 111, 114]
def k_face : List UInt8 := [102, 97, 99, 101]
def k_size : List UInt8 := [115, 105, 122, 101]
def k_br : List UInt8 := [98, 114]
def k_font : List UInt8 := [102, 111, 110, 116]
def k_bbigblockquotebodybrcent : List UInt8 := [32, 98, 32, 98, 105, 103, 32, 98, 108, 111, 99, 107, 113, 117, 111, 116, 101, 32, 98, 111, 100, 121, 32, 98, 114, 32, 99, 101, 110, 116, 101, 114, 32, 99, 111, 100, 101, 32, 100, 100, 32, 100, 105, 118, 32, 100, 108, 32, 100, 116, 32, 101, 109, 32, 101, 109, 98, 101, 100, 32, 104, 49, 32, 104, 50, 32, 104, 51, 32, 104, 52, 32, 104, 53, 32, 104, 54, 32, 104, 101, 97, 100, 32, 104, 114, 32, 105, 32, 105, 109, 103, 32, 108, 105, 32, 108, 105, 115, 116, 105, 110, 103, 32, 109, 101, 110, 117, 32, 109, 101, 116, 97, 32, 110, 111, 98, 114, 32, 111, 108, 32, 112, 32, 112, 114, 101, 32, 114, 117, 98, 121, 32, 115, 32, 115, 109, 97, 108, 108, 32, 115, 112, 97, 110, 32, 115, 116, 114, 111, 110, 103, 32, 115, 116, 114, 105, 107, 101, 32, 115, 117, 98, 32, 115, 117, 112, 32, 116, 97, 98, 108, 101, 32, 116, 116, 32, 117, 32, 117, 108, 32, 118, 97, 114, 32]
def k_bbigblockquotebodybrcent' : List UInt8 := [98, 32, 98, 105, 103, 32, 98, 108, 111, 99, 107, 113, 117, 111, 116, 101, 32, 98, 111, 100, 121, 32, 98, 114, 32, 99, 101, 110, 116, 101, 114, 32, 99, 111, 100, 101, 32, 100, 100, 32, 100, 105, 118, 32, 100, 108, 32, 100, 116, 32, 101, 109, 32, 101, 109, 98, 101, 100, 32, 104, 49, 32, 104, 50, 32, 104, 51, 32, 104, 52, 32, 104, 53, 32, 104, 54, 32, 104, 101, 97, 100, 32, 104, 114, 32, 105, 32, 105, 109, 103, 32, 108, 105, 32, 108, 105, 115, 116, 105, 110, 103, 32, 109, 101, 110, 117, 32, 109, 101, 116, 97, 32, 110, 111, 98, 114, 32, 111, 108, 32, 112, 32, 112, 114, 101, 32, 114, 117, 98, 121, 32, 115, 32, 115, 109, 97, 108, 108, 32, 115, 112, 97, 110, 32, 115, 116, 114, 111, 110, 103, 32, 115, 116, 114, 105, 107, 101, 32, 115, 117, 98, 32, 115, 117, 112, 32, 116, 97, 98, 108, 101, 32, 116, 116, 32, 117, 32, 117, 108, 32, 118, 97, 114]
def k_mglyph : List UInt8 := [109, 103, 108, 121, 112, 104]
def k_malignmark : List UInt8 := [109, 97, 108, 105, 103, 110, 109, 97, 114, 107]
def p3_1_0 : RO := ⟨none, some 4, .assign (.const (.bool false))⟩
def o3_1 : List RO := [p3_1_0]
def x3_1 : RC := .ops o3_1
def p3_4_0 : RO := ⟨none, some 5, .move (.tmp 1)⟩
def p3_4_1 : RO := ⟨none, some 6, .call ⟨.builtin .len, #[(.tmp 5)], #[9]⟩⟩
def p3_4_2 : RO := ⟨none, some 7, .binOp .gtr 3 (.tmp 6) (.const (.int .i64 (5000))) 3⟩
def o3_4 : List RO := [p3_4_0, p3_4_1, p3_4_2]
def x3_4 : RC := .ops o3_4
def p3_7_0 : RO := ⟨none, some 8, .call ⟨.value (.func 7), #[], #[]⟩⟩
def p3_7_1 : RO := ⟨none, some 4, .assign (.tmp 8)⟩
def o3_7 : List RO := [p3_7_0, p3_7_1]
def x3_7 : RC := .ops o3_7
def x3_6 : RC := .seq x3_7 .ret
def x3_5 : RC := .cond (.tmp 7) x3_6 .skip
def x3_3 : RC := .seq x3_4 x3_5
def p3_9_0 : RO := ⟨none, some 9, .move (.tmp 0)⟩
def p3_9_1 : RO := ⟨none, some 10, .move (.tmp 1)⟩
def p3_9_2 : RO := ⟨none, some 11, .call ⟨.value (.func 8), #[(.tmp 9), (.tmp 10)], #[3, 9]⟩⟩
def p3_9_3 : RO := ⟨none, some 12, .move (.tmp 0)⟩
def p3_9_4 : RO := ⟨none, some 13, .move (.tmp 1)⟩
def p3_9_5 : RO := ⟨none, some 14, .call ⟨.value (.func 9), #[(.tmp 12), (.tmp 13)], #[3, 9]⟩⟩
def p3_9_6 : RO := ⟨none, some 15, .binOp .eql 9 (.tmp 11) (.tmp 14) 9⟩
def p3_9_7 : RO := ⟨none, some 16, .move (.tmp 15)⟩
def p3_9_8 : RO := ⟨some (some 16, true), some 17, .move (.tmp 0)⟩
def p3_9_9 : RO := ⟨some (some 16, true), some 18, .move (.tmp 1)⟩
def p3_9_10 : RO := ⟨some (some 16, true), some 19, .call ⟨.value (.func 10), #[(.tmp 17), (.tmp 18)], #[3, 9]⟩⟩
def p3_9_11 : RO := ⟨some (some 16, true), some 20, .move (.tmp 0)⟩
def p3_9_12 : RO := ⟨some (some 16, true), some 21, .move (.tmp 1)⟩
def p3_9_13 : RO := ⟨some (some 16, true), some 22, .call ⟨.value (.func 11), #[(.tmp 20), (.tmp 21)], #[3, 9]⟩⟩
def p3_9_14 : RO := ⟨some (some 16, true), some 23, .binOp .eql 4 (.tmp 19) (.tmp 22) 4⟩
def p3_9_15 : RO := ⟨none, some 24, .pick (.tmp 16) (.tmp 23) (.const (.bool false))⟩
def p3_9_16 : RO := ⟨none, some 25, .move (.tmp 24)⟩
def p3_9_17 : RO := ⟨some (some 25, true), some 26, .move (.tmp 0)⟩
def p3_9_18 : RO := ⟨some (some 25, true), some 27, .move (.tmp 1)⟩
def p3_9_19 : RO := ⟨some (some 25, true), some 28, .call ⟨.value (.func 12), #[(.tmp 26), (.tmp 27)], #[3, 9]⟩⟩
def p3_9_20 : RO := ⟨some (some 25, true), some 29, .move (.tmp 0)⟩
def p3_9_21 : RO := ⟨some (some 25, true), some 30, .move (.tmp 1)⟩
def p3_9_22 : RO := ⟨some (some 25, true), some 31, .call ⟨.value (.func 13), #[(.tmp 29), (.tmp 30)], #[3, 9]⟩⟩
def p3_9_23 : RO := ⟨some (some 25, true), some 32, .binOp .eql 4 (.tmp 28) (.tmp 31) 4⟩
def p3_9_24 : RO := ⟨none, some 33, .pick (.tmp 25) (.tmp 32) (.const (.bool false))⟩
def p3_9_25 : RO := ⟨none, some 34, .move (.tmp 33)⟩
def p3_9_26 : RO := ⟨some (some 34, true), some 35, .call ⟨.value (.func 7), #[], #[]⟩⟩
def p3_9_27 : RO := ⟨none, some 36, .pick (.tmp 34) (.tmp 35) (.const (.bool false))⟩
def p3_9_28 : RO := ⟨none, some 4, .assign (.tmp 36)⟩
def o3_9 : List RO := [p3_9_0, p3_9_1, p3_9_2, p3_9_3, p3_9_4, p3_9_5, p3_9_6, p3_9_7, p3_9_8, p3_9_9, p3_9_10, p3_9_11, p3_9_12, p3_9_13, p3_9_14, p3_9_15, p3_9_16, p3_9_17, p3_9_18, p3_9_19, p3_9_20, p3_9_21, p3_9_22, p3_9_23, p3_9_24, p3_9_25, p3_9_26, p3_9_27, p3_9_28]
def x3_9 : RC := .ops o3_9
def x3_8 : RC := .seq x3_9 .ret
def x3_2 : RC := .seq x3_3 x3_8
def x3_0 : RC := .seq x3_1 x3_2
theorem x3_eq : Try.f3.body.map rc = some x3_0 := by kernel_rfl
def p5_1_0 : RO := ⟨none, some 3, .box 30 (.tmp 0)⟩
def p5_1_1 : RO := ⟨none, some 5, .box 34 (.tmp 2)⟩
def p5_1_2 : RO := ⟨none, some 6, .assign (.const (.bool false))⟩
def o5_1 : List RO := [p5_1_0, p5_1_1, p5_1_2]
def x5_1 : RC := .ops o5_1
def p5_4_0 : RO := ⟨none, some 7, .fieldAddr 34 (.tmp 5) 4⟩
def p5_4_1 : RO := ⟨none, some 8, .load 25 (.tmp 7)⟩
def p5_4_2 : RO := ⟨none, some 9, .call ⟨.builtin .len, #[(.tmp 8)], #[25]⟩⟩
def p5_4_3 : RO := ⟨none, some 10, .binOp .gtr 3 (.tmp 9) (.const (.int .i64 (300))) 3⟩
def p5_4_4 : RO := ⟨none, some 11, .move (.tmp 10)⟩
def p5_4_5 : RO := ⟨some (some 11, false), some 12, .fieldAddr 34 (.tmp 5) 2⟩
def p5_4_6 : RO := ⟨some (some 11, false), some 13, .load 9 (.tmp 12)⟩
def p5_4_7 : RO := ⟨some (some 11, false), some 14, .call ⟨.builtin .len, #[(.tmp 13)], #[9]⟩⟩
def p5_4_8 : RO := ⟨some (some 11, false), some 15, .binOp .gtr 3 (.tmp 14) (.const (.int .i64 (5000))) 3⟩
def p5_4_9 : RO := ⟨none, some 16, .pick (.tmp 11) (.const (.bool true)) (.tmp 15)⟩
def p5_4_10 : RO := ⟨none, some 17, .move (.tmp 16)⟩
def p5_4_11 : RO := ⟨some (some 17, false), some 18, .fieldAddr 30 (.tmp 3) 2⟩
def p5_4_12 : RO := ⟨some (some 17, false), some 19, .load 9 (.tmp 18)⟩
def p5_4_13 : RO := ⟨some (some 17, false), some 20, .call ⟨.builtin .len, #[(.tmp 19)], #[9]⟩⟩
def p5_4_14 : RO := ⟨some (some 17, false), some 21, .binOp .gtr 3 (.tmp 20) (.const (.int .i64 (5000))) 3⟩
def p5_4_15 : RO := ⟨none, some 22, .pick (.tmp 17) (.const (.bool true)) (.tmp 21)⟩
def o5_4 : List RO := [p5_4_0, p5_4_1, p5_4_2, p5_4_3, p5_4_4, p5_4_5, p5_4_6, p5_4_7, p5_4_8, p5_4_9, p5_4_10, p5_4_11, p5_4_12, p5_4_13, p5_4_14, p5_4_15]
def x5_4 : RC := .ops o5_4
def p5_7_0 : RO := ⟨none, some 23, .call ⟨.value (.func 7), #[], #[]⟩⟩
def p5_7_1 : RO := ⟨none, some 6, .assign (.tmp 23)⟩
def o5_7 : List RO := [p5_7_0, p5_7_1]
def x5_7 : RC := .ops o5_7
def x5_6 : RC := .seq x5_7 .ret
def x5_5 : RC := .cond (.tmp 22) x5_6 .skip
def x5_3 : RC := .seq x5_4 x5_5
def p5_9_0 : RO := ⟨none, some 24, .load 30 (.tmp 3)⟩
def p5_9_1 : RO := ⟨none, some 25, .move (.tmp 1)⟩
def p5_9_2 : RO := ⟨none, some 26, .load 34 (.tmp 5)⟩
def p5_9_3 : RO := ⟨none, some 27, .call ⟨.value (.func 17), #[(.tmp 24), (.tmp 25), (.tmp 26)], #[30, 4, 34]⟩⟩
def p5_9_4 : RO := ⟨none, some 28, .load 30 (.tmp 3)⟩
def p5_9_5 : RO := ⟨none, some 29, .move (.tmp 1)⟩
def p5_9_6 : RO := ⟨none, some 30, .load 34 (.tmp 5)⟩
def p5_9_7 : RO := ⟨none, some 31, .call ⟨.value (.func 18), #[(.tmp 28), (.tmp 29), (.tmp 30)], #[30, 4, 34]⟩⟩
def p5_9_8 : RO := ⟨none, some 32, .binOp .eql 4 (.tmp 27) (.tmp 31) 4⟩
def p5_9_9 : RO := ⟨none, some 33, .move (.tmp 32)⟩
def p5_9_10 : RO := ⟨some (some 33, true), some 34, .load 34 (.tmp 5)⟩
def p5_9_11 : RO := ⟨some (some 33, true), some 35, .call ⟨.value (.func 19), #[(.tmp 34)], #[34]⟩⟩
def p5_9_12 : RO := ⟨some (some 33, true), some 36, .load 34 (.tmp 5)⟩
def p5_9_13 : RO := ⟨some (some 33, true), some 37, .call ⟨.value (.func 20), #[(.tmp 36)], #[34]⟩⟩
def p5_9_14 : RO := ⟨some (some 33, true), some 38, .binOp .eql 4 (.tmp 35) (.tmp 37) 4⟩
def p5_9_15 : RO := ⟨none, some 39, .pick (.tmp 33) (.tmp 38) (.const (.bool false))⟩
def p5_9_16 : RO := ⟨none, some 40, .move (.tmp 39)⟩
def p5_9_17 : RO := ⟨some (some 40, true), some 41, .call ⟨.value (.func 7), #[], #[]⟩⟩
def p5_9_18 : RO := ⟨none, some 42, .pick (.tmp 40) (.tmp 41) (.const (.bool false))⟩
def p5_9_19 : RO := ⟨none, some 6, .assign (.tmp 42)⟩
def o5_9 : List (Nat × RO) := [(0, p5_9_0), (1, p5_9_1), (2, p5_9_2), (3, p5_9_3), (4, p5_9_4), (5, p5_9_5), (6, p5_9_6), (7, p5_9_7), (8, p5_9_8), (9, p5_9_9), (10, p5_9_10), (11, p5_9_11), (12, p5_9_12), (13, p5_9_13), (14, p5_9_14), (15, p5_9_15), (16, p5_9_16), (17, p5_9_17), (18, p5_9_18), (19, p5_9_19)]
def m5_9 : List Nat := [0, 0, 0, 7, 0, 0, 0, 127, 255, 511, 1023, 2047, 1023, 8191, 16383, 32767, 65535, 131071, 262143, 524287]
def x5_9 : RC := .draw o5_9 m5_9
def x5_8 : RC := .seq x5_9 .ret
def x5_2 : RC := .seq x5_3 x5_8
def x5_0 : RC := .seq x5_1 x5_2
theorem x5_eq : Try.f5.body.map rc = some x5_0 := by kernel_rfl
def p6_1_0 : RO := ⟨none, some 4, .assign (.const (.bool false))⟩
def o6_1 : List RO := [p6_1_0]
def x6_1 : RC := .ops o6_1
def p6_4_0 : RO := ⟨none, some 6, .move (.tmp 1)⟩
def p6_4_1 : RO := ⟨none, some 7, .call ⟨.builtin .len, #[(.tmp 6)], #[9]⟩⟩
def p6_4_2 : RO := ⟨none, some 8, .binOp .gtr 3 (.tmp 7) (.const (.int .i64 (5000))) 3⟩
def o6_4 : List RO := [p6_4_0, p6_4_1, p6_4_2]
def x6_4 : RC := .ops o6_4
def p6_7_0 : RO := ⟨none, some 9, .call ⟨.value (.func 7), #[], #[]⟩⟩
def p6_7_1 : RO := ⟨none, some 4, .assign (.tmp 9)⟩
def o6_7 : List RO := [p6_7_0, p6_7_1]
def x6_7 : RC := .ops o6_7
def x6_6 : RC := .seq x6_7 .ret
def x6_5 : RC := .cond (.tmp 8) x6_6 .skip
def x6_3 : RC := .seq x6_4 x6_5
def p6_9_0 : RO := ⟨none, some 10, .move (.tmp 0)⟩
def p6_9_1 : RO := ⟨none, some 11, .move (.tmp 1)⟩
def p6_9_2 : RO := ⟨none, some 12, .call ⟨.value (.func 8), #[(.tmp 10), (.tmp 11)], #[3, 9]⟩⟩
def p6_9_3 : RO := ⟨none, some 5, .assign (.tmp 12)⟩
def o6_9 : List RO := [p6_9_0, p6_9_1, p6_9_2, p6_9_3]
def x6_9 : RC := .ops o6_9
def p6_11_0 : RO := ⟨none, some 13, .move (.tmp 5)⟩
def p6_11_1 : RO := ⟨none, some 14, .call ⟨.value (.func 21), #[(.tmp 13)], #[9]⟩⟩
def p6_11_2 : RO := ⟨none, some 15, .move (.tmp 1)⟩
def p6_11_3 : RO := ⟨none, some 16, .call ⟨.value (.func 21), #[(.tmp 15)], #[9]⟩⟩
def p6_11_4 : RO := ⟨none, some 17, .binOp .eql 9 (.tmp 14) (.tmp 16) 9⟩
def p6_11_5 : RO := ⟨none, some 18, .move (.tmp 17)⟩
def p6_11_6 : RO := ⟨some (some 18, true), some 19, .move (.tmp 0)⟩
def p6_11_7 : RO := ⟨some (some 18, true), some 20, .move (.tmp 5)⟩
def p6_11_8 : RO := ⟨some (some 18, true), some 21, .call ⟨.value (.func 8), #[(.tmp 19), (.tmp 20)], #[3, 9]⟩⟩
def p6_11_9 : RO := ⟨some (some 18, true), some 22, .move (.tmp 5)⟩
def p6_11_10 : RO := ⟨some (some 18, true), some 23, .binOp .eql 9 (.tmp 21) (.tmp 22) 9⟩
def p6_11_11 : RO := ⟨none, some 24, .pick (.tmp 18) (.tmp 23) (.const (.bool false))⟩
def p6_11_12 : RO := ⟨none, some 25, .move (.tmp 24)⟩
def p6_11_13 : RO := ⟨some (some 25, true), some 26, .move (.tmp 0)⟩
def p6_11_14 : RO := ⟨some (some 25, true), some 27, .binOp .eql 3 (.tmp 26) (.const (.int .i64 (1))) 3⟩
def p6_11_15 : RO := ⟨some (some 25, true), some 28, .move (.tmp 27)⟩
def p6_11_16 : RO := ⟨some (some 28, false), some 29, .move (.tmp 5)⟩
def p6_11_17 : RO := ⟨some (some 28, false), some 30, .move (.tmp 1)⟩
def p6_11_18 : RO := ⟨some (some 28, false), some 31, .binOp .eql 9 (.tmp 29) (.tmp 30) 9⟩
def p6_11_19 : RO := ⟨some (some 25, true), some 32, .pick (.tmp 28) (.const (.bool true)) (.tmp 31)⟩
def p6_11_20 : RO := ⟨none, some 33, .pick (.tmp 25) (.tmp 32) (.const (.bool false))⟩
def p6_11_21 : RO := ⟨none, some 34, .move (.tmp 33)⟩
def p6_11_22 : RO := ⟨some (some 34, true), some 35, .call ⟨.value (.func 7), #[], #[]⟩⟩
def p6_11_23 : RO := ⟨none, some 36, .pick (.tmp 34) (.tmp 35) (.const (.bool false))⟩
def p6_11_24 : RO := ⟨none, some 4, .assign (.tmp 36)⟩
def o6_11 : List RO := [p6_11_0, p6_11_1, p6_11_2, p6_11_3, p6_11_4, p6_11_5, p6_11_6, p6_11_7, p6_11_8, p6_11_9, p6_11_10, p6_11_11, p6_11_12, p6_11_13, p6_11_14, p6_11_15, p6_11_16, p6_11_17, p6_11_18, p6_11_19, p6_11_20, p6_11_21, p6_11_22, p6_11_23, p6_11_24]
def x6_11 : RC := .ops o6_11
def x6_10 : RC := .seq x6_11 .ret
def x6_8 : RC := .seq x6_9 x6_10
def x6_2 : RC := .seq x6_3 x6_8
def x6_0 : RC := .seq x6_1 x6_2
theorem x6_eq : Try.f6.body.map rc = some x6_0 := by kernel_rfl
def p8_1_0 : RO := ⟨none, some 4, .assign (.const (.string ⟨#[]⟩))⟩
def o8_1 : List RO := [p8_1_0]
def x8_1 : RC := .ops o8_1
def p8_4_0 : RO := ⟨none, some 6, .move (.tmp 0)⟩
def p8_4_1 : RO := ⟨none, some 7, .binOp .eql 3 (.tmp 6) (.const (.int .i64 (1))) 3⟩
def o8_4 : List RO := [p8_4_0, p8_4_1]
def x8_4 : RC := .ops o8_4
def p8_7_0 : RO := ⟨none, some 8, .call ⟨.value (.func 22), #[], #[]⟩⟩
def p8_7_1 : RO := ⟨none, some 5, .alloc 40⟩
def p8_7_2 : RO := ⟨none, none, .store 40 (.tmp 5) (.tmp 8)⟩
def o8_7 : List RO := [p8_7_0, p8_7_1, p8_7_2]
def x8_7 : RC := .ops o8_7
def p8_9_0 : RO := ⟨none, some 9, .slice 40 (.tmp 5) none none none⟩
def p8_9_1 : RO := ⟨none, some 10, .move (.tmp 1)⟩
def p8_9_2 : RO := ⟨none, some 11, .call ⟨.value (.func 23), #[(.tmp 9), (.tmp 10)], #[43, 9]⟩⟩
def p8_9_3 : RO := ⟨none, some 4, .assign (.tmp 11)⟩
def o8_9 : List RO := [p8_9_0, p8_9_1, p8_9_2, p8_9_3]
def x8_9 : RC := .ops o8_9
def x8_8 : RC := .seq x8_9 .ret
def x8_6 : RC := .seq x8_7 x8_8
def x8_5 : RC := .cond (.tmp 7) x8_6 .skip
def x8_3 : RC := .seq x8_4 x8_5
def p8_11_0 : RO := ⟨none, some 12, .move (.tmp 1)⟩
def p8_11_1 : RO := ⟨none, some 4, .assign (.tmp 12)⟩
def o8_11 : List RO := [p8_11_0, p8_11_1]
def x8_11 : RC := .ops o8_11
def x8_10 : RC := .seq x8_11 .ret
def x8_2 : RC := .seq x8_3 x8_10
def x8_0 : RC := .seq x8_1 x8_2
theorem x8_eq : Try.f8.body.map rc = some x8_0 := by kernel_rfl
def p9_1_0 : RO := ⟨none, some 4, .assign (.const (.string ⟨#[]⟩))⟩
def o9_1 : List RO := [p9_1_0]
def x9_1 : RC := .ops o9_1
def p9_4_0 : RO := ⟨none, some 5, .move (.tmp 0)⟩
def p9_4_1 : RO := ⟨none, some 6, .binOp .neq 3 (.tmp 5) (.const (.int .i64 (1))) 3⟩
def o9_4 : List RO := [p9_4_0, p9_4_1]
def x9_4 : RC := .ops o9_4
def p9_7_0 : RO := ⟨none, some 7, .move (.tmp 1)⟩
def p9_7_1 : RO := ⟨none, some 4, .assign (.tmp 7)⟩
def o9_7 : List RO := [p9_7_0, p9_7_1]
def x9_7 : RC := .ops o9_7
def x9_6 : RC := .seq x9_7 .ret
def x9_5 : RC := .cond (.tmp 6) x9_6 .skip
def x9_3 : RC := .seq x9_4 x9_5
def p9_9_0 : RO := ⟨none, some 8, .move (.tmp 1)⟩
def p9_9_1 : RO := ⟨none, some 9, .buildSlice 43 6 #[(0, (.const (.string ⟨#[102, 111, 114, 101, 105, 103, 110, 79, 98, 106, 101, 99, 116]⟩))), (1, (.const (.string ⟨#[108, 105, 110, 101, 97, 114, 71, 114, 97, 100, 105, 101, 110, 116]⟩))), (2, (.const (.string ⟨#[114, 97, 100, 105, 97, 108, 71, 114, 97, 100, 105, 101, 110, 116]⟩))), (3, (.const (.string ⟨#[116, 101, 120, 116, 80, 97, 116, 104]⟩))), (4, (.const (.string ⟨#[99, 108, 105, 112, 80, 97, 116, 104]⟩))), (5, (.const (.string ⟨#[97, 110, 105, 109, 97, 116, 101, 84, 114, 97, 110, 115, 102, 111, 114, 109]⟩)))]⟩
def p9_9_2 : RO := ⟨none, some 10, .call ⟨.value (.func 24), #[(.tmp 8), (.tmp 9)], #[9, 43]⟩⟩
def p9_9_3 : RO := ⟨none, some 4, .assign (.tmp 10)⟩
def o9_9 : List RO := [p9_9_0, p9_9_1, p9_9_2, p9_9_3]
def x9_9 : RC := .ops o9_9
def x9_8 : RC := .seq x9_9 .ret
def x9_2 : RC := .seq x9_3 x9_8
def x9_0 : RC := .seq x9_1 x9_2
theorem x9_eq : Try.f9.body.map rc = some x9_0 := by kernel_rfl
def p10_1_0 : RO := ⟨none, some 4, .assign (.const (.bool false))⟩
def o10_1 : List RO := [p10_1_0]
def x10_1 : RC := .ops o10_1
def p10_3_0 : RO := ⟨none, some 5, .move (.tmp 0)⟩
def p10_3_1 : RO := ⟨none, some 6, .binOp .eql 3 (.tmp 5) (.const (.int .i64 (2))) 3⟩
def p10_3_2 : RO := ⟨none, some 7, .move (.tmp 6)⟩
def p10_3_3 : RO := ⟨some (some 7, true), some 8, .buildSlice 43 5 #[(0, (.const (.string ⟨#[109, 105]⟩))), (1, (.const (.string ⟨#[109, 111]⟩))), (2, (.const (.string ⟨#[109, 110]⟩))), (3, (.const (.string ⟨#[109, 115]⟩))), (4, (.const (.string ⟨#[109, 116, 101, 120, 116]⟩)))]⟩
def p10_3_4 : RO := ⟨some (some 7, true), some 9, .move (.tmp 1)⟩
def p10_3_5 : RO := ⟨some (some 7, true), some 10, .call ⟨.value (.func 25), #[(.tmp 8), (.tmp 9)], #[43, 9]⟩⟩
def p10_3_6 : RO := ⟨none, some 11, .pick (.tmp 7) (.tmp 10) (.const (.bool false))⟩
def p10_3_7 : RO := ⟨none, some 4, .assign (.tmp 11)⟩
def o10_3 : List RO := [p10_3_0, p10_3_1, p10_3_2, p10_3_3, p10_3_4, p10_3_5, p10_3_6, p10_3_7]
def x10_3 : RC := .ops o10_3
def x10_2 : RC := .seq x10_3 .ret
def x10_0 : RC := .seq x10_1 x10_2
theorem x10_eq : Try.f10.body.map rc = some x10_0 := by kernel_rfl
def p11_1_0 : RO := ⟨none, some 4, .assign (.const (.bool false))⟩
def o11_1 : List RO := [p11_1_0]
def x11_1 : RC := .ops o11_1
def p11_3_0 : RO := ⟨none, some 5, .move (.tmp 0)⟩
def p11_3_1 : RO := ⟨none, some 6, .binOp .eql 3 (.tmp 5) (.const (.int .i64 (2))) 3⟩
def p11_3_2 : RO := ⟨none, some 7, .move (.tmp 6)⟩
def p11_3_3 : RO := ⟨some (some 7, true), some 8, .move (.tmp 1)⟩
def p11_3_4 : RO := ⟨some (some 7, true), some 9, .call ⟨.value (.func 26), #[(.tmp 8), (.const (.string ⟨#[109, 105, 32, 109, 111, 32, 109, 110, 32, 109, 115, 32, 109, 116, 101, 120, 116]⟩))], #[9, 9]⟩⟩
def p11_3_5 : RO := ⟨none, some 10, .pick (.tmp 7) (.tmp 9) (.const (.bool false))⟩
def p11_3_6 : RO := ⟨none, some 4, .assign (.tmp 10)⟩
def o11_3 : List RO := [p11_3_0, p11_3_1, p11_3_2, p11_3_3, p11_3_4, p11_3_5, p11_3_6]
def x11_3 : RC := .ops o11_3
def x11_2 : RC := .seq x11_3 .ret
def x11_0 : RC := .seq x11_1 x11_2
theorem x11_eq : Try.f11.body.map rc = some x11_0 := by kernel_rfl
def p12_1_0 : RO := ⟨none, some 4, .assign (.const (.bool false))⟩
def o12_1 : List RO := [p12_1_0]
def x12_1 : RC := .ops o12_1
def p12_3_0 : RO := ⟨none, some 5, .move (.tmp 0)⟩
def p12_3_1 : RO := ⟨none, some 6, .binOp .eql 3 (.tmp 5) (.const (.int .i64 (1))) 3⟩
def p12_3_2 : RO := ⟨none, some 7, .move (.tmp 6)⟩
def p12_3_3 : RO := ⟨some (some 7, true), some 8, .buildSlice 43 3 #[(0, (.const (.string ⟨#[102, 111, 114, 101, 105, 103, 110, 79, 98, 106, 101, 99, 116]⟩))), (1, (.const (.string ⟨#[100, 101, 115, 99]⟩))), (2, (.const (.string ⟨#[116, 105, 116, 108, 101]⟩)))]⟩
def p12_3_4 : RO := ⟨some (some 7, true), some 9, .move (.tmp 1)⟩
def p12_3_5 : RO := ⟨some (some 7, true), some 10, .call ⟨.value (.func 25), #[(.tmp 8), (.tmp 9)], #[43, 9]⟩⟩
def p12_3_6 : RO := ⟨none, some 11, .pick (.tmp 7) (.tmp 10) (.const (.bool false))⟩
def p12_3_7 : RO := ⟨none, some 4, .assign (.tmp 11)⟩
def o12_3 : List RO := [p12_3_0, p12_3_1, p12_3_2, p12_3_3, p12_3_4, p12_3_5, p12_3_6, p12_3_7]
def x12_3 : RC := .ops o12_3
def x12_2 : RC := .seq x12_3 .ret
def x12_0 : RC := .seq x12_1 x12_2
theorem x12_eq : Try.f12.body.map rc = some x12_0 := by kernel_rfl
def p13_1_0 : RO := ⟨none, some 4, .assign (.const (.bool false))⟩
def o13_1 : List RO := [p13_1_0]
def x13_1 : RC := .ops o13_1
def p13_3_0 : RO := ⟨none, some 5, .move (.tmp 0)⟩
def p13_3_1 : RO := ⟨none, some 6, .binOp .eql 3 (.tmp 5) (.const (.int .i64 (1))) 3⟩
def p13_3_2 : RO := ⟨none, some 7, .move (.tmp 6)⟩
def p13_3_3 : RO := ⟨some (some 7, true), some 8, .move (.tmp 1)⟩
def p13_3_4 : RO := ⟨some (some 7, true), some 9, .call ⟨.value (.func 26), #[(.tmp 8), (.const (.string ⟨#[102, 111, 114, 101, 105, 103, 110, 79, 98, 106, 101, 99, 116, 32, 100, 101, 115, 99, 32, 116, 105, 116, 108, 101]⟩))], #[9, 9]⟩⟩
def p13_3_5 : RO := ⟨none, some 10, .pick (.tmp 7) (.tmp 9) (.const (.bool false))⟩
def p13_3_6 : RO := ⟨none, some 4, .assign (.tmp 10)⟩
def o13_3 : List RO := [p13_3_0, p13_3_1, p13_3_2, p13_3_3, p13_3_4, p13_3_5, p13_3_6]
def x13_3 : RC := .ops o13_3
def x13_2 : RC := .seq x13_3 .ret
def x13_0 : RC := .seq x13_1 x13_2
theorem x13_eq : Try.f13.body.map rc = some x13_0 := by kernel_rfl
def p17_1_0 : RO := ⟨none, some 3, .box 30 (.tmp 0)⟩
def p17_1_1 : RO := ⟨none, some 5, .box 34 (.tmp 2)⟩
def p17_1_2 : RO := ⟨none, some 6, .assign (.const (.bool false))⟩
def o17_1 : List RO := [p17_1_0, p17_1_1, p17_1_2]
def x17_1 : RC := .ops o17_1
def p17_4_0 : RO := ⟨none, some 8, .move (.tmp 1)⟩
def p17_4_1 : RO := ⟨none, some 9, .unOp .not 4 (.tmp 8)⟩
def p17_4_2 : RO := ⟨none, some 10, .move (.tmp 9)⟩
def p17_4_3 : RO := ⟨some (some 10, false), some 11, .fieldAddr 30 (.tmp 3) 1⟩
def p17_4_4 : RO := ⟨some (some 10, false), some 12, .load 3 (.tmp 11)⟩
def p17_4_5 : RO := ⟨some (some 10, false), some 13, .binOp .eql 3 (.tmp 12) (.const (.int .i64 (0))) 3⟩
def p17_4_6 : RO := ⟨none, some 14, .pick (.tmp 10) (.const (.bool true)) (.tmp 13)⟩
def p17_4_7 : RO := ⟨none, some 15, .move (.tmp 14)⟩
def p17_4_8 : RO := ⟨some (some 15, false), some 16, .fieldAddr 34 (.tmp 5) 0⟩
def p17_4_9 : RO := ⟨some (some 15, false), some 17, .load 3 (.tmp 16)⟩
def p17_4_10 : RO := ⟨some (some 15, false), some 18, .binOp .eql 3 (.tmp 17) (.const (.int .i64 (6))) 3⟩
def p17_4_11 : RO := ⟨none, some 19, .pick (.tmp 15) (.const (.bool true)) (.tmp 18)⟩
def o17_4 : List RO := [p17_4_0, p17_4_1, p17_4_2, p17_4_3, p17_4_4, p17_4_5, p17_4_6, p17_4_7, p17_4_8, p17_4_9, p17_4_10, p17_4_11]
def x17_4 : RC := .ops o17_4
def p17_7_0 : RO := ⟨none, some 6, .assign (.const (.bool false))⟩
def o17_7 : List RO := [p17_7_0]
def x17_7 : RC := .ops o17_7
def x17_6 : RC := .seq x17_7 .ret
def x17_5 : RC := .cond (.tmp 19) x17_6 .skip
def x17_3 : RC := .seq x17_4 x17_5
def p17_10_0 : RO := ⟨none, some 20, .fieldAddr 34 (.tmp 5) 0⟩
def p17_10_1 : RO := ⟨none, some 21, .load 3 (.tmp 20)⟩
def p17_10_2 : RO := ⟨none, some 22, .binOp .eql 3 (.tmp 21) (.const (.int .i64 (1))) 3⟩
def o17_10 : List RO := [p17_10_0, p17_10_1, p17_10_2]
def x17_10 : RC := .ops o17_10
def p17_13_0 : RO := ⟨none, some 23, .fieldAddr 30 (.tmp 3) 1⟩
def p17_13_1 : RO := ⟨none, some 24, .load 3 (.tmp 23)⟩
def p17_13_2 : RO := ⟨none, some 25, .fieldAddr 30 (.tmp 3) 2⟩
def p17_13_3 : RO := ⟨none, some 26, .load 9 (.tmp 25)⟩
def p17_13_4 : RO := ⟨none, some 27, .call ⟨.value (.func 10), #[(.tmp 24), (.tmp 26)], #[3, 9]⟩⟩
def p17_13_5 : RO := ⟨none, some 28, .unOp .not 4 (.tmp 27)⟩
def p17_13_6 : RO := ⟨none, some 29, .move (.tmp 28)⟩
def p17_13_7 : RO := ⟨some (some 29, true), some 30, .fieldAddr 30 (.tmp 3) 1⟩
def p17_13_8 : RO := ⟨some (some 29, true), some 31, .load 3 (.tmp 30)⟩
def p17_13_9 : RO := ⟨some (some 29, true), some 32, .fieldAddr 30 (.tmp 3) 2⟩
def p17_13_10 : RO := ⟨some (some 29, true), some 33, .load 9 (.tmp 32)⟩
def p17_13_11 : RO := ⟨some (some 29, true), some 34, .call ⟨.value (.func 12), #[(.tmp 31), (.tmp 33)], #[3, 9]⟩⟩
def p17_13_12 : RO := ⟨some (some 29, true), some 35, .unOp .not 4 (.tmp 34)⟩
def p17_13_13 : RO := ⟨none, some 36, .pick (.tmp 29) (.tmp 35) (.const (.bool false))⟩
def p17_13_14 : RO := ⟨none, some 6, .assign (.tmp 36)⟩
def o17_13 : List RO := [p17_13_0, p17_13_1, p17_13_2, p17_13_3, p17_13_4, p17_13_5, p17_13_6, p17_13_7, p17_13_8, p17_13_9, p17_13_10, p17_13_11, p17_13_12, p17_13_13, p17_13_14]
def x17_13 : RC := .ops o17_13
def x17_12 : RC := .seq x17_13 .ret
def x17_11 : RC := .cond (.tmp 22) x17_12 .skip
def x17_9 : RC := .seq x17_10 x17_11
def p17_16_0 : RO := ⟨none, some 37, .fieldAddr 34 (.tmp 5) 0⟩
def p17_16_1 : RO := ⟨none, some 38, .load 3 (.tmp 37)⟩
def p17_16_2 : RO := ⟨none, some 39, .binOp .eql 3 (.tmp 38) (.const (.int .i64 (2))) 3⟩
def o17_16 : List RO := [p17_16_0, p17_16_1, p17_16_2]
def x17_16 : RC := .ops o17_16
def p17_19_0 : RO := ⟨none, some 40, .fieldAddr 34 (.tmp 5) 2⟩
def p17_19_1 : RO := ⟨none, some 41, .load 9 (.tmp 40)⟩
def p17_19_2 : RO := ⟨none, some 42, .binOp .eql 9 (.tmp 41) (.const (.string ⟨#[109, 103, 108, 121, 112, 104]⟩)) 9⟩
def p17_19_3 : RO := ⟨none, some 43, .move (.tmp 42)⟩
def p17_19_4 : RO := ⟨some (some 43, false), some 44, .fieldAddr 34 (.tmp 5) 2⟩
def p17_19_5 : RO := ⟨some (some 43, false), some 45, .load 9 (.tmp 44)⟩
def p17_19_6 : RO := ⟨some (some 43, false), some 46, .binOp .eql 9 (.tmp 45) (.const (.string ⟨#[109, 97, 108, 105, 103, 110, 109, 97, 114, 107]⟩)) 9⟩
def p17_19_7 : RO := ⟨none, some 47, .pick (.tmp 43) (.const (.bool true)) (.tmp 46)⟩
def p17_19_8 : RO := ⟨none, some 7, .assign (.tmp 47)⟩
def o17_19 : List RO := [p17_19_0, p17_19_1, p17_19_2, p17_19_3, p17_19_4, p17_19_5, p17_19_6, p17_19_7, p17_19_8]
def x17_19 : RC := .ops o17_19
def p17_21_0 : RO := ⟨none, some 48, .fieldAddr 30 (.tmp 3) 1⟩
def p17_21_1 : RO := ⟨none, some 49, .load 3 (.tmp 48)⟩
def p17_21_2 : RO := ⟨none, some 50, .fieldAddr 30 (.tmp 3) 2⟩
def p17_21_3 : RO := ⟨none, some 51, .load 9 (.tmp 50)⟩
def p17_21_4 : RO := ⟨none, some 52, .call ⟨.value (.func 12), #[(.tmp 49), (.tmp 51)], #[3, 9]⟩⟩
def p17_21_5 : RO := ⟨none, some 53, .unOp .not 4 (.tmp 52)⟩
def p17_21_6 : RO := ⟨none, some 54, .move (.tmp 53)⟩
def p17_21_7 : RO := ⟨some (some 54, true), some 55, .move (.tmp 7)⟩
def p17_21_8 : RO := ⟨some (some 54, true), some 56, .move (.tmp 55)⟩
def p17_21_9 : RO := ⟨some (some 56, false), some 57, .fieldAddr 30 (.tmp 3) 1⟩
def p17_21_10 : RO := ⟨some (some 56, false), some 58, .load 3 (.tmp 57)⟩
def p17_21_11 : RO := ⟨some (some 56, false), some 59, .fieldAddr 30 (.tmp 3) 2⟩
def p17_21_12 : RO := ⟨some (some 56, false), some 60, .load 9 (.tmp 59)⟩
def p17_21_13 : RO := ⟨some (some 56, false), some 61, .call ⟨.value (.func 10), #[(.tmp 58), (.tmp 60)], #[3, 9]⟩⟩
def p17_21_14 : RO := ⟨some (some 56, false), some 62, .unOp .not 4 (.tmp 61)⟩
def p17_21_15 : RO := ⟨some (some 54, true), some 63, .pick (.tmp 56) (.const (.bool true)) (.tmp 62)⟩
def p17_21_16 : RO := ⟨none, some 64, .pick (.tmp 54) (.tmp 63) (.const (.bool false))⟩
def p17_21_17 : RO := ⟨none, some 6, .assign (.tmp 64)⟩
def o17_21 : List RO := [p17_21_0, p17_21_1, p17_21_2, p17_21_3, p17_21_4, p17_21_5, p17_21_6, p17_21_7, p17_21_8, p17_21_9, p17_21_10, p17_21_11, p17_21_12, p17_21_13, p17_21_14, p17_21_15, p17_21_16, p17_21_17]
def x17_21 : RC := .ops o17_21
def x17_20 : RC := .seq x17_21 .ret
def x17_18 : RC := .seq x17_19 x17_20
def x17_17 : RC := .cond (.tmp 39) x17_18 .skip
def x17_15 : RC := .seq x17_16 x17_17
def p17_23_0 : RO := ⟨none, some 6, .assign (.const (.bool true))⟩
def o17_23 : List RO := [p17_23_0]
def x17_23 : RC := .ops o17_23
def x17_22 : RC := .seq x17_23 .ret
def x17_14 : RC := .seq x17_15 x17_22
def x17_8 : RC := .seq x17_9 x17_14
def x17_2 : RC := .seq x17_3 x17_8
def x17_0 : RC := .seq x17_1 x17_2
theorem x17_eq : Try.f17.body.map rc = some x17_0 := by kernel_rfl
def p18_1_0 : RO := ⟨none, some 3, .box 30 (.tmp 0)⟩
def p18_1_1 : RO := ⟨none, some 5, .box 34 (.tmp 2)⟩
def p18_1_2 : RO := ⟨none, some 6, .assign (.const (.bool false))⟩
def o18_1 : List RO := [p18_1_0, p18_1_1, p18_1_2]
def x18_1 : RC := .ops o18_1
def p18_5_0 : RO := ⟨none, some 8, .move (.tmp 1)⟩
def p18_5_1 : RO := ⟨none, some 9, .unOp .not 4 (.tmp 8)⟩
def p18_5_2 : RO := ⟨none, some 10, .move (.tmp 9)⟩
def p18_5_3 : RO := ⟨some (some 10, false), some 11, .fieldAddr 30 (.tmp 3) 1⟩
def p18_5_4 : RO := ⟨some (some 10, false), some 12, .load 3 (.tmp 11)⟩
def p18_5_5 : RO := ⟨some (some 10, false), some 13, .binOp .eql 3 (.tmp 12) (.const (.int .i64 (0))) 3⟩
def p18_5_6 : RO := ⟨none, some 14, .pick (.tmp 10) (.const (.bool true)) (.tmp 13)⟩
def p18_5_7 : RO := ⟨none, some 15, .move (.tmp 14)⟩
def p18_5_8 : RO := ⟨some (some 15, false), some 16, .fieldAddr 34 (.tmp 5) 0⟩
def p18_5_9 : RO := ⟨some (some 15, false), some 17, .load 3 (.tmp 16)⟩
def p18_5_10 : RO := ⟨some (some 15, false), some 18, .binOp .eql 3 (.tmp 17) (.const (.int .i64 (6))) 3⟩
def p18_5_11 : RO := ⟨none, some 19, .pick (.tmp 15) (.const (.bool true)) (.tmp 18)⟩
def p18_5_12 : RO := ⟨none, some 7, .assign (.tmp 19)⟩
def o18_5 : List RO := [p18_5_0, p18_5_1, p18_5_2, p18_5_3, p18_5_4, p18_5_5, p18_5_6, p18_5_7, p18_5_8, p18_5_9, p18_5_10, p18_5_11, p18_5_12]
def x18_5 : RC := .ops o18_5
def p18_8_0 : RO := ⟨none, some 6, .assign (.const (.bool false))⟩
def o18_8 : List RO := [p18_8_0]
def x18_8 : RC := .ops o18_8
def x18_7 : RC := .seq x18_8 .ret
def p18_10_0 : RO := ⟨none, some 21, .fieldAddr 30 (.tmp 3) 1⟩
def p18_10_1 : RO := ⟨none, some 22, .load 3 (.tmp 21)⟩
def p18_10_2 : RO := ⟨none, some 23, .fieldAddr 30 (.tmp 3) 2⟩
def p18_10_3 : RO := ⟨none, some 24, .load 9 (.tmp 23)⟩
def p18_10_4 : RO := ⟨none, some 25, .call ⟨.value (.func 11), #[(.tmp 22), (.tmp 24)], #[3, 9]⟩⟩
def p18_10_5 : RO := ⟨none, some 26, .move (.tmp 25)⟩
def p18_10_6 : RO := ⟨some (some 26, true), some 27, .fieldAddr 34 (.tmp 5) 0⟩
def p18_10_7 : RO := ⟨some (some 26, true), some 28, .load 3 (.tmp 27)⟩
def p18_10_8 : RO := ⟨some (some 26, true), some 29, .binOp .eql 3 (.tmp 28) (.const (.int .i64 (1))) 3⟩
def p18_10_9 : RO := ⟨some (some 26, true), some 30, .move (.tmp 29)⟩
def p18_10_10 : RO := ⟨some (some 30, false), some 31, .fieldAddr 34 (.tmp 5) 0⟩
def p18_10_11 : RO := ⟨some (some 30, false), some 32, .load 3 (.tmp 31)⟩
def p18_10_12 : RO := ⟨some (some 30, false), some 33, .binOp .eql 3 (.tmp 32) (.const (.int .i64 (2))) 3⟩
def p18_10_13 : RO := ⟨some (some 30, false), some 34, .move (.tmp 33)⟩
def p18_10_14 : RO := ⟨some (some 34, true), some 35, .fieldAddr 34 (.tmp 5) 2⟩
def p18_10_15 : RO := ⟨some (some 34, true), some 36, .load 9 (.tmp 35)⟩
def p18_10_16 : RO := ⟨some (some 34, true), some 37, .binOp .neq 9 (.tmp 36) (.const (.string ⟨#[109, 103, 108, 121, 112, 104]⟩)) 9⟩
def p18_10_17 : RO := ⟨some (some 30, false), some 38, .pick (.tmp 34) (.tmp 37) (.const (.bool false))⟩
def p18_10_18 : RO := ⟨some (some 30, false), some 39, .move (.tmp 38)⟩
def p18_10_19 : RO := ⟨some (some 39, true), some 40, .fieldAddr 34 (.tmp 5) 2⟩
def p18_10_20 : RO := ⟨some (some 39, true), some 41, .load 9 (.tmp 40)⟩
def p18_10_21 : RO := ⟨some (some 39, true), some 42, .binOp .neq 9 (.tmp 41) (.const (.string ⟨#[109, 97, 108, 105, 103, 110, 109, 97, 114, 107]⟩)) 9⟩
def p18_10_22 : RO := ⟨some (some 30, false), some 43, .pick (.tmp 39) (.tmp 42) (.const (.bool false))⟩
def p18_10_23 : RO := ⟨some (some 26, true), some 44, .pick (.tmp 30) (.const (.bool true)) (.tmp 43)⟩
def p18_10_24 : RO := ⟨none, some 45, .pick (.tmp 26) (.tmp 44) (.const (.bool false))⟩
def p18_10_25 : RO := ⟨none, some 20, .assign (.tmp 45)⟩
def o18_10 : List RO := [p18_10_0, p18_10_1, p18_10_2, p18_10_3, p18_10_4, p18_10_5, p18_10_6, p18_10_7, p18_10_8, p18_10_9, p18_10_10, p18_10_11, p18_10_12, p18_10_13, p18_10_14, p18_10_15, p18_10_16, p18_10_17, p18_10_18, p18_10_19, p18_10_20, p18_10_21, p18_10_22, p18_10_23, p18_10_24, p18_10_25]
def x18_10 : RC := .ops o18_10
def p18_13_0 : RO := ⟨none, some 6, .assign (.const (.bool false))⟩
def o18_13 : List RO := [p18_13_0]
def x18_13 : RC := .ops o18_13
def x18_12 : RC := .seq x18_13 .ret
def p18_15_0 : RO := ⟨none, some 47, .fieldAddr 30 (.tmp 3) 1⟩
def p18_15_1 : RO := ⟨none, some 48, .load 3 (.tmp 47)⟩
def p18_15_2 : RO := ⟨none, some 49, .fieldAddr 30 (.tmp 3) 2⟩
def p18_15_3 : RO := ⟨none, some 50, .load 9 (.tmp 49)⟩
def p18_15_4 : RO := ⟨none, some 51, .call ⟨.value (.func 13), #[(.tmp 48), (.tmp 50)], #[3, 9]⟩⟩
def p18_15_5 : RO := ⟨none, some 52, .move (.tmp 51)⟩
def p18_15_6 : RO := ⟨some (some 52, true), some 53, .fieldAddr 34 (.tmp 5) 0⟩
def p18_15_7 : RO := ⟨some (some 52, true), some 54, .load 3 (.tmp 53)⟩
def p18_15_8 : RO := ⟨some (some 52, true), some 55, .binOp .eql 3 (.tmp 54) (.const (.int .i64 (1))) 3⟩
def p18_15_9 : RO := ⟨some (some 52, true), some 56, .move (.tmp 55)⟩
def p18_15_10 : RO := ⟨some (some 56, false), some 57, .fieldAddr 34 (.tmp 5) 0⟩
def p18_15_11 : RO := ⟨some (some 56, false), some 58, .load 3 (.tmp 57)⟩
def p18_15_12 : RO := ⟨some (some 56, false), some 59, .binOp .eql 3 (.tmp 58) (.const (.int .i64 (2))) 3⟩
def p18_15_13 : RO := ⟨some (some 52, true), some 60, .pick (.tmp 56) (.const (.bool true)) (.tmp 59)⟩
def p18_15_14 : RO := ⟨none, some 61, .pick (.tmp 52) (.tmp 60) (.const (.bool false))⟩
def p18_15_15 : RO := ⟨none, some 46, .assign (.tmp 61)⟩
def o18_15 : List RO := [p18_15_0, p18_15_1, p18_15_2, p18_15_3, p18_15_4, p18_15_5, p18_15_6, p18_15_7, p18_15_8, p18_15_9, p18_15_10, p18_15_11, p18_15_12, p18_15_13, p18_15_14, p18_15_15]
def x18_15 : RC := .ops o18_15
def p18_18_0 : RO := ⟨none, some 6, .assign (.const (.bool false))⟩
def o18_18 : List RO := [p18_18_0]
def x18_18 : RC := .ops o18_18
def x18_17 : RC := .seq x18_18 .ret
def x18_16 : RC := .cond (.tmp 46) x18_17 .skip
def x18_14 : RC := .seq x18_15 x18_16
def x18_11 : RC := .cond (.tmp 20) x18_12 x18_14
def x18_9 : RC := .seq x18_10 x18_11
def x18_6 : RC := .cond (.tmp 7) x18_7 x18_9
def x18_4 : RC := .seq x18_5 x18_6
def x18_3 : RC := .block 0 x18_4
def p18_20_0 : RO := ⟨none, some 6, .assign (.const (.bool true))⟩
def o18_20 : List RO := [p18_20_0]
def x18_20 : RC := .ops o18_20
def x18_19 : RC := .seq x18_20 .ret
def x18_2 : RC := .seq x18_3 x18_19
def x18_0 : RC := .seq x18_1 x18_2
theorem x18_eq : Try.f18.body.map rc = some x18_0 := by kernel_rfl
def p19_1_0 : RO := ⟨none, some 1, .box 34 (.tmp 0)⟩
def p19_1_1 : RO := ⟨none, some 2, .assign (.const (.bool false))⟩
def o19_1 : List RO := [p19_1_0, p19_1_1]
def x19_1 : RC := .ops o19_1
def p19_5_0 : RO := ⟨none, some 4, .fieldAddr 34 (.tmp 1) 0⟩
def p19_5_1 : RO := ⟨none, some 5, .load 3 (.tmp 4)⟩
def p19_5_2 : RO := ⟨none, some 6, .binOp .eql 3 (.tmp 5) (.const (.int .i64 (3))) 3⟩
def p19_5_3 : RO := ⟨none, some 3, .assign (.tmp 6)⟩
def o19_5 : List RO := [p19_5_0, p19_5_1, p19_5_2, p19_5_3]
def x19_5 : RC := .ops o19_5
def p19_8_0 : RO := ⟨none, some 7, .fieldAddr 34 (.tmp 1) 2⟩
def p19_8_1 : RO := ⟨none, some 8, .load 9 (.tmp 7)⟩
def p19_8_2 : RO := ⟨none, some 9, .binOp .eql 9 (.tmp 8) (.const (.string ⟨#[98, 114]⟩)) 9⟩
def p19_8_3 : RO := ⟨none, some 10, .move (.tmp 9)⟩
def p19_8_4 : RO := ⟨some (some 10, false), some 11, .fieldAddr 34 (.tmp 1) 2⟩
def p19_8_5 : RO := ⟨some (some 10, false), some 12, .load 9 (.tmp 11)⟩
def p19_8_6 : RO := ⟨some (some 10, false), some 13, .binOp .eql 9 (.tmp 12) (.const (.string ⟨#[112]⟩)) 9⟩
def p19_8_7 : RO := ⟨none, some 14, .pick (.tmp 10) (.const (.bool true)) (.tmp 13)⟩
def p19_8_8 : RO := ⟨none, some 2, .assign (.tmp 14)⟩
def o19_8 : List RO := [p19_8_0, p19_8_1, p19_8_2, p19_8_3, p19_8_4, p19_8_5, p19_8_6, p19_8_7, p19_8_8]
def x19_8 : RC := .ops o19_8
def x19_7 : RC := .seq x19_8 .ret
def p19_10_0 : RO := ⟨none, some 16, .fieldAddr 34 (.tmp 1) 0⟩
def p19_10_1 : RO := ⟨none, some 17, .load 3 (.tmp 16)⟩
def p19_10_2 : RO := ⟨none, some 18, .binOp .neq 3 (.tmp 17) (.const (.int .i64 (2))) 3⟩
def p19_10_3 : RO := ⟨none, some 15, .assign (.tmp 18)⟩
def o19_10 : List RO := [p19_10_0, p19_10_1, p19_10_2, p19_10_3]
def x19_10 : RC := .ops o19_10
def p19_13_0 : RO := ⟨none, some 2, .assign (.const (.bool false))⟩
def o19_13 : List RO := [p19_13_0]
def x19_13 : RC := .ops o19_13
def x19_12 : RC := .seq x19_13 .ret
def p19_15_0 : RO := ⟨none, some 20, .fieldAddr 34 (.tmp 1) 2⟩
def p19_15_1 : RO := ⟨none, some 21, .load 9 (.tmp 20)⟩
def p19_15_2 : RO := ⟨none, some 22, .binOp .eql 9 (.tmp 21) (.const (.string ⟨#[102, 111, 110, 116]⟩)) 9⟩
def p19_15_3 : RO := ⟨none, some 19, .assign (.tmp 22)⟩
def o19_15 : List RO := [p19_15_0, p19_15_1, p19_15_2, p19_15_3]
def x19_15 : RC := .ops o19_15
def p19_18_0 : RO := ⟨none, some 23, .fieldAddr 34 (.tmp 1) 4⟩
def p19_18_1 : RO := ⟨none, some 24, .load 25 (.tmp 23)⟩
def p19_18_2 : RO := ⟨none, some 25, .call ⟨.value (.func 29), #[(.tmp 24), (.func 30)], #[25, 51]⟩⟩
def p19_18_3 : RO := ⟨none, some 2, .assign (.tmp 25)⟩
def o19_18 : List RO := [p19_18_0, p19_18_1, p19_18_2, p19_18_3]
def x19_18 : RC := .ops o19_18
def x19_17 : RC := .seq x19_18 .ret
def x19_16 : RC := .cond (.tmp 19) x19_17 .skip
def x19_14 : RC := .seq x19_15 x19_16
def x19_11 : RC := .cond (.tmp 15) x19_12 x19_14
def x19_9 : RC := .seq x19_10 x19_11
def x19_6 : RC := .cond (.tmp 3) x19_7 x19_9
def x19_4 : RC := .seq x19_5 x19_6
def x19_3 : RC := .block 0 x19_4
def p19_20_0 : RO := ⟨none, some 26, .fieldAddr 34 (.tmp 1) 2⟩
def p19_20_1 : RO := ⟨none, some 27, .load 9 (.tmp 26)⟩
def p19_20_2 : RO := ⟨none, some 28, .call ⟨.value (.func 31), #[(.const (.string ⟨#[32, 98, 32, 98, 105, 103, 32, 98, 108, 111, 99, 107, 113, 117, 111, 116, 101, 32, 98, 111, 100, 121, 32, 98, 114, 32, 99, 101, 110, 116, 101, 114, 32, 99, 111, 100, 101, 32, 100, 100, 32, 100, 105, 118, 32, 100, 108, 32, 100, 116, 32, 101, 109, 32, 101, 109, 98, 101, 100, 32, 104, 49, 32, 104, 50, 32, 104, 51, 32, 104, 52, 32, 104, 53, 32, 104, 54, 32, 104, 101, 97, 100, 32, 104, 114, 32, 105, 32, 105, 109, 103, 32, 108, 105, 32, 108, 105, 115, 116, 105, 110, 103, 32, 109, 101, 110, 117, 32, 109, 101, 116, 97, 32, 110, 111, 98, 114, 32, 111, 108, 32, 112, 32, 112, 114, 101, 32, 114, 117, 98, 121, 32, 115, 32, 115, 109, 97, 108, 108, 32, 115, 112, 97, 110, 32, 115, 116, 114, 111, 110, 103, 32, 115, 116, 114, 105, 107, 101, 32, 115, 117, 98, 32, 115, 117, 112, 32, 116, 97, 98, 108, 101, 32, 116, 116, 32, 117, 32, 117, 108, 32, 118, 97, 114, 32]⟩)), (.tmp 27)], #[9, 9]⟩⟩
def p19_20_3 : RO := ⟨none, some 2, .assign (.tmp 28)⟩
def o19_20 : List RO := [p19_20_0, p19_20_1, p19_20_2, p19_20_3]
def x19_20 : RC := .ops o19_20
def x19_19 : RC := .seq x19_20 .ret
def x19_2 : RC := .seq x19_3 x19_19
def x19_0 : RC := .seq x19_1 x19_2
theorem x19_eq : Try.f19.body.map rc = some x19_0 := by kernel_rfl
def p20_1_0 : RO := ⟨none, some 1, .box 34 (.tmp 0)⟩
def p20_1_1 : RO := ⟨none, some 2, .assign (.const (.bool false))⟩
def o20_1 : List RO := [p20_1_0, p20_1_1]
def x20_1 : RC := .ops o20_1
def p20_4_0 : RO := ⟨none, some 9, .fieldAddr 34 (.tmp 1) 0⟩
def p20_4_1 : RO := ⟨none, some 10, .load 3 (.tmp 9)⟩
def p20_4_2 : RO := ⟨none, some 11, .binOp .eql 3 (.tmp 10) (.const (.int .i64 (3))) 3⟩
def o20_4 : List RO := [p20_4_0, p20_4_1, p20_4_2]
def x20_4 : RC := .ops o20_4
def p20_7_0 : RO := ⟨none, some 12, .fieldAddr 34 (.tmp 1) 2⟩
def p20_7_1 : RO := ⟨none, some 13, .load 9 (.tmp 12)⟩
def p20_7_2 : RO := ⟨none, some 14, .binOp .eql 9 (.tmp 13) (.const (.string ⟨#[98, 114]⟩)) 9⟩
def p20_7_3 : RO := ⟨none, some 15, .move (.tmp 14)⟩
def p20_7_4 : RO := ⟨some (some 15, false), some 16, .fieldAddr 34 (.tmp 1) 2⟩
def p20_7_5 : RO := ⟨some (some 15, false), some 17, .load 9 (.tmp 16)⟩
def p20_7_6 : RO := ⟨some (some 15, false), some 18, .binOp .eql 9 (.tmp 17) (.const (.string ⟨#[112]⟩)) 9⟩
def p20_7_7 : RO := ⟨none, some 19, .pick (.tmp 15) (.const (.bool true)) (.tmp 18)⟩
def p20_7_8 : RO := ⟨none, some 2, .assign (.tmp 19)⟩
def o20_7 : List RO := [p20_7_0, p20_7_1, p20_7_2, p20_7_3, p20_7_4, p20_7_5, p20_7_6, p20_7_7, p20_7_8]
def x20_7 : RC := .ops o20_7
def x20_6 : RC := .seq x20_7 .ret
def x20_5 : RC := .cond (.tmp 11) x20_6 .skip
def x20_3 : RC := .seq x20_4 x20_5
def p20_10_0 : RO := ⟨none, some 20, .fieldAddr 34 (.tmp 1) 0⟩
def p20_10_1 : RO := ⟨none, some 21, .load 3 (.tmp 20)⟩
def p20_10_2 : RO := ⟨none, some 22, .binOp .neq 3 (.tmp 21) (.const (.int .i64 (2))) 3⟩
def o20_10 : List RO := [p20_10_0, p20_10_1, p20_10_2]
def x20_10 : RC := .ops o20_10
def p20_13_0 : RO := ⟨none, some 2, .assign (.const (.bool false))⟩
def o20_13 : List RO := [p20_13_0]
def x20_13 : RC := .ops o20_13
def x20_12 : RC := .seq x20_13 .ret
def x20_11 : RC := .cond (.tmp 22) x20_12 .skip
def x20_9 : RC := .seq x20_10 x20_11
def p20_16_0 : RO := ⟨none, some 23, .fieldAddr 34 (.tmp 1) 2⟩
def p20_16_1 : RO := ⟨none, some 24, .load 9 (.tmp 23)⟩
def p20_16_2 : RO := ⟨none, some 25, .binOp .eql 9 (.tmp 24) (.const (.string ⟨#[102, 111, 110, 116]⟩)) 9⟩
def o20_16 : List RO := [p20_16_0, p20_16_1, p20_16_2]
def x20_16 : RC := .ops o20_16
def p20_19_0 : RO := ⟨none, some 27, .fieldAddr 34 (.tmp 1) 4⟩
def p20_19_1 : RO := ⟨none, some 28, .load 25 (.tmp 27)⟩
def p20_19_2 : RO := ⟨none, some 29, .call ⟨.value (.func 32), #[(.tmp 28), (.const (.string ⟨#[99, 111, 108, 111, 114]⟩))], #[25, 9]⟩⟩
def p20_19_3 : RO := ⟨none, some 26, .move (.tmp 29)⟩
def p20_19_4 : RO := ⟨none, some 30, .extract (.tmp 26) 0⟩
def p20_19_5 : RO := ⟨none, some 31, .extract (.tmp 26) 1⟩
def p20_19_6 : RO := ⟨none, some 3, .assign (.tmp 30)⟩
def p20_19_7 : RO := ⟨none, some 4, .assign (.tmp 31)⟩
def o20_19 : List RO := [p20_19_0, p20_19_1, p20_19_2, p20_19_3, p20_19_4, p20_19_5, p20_19_6, p20_19_7]
def x20_19 : RC := .ops o20_19
def p20_21_0 : RO := ⟨none, some 33, .fieldAddr 34 (.tmp 1) 4⟩
def p20_21_1 : RO := ⟨none, some 34, .load 25 (.tmp 33)⟩
def p20_21_2 : RO := ⟨none, some 35, .call ⟨.value (.func 32), #[(.tmp 34), (.const (.string ⟨#[102, 97, 99, 101]⟩))], #[25, 9]⟩⟩
def p20_21_3 : RO := ⟨none, some 32, .move (.tmp 35)⟩
def p20_21_4 : RO := ⟨none, some 36, .extract (.tmp 32) 0⟩
def p20_21_5 : RO := ⟨none, some 37, .extract (.tmp 32) 1⟩
def p20_21_6 : RO := ⟨none, some 5, .assign (.tmp 36)⟩
def p20_21_7 : RO := ⟨none, some 6, .assign (.tmp 37)⟩
def o20_21 : List RO := [p20_21_0, p20_21_1, p20_21_2, p20_21_3, p20_21_4, p20_21_5, p20_21_6, p20_21_7]
def x20_21 : RC := .ops o20_21
def p20_23_0 : RO := ⟨none, some 39, .fieldAddr 34 (.tmp 1) 4⟩
def p20_23_1 : RO := ⟨none, some 40, .load 25 (.tmp 39)⟩
def p20_23_2 : RO := ⟨none, some 41, .call ⟨.value (.func 32), #[(.tmp 40), (.const (.string ⟨#[115, 105, 122, 101]⟩))], #[25, 9]⟩⟩
def p20_23_3 : RO := ⟨none, some 38, .move (.tmp 41)⟩
def p20_23_4 : RO := ⟨none, some 42, .extract (.tmp 38) 0⟩
def p20_23_5 : RO := ⟨none, some 43, .extract (.tmp 38) 1⟩
def p20_23_6 : RO := ⟨none, some 7, .assign (.tmp 42)⟩
def p20_23_7 : RO := ⟨none, some 8, .assign (.tmp 43)⟩
def o20_23 : List RO := [p20_23_0, p20_23_1, p20_23_2, p20_23_3, p20_23_4, p20_23_5, p20_23_6, p20_23_7]
def x20_23 : RC := .ops o20_23
def p20_25_0 : RO := ⟨none, some 44, .move (.tmp 4)⟩
def p20_25_1 : RO := ⟨none, some 45, .move (.tmp 44)⟩
def p20_25_2 : RO := ⟨some (some 45, false), some 46, .move (.tmp 6)⟩
def p20_25_3 : RO := ⟨none, some 47, .pick (.tmp 45) (.const (.bool true)) (.tmp 46)⟩
def p20_25_4 : RO := ⟨none, some 48, .move (.tmp 47)⟩
def p20_25_5 : RO := ⟨some (some 48, false), some 49, .move (.tmp 8)⟩
def p20_25_6 : RO := ⟨none, some 50, .pick (.tmp 48) (.const (.bool true)) (.tmp 49)⟩
def p20_25_7 : RO := ⟨none, some 2, .assign (.tmp 50)⟩
def o20_25 : List RO := [p20_25_0, p20_25_1, p20_25_2, p20_25_3, p20_25_4, p20_25_5, p20_25_6, p20_25_7]
def x20_25 : RC := .ops o20_25
def x20_24 : RC := .seq x20_25 .ret
def x20_22 : RC := .seq x20_23 x20_24
def x20_20 : RC := .seq x20_21 x20_22
def x20_18 : RC := .seq x20_19 x20_20
def x20_17 : RC := .cond (.tmp 25) x20_18 .skip
def x20_15 : RC := .seq x20_16 x20_17
def p20_27_0 : RO := ⟨none, some 51, .fieldAddr 34 (.tmp 1) 2⟩
def p20_27_1 : RO := ⟨none, some 52, .load 9 (.tmp 51)⟩
def p20_27_2 : RO := ⟨none, some 53, .call ⟨.value (.func 26), #[(.tmp 52), (.const (.string ⟨#[98, 32, 98, 105, 103, 32, 98, 108, 111, 99, 107, 113, 117, 111, 116, 101, 32, 98, 111, 100, 121, 32, 98, 114, 32, 99, 101, 110, 116, 101, 114, 32, 99, 111, 100, 101, 32, 100, 100, 32, 100, 105, 118, 32, 100, 108, 32, 100, 116, 32, 101, 109, 32, 101, 109, 98, 101, 100, 32, 104, 49, 32, 104, 50, 32, 104, 51, 32, 104, 52, 32, 104, 53, 32, 104, 54, 32, 104, 101, 97, 100, 32, 104, 114, 32, 105, 32, 105, 109, 103, 32, 108, 105, 32, 108, 105, 115, 116, 105, 110, 103, 32, 109, 101, 110, 117, 32, 109, 101, 116, 97, 32, 110, 111, 98, 114, 32, 111, 108, 32, 112, 32, 112, 114, 101, 32, 114, 117, 98, 121, 32, 115, 32, 115, 109, 97, 108, 108, 32, 115, 112, 97, 110, 32, 115, 116, 114, 111, 110, 103, 32, 115, 116, 114, 105, 107, 101, 32, 115, 117, 98, 32, 115, 117, 112, 32, 116, 97, 98, 108, 101, 32, 116, 116, 32, 117, 32, 117, 108, 32, 118, 97, 114]⟩))], #[9, 9]⟩⟩
def p20_27_3 : RO := ⟨none, some 2, .assign (.tmp 53)⟩
def o20_27 : List RO := [p20_27_0, p20_27_1, p20_27_2, p20_27_3]
def x20_27 : RC := .ops o20_27
def x20_26 : RC := .seq x20_27 .ret
def x20_14 : RC := .seq x20_15 x20_26
def x20_8 : RC := .seq x20_9 x20_14
def x20_2 : RC := .seq x20_3 x20_8
def x20_0 : RC := .seq x20_1 x20_2
theorem x20_eq : Try.f20.body.map rc = some x20_0 := by kernel_rfl
def p21_1_0 : RO := ⟨none, some 2, .assign (.const (.string ⟨#[]⟩))⟩
def o21_1 : List RO := [p21_1_0]
def x21_1 : RC := .ops o21_1
def p21_3_0 : RO := ⟨none, some 5, .move (.tmp 0)⟩
def p21_3_1 : RO := ⟨none, some 6, .convert 9 54 (.tmp 5)⟩
def p21_3_2 : RO := ⟨none, some 3, .assign (.tmp 6)⟩
def o21_3 : List RO := [p21_3_0, p21_3_1, p21_3_2]
def x21_3 : RC := .ops o21_3
def p21_6_0 : RO := ⟨none, some 4, .assign (.const (.int .i64 (0)))⟩
def o21_6 : List RO := [p21_6_0]
def x21_6 : RC := .ops o21_6
def p21_11_0 : RO := ⟨none, some 7, .move (.tmp 4)⟩
def p21_11_1 : RO := ⟨none, some 8, .move (.tmp 3)⟩
def p21_11_2 : RO := ⟨none, some 9, .call ⟨.builtin .len, #[(.tmp 8)], #[54]⟩⟩
def p21_11_3 : RO := ⟨none, some 10, .binOp .lss 3 (.tmp 7) (.tmp 9) 3⟩
def o21_11 : List RO := [p21_11_0, p21_11_1, p21_11_2, p21_11_3]
def x21_11 : RC := .ops o21_11
def x21_12 : RC := .cond (.tmp 10) .skip (.exit 0)
def x21_10 : RC := .seq x21_11 x21_12
def p21_16_0 : RO := ⟨none, some 13, .move (.tmp 3)⟩
def p21_16_1 : RO := ⟨none, some 14, .move (.tmp 4)⟩
def p21_16_2 : RO := ⟨none, some 15, .indexAddr 54 (.tmp 13) (.tmp 14)⟩
def p21_16_3 : RO := ⟨none, some 16, .load 5 (.tmp 15)⟩
def p21_16_4 : RO := ⟨none, some 17, .binOp .geq 5 (.tmp 16) (.const (.int .u8 (65))) 5⟩
def p21_16_5 : RO := ⟨none, some 18, .move (.tmp 17)⟩
def p21_16_6 : RO := ⟨some (some 18, true), some 19, .move (.tmp 3)⟩
def p21_16_7 : RO := ⟨some (some 18, true), some 20, .move (.tmp 4)⟩
def p21_16_8 : RO := ⟨some (some 18, true), some 21, .indexAddr 54 (.tmp 19) (.tmp 20)⟩
def p21_16_9 : RO := ⟨some (some 18, true), some 22, .load 5 (.tmp 21)⟩
def p21_16_10 : RO := ⟨some (some 18, true), some 23, .binOp .leq 5 (.tmp 22) (.const (.int .u8 (90))) 5⟩
def p21_16_11 : RO := ⟨none, some 24, .pick (.tmp 18) (.tmp 23) (.const (.bool false))⟩
def o21_16 : List RO := [p21_16_0, p21_16_1, p21_16_2, p21_16_3, p21_16_4, p21_16_5, p21_16_6, p21_16_7, p21_16_8, p21_16_9, p21_16_10, p21_16_11]
def x21_16 : RC := .ops o21_16
def p21_18_0 : RO := ⟨none, some 25, .move (.tmp 3)⟩
def p21_18_1 : RO := ⟨none, some 26, .move (.tmp 4)⟩
def p21_18_2 : RO := ⟨none, some 27, .indexAddr 54 (.tmp 25) (.tmp 26)⟩
def p21_18_3 : RO := ⟨none, some 28, .load 5 (.tmp 27)⟩
def p21_18_4 : RO := ⟨none, some 29, .binOp .add 5 (.tmp 28) (.const (.int .u8 (32))) 5⟩
def p21_18_5 : RO := ⟨none, some 30, .indexAddr 54 (.tmp 25) (.tmp 26)⟩
def p21_18_6 : RO := ⟨none, none, .store 5 (.tmp 30) (.tmp 29)⟩
def o21_18 : List RO := [p21_18_0, p21_18_1, p21_18_2, p21_18_3, p21_18_4, p21_18_5, p21_18_6]
def x21_18 : RC := .ops o21_18
def x21_17 : RC := .cond (.tmp 24) x21_18 .skip
def x21_15 : RC := .seq x21_16 x21_17
def x21_14 : RC := .block 1 x21_15
def p21_19_0 : RO := ⟨none, some 11, .move (.tmp 4)⟩
def p21_19_1 : RO := ⟨none, some 12, .binOp .add 3 (.tmp 11) (.const (.int .i64 (1))) 3⟩
def p21_19_2 : RO := ⟨none, some 4, .assign (.tmp 12)⟩
def o21_19 : List RO := [p21_19_0, p21_19_1, p21_19_2]
def x21_19 : RC := .ops o21_19
def x21_13 : RC := .seq x21_14 x21_19
def x21_9 : RC := .seq x21_10 x21_13
def x21_8 : RC := .loop x21_9
def x21_7 : RC := .block 0 x21_8
def x21_5 : RC := .seq x21_6 x21_7
def p21_21_0 : RO := ⟨none, some 31, .move (.tmp 3)⟩
def p21_21_1 : RO := ⟨none, some 32, .convert 54 9 (.tmp 31)⟩
def p21_21_2 : RO := ⟨none, some 2, .assign (.tmp 32)⟩
def o21_21 : List RO := [p21_21_0, p21_21_1, p21_21_2]
def x21_21 : RC := .ops o21_21
def x21_20 : RC := .seq x21_21 .ret
def x21_4 : RC := .seq x21_5 x21_20
def x21_2 : RC := .seq x21_3 x21_4
def x21_0 : RC := .seq x21_1 x21_2
theorem x21_eq : Try.f21.body.map rc = some x21_0 := by kernel_rfl
def p22_1_0 : RO := ⟨none, some 0, .alloc 40⟩
def o22_1 : List RO := [p22_1_0]
def x22_1 : RC := .ops o22_1
def p22_3_0 : RO := ⟨none, some 1, .build 40 #[(0, (.const (.string ⟨#[102, 111, 114, 101, 105, 103, 110, 79, 98, 106, 101, 99, 116]⟩))), (1, (.const (.string ⟨#[108, 105, 110, 101, 97, 114, 71, 114, 97, 100, 105, 101, 110, 116]⟩))), (2, (.const (.string ⟨#[114, 97, 100, 105, 97, 108, 71, 114, 97, 100, 105, 101, 110, 116]⟩))), (3, (.const (.string ⟨#[116, 101, 120, 116, 80, 97, 116, 104]⟩))), (4, (.const (.string ⟨#[99, 108, 105, 112, 80, 97, 116, 104]⟩))), (5, (.const (.string ⟨#[97, 110, 105, 109, 97, 116, 101, 84, 114, 97, 110, 115, 102, 111, 114, 109]⟩)))]⟩
def p22_3_1 : RO := ⟨none, none, .store 40 (.tmp 0) (.tmp 1)⟩
def o22_3 : List RO := [p22_3_0, p22_3_1]
def x22_3 : RC := .ops o22_3
def x22_2 : RC := .seq x22_3 .ret
def x22_0 : RC := .seq x22_1 x22_2
theorem x22_eq : Try.f22.body.map rc = some x22_0 := by kernel_rfl
def p23_1_0 : RO := ⟨none, some 4, .assign (.const (.string ⟨#[]⟩))⟩
def o23_1 : List RO := [p23_1_0]
def x23_1 : RC := .ops o23_1
def p23_4_0 : RO := ⟨none, some 7, .move (.tmp 0)⟩
def p23_4_1 : RO := ⟨none, some 8, .call ⟨.builtin .len, #[(.tmp 7)], #[43]⟩⟩
def p23_4_2 : RO := ⟨none, some 9, .move (.const (.int .i64 (0)))⟩
def o23_4 : List RO := [p23_4_0, p23_4_1, p23_4_2]
def x23_4 : RC := .ops o23_4
def p23_8_0 : RO := ⟨none, some 10, .binOp .lss 3 (.tmp 9) (.tmp 8) 3⟩
def o23_8 : List RO := [p23_8_0]
def x23_8 : RC := .ops o23_8
def x23_10 : RC := .cond (.tmp 10) .skip (.exit 0)
def p23_14_0 : RO := ⟨none, some 11, .indexAddr 43 (.tmp 7) (.tmp 9)⟩
def p23_14_1 : RO := ⟨none, some 12, .load 9 (.tmp 11)⟩
def p23_14_2 : RO := ⟨none, some 6, .assign (.tmp 12)⟩
def o23_14 : List RO := [p23_14_0, p23_14_1, p23_14_2]
def x23_14 : RC := .ops o23_14
def p23_16_0 : RO := ⟨none, some 13, .move (.tmp 6)⟩
def p23_16_1 : RO := ⟨none, some 14, .binOp .neq 9 (.tmp 13) (.const (.string ⟨#[]⟩)) 9⟩
def p23_16_2 : RO := ⟨none, some 15, .move (.tmp 14)⟩
def p23_16_3 : RO := ⟨some (some 15, true), some 16, .move (.tmp 6)⟩
def p23_16_4 : RO := ⟨some (some 15, true), some 17, .call ⟨.value (.func 33), #[(.tmp 16)], #[9]⟩⟩
def p23_16_5 : RO := ⟨some (some 15, true), some 18, .move (.tmp 1)⟩
def p23_16_6 : RO := ⟨some (some 15, true), some 19, .binOp .eql 9 (.tmp 17) (.tmp 18) 9⟩
def p23_16_7 : RO := ⟨none, some 20, .pick (.tmp 15) (.tmp 19) (.const (.bool false))⟩
def o23_16 : List RO := [p23_16_0, p23_16_1, p23_16_2, p23_16_3, p23_16_4, p23_16_5, p23_16_6, p23_16_7]
def x23_16 : RC := .ops o23_16
def p23_19_0 : RO := ⟨none, some 21, .move (.tmp 6)⟩
def p23_19_1 : RO := ⟨none, some 4, .assign (.tmp 21)⟩
def o23_19 : List RO := [p23_19_0, p23_19_1]
def x23_19 : RC := .ops o23_19
def x23_18 : RC := .seq x23_19 .ret
def x23_17 : RC := .cond (.tmp 20) x23_18 .skip
def x23_15 : RC := .seq x23_16 x23_17
def x23_13 : RC := .seq x23_14 x23_15
def x23_12 : RC := .block 1 x23_13
def p23_20_0 : RO := ⟨none, some 22, .binOp .add 3 (.tmp 9) (.const (.int .i64 (1))) 3⟩
def p23_20_1 : RO := ⟨none, some 9, .move (.tmp 22)⟩
def o23_20 : List RO := [p23_20_0, p23_20_1]
def x23_20 : RC := .ops o23_20
def x23_11 : RC := .seq x23_12 x23_20
def x23_9 : RC := .seq x23_10 x23_11
def x23_7 : RC := .seq x23_8 x23_9
def x23_6 : RC := .loop x23_7
def x23_5 : RC := .block 0 x23_6
def x23_3 : RC := .seq x23_4 x23_5
def p23_22_0 : RO := ⟨none, some 23, .move (.tmp 1)⟩
def p23_22_1 : RO := ⟨none, some 4, .assign (.tmp 23)⟩
def o23_22 : List RO := [p23_22_0, p23_22_1]
def x23_22 : RC := .ops o23_22
def x23_21 : RC := .seq x23_22 .ret
def x23_2 : RC := .seq x23_3 x23_21
def x23_0 : RC := .seq x23_1 x23_2
theorem x23_eq : Try.f23.body.map rc = some x23_0 := by kernel_rfl
def p24_1_0 : RO := ⟨none, some 4, .assign (.const (.string ⟨#[]⟩))⟩
def o24_1 : List RO := [p24_1_0]
def x24_1 : RC := .ops o24_1
def p24_4_0 : RO := ⟨none, some 5, .assign (.const (.int .i64 (0)))⟩
def o24_4 : List RO := [p24_4_0]
def x24_4 : RC := .ops o24_4
def p24_9_0 : RO := ⟨none, some 6, .move (.tmp 5)⟩
def p24_9_1 : RO := ⟨none, some 7, .move (.tmp 1)⟩
def p24_9_2 : RO := ⟨none, some 8, .call ⟨.builtin .len, #[(.tmp 7)], #[43]⟩⟩
def p24_9_3 : RO := ⟨none, some 9, .binOp .lss 3 (.tmp 6) (.tmp 8) 3⟩
def o24_9 : List RO := [p24_9_0, p24_9_1, p24_9_2, p24_9_3]
def x24_9 : RC := .ops o24_9
def x24_10 : RC := .cond (.tmp 9) .skip (.exit 0)
def x24_8 : RC := .seq x24_9 x24_10
def p24_14_0 : RO := ⟨none, some 12, .move (.tmp 1)⟩
def p24_14_1 : RO := ⟨none, some 13, .move (.tmp 5)⟩
def p24_14_2 : RO := ⟨none, some 14, .indexAddr 43 (.tmp 12) (.tmp 13)⟩
def p24_14_3 : RO := ⟨none, some 15, .load 9 (.tmp 14)⟩
def p24_14_4 : RO := ⟨none, some 16, .call ⟨.value (.func 21), #[(.tmp 15)], #[9]⟩⟩
def p24_14_5 : RO := ⟨none, some 17, .move (.tmp 0)⟩
def p24_14_6 : RO := ⟨none, some 18, .binOp .eql 9 (.tmp 16) (.tmp 17) 9⟩
def o24_14 : List RO := [p24_14_0, p24_14_1, p24_14_2, p24_14_3, p24_14_4, p24_14_5, p24_14_6]
def x24_14 : RC := .ops o24_14
def p24_17_0 : RO := ⟨none, some 19, .move (.tmp 1)⟩
def p24_17_1 : RO := ⟨none, some 20, .move (.tmp 5)⟩
def p24_17_2 : RO := ⟨none, some 21, .indexAddr 43 (.tmp 19) (.tmp 20)⟩
def p24_17_3 : RO := ⟨none, some 22, .load 9 (.tmp 21)⟩
def p24_17_4 : RO := ⟨none, some 4, .assign (.tmp 22)⟩
def o24_17 : List RO := [p24_17_0, p24_17_1, p24_17_2, p24_17_3, p24_17_4]
def x24_17 : RC := .ops o24_17
def x24_16 : RC := .seq x24_17 .ret
def x24_15 : RC := .cond (.tmp 18) x24_16 .skip
def x24_13 : RC := .seq x24_14 x24_15
def x24_12 : RC := .block 1 x24_13
def p24_18_0 : RO := ⟨none, some 10, .move (.tmp 5)⟩
def p24_18_1 : RO := ⟨none, some 11, .binOp .add 3 (.tmp 10) (.const (.int .i64 (1))) 3⟩
def p24_18_2 : RO := ⟨none, some 5, .assign (.tmp 11)⟩
def o24_18 : List RO := [p24_18_0, p24_18_1, p24_18_2]
def x24_18 : RC := .ops o24_18
def x24_11 : RC := .seq x24_12 x24_18
def x24_7 : RC := .seq x24_8 x24_11
def x24_6 : RC := .loop x24_7
def x24_5 : RC := .block 0 x24_6
def x24_3 : RC := .seq x24_4 x24_5
def p24_20_0 : RO := ⟨none, some 23, .move (.tmp 0)⟩
def p24_20_1 : RO := ⟨none, some 4, .assign (.tmp 23)⟩
def o24_20 : List RO := [p24_20_0, p24_20_1]
def x24_20 : RC := .ops o24_20
def x24_19 : RC := .seq x24_20 .ret
def x24_2 : RC := .seq x24_3 x24_19
def x24_0 : RC := .seq x24_1 x24_2
theorem x24_eq : Try.f24.body.map rc = some x24_0 := by kernel_rfl
def p25_1_0 : RO := ⟨none, some 4, .assign (.const (.bool false))⟩
def o25_1 : List RO := [p25_1_0]
def x25_1 : RC := .ops o25_1
def p25_3_0 : RO := ⟨none, some 5, .move (.tmp 0)⟩
def p25_3_1 : RO := ⟨none, some 6, .move (.tmp 1)⟩
def p25_3_2 : RO := ⟨none, some 7, .call ⟨.value (.func 34), #[(.tmp 5), (.tmp 6)], #[43, 9]⟩⟩
def p25_3_3 : RO := ⟨none, some 8, .binOp .geq 3 (.tmp 7) (.const (.int .i64 (0))) 3⟩
def p25_3_4 : RO := ⟨none, some 4, .assign (.tmp 8)⟩
def o25_3 : List RO := [p25_3_0, p25_3_1, p25_3_2, p25_3_3, p25_3_4]
def x25_3 : RC := .ops o25_3
def x25_2 : RC := .seq x25_3 .ret
def x25_0 : RC := .seq x25_1 x25_2
theorem x25_eq : Try.f25.body.map rc = some x25_0 := by kernel_rfl
def p26_1_0 : RO := ⟨none, some 4, .assign (.const (.bool false))⟩
def o26_1 : List RO := [p26_1_0]
def x26_1 : RC := .ops o26_1
def p26_3_0 : RO := ⟨none, some 5, .assign (.const (.int .i64 (0)))⟩
def o26_3 : List RO := [p26_3_0]
def x26_3 : RC := .ops o26_3
def p26_6_0 : RO := ⟨none, some 6, .assign (.const (.int .i64 (0)))⟩
def o26_6 : List RO := [p26_6_0]
def x26_6 : RC := .ops o26_6
def p26_11_0 : RO := ⟨none, some 7, .move (.tmp 6)⟩
def p26_11_1 : RO := ⟨none, some 8, .move (.tmp 1)⟩
def p26_11_2 : RO := ⟨none, some 9, .call ⟨.builtin .len, #[(.tmp 8)], #[9]⟩⟩
def p26_11_3 : RO := ⟨none, some 10, .binOp .leq 3 (.tmp 7) (.tmp 9) 3⟩
def o26_11 : List RO := [p26_11_0, p26_11_1, p26_11_2, p26_11_3]
def x26_11 : RC := .ops o26_11
def x26_12 : RC := .cond (.tmp 10) .skip (.exit 0)
def x26_10 : RC := .seq x26_11 x26_12
def p26_16_0 : RO := ⟨none, some 13, .move (.tmp 6)⟩
def p26_16_1 : RO := ⟨none, some 14, .move (.tmp 1)⟩
def p26_16_2 : RO := ⟨none, some 15, .call ⟨.builtin .len, #[(.tmp 14)], #[9]⟩⟩
def p26_16_3 : RO := ⟨none, some 16, .binOp .eql 3 (.tmp 13) (.tmp 15) 3⟩
def p26_16_4 : RO := ⟨none, some 17, .move (.tmp 16)⟩
def p26_16_5 : RO := ⟨some (some 17, false), some 18, .move (.tmp 1)⟩
def p26_16_6 : RO := ⟨some (some 17, false), some 19, .move (.tmp 6)⟩
def p26_16_7 : RO := ⟨some (some 17, false), some 20, .index 9 (.tmp 18) (.tmp 19)⟩
def p26_16_8 : RO := ⟨some (some 17, false), some 21, .binOp .eql 5 (.tmp 20) (.const (.int .u8 (32))) 5⟩
def p26_16_9 : RO := ⟨none, some 22, .pick (.tmp 17) (.const (.bool true)) (.tmp 21)⟩
def o26_16 : List RO := [p26_16_0, p26_16_1, p26_16_2, p26_16_3, p26_16_4, p26_16_5, p26_16_6, p26_16_7, p26_16_8, p26_16_9]
def x26_16 : RC := .ops o26_16
def p26_20_0 : RO := ⟨none, some 23, .move (.tmp 1)⟩
def p26_20_1 : RO := ⟨none, some 24, .move (.tmp 5)⟩
def p26_20_2 : RO := ⟨none, some 25, .move (.tmp 6)⟩
def p26_20_3 : RO := ⟨none, some 26, .slice 9 (.tmp 23) (some (.tmp 24)) (some (.tmp 25)) none⟩
def p26_20_4 : RO := ⟨none, some 27, .move (.tmp 0)⟩
def p26_20_5 : RO := ⟨none, some 28, .binOp .eql 9 (.tmp 26) (.tmp 27) 9⟩
def p26_20_6 : RO := ⟨none, some 29, .move (.tmp 28)⟩
def p26_20_7 : RO := ⟨some (some 29, true), some 30, .move (.tmp 6)⟩
def p26_20_8 : RO := ⟨some (some 29, true), some 31, .move (.tmp 5)⟩
def p26_20_9 : RO := ⟨some (some 29, true), some 32, .binOp .gtr 3 (.tmp 30) (.tmp 31) 3⟩
def p26_20_10 : RO := ⟨none, some 33, .pick (.tmp 29) (.tmp 32) (.const (.bool false))⟩
def o26_20 : List RO := [p26_20_0, p26_20_1, p26_20_2, p26_20_3, p26_20_4, p26_20_5, p26_20_6, p26_20_7, p26_20_8, p26_20_9, p26_20_10]
def x26_20 : RC := .ops o26_20
def p26_23_0 : RO := ⟨none, some 4, .assign (.const (.bool true))⟩
def o26_23 : List RO := [p26_23_0]
def x26_23 : RC := .ops o26_23
def x26_22 : RC := .seq x26_23 .ret
def x26_21 : RC := .cond (.tmp 33) x26_22 .skip
def x26_19 : RC := .seq x26_20 x26_21
def p26_24_0 : RO := ⟨none, some 34, .move (.tmp 6)⟩
def p26_24_1 : RO := ⟨none, some 35, .binOp .add 3 (.tmp 34) (.const (.int .i64 (1))) 3⟩
def p26_24_2 : RO := ⟨none, some 5, .assign (.tmp 35)⟩
def o26_24 : List RO := [p26_24_0, p26_24_1, p26_24_2]
def x26_24 : RC := .ops o26_24
def x26_18 : RC := .seq x26_19 x26_24
def x26_17 : RC := .cond (.tmp 22) x26_18 .skip
def x26_15 : RC := .seq x26_16 x26_17
def x26_14 : RC := .block 1 x26_15
def p26_25_0 : RO := ⟨none, some 11, .move (.tmp 6)⟩
def p26_25_1 : RO := ⟨none, some 12, .binOp .add 3 (.tmp 11) (.const (.int .i64 (1))) 3⟩
def p26_25_2 : RO := ⟨none, some 6, .assign (.tmp 12)⟩
def o26_25 : List RO := [p26_25_0, p26_25_1, p26_25_2]
def x26_25 : RC := .ops o26_25
def x26_13 : RC := .seq x26_14 x26_25
def x26_9 : RC := .seq x26_10 x26_13
def x26_8 : RC := .loop x26_9
def x26_7 : RC := .block 0 x26_8
def x26_5 : RC := .seq x26_6 x26_7
def p26_27_0 : RO := ⟨none, some 4, .assign (.const (.bool false))⟩
def o26_27 : List RO := [p26_27_0]
def x26_27 : RC := .ops o26_27
def x26_26 : RC := .seq x26_27 .ret
def x26_4 : RC := .seq x26_5 x26_26
def x26_2 : RC := .seq x26_3 x26_4
def x26_0 : RC := .seq x26_1 x26_2
theorem x26_eq : Try.f26.body.map rc = some x26_0 := by kernel_rfl
def p29_1_0 : RO := ⟨none, some 4, .assign (.const (.bool false))⟩
def o29_1 : List RO := [p29_1_0]
def x29_1 : RC := .ops o29_1
def p29_3_0 : RO := ⟨none, some 5, .move (.tmp 0)⟩
def p29_3_1 : RO := ⟨none, some 6, .move (.tmp 1)⟩
def p29_3_2 : RO := ⟨none, some 7, .call ⟨.value (.func 35), #[(.tmp 5), (.tmp 6)], #[25, 51]⟩⟩
def p29_3_3 : RO := ⟨none, some 8, .binOp .geq 3 (.tmp 7) (.const (.int .i64 (0))) 3⟩
def p29_3_4 : RO := ⟨none, some 4, .assign (.tmp 8)⟩
def o29_3 : List RO := [p29_3_0, p29_3_1, p29_3_2, p29_3_3, p29_3_4]
def x29_3 : RC := .ops o29_3
def x29_2 : RC := .seq x29_3 .ret
def x29_0 : RC := .seq x29_1 x29_2
theorem x29_eq : Try.f29.body.map rc = some x29_0 := by kernel_rfl
def p30_1_0 : RO := ⟨none, some 1, .box 39 (.tmp 0)⟩
def p30_1_1 : RO := ⟨none, some 2, .assign (.const (.bool false))⟩
def o30_1 : List RO := [p30_1_0, p30_1_1]
def x30_1 : RC := .ops o30_1
def p30_3_0 : RO := ⟨none, some 3, .fieldAddr 39 (.tmp 1) 0⟩
def p30_3_1 : RO := ⟨none, some 4, .load 9 (.tmp 3)⟩
def p30_3_2 : RO := ⟨none, some 5, .binOp .eql 9 (.tmp 4) (.const (.string ⟨#[99, 111, 108, 111, 114]⟩)) 9⟩
def p30_3_3 : RO := ⟨none, some 6, .move (.tmp 5)⟩
def p30_3_4 : RO := ⟨some (some 6, false), some 7, .fieldAddr 39 (.tmp 1) 0⟩
def p30_3_5 : RO := ⟨some (some 6, false), some 8, .load 9 (.tmp 7)⟩
def p30_3_6 : RO := ⟨some (some 6, false), some 9, .binOp .eql 9 (.tmp 8) (.const (.string ⟨#[102, 97, 99, 101]⟩)) 9⟩
def p30_3_7 : RO := ⟨none, some 10, .pick (.tmp 6) (.const (.bool true)) (.tmp 9)⟩
def p30_3_8 : RO := ⟨none, some 11, .move (.tmp 10)⟩
def p30_3_9 : RO := ⟨some (some 11, false), some 12, .fieldAddr 39 (.tmp 1) 0⟩
def p30_3_10 : RO := ⟨some (some 11, false), some 13, .load 9 (.tmp 12)⟩
def p30_3_11 : RO := ⟨some (some 11, false), some 14, .binOp .eql 9 (.tmp 13) (.const (.string ⟨#[115, 105, 122, 101]⟩)) 9⟩
def p30_3_12 : RO := ⟨none, some 15, .pick (.tmp 11) (.const (.bool true)) (.tmp 14)⟩
def p30_3_13 : RO := ⟨none, some 2, .assign (.tmp 15)⟩
def o30_3 : List RO := [p30_3_0, p30_3_1, p30_3_2, p30_3_3, p30_3_4, p30_3_5, p30_3_6, p30_3_7, p30_3_8, p30_3_9, p30_3_10, p30_3_11, p30_3_12, p30_3_13]
def x30_3 : RC := .ops o30_3
def x30_2 : RC := .seq x30_3 .ret
def x30_0 : RC := .seq x30_1 x30_2
theorem x30_eq : Try.f30.body.map rc = some x30_0 := by kernel_rfl
def p31_1_0 : RO := ⟨none, some 4, .assign (.const (.bool false))⟩
def o31_1 : List RO := [p31_1_0]
def x31_1 : RC := .ops o31_1
def p31_3_0 : RO := ⟨none, some 5, .move (.tmp 0)⟩
def p31_3_1 : RO := ⟨none, some 6, .move (.tmp 1)⟩
def p31_3_2 : RO := ⟨none, some 7, .call ⟨.value (.func 36), #[(.tmp 5), (.tmp 6)], #[9, 9]⟩⟩
def p31_3_3 : RO := ⟨none, some 4, .assign (.tmp 7)⟩
def o31_3 : List RO := [p31_3_0, p31_3_1, p31_3_2, p31_3_3]
def x31_3 : RC := .ops o31_3
def x31_2 : RC := .seq x31_3 .ret
def x31_0 : RC := .seq x31_1 x31_2
theorem x31_eq : Try.f31.body.map rc = some x31_0 := by kernel_rfl
def p32_1_0 : RO := ⟨none, some 4, .assign (.const (.string ⟨#[]⟩))⟩
def p32_1_1 : RO := ⟨none, some 5, .assign (.const (.bool false))⟩
def o32_1 : List RO := [p32_1_0, p32_1_1]
def x32_1 : RC := .ops o32_1
def p32_4_0 : RO := ⟨none, some 6, .assign (.const (.int .i64 (0)))⟩
def o32_4 : List RO := [p32_4_0]
def x32_4 : RC := .ops o32_4
def p32_9_0 : RO := ⟨none, some 7, .move (.tmp 6)⟩
def p32_9_1 : RO := ⟨none, some 8, .move (.tmp 0)⟩
def p32_9_2 : RO := ⟨none, some 9, .call ⟨.builtin .len, #[(.tmp 8)], #[25]⟩⟩
def p32_9_3 : RO := ⟨none, some 10, .binOp .lss 3 (.tmp 7) (.tmp 9) 3⟩
def o32_9 : List RO := [p32_9_0, p32_9_1, p32_9_2, p32_9_3]
def x32_9 : RC := .ops o32_9
def x32_10 : RC := .cond (.tmp 10) .skip (.exit 0)
def x32_8 : RC := .seq x32_9 x32_10
def p32_14_0 : RO := ⟨none, some 13, .move (.tmp 0)⟩
def p32_14_1 : RO := ⟨none, some 14, .move (.tmp 6)⟩
def p32_14_2 : RO := ⟨none, some 15, .indexAddr 25 (.tmp 13) (.tmp 14)⟩
def p32_14_3 : RO := ⟨none, some 16, .fieldAddr 39 (.tmp 15) 0⟩
def p32_14_4 : RO := ⟨none, some 17, .load 9 (.tmp 16)⟩
def p32_14_5 : RO := ⟨none, some 18, .move (.tmp 1)⟩
def p32_14_6 : RO := ⟨none, some 19, .binOp .eql 9 (.tmp 17) (.tmp 18) 9⟩
def o32_14 : List RO := [p32_14_0, p32_14_1, p32_14_2, p32_14_3, p32_14_4, p32_14_5, p32_14_6]
def x32_14 : RC := .ops o32_14
def p32_17_0 : RO := ⟨none, some 20, .move (.tmp 0)⟩
def p32_17_1 : RO := ⟨none, some 21, .move (.tmp 6)⟩
def p32_17_2 : RO := ⟨none, some 22, .indexAddr 25 (.tmp 20) (.tmp 21)⟩
def p32_17_3 : RO := ⟨none, some 23, .fieldAddr 39 (.tmp 22) 1⟩
def p32_17_4 : RO := ⟨none, some 24, .load 9 (.tmp 23)⟩
def p32_17_5 : RO := ⟨none, some 4, .assign (.tmp 24)⟩
def p32_17_6 : RO := ⟨none, some 5, .assign (.const (.bool true))⟩
def o32_17 : List RO := [p32_17_0, p32_17_1, p32_17_2, p32_17_3, p32_17_4, p32_17_5, p32_17_6]
def x32_17 : RC := .ops o32_17
def x32_16 : RC := .seq x32_17 .ret
def x32_15 : RC := .cond (.tmp 19) x32_16 .skip
def x32_13 : RC := .seq x32_14 x32_15
def x32_12 : RC := .block 1 x32_13
def p32_18_0 : RO := ⟨none, some 11, .move (.tmp 6)⟩
def p32_18_1 : RO := ⟨none, some 12, .binOp .add 3 (.tmp 11) (.const (.int .i64 (1))) 3⟩
def p32_18_2 : RO := ⟨none, some 6, .assign (.tmp 12)⟩
def o32_18 : List RO := [p32_18_0, p32_18_1, p32_18_2]
def x32_18 : RC := .ops o32_18
def x32_11 : RC := .seq x32_12 x32_18
def x32_7 : RC := .seq x32_8 x32_11
def x32_6 : RC := .loop x32_7
def x32_5 : RC := .block 0 x32_6
def x32_3 : RC := .seq x32_4 x32_5
def p32_20_0 : RO := ⟨none, some 4, .assign (.const (.string ⟨#[]⟩))⟩
def p32_20_1 : RO := ⟨none, some 5, .assign (.const (.bool false))⟩
def o32_20 : List RO := [p32_20_0, p32_20_1]
def x32_20 : RC := .ops o32_20
def x32_19 : RC := .seq x32_20 .ret
def x32_2 : RC := .seq x32_3 x32_19
def x32_0 : RC := .seq x32_1 x32_2
theorem x32_eq : Try.f32.body.map rc = some x32_0 := by kernel_rfl
def p33_1_0 : RO := ⟨none, some 2, .assign (.const (.string ⟨#[]⟩))⟩
def o33_1 : List RO := [p33_1_0]
def x33_1 : RC := .ops o33_1
def p33_3_0 : RO := ⟨none, some 6, .move (.tmp 0)⟩
def p33_3_1 : RO := ⟨none, some 7, .convert 9 54 (.tmp 6)⟩
def p33_3_2 : RO := ⟨none, some 3, .assign (.tmp 7)⟩
def o33_3 : List RO := [p33_3_0, p33_3_1, p33_3_2]
def x33_3 : RC := .ops o33_3
def p33_6_0 : RO := ⟨none, some 8, .move (.tmp 3)⟩
def p33_6_1 : RO := ⟨none, some 9, .call ⟨.builtin .len, #[(.tmp 8)], #[54]⟩⟩
def p33_6_2 : RO := ⟨none, some 10, .move (.const (.int .i64 (0)))⟩
def o33_6 : List RO := [p33_6_0, p33_6_1, p33_6_2]
def x33_6 : RC := .ops o33_6
def p33_10_0 : RO := ⟨none, some 11, .binOp .lss 3 (.tmp 10) (.tmp 9) 3⟩
def o33_10 : List RO := [p33_10_0]
def x33_10 : RC := .ops o33_10
def x33_12 : RC := .cond (.tmp 11) .skip (.exit 0)
def p33_16_0 : RO := ⟨none, some 12, .move (.tmp 10)⟩
def p33_16_1 : RO := ⟨none, some 13, .indexAddr 54 (.tmp 8) (.tmp 10)⟩
def p33_16_2 : RO := ⟨none, some 14, .load 5 (.tmp 13)⟩
def p33_16_3 : RO := ⟨none, some 4, .assign (.tmp 12)⟩
def p33_16_4 : RO := ⟨none, some 5, .assign (.tmp 14)⟩
def o33_16 : List RO := [p33_16_0, p33_16_1, p33_16_2, p33_16_3, p33_16_4]
def x33_16 : RC := .ops o33_16
def p33_18_0 : RO := ⟨none, some 15, .move (.tmp 5)⟩
def p33_18_1 : RO := ⟨none, some 16, .binOp .leq 5 (.const (.int .u8 (65))) (.tmp 15) 5⟩
def p33_18_2 : RO := ⟨none, some 17, .move (.tmp 16)⟩
def p33_18_3 : RO := ⟨some (some 17, true), some 18, .move (.tmp 5)⟩
def p33_18_4 : RO := ⟨some (some 17, true), some 19, .binOp .leq 5 (.tmp 18) (.const (.int .u8 (90))) 5⟩
def p33_18_5 : RO := ⟨none, some 20, .pick (.tmp 17) (.tmp 19) (.const (.bool false))⟩
def o33_18 : List RO := [p33_18_0, p33_18_1, p33_18_2, p33_18_3, p33_18_4, p33_18_5]
def x33_18 : RC := .ops o33_18
def p33_20_0 : RO := ⟨none, some 21, .move (.tmp 3)⟩
def p33_20_1 : RO := ⟨none, some 22, .move (.tmp 4)⟩
def p33_20_2 : RO := ⟨none, some 23, .move (.tmp 5)⟩
def p33_20_3 : RO := ⟨none, some 24, .binOp .add 5 (.tmp 23) (.const (.int .u8 (32))) 5⟩
def p33_20_4 : RO := ⟨none, some 25, .indexAddr 54 (.tmp 21) (.tmp 22)⟩
def p33_20_5 : RO := ⟨none, none, .store 5 (.tmp 25) (.tmp 24)⟩
def o33_20 : List RO := [p33_20_0, p33_20_1, p33_20_2, p33_20_3, p33_20_4, p33_20_5]
def x33_20 : RC := .ops o33_20
def x33_19 : RC := .cond (.tmp 20) x33_20 .skip
def x33_17 : RC := .seq x33_18 x33_19
def x33_15 : RC := .seq x33_16 x33_17
def x33_14 : RC := .block 1 x33_15
def p33_21_0 : RO := ⟨none, some 26, .binOp .add 3 (.tmp 10) (.const (.int .i64 (1))) 3⟩
def p33_21_1 : RO := ⟨none, some 10, .move (.tmp 26)⟩
def o33_21 : List RO := [p33_21_0, p33_21_1]
def x33_21 : RC := .ops o33_21
def x33_13 : RC := .seq x33_14 x33_21
def x33_11 : RC := .seq x33_12 x33_13
def x33_9 : RC := .seq x33_10 x33_11
def x33_8 : RC := .loop x33_9
def x33_7 : RC := .block 0 x33_8
def x33_5 : RC := .seq x33_6 x33_7
def p33_23_0 : RO := ⟨none, some 27, .move (.tmp 3)⟩
def p33_23_1 : RO := ⟨none, some 28, .convert 54 9 (.tmp 27)⟩
def p33_23_2 : RO := ⟨none, some 2, .assign (.tmp 28)⟩
def o33_23 : List RO := [p33_23_0, p33_23_1, p33_23_2]
def x33_23 : RC := .ops o33_23
def x33_22 : RC := .seq x33_23 .ret
def x33_4 : RC := .seq x33_5 x33_22
def x33_2 : RC := .seq x33_3 x33_4
def x33_0 : RC := .seq x33_1 x33_2
theorem x33_eq : Try.f33.body.map rc = some x33_0 := by kernel_rfl
def p34_1_0 : RO := ⟨none, some 4, .assign (.const (.int .i64 (0)))⟩
def o34_1 : List RO := [p34_1_0]
def x34_1 : RC := .ops o34_1
def p34_4_0 : RO := ⟨none, some 6, .move (.tmp 0)⟩
def p34_4_1 : RO := ⟨none, some 7, .call ⟨.builtin .len, #[(.tmp 6)], #[43]⟩⟩
def p34_4_2 : RO := ⟨none, some 8, .move (.const (.int .i64 (0)))⟩
def o34_4 : List RO := [p34_4_0, p34_4_1, p34_4_2]
def x34_4 : RC := .ops o34_4
def p34_8_0 : RO := ⟨none, some 9, .binOp .lss 3 (.tmp 8) (.tmp 7) 3⟩
def o34_8 : List RO := [p34_8_0]
def x34_8 : RC := .ops o34_8
def x34_10 : RC := .cond (.tmp 9) .skip (.exit 0)
def p34_14_0 : RO := ⟨none, some 10, .move (.tmp 8)⟩
def p34_14_1 : RO := ⟨none, some 5, .assign (.tmp 10)⟩
def o34_14 : List RO := [p34_14_0, p34_14_1]
def x34_14 : RC := .ops o34_14
def p34_16_0 : RO := ⟨none, some 11, .move (.tmp 1)⟩
def p34_16_1 : RO := ⟨none, some 12, .move (.tmp 0)⟩
def p34_16_2 : RO := ⟨none, some 13, .move (.tmp 5)⟩
def p34_16_3 : RO := ⟨none, some 14, .indexAddr 43 (.tmp 12) (.tmp 13)⟩
def p34_16_4 : RO := ⟨none, some 15, .load 9 (.tmp 14)⟩
def p34_16_5 : RO := ⟨none, some 16, .binOp .eql 9 (.tmp 11) (.tmp 15) 9⟩
def o34_16 : List RO := [p34_16_0, p34_16_1, p34_16_2, p34_16_3, p34_16_4, p34_16_5]
def x34_16 : RC := .ops o34_16
def p34_19_0 : RO := ⟨none, some 17, .move (.tmp 5)⟩
def p34_19_1 : RO := ⟨none, some 4, .assign (.tmp 17)⟩
def o34_19 : List RO := [p34_19_0, p34_19_1]
def x34_19 : RC := .ops o34_19
def x34_18 : RC := .seq x34_19 .ret
def x34_17 : RC := .cond (.tmp 16) x34_18 .skip
def x34_15 : RC := .seq x34_16 x34_17
def x34_13 : RC := .seq x34_14 x34_15
def x34_12 : RC := .block 1 x34_13
def p34_20_0 : RO := ⟨none, some 18, .binOp .add 3 (.tmp 8) (.const (.int .i64 (1))) 3⟩
def p34_20_1 : RO := ⟨none, some 8, .move (.tmp 18)⟩
def o34_20 : List RO := [p34_20_0, p34_20_1]
def x34_20 : RC := .ops o34_20
def x34_11 : RC := .seq x34_12 x34_20
def x34_9 : RC := .seq x34_10 x34_11
def x34_7 : RC := .seq x34_8 x34_9
def x34_6 : RC := .loop x34_7
def x34_5 : RC := .block 0 x34_6
def x34_3 : RC := .seq x34_4 x34_5
def p34_22_0 : RO := ⟨none, some 4, .assign (.const (.int .i64 (-1)))⟩
def o34_22 : List RO := [p34_22_0]
def x34_22 : RC := .ops o34_22
def x34_21 : RC := .seq x34_22 .ret
def x34_2 : RC := .seq x34_3 x34_21
def x34_0 : RC := .seq x34_1 x34_2
theorem x34_eq : Try.f34.body.map rc = some x34_0 := by kernel_rfl
def p35_1_0 : RO := ⟨none, some 4, .assign (.const (.int .i64 (0)))⟩
def o35_1 : List RO := [p35_1_0]
def x35_1 : RC := .ops o35_1
def p35_4_0 : RO := ⟨none, some 6, .move (.tmp 0)⟩
def p35_4_1 : RO := ⟨none, some 7, .call ⟨.builtin .len, #[(.tmp 6)], #[25]⟩⟩
def p35_4_2 : RO := ⟨none, some 8, .move (.const (.int .i64 (0)))⟩
def o35_4 : List RO := [p35_4_0, p35_4_1, p35_4_2]
def x35_4 : RC := .ops o35_4
def p35_8_0 : RO := ⟨none, some 9, .binOp .lss 3 (.tmp 8) (.tmp 7) 3⟩
def o35_8 : List RO := [p35_8_0]
def x35_8 : RC := .ops o35_8
def x35_10 : RC := .cond (.tmp 9) .skip (.exit 0)
def p35_14_0 : RO := ⟨none, some 10, .move (.tmp 8)⟩
def p35_14_1 : RO := ⟨none, some 5, .assign (.tmp 10)⟩
def o35_14 : List RO := [p35_14_0, p35_14_1]
def x35_14 : RC := .ops o35_14
def p35_16_0 : RO := ⟨none, some 11, .move (.tmp 1)⟩
def p35_16_1 : RO := ⟨none, some 12, .move (.tmp 0)⟩
def p35_16_2 : RO := ⟨none, some 13, .move (.tmp 5)⟩
def p35_16_3 : RO := ⟨none, some 14, .indexAddr 25 (.tmp 12) (.tmp 13)⟩
def p35_16_4 : RO := ⟨none, some 15, .load 39 (.tmp 14)⟩
def p35_16_5 : RO := ⟨none, some 16, .call ⟨.value (.tmp 11), #[(.tmp 15)], #[39]⟩⟩
def o35_16 : List RO := [p35_16_0, p35_16_1, p35_16_2, p35_16_3, p35_16_4, p35_16_5]
def x35_16 : RC := .ops o35_16
def p35_19_0 : RO := ⟨none, some 17, .move (.tmp 5)⟩
def p35_19_1 : RO := ⟨none, some 4, .assign (.tmp 17)⟩
def o35_19 : List RO := [p35_19_0, p35_19_1]
def x35_19 : RC := .ops o35_19
def x35_18 : RC := .seq x35_19 .ret
def x35_17 : RC := .cond (.tmp 16) x35_18 .skip
def x35_15 : RC := .seq x35_16 x35_17
def x35_13 : RC := .seq x35_14 x35_15
def x35_12 : RC := .block 1 x35_13
def p35_20_0 : RO := ⟨none, some 18, .binOp .add 3 (.tmp 8) (.const (.int .i64 (1))) 3⟩
def p35_20_1 : RO := ⟨none, some 8, .move (.tmp 18)⟩
def o35_20 : List RO := [p35_20_0, p35_20_1]
def x35_20 : RC := .ops o35_20
def x35_11 : RC := .seq x35_12 x35_20
def x35_9 : RC := .seq x35_10 x35_11
def x35_7 : RC := .seq x35_8 x35_9
def x35_6 : RC := .loop x35_7
def x35_5 : RC := .block 0 x35_6
def x35_3 : RC := .seq x35_4 x35_5
def p35_22_0 : RO := ⟨none, some 4, .assign (.const (.int .i64 (-1)))⟩
def o35_22 : List RO := [p35_22_0]
def x35_22 : RC := .ops o35_22
def x35_21 : RC := .seq x35_22 .ret
def x35_2 : RC := .seq x35_3 x35_21
def x35_0 : RC := .seq x35_1 x35_2
theorem x35_eq : Try.f35.body.map rc = some x35_0 := by kernel_rfl
def p36_1_0 : RO := ⟨none, some 4, .assign (.const (.bool false))⟩
def o36_1 : List RO := [p36_1_0]
def x36_1 : RC := .ops o36_1
def p36_3_0 : RO := ⟨none, some 5, .move (.tmp 1)⟩
def p36_3_1 : RO := ⟨none, some 6, .binOp .neq 9 (.tmp 5) (.const (.string ⟨#[]⟩)) 9⟩
def p36_3_2 : RO := ⟨none, some 7, .move (.tmp 6)⟩
def p36_3_3 : RO := ⟨some (some 7, true), some 8, .move (.tmp 1)⟩
def p36_3_4 : RO := ⟨some (some 7, true), some 9, .call ⟨.value (.func 37), #[(.tmp 8), (.const (.string ⟨#[32]⟩))], #[9, 9]⟩⟩
def p36_3_5 : RO := ⟨some (some 7, true), some 10, .unOp .not 4 (.tmp 9)⟩
def p36_3_6 : RO := ⟨none, some 11, .pick (.tmp 7) (.tmp 10) (.const (.bool false))⟩
def p36_3_7 : RO := ⟨none, some 12, .move (.tmp 11)⟩
def p36_3_8 : RO := ⟨some (some 12, true), some 13, .move (.tmp 0)⟩
def p36_3_9 : RO := ⟨some (some 12, true), some 14, .move (.tmp 1)⟩
def p36_3_10 : RO := ⟨some (some 12, true), some 15, .binOp .add 9 (.const (.string ⟨#[32]⟩)) (.tmp 14) 9⟩
def p36_3_11 : RO := ⟨some (some 12, true), some 16, .binOp .add 9 (.tmp 15) (.const (.string ⟨#[32]⟩)) 9⟩
def p36_3_12 : RO := ⟨some (some 12, true), some 17, .call ⟨.value (.func 37), #[(.tmp 13), (.tmp 16)], #[9, 9]⟩⟩
def p36_3_13 : RO := ⟨none, some 18, .pick (.tmp 12) (.tmp 17) (.const (.bool false))⟩
def p36_3_14 : RO := ⟨none, some 4, .assign (.tmp 18)⟩
def o36_3 : List RO := [p36_3_0, p36_3_1, p36_3_2, p36_3_3, p36_3_4, p36_3_5, p36_3_6, p36_3_7, p36_3_8, p36_3_9, p36_3_10, p36_3_11, p36_3_12, p36_3_13, p36_3_14]
def x36_3 : RC := .ops o36_3
def x36_2 : RC := .seq x36_3 .ret
def x36_0 : RC := .seq x36_1 x36_2
theorem x36_eq : Try.f36.body.map rc = some x36_0 := by kernel_rfl
def tab : FuncId → Option (RC × List ResultVar × Nat)
  | 3 => some (x3_0, [.tmp 4], 37)
  | 5 => some (x5_0, [.tmp 6], 43)
  | 6 => some (x6_0, [.tmp 4], 37)
  | 8 => some (x8_0, [.tmp 4], 13)
  | 9 => some (x9_0, [.tmp 4], 11)
  | 10 => some (x10_0, [.tmp 4], 12)
  | 11 => some (x11_0, [.tmp 4], 11)
  | 12 => some (x12_0, [.tmp 4], 12)
  | 13 => some (x13_0, [.tmp 4], 11)
  | 17 => some (x17_0, [.tmp 6], 65)
  | 18 => some (x18_0, [.tmp 6], 62)
  | 19 => some (x19_0, [.tmp 2], 29)
  | 20 => some (x20_0, [.tmp 2], 54)
  | 21 => some (x21_0, [.tmp 2], 33)
  | 22 => some (x22_0, [.cell 0 40], 2)
  | 23 => some (x23_0, [.tmp 4], 24)
  | 24 => some (x24_0, [.tmp 4], 24)
  | 25 => some (x25_0, [.tmp 4], 9)
  | 26 => some (x26_0, [.tmp 4], 36)
  | 29 => some (x29_0, [.tmp 4], 9)
  | 30 => some (x30_0, [.tmp 2], 16)
  | 31 => some (x31_0, [.tmp 4], 8)
  | 32 => some (x32_0, [.tmp 4, .tmp 5], 25)
  | 33 => some (x33_0, [.tmp 2], 29)
  | 34 => some (x34_0, [.tmp 4], 19)
  | 35 => some (x35_0, [.tmp 4], 19)
  | 36 => some (x36_0, [.tmp 4], 19)
  | _ => none
theorem tab_ok : TabOK Try.prog tab := by
  intro f x rs n h
  unfold tab at h
  split at h
  · injection h with h; injection h with h1 h; injection h with h2 h3; subst h1; subst h2; subst h3; exact ⟨_, Try.func3, rfl, rfl, x3_eq⟩
  · injection h with h; injection h with h1 h; injection h with h2 h3; subst h1; subst h2; subst h3; exact ⟨_, Try.func5, rfl, rfl, x5_eq⟩
  · injection h with h; injection h with h1 h; injection h with h2 h3; subst h1; subst h2; subst h3; exact ⟨_, Try.func6, rfl, rfl, x6_eq⟩
  · injection h with h; injection h with h1 h; injection h with h2 h3; subst h1; subst h2; subst h3; exact ⟨_, Try.func8, rfl, rfl, x8_eq⟩
  · injection h with h; injection h with h1 h; injection h with h2 h3; subst h1; subst h2; subst h3; exact ⟨_, Try.func9, rfl, rfl, x9_eq⟩
  · injection h with h; injection h with h1 h; injection h with h2 h3; subst h1; subst h2; subst h3; exact ⟨_, Try.func10, rfl, rfl, x10_eq⟩
  · injection h with h; injection h with h1 h; injection h with h2 h3; subst h1; subst h2; subst h3; exact ⟨_, Try.func11, rfl, rfl, x11_eq⟩
  · injection h with h; injection h with h1 h; injection h with h2 h3; subst h1; subst h2; subst h3; exact ⟨_, Try.func12, rfl, rfl, x12_eq⟩
  · injection h with h; injection h with h1 h; injection h with h2 h3; subst h1; subst h2; subst h3; exact ⟨_, Try.func13, rfl, rfl, x13_eq⟩
  · injection h with h; injection h with h1 h; injection h with h2 h3; subst h1; subst h2; subst h3; exact ⟨_, Try.func17, rfl, rfl, x17_eq⟩
  · injection h with h; injection h with h1 h; injection h with h2 h3; subst h1; subst h2; subst h3; exact ⟨_, Try.func18, rfl, rfl, x18_eq⟩
  · injection h with h; injection h with h1 h; injection h with h2 h3; subst h1; subst h2; subst h3; exact ⟨_, Try.func19, rfl, rfl, x19_eq⟩
  · injection h with h; injection h with h1 h; injection h with h2 h3; subst h1; subst h2; subst h3; exact ⟨_, Try.func20, rfl, rfl, x20_eq⟩
  · injection h with h; injection h with h1 h; injection h with h2 h3; subst h1; subst h2; subst h3; exact ⟨_, Try.func21, rfl, rfl, x21_eq⟩
  · injection h with h; injection h with h1 h; injection h with h2 h3; subst h1; subst h2; subst h3; exact ⟨_, Try.func22, rfl, rfl, x22_eq⟩
  · injection h with h; injection h with h1 h; injection h with h2 h3; subst h1; subst h2; subst h3; exact ⟨_, Try.func23, rfl, rfl, x23_eq⟩
  · injection h with h; injection h with h1 h; injection h with h2 h3; subst h1; subst h2; subst h3; exact ⟨_, Try.func24, rfl, rfl, x24_eq⟩
  · injection h with h; injection h with h1 h; injection h with h2 h3; subst h1; subst h2; subst h3; exact ⟨_, Try.func25, rfl, rfl, x25_eq⟩
  · injection h with h; injection h with h1 h; injection h with h2 h3; subst h1; subst h2; subst h3; exact ⟨_, Try.func26, rfl, rfl, x26_eq⟩
  · injection h with h; injection h with h1 h; injection h with h2 h3; subst h1; subst h2; subst h3; exact ⟨_, Try.func29, rfl, rfl, x29_eq⟩
  · injection h with h; injection h with h1 h; injection h with h2 h3; subst h1; subst h2; subst h3; exact ⟨_, Try.func30, rfl, rfl, x30_eq⟩
  · injection h with h; injection h with h1 h; injection h with h2 h3; subst h1; subst h2; subst h3; exact ⟨_, Try.func31, rfl, rfl, x31_eq⟩
  · injection h with h; injection h with h1 h; injection h with h2 h3; subst h1; subst h2; subst h3; exact ⟨_, Try.func32, rfl, rfl, x32_eq⟩
  · injection h with h; injection h with h1 h; injection h with h2 h3; subst h1; subst h2; subst h3; exact ⟨_, Try.func33, rfl, rfl, x33_eq⟩
  · injection h with h; injection h with h1 h; injection h with h2 h3; subst h1; subst h2; subst h3; exact ⟨_, Try.func34, rfl, rfl, x34_eq⟩
  · injection h with h; injection h with h1 h; injection h with h2 h3; subst h1; subst h2; subst h3; exact ⟨_, Try.func35, rfl, rfl, x35_eq⟩
  · injection h with h; injection h with h1 h; injection h with h2 h3; subst h1; subst h2; subst h3; exact ⟨_, Try.func36, rfl, rfl, x36_eq⟩
  · cases h
def WOK (W : World) : Prop := SomeInt W 0
theorem wok_of {W : World} (h : W.ShapedOpen Try.prog) : WOK W := Try.laysM144.s1_3 W h
theorem base : Base Try.prog := ⟨by kernel_rfl, by kernel_rfl⟩
def prim0 : FuncId → Option (List V → H → Option (V × H)) := fun _ => none
theorem prim0s (W : World) (hW : WOK W) : Prims Try.prog W prim0 := fun _ _ => PrimOK.none
structure T39 where
  fName : (List UInt8)
  fValue : (List UInt8)
instance : Inhabited T39 := ⟨⟨default, default⟩⟩
def T39.cells (x : T39) : List V := [.str x.fName, .str x.fValue]
structure T39.ok (W : World) (x : T39) : Prop where
  fName : (fun x => x.length ≤ 9223372036854775807) x.fName
  fValue : (fun x => x.length ≤ 9223372036854775807) x.fValue
theorem T39_form {W : World} {n : Nat} {cs : List V} (h : Wf Try.prog W n 39 cs) : ∃ x : T39, cs = x.cells ∧ x.ok W := by
  have e9 : Try.prog.cellsOf 9 = 1 := by kernel_rfl
  have e39 : Try.prog.cellsOf 39 = 2 := by kernel_rfl
  cases n with
  | zero => exact h.elim
  | succ n =>
    simp only [Wf, Try.underlying39, e39] at h
    obtain ⟨hl, hf⟩ := h
    match cs, hl with
    | [c0, c1], _ =>
      simp only [List.mem_cons, forall_eq_or_imp, List.not_mem_nil, false_implies, implies_true, and_true, e9, e39, List.drop_zero, List.drop_succ_cons, List.take_succ_cons, List.take_zero] at hf
      obtain ⟨h0, h1⟩ := hf
      obtain ⟨v0, rfl, r0⟩ := wf_strR Try.underlying9 h0
      obtain ⟨v1, rfl, r1⟩ := wf_strR Try.underlying9 h1
      exact ⟨⟨v0, v1⟩, rfl, ⟨r0, r1⟩⟩
structure T32 where
  fFrom : Int
  fTo : Int
instance : Inhabited T32 := ⟨⟨default, default⟩⟩
def T32.cells (x : T32) : List V := [.int .i64 x.fFrom, .int .i64 x.fTo]
structure T32.ok (W : World) (x : T32) : Prop where
  fFrom : (fun x => -9223372036854775808 ≤ x ∧ x ≤ 9223372036854775807) x.fFrom
  fTo : (fun x => -9223372036854775808 ≤ x ∧ x ≤ 9223372036854775807) x.fTo
theorem T32_form {W : World} {n : Nat} {cs : List V} (h : Wf Try.prog W n 32 cs) : ∃ x : T32, cs = x.cells ∧ x.ok W := by
  have e3 : Try.prog.cellsOf 3 = 1 := by kernel_rfl
  have e32 : Try.prog.cellsOf 32 = 2 := by kernel_rfl
  cases n with
  | zero => exact h.elim
  | succ n =>
    simp only [Wf, Try.underlying32, e32] at h
    obtain ⟨hl, hf⟩ := h
    match cs, hl with
    | [c0, c1], _ =>
      simp only [List.mem_cons, forall_eq_or_imp, List.not_mem_nil, false_implies, implies_true, and_true, e3, e32, List.drop_zero, List.drop_succ_cons, List.take_succ_cons, List.take_zero] at hf
      obtain ⟨h0, h1⟩ := hf
      obtain ⟨v0, rfl, r0⟩ := wf_i64 Try.underlying3 h0
      obtain ⟨v1, rfl, r1⟩ := wf_i64 Try.underlying3 h1
      exact ⟨⟨v0, v1⟩, rfl, ⟨r0, r1⟩⟩
structure T34 where
  fKind : Int
  fR : Int
  fName : (List UInt8)
  fText : (List UInt8)
  fAttrs : (SlV T39)
  fSelf : Bool
  fSpan : T32
instance : Inhabited T34 := ⟨⟨default, default, default, default, default, default, default⟩⟩
def T34.cells (x : T34) : List V := [.int .i64 x.fKind, .int .i64 x.fR, .str x.fName, .str x.fText, .slice x.fAttrs.a x.fAttrs.l.length x.fAttrs.cap true, .bool x.fSelf, .int .i64 x.fSpan.fFrom, .int .i64 x.fSpan.fTo]
structure T34.ok (W : World) (x : T34) : Prop where
  fKind : (fun x => -9223372036854775808 ≤ x ∧ x ≤ 9223372036854775807) x.fKind
  fR : (fun x => -9223372036854775808 ≤ x ∧ x ≤ 9223372036854775807) x.fR
  fName : (fun x => x.length ≤ 9223372036854775807) x.fName
  fText : (fun x => x.length ≤ 9223372036854775807) x.fText
  fAttrs : (SlV.ok W 2 T39.cells (T39.ok W)) x.fAttrs
  fSelf : (fun _ => True) x.fSelf
  fSpan : (T32.ok W) x.fSpan
theorem T34_form {W : World} {n : Nat} {cs : List V} (h : Wf Try.prog W n 34 cs) : ∃ x : T34, cs = x.cells ∧ x.ok W := by
  have e3 : Try.prog.cellsOf 3 = 1 := by kernel_rfl
  have e4 : Try.prog.cellsOf 4 = 1 := by kernel_rfl
  have e9 : Try.prog.cellsOf 9 = 1 := by kernel_rfl
  have e25 : Try.prog.cellsOf 25 = 1 := by kernel_rfl
  have e32 : Try.prog.cellsOf 32 = 2 := by kernel_rfl
  have e34 : Try.prog.cellsOf 34 = 8 := by kernel_rfl
  cases n with
  | zero => exact h.elim
  | succ n =>
    simp only [Wf, Try.underlying34, e34] at h
    obtain ⟨hl, hf⟩ := h
    match cs, hl with
    | [c0, c1, c2, c3, c4, c5, c6, c7], _ =>
      simp only [List.mem_cons, forall_eq_or_imp, List.not_mem_nil, false_implies, implies_true, and_true, e3, e4, e9, e25, e32, e34, List.drop_zero, List.drop_succ_cons, List.take_succ_cons, List.take_zero] at hf
      obtain ⟨h0, h1, h2, h3, h4, h5, h6⟩ := hf
      obtain ⟨v0, rfl, r0⟩ := wf_i64 Try.underlying3 h0
      obtain ⟨v1, rfl, r1⟩ := wf_i64 Try.underlying3 h1
      obtain ⟨v2, rfl, r2⟩ := wf_strR Try.underlying9 h2
      obtain ⟨v3, rfl, r3⟩ := wf_strR Try.underlying9 h3
      obtain ⟨v4, rfl, r4⟩ := wf_sl (f := T39.cells) (G := (T39.ok W)) (z := 2) Try.underlying25 (by kernel_rfl) (fun _ _ h => T39_form h) h4
      obtain ⟨v5, rfl, r5⟩ := wf_boolT Try.underlying4 h5
      obtain ⟨v6, g6, r6⟩ := T32_form h6
      simp only [T32.cells, List.cons.injEq, and_true] at g6
      obtain ⟨rfl, rfl⟩ := g6
      exact ⟨⟨v0, v1, v2, v3, v4, v5, v6⟩, rfl, ⟨r0, r1, r2, r3, r4, r5, r6⟩⟩
structure T30 where
  fId : Int
  fSpace : Int
  fName : (List UInt8)
  fAttrs : (SlV T39)
instance : Inhabited T30 := ⟨⟨default, default, default, default⟩⟩
def T30.cells (x : T30) : List V := [.int .i64 x.fId, .int .i64 x.fSpace, .str x.fName, .slice x.fAttrs.a x.fAttrs.l.length x.fAttrs.cap true]
structure T30.ok (W : World) (x : T30) : Prop where
  fId : (fun x => -9223372036854775808 ≤ x ∧ x ≤ 9223372036854775807) x.fId
  fSpace : (fun x => -9223372036854775808 ≤ x ∧ x ≤ 9223372036854775807) x.fSpace
  fName : (fun x => x.length ≤ 9223372036854775807) x.fName
  fAttrs : (SlV.ok W 2 T39.cells (T39.ok W)) x.fAttrs
theorem T30_form {W : World} {n : Nat} {cs : List V} (h : Wf Try.prog W n 30 cs) : ∃ x : T30, cs = x.cells ∧ x.ok W := by
  have e3 : Try.prog.cellsOf 3 = 1 := by kernel_rfl
  have e9 : Try.prog.cellsOf 9 = 1 := by kernel_rfl
  have e25 : Try.prog.cellsOf 25 = 1 := by kernel_rfl
  have e30 : Try.prog.cellsOf 30 = 4 := by kernel_rfl
  cases n with
  | zero => exact h.elim
  | succ n =>
    simp only [Wf, Try.underlying30, e30] at h
    obtain ⟨hl, hf⟩ := h
    match cs, hl with
    | [c0, c1, c2, c3], _ =>
      simp only [List.mem_cons, forall_eq_or_imp, List.not_mem_nil, false_implies, implies_true, and_true, e3, e9, e25, e30, List.drop_zero, List.drop_succ_cons, List.take_succ_cons, List.take_zero] at hf
      obtain ⟨h0, h1, h2, h3⟩ := hf
      obtain ⟨v0, rfl, r0⟩ := wf_i64 Try.underlying3 h0
      obtain ⟨v1, rfl, r1⟩ := wf_i64 Try.underlying3 h1
      obtain ⟨v2, rfl, r2⟩ := wf_strR Try.underlying9 h2
      obtain ⟨v3, rfl, r3⟩ := wf_sl (f := T39.cells) (G := (T39.ok W)) (z := 2) Try.underlying25 (by kernel_rfl) (fun _ _ h => T39_form h) h3
      exact ⟨⟨v0, v1, v2, v3⟩, rfl, ⟨r0, r1, r2, r3⟩⟩
theorem among_loop {W : World} {s t : List UInt8} (ht : t.length ≤ 140737488355328) {ans : Bool} (n : Nat) : ∀ (f : Int) (i : Int) (d4 d7 d8 d9 d10 d11 d12 d13 d14 d15 d16 d17 d18 d19 d20 d21 d22 d23 d24 d25 d26 d27 d28 d29 d30 d31 d32 d33 d34 d35 : V), n = ((t.length : Int) + 1 - i).toNat → (0 ≤ f) → (f ≤ i) → (i ≤ (t.length : Int) + 1) → (i = (t.length : Int) + 1 → f = i) → (ans = amongAt s t f i) → WpM Try.prog W prim0 ⟨.code x26_9, [.loop x26_9, .blk 0, .seq x26_26], (.str s :: .str t :: U :: U :: d4 :: .int .i64 f :: .int .i64 i :: d7 :: d8 :: d9 :: d10 :: d11 :: d12 :: d13 :: d14 :: d15 :: d16 :: d17 :: d18 :: d19 :: d20 :: d21 :: d22 :: d23 :: d24 :: d25 :: d26 :: d27 :: d28 :: d29 :: d30 :: d31 :: d32 :: d33 :: d34 :: d35 :: []), [], H.empty, none⟩ (retQ Try.prog W [.tmp 4] (fun v _ => v = .bool ans)) := by
  induction n using Nat.strongRecOn with
  | _ n ih =>
    intro f i  d4 d7 d8 d9 d10 d11 d12 d13 d14 d15 d16 d17 d18 d19 d20 d21 d22 d23 d24 d25 d26 d27 d28 d29 d30 d31 d32 d33 d34 d35 hn h0 h1 h2 h3 hA
    refine WpM.run tab_ok 9 ⟨.code x26_12, [.seq x26_13, .loop x26_9, .blk 0, .seq x26_26], (.str s :: .str t :: U :: U :: d4 :: .int .i64 f :: .int .i64 i :: .int .i64 i :: .str t :: .int .i64 ((t.length : Int)) :: .bool (decide (i ≤ ((t.length : Int)))) :: d11 :: d12 :: d13 :: d14 :: d15 :: d16 :: d17 :: d18 :: d19 :: d20 :: d21 :: d22 :: d23 :: d24 :: d25 :: d26 :: d27 :: d28 :: d29 :: d30 :: d31 :: d32 :: d33 :: d34 :: d35 :: []), [], H.empty, none⟩ (by kernel_rfl) ?_
    refine WpM.cond (t := (decide (i ≤ ((t.length : Int))))) (by kernel_rfl) (fun c101 => ?_) (fun c101 => ?_)
    · have c101p := dec_t c101
      refine WpM.run tab_ok 11 ⟨.ops (p26_16_5 :: o26_16.drop 6), [.seq x26_17, .blk 1, .seq x26_25, .loop x26_9, .blk 0, .seq x26_26], (.str s :: .str t :: U :: U :: d4 :: .int .i64 f :: .int .i64 i :: .int .i64 i :: .str t :: .int .i64 ((t.length : Int)) :: .bool (decide (i ≤ ((t.length : Int)))) :: d11 :: d12 :: .int .i64 i :: .str t :: .int .i64 ((t.length : Int)) :: .bool (i == ((t.length : Int))) :: .bool (i == ((t.length : Int))) :: d18 :: d19 :: d20 :: d21 :: d22 :: d23 :: d24 :: d25 :: d26 :: d27 :: d28 :: d29 :: d30 :: d31 :: d32 :: d33 :: d34 :: d35 :: []), [], H.empty, none⟩ (by kernel_rfl) ?_
      refine WpM.guard (b := (i == ((t.length : Int)))) (by kernel_rfl) (fun c102 => ?_) (fun c102 => ?_)
      · have c102p := beq_t c102
        refine WpM.run tab_ok 14 ⟨.ops (p26_20_3 :: o26_20.drop 4), [.seq x26_21, .seq x26_24, .blk 1, .seq x26_25, .loop x26_9, .blk 0, .seq x26_26], (.str s :: .str t :: U :: U :: d4 :: .int .i64 f :: .int .i64 i :: .int .i64 i :: .str t :: .int .i64 ((t.length : Int)) :: .bool (decide (i ≤ ((t.length : Int)))) :: d11 :: d12 :: .int .i64 i :: .str t :: .int .i64 ((t.length : Int)) :: .bool (i == ((t.length : Int))) :: .bool true :: U :: U :: U :: U :: .bool true :: .str t :: .int .i64 f :: .int .i64 i :: d26 :: d27 :: d28 :: d29 :: d30 :: d31 :: d32 :: d33 :: d34 :: d35 :: []), [], H.empty, none⟩ (by kernel_rfl) ?_
        refine WpM.op (.str ((t.take (i.toNat)).drop (f.toNat))) _ (by kernel_rfl) (slice_str (by kernel_rfl) (by kernel_rfl) (by kernel_rfl) (by kernel_rfl) (optNat_some (k := .i64) (n := f) (by omega)) (optNat_some (k := .i64) (n := i) (by omega)) (by simp only [Option.getD_some, Option.getD_none]; omega)) ?_
        refine WpM.run tab_ok 3 ⟨.ops (p26_20_7 :: o26_20.drop 8), [.seq x26_21, .seq x26_24, .blk 1, .seq x26_25, .loop x26_9, .blk 0, .seq x26_26], (.str s :: .str t :: U :: U :: d4 :: .int .i64 f :: .int .i64 i :: .int .i64 i :: .str t :: .int .i64 ((t.length : Int)) :: .bool (decide (i ≤ ((t.length : Int)))) :: d11 :: d12 :: .int .i64 i :: .str t :: .int .i64 ((t.length : Int)) :: .bool (i == ((t.length : Int))) :: .bool true :: U :: U :: U :: U :: .bool true :: .str t :: .int .i64 f :: .int .i64 i :: .str ((t.take (i.toNat)).drop (f.toNat)) :: .str s :: .bool (((t.take (i.toNat)).drop (f.toNat)) == s) :: .bool (((t.take (i.toNat)).drop (f.toNat)) == s) :: d30 :: d31 :: d32 :: d33 :: d34 :: d35 :: []), [], H.empty, none⟩ (by kernel_rfl) ?_
        refine WpM.guard (b := (((t.take (i.toNat)).drop (f.toNat)) == s)) (by kernel_rfl) (fun c103 => ?_) (fun c103 => ?_)
        · have c103p := beq_t c103
          refine WpM.run tab_ok 6 ⟨.code x26_21, [.seq x26_24, .blk 1, .seq x26_25, .loop x26_9, .blk 0, .seq x26_26], (.str s :: .str t :: U :: U :: d4 :: .int .i64 f :: .int .i64 i :: .int .i64 i :: .str t :: .int .i64 ((t.length : Int)) :: .bool (decide (i ≤ ((t.length : Int)))) :: d11 :: d12 :: .int .i64 i :: .str t :: .int .i64 ((t.length : Int)) :: .bool (i == ((t.length : Int))) :: .bool true :: U :: U :: U :: U :: .bool true :: .str t :: .int .i64 f :: .int .i64 i :: .str ((t.take (i.toNat)).drop (f.toNat)) :: .str s :: .bool (((t.take (i.toNat)).drop (f.toNat)) == s) :: .bool true :: .int .i64 i :: .int .i64 f :: .bool (decide (i > f)) :: .bool (decide (i > f)) :: d34 :: d35 :: []), [], H.empty, none⟩ (by kernel_rfl) ?_
          refine WpM.cond (t := (decide (i > f))) (by kernel_rfl) (fun c104 => ?_) (fun c104 => ?_)
          · have c104p := dec_t c104
            refine WpM.run tab_ok 12 ⟨.done .ret, [], (.str s :: .str t :: U :: U :: .bool true :: .int .i64 f :: .int .i64 i :: .int .i64 i :: .str t :: .int .i64 ((t.length : Int)) :: .bool (decide (i ≤ ((t.length : Int)))) :: d11 :: d12 :: .int .i64 i :: .str t :: .int .i64 ((t.length : Int)) :: .bool (i == ((t.length : Int))) :: .bool true :: U :: U :: U :: U :: .bool true :: .str t :: .int .i64 f :: .int .i64 i :: .str ((t.take (i.toNat)).drop (f.toNat)) :: .str s :: .bool (((t.take (i.toNat)).drop (f.toNat)) == s) :: .bool true :: .int .i64 i :: .int .i64 f :: .bool (decide (i > f)) :: .bool (decide (i > f)) :: d34 :: d35 :: []), [], H.empty, none⟩ (by kernel_rfl) ?_
            refine WpM.ret (.bool true) H.empty (by kernel_rfl) (by kernel_rfl) ?_
            first
              | (rw [hA, among_end h0 h1 (by assumption)]; simp only [c101, c102, c103, c104, Bool.true_and, Bool.false_and, Bool.and_true, Bool.and_false, Bool.or_false, Bool.false_or, Bool.true_or, Bool.or_true]; done)
              | (rw [hA, among_blank h0 h1 (by omega) (by assumption)]; simp only [c101, c102, c103, c104, Bool.true_and, Bool.false_and, Bool.and_true, Bool.and_false, Bool.or_false, Bool.false_or, Bool.true_or, Bool.or_true]; done)
              | (rw [hA, h3 (by omega), among_past (by omega)])
          · have c104p := dec_f c104
            refine WpM.run tab_ok 4 ⟨.ops (p26_24_1 :: o26_24.drop 2), [.blk 1, .seq x26_25, .loop x26_9, .blk 0, .seq x26_26], (.str s :: .str t :: U :: U :: d4 :: .int .i64 f :: .int .i64 i :: .int .i64 i :: .str t :: .int .i64 ((t.length : Int)) :: .bool (decide (i ≤ ((t.length : Int)))) :: d11 :: d12 :: .int .i64 i :: .str t :: .int .i64 ((t.length : Int)) :: .bool (i == ((t.length : Int))) :: .bool true :: U :: U :: U :: U :: .bool true :: .str t :: .int .i64 f :: .int .i64 i :: .str ((t.take (i.toNat)).drop (f.toNat)) :: .str s :: .bool (((t.take (i.toNat)).drop (f.toNat)) == s) :: .bool true :: .int .i64 i :: .int .i64 f :: .bool (decide (i > f)) :: .bool (decide (i > f)) :: .int .i64 i :: d35 :: []), [], H.empty, none⟩ (by kernel_rfl) ?_
            refine WpM.op (.int .i64 (i + 1)) _ (by kernel_rfl) (arith_add (by kernel_rfl) (by kernel_rfl) (by omega)) ?_
            refine WpM.run tab_ok 6 ⟨.ops (p26_25_1 :: o26_25.drop 2), [.loop x26_9, .blk 0, .seq x26_26], (.str s :: .str t :: U :: U :: d4 :: .int .i64 (i + 1) :: .int .i64 i :: .int .i64 i :: .str t :: .int .i64 ((t.length : Int)) :: .bool (decide (i ≤ ((t.length : Int)))) :: .int .i64 i :: d12 :: .int .i64 i :: .str t :: .int .i64 ((t.length : Int)) :: .bool (i == ((t.length : Int))) :: .bool true :: U :: U :: U :: U :: .bool true :: .str t :: .int .i64 f :: .int .i64 i :: .str ((t.take (i.toNat)).drop (f.toNat)) :: .str s :: .bool (((t.take (i.toNat)).drop (f.toNat)) == s) :: .bool true :: .int .i64 i :: .int .i64 f :: .bool (decide (i > f)) :: .bool (decide (i > f)) :: .int .i64 i :: .int .i64 (i + 1) :: []), [], H.empty, none⟩ (by kernel_rfl) ?_
            refine WpM.op (.int .i64 (i + 1)) _ (by kernel_rfl) (arith_add (by kernel_rfl) (by kernel_rfl) (by omega)) ?_
            refine WpM.run tab_ok 3 ⟨.code x26_9, [.loop x26_9, .blk 0, .seq x26_26], (.str s :: .str t :: U :: U :: d4 :: .int .i64 (i + 1) :: .int .i64 (i + 1) :: .int .i64 i :: .str t :: .int .i64 ((t.length : Int)) :: .bool (decide (i ≤ ((t.length : Int)))) :: .int .i64 i :: .int .i64 (i + 1) :: .int .i64 i :: .str t :: .int .i64 ((t.length : Int)) :: .bool (i == ((t.length : Int))) :: .bool true :: U :: U :: U :: U :: .bool true :: .str t :: .int .i64 f :: .int .i64 i :: .str ((t.take (i.toNat)).drop (f.toNat)) :: .str s :: .bool (((t.take (i.toNat)).drop (f.toNat)) == s) :: .bool true :: .int .i64 i :: .int .i64 f :: .bool (decide (i > f)) :: .bool (decide (i > f)) :: .int .i64 i :: .int .i64 (i + 1) :: []), [], H.empty, none⟩ (by kernel_rfl) ?_
            refine ih _ ?_ _ _  _ _ _ _ _ _ _ _ _ _ _ _ _ _ _ _ _ _ _ _ _ _ _ _ _ _ _ _ _ _ rfl ?_ ?_ ?_ ?_ ?_
            · omega
            · omega
            · omega
            · omega
            · omega
            · first
              | (rw [hA]; exact among_step h0 h1 (by omega) (by assumption))
              | (rw [hA, among_blank h0 h1 (by omega) (by assumption)]; simp only [c101, c102, c103, c104, Bool.true_and, Bool.false_and, Bool.and_true, Bool.and_false, Bool.or_false, Bool.false_or, Bool.true_or, Bool.or_true]; done)
              | (rw [hA, among_end h0 h1 (by assumption), among_past (by omega)]; simp only [c101, c102, c103, c104, Bool.true_and, Bool.false_and, Bool.and_true, Bool.and_false, Bool.or_false, Bool.false_or, Bool.true_or, Bool.or_true]; done)
        · have c103p := beq_f c103
          refine WpM.run tab_ok 11 ⟨.ops (p26_24_1 :: o26_24.drop 2), [.blk 1, .seq x26_25, .loop x26_9, .blk 0, .seq x26_26], (.str s :: .str t :: U :: U :: d4 :: .int .i64 f :: .int .i64 i :: .int .i64 i :: .str t :: .int .i64 ((t.length : Int)) :: .bool (decide (i ≤ ((t.length : Int)))) :: d11 :: d12 :: .int .i64 i :: .str t :: .int .i64 ((t.length : Int)) :: .bool (i == ((t.length : Int))) :: .bool true :: U :: U :: U :: U :: .bool true :: .str t :: .int .i64 f :: .int .i64 i :: .str ((t.take (i.toNat)).drop (f.toNat)) :: .str s :: .bool (((t.take (i.toNat)).drop (f.toNat)) == s) :: .bool false :: U :: U :: U :: .bool false :: .int .i64 i :: d35 :: []), [], H.empty, none⟩ (by kernel_rfl) ?_
          refine WpM.op (.int .i64 (i + 1)) _ (by kernel_rfl) (arith_add (by kernel_rfl) (by kernel_rfl) (by omega)) ?_
          refine WpM.run tab_ok 6 ⟨.ops (p26_25_1 :: o26_25.drop 2), [.loop x26_9, .blk 0, .seq x26_26], (.str s :: .str t :: U :: U :: d4 :: .int .i64 (i + 1) :: .int .i64 i :: .int .i64 i :: .str t :: .int .i64 ((t.length : Int)) :: .bool (decide (i ≤ ((t.length : Int)))) :: .int .i64 i :: d12 :: .int .i64 i :: .str t :: .int .i64 ((t.length : Int)) :: .bool (i == ((t.length : Int))) :: .bool true :: U :: U :: U :: U :: .bool true :: .str t :: .int .i64 f :: .int .i64 i :: .str ((t.take (i.toNat)).drop (f.toNat)) :: .str s :: .bool (((t.take (i.toNat)).drop (f.toNat)) == s) :: .bool false :: U :: U :: U :: .bool false :: .int .i64 i :: .int .i64 (i + 1) :: []), [], H.empty, none⟩ (by kernel_rfl) ?_
          refine WpM.op (.int .i64 (i + 1)) _ (by kernel_rfl) (arith_add (by kernel_rfl) (by kernel_rfl) (by omega)) ?_
          refine WpM.run tab_ok 3 ⟨.code x26_9, [.loop x26_9, .blk 0, .seq x26_26], (.str s :: .str t :: U :: U :: d4 :: .int .i64 (i + 1) :: .int .i64 (i + 1) :: .int .i64 i :: .str t :: .int .i64 ((t.length : Int)) :: .bool (decide (i ≤ ((t.length : Int)))) :: .int .i64 i :: .int .i64 (i + 1) :: .int .i64 i :: .str t :: .int .i64 ((t.length : Int)) :: .bool (i == ((t.length : Int))) :: .bool true :: U :: U :: U :: U :: .bool true :: .str t :: .int .i64 f :: .int .i64 i :: .str ((t.take (i.toNat)).drop (f.toNat)) :: .str s :: .bool (((t.take (i.toNat)).drop (f.toNat)) == s) :: .bool false :: U :: U :: U :: .bool false :: .int .i64 i :: .int .i64 (i + 1) :: []), [], H.empty, none⟩ (by kernel_rfl) ?_
          refine ih _ ?_ _ _  _ _ _ _ _ _ _ _ _ _ _ _ _ _ _ _ _ _ _ _ _ _ _ _ _ _ _ _ _ _ rfl ?_ ?_ ?_ ?_ ?_
          · omega
          · omega
          · omega
          · omega
          · omega
          · first
            | (rw [hA]; exact among_step h0 h1 (by omega) (by assumption))
            | (rw [hA, among_blank h0 h1 (by omega) (by assumption)]; simp only [c101, c102, c103, Bool.true_and, Bool.false_and, Bool.and_true, Bool.and_false, Bool.or_false, Bool.false_or, Bool.true_or, Bool.or_true]; done)
            | (rw [hA, among_end h0 h1 (by assumption), among_past (by omega)]; simp only [c101, c102, c103, Bool.true_and, Bool.false_and, Bool.and_true, Bool.and_false, Bool.or_false, Bool.false_or, Bool.true_or, Bool.or_true]; done)
      · have c102p := beq_f c102
        refine WpM.run tab_ok 2 ⟨.ops (p26_16_7 :: o26_16.drop 8), [.seq x26_17, .blk 1, .seq x26_25, .loop x26_9, .blk 0, .seq x26_26], (.str s :: .str t :: U :: U :: d4 :: .int .i64 f :: .int .i64 i :: .int .i64 i :: .str t :: .int .i64 ((t.length : Int)) :: .bool (decide (i ≤ ((t.length : Int)))) :: d11 :: d12 :: .int .i64 i :: .str t :: .int .i64 ((t.length : Int)) :: .bool (i == ((t.length : Int))) :: .bool false :: .str t :: .int .i64 i :: d20 :: d21 :: d22 :: d23 :: d24 :: d25 :: d26 :: d27 :: d28 :: d29 :: d30 :: d31 :: d32 :: d33 :: d34 :: d35 :: []), [], H.empty, none⟩ (by kernel_rfl) ?_
        refine WpM.op (.int .u8 (bt t i)) _ (by kernel_rfl) (index_str (k := .i64) (by kernel_rfl) (by kernel_rfl) (by kernel_rfl) (by omega)) ?_
        refine WpM.run tab_ok 4 ⟨.code x26_17, [.blk 1, .seq x26_25, .loop x26_9, .blk 0, .seq x26_26], (.str s :: .str t :: U :: U :: d4 :: .int .i64 f :: .int .i64 i :: .int .i64 i :: .str t :: .int .i64 ((t.length : Int)) :: .bool (decide (i ≤ ((t.length : Int)))) :: d11 :: d12 :: .int .i64 i :: .str t :: .int .i64 ((t.length : Int)) :: .bool (i == ((t.length : Int))) :: .bool false :: .str t :: .int .i64 i :: .int .u8 (bt t i) :: .bool ((bt t i) == 32) :: .bool ((bt t i) == 32) :: d23 :: d24 :: d25 :: d26 :: d27 :: d28 :: d29 :: d30 :: d31 :: d32 :: d33 :: d34 :: d35 :: []), [], H.empty, none⟩ (by kernel_rfl) ?_
        refine WpM.cond (t := ((bt t i) == 32)) (by kernel_rfl) (fun c105 => ?_) (fun c105 => ?_)
        · have c105p := beq_t c105
          refine WpM.run tab_ok 6 ⟨.ops (p26_20_3 :: o26_20.drop 4), [.seq x26_21, .seq x26_24, .blk 1, .seq x26_25, .loop x26_9, .blk 0, .seq x26_26], (.str s :: .str t :: U :: U :: d4 :: .int .i64 f :: .int .i64 i :: .int .i64 i :: .str t :: .int .i64 ((t.length : Int)) :: .bool (decide (i ≤ ((t.length : Int)))) :: d11 :: d12 :: .int .i64 i :: .str t :: .int .i64 ((t.length : Int)) :: .bool (i == ((t.length : Int))) :: .bool false :: .str t :: .int .i64 i :: .int .u8 (bt t i) :: .bool ((bt t i) == 32) :: .bool ((bt t i) == 32) :: .str t :: .int .i64 f :: .int .i64 i :: d26 :: d27 :: d28 :: d29 :: d30 :: d31 :: d32 :: d33 :: d34 :: d35 :: []), [], H.empty, none⟩ (by kernel_rfl) ?_
          refine WpM.op (.str ((t.take (i.toNat)).drop (f.toNat))) _ (by kernel_rfl) (slice_str (by kernel_rfl) (by kernel_rfl) (by kernel_rfl) (by kernel_rfl) (optNat_some (k := .i64) (n := f) (by omega)) (optNat_some (k := .i64) (n := i) (by omega)) (by simp only [Option.getD_some, Option.getD_none]; omega)) ?_
          refine WpM.run tab_ok 3 ⟨.ops (p26_20_7 :: o26_20.drop 8), [.seq x26_21, .seq x26_24, .blk 1, .seq x26_25, .loop x26_9, .blk 0, .seq x26_26], (.str s :: .str t :: U :: U :: d4 :: .int .i64 f :: .int .i64 i :: .int .i64 i :: .str t :: .int .i64 ((t.length : Int)) :: .bool (decide (i ≤ ((t.length : Int)))) :: d11 :: d12 :: .int .i64 i :: .str t :: .int .i64 ((t.length : Int)) :: .bool (i == ((t.length : Int))) :: .bool false :: .str t :: .int .i64 i :: .int .u8 (bt t i) :: .bool ((bt t i) == 32) :: .bool ((bt t i) == 32) :: .str t :: .int .i64 f :: .int .i64 i :: .str ((t.take (i.toNat)).drop (f.toNat)) :: .str s :: .bool (((t.take (i.toNat)).drop (f.toNat)) == s) :: .bool (((t.take (i.toNat)).drop (f.toNat)) == s) :: d30 :: d31 :: d32 :: d33 :: d34 :: d35 :: []), [], H.empty, none⟩ (by kernel_rfl) ?_
          refine WpM.guard (b := (((t.take (i.toNat)).drop (f.toNat)) == s)) (by kernel_rfl) (fun c106 => ?_) (fun c106 => ?_)
          · have c106p := beq_t c106
            refine WpM.run tab_ok 6 ⟨.code x26_21, [.seq x26_24, .blk 1, .seq x26_25, .loop x26_9, .blk 0, .seq x26_26], (.str s :: .str t :: U :: U :: d4 :: .int .i64 f :: .int .i64 i :: .int .i64 i :: .str t :: .int .i64 ((t.length : Int)) :: .bool (decide (i ≤ ((t.length : Int)))) :: d11 :: d12 :: .int .i64 i :: .str t :: .int .i64 ((t.length : Int)) :: .bool (i == ((t.length : Int))) :: .bool false :: .str t :: .int .i64 i :: .int .u8 (bt t i) :: .bool ((bt t i) == 32) :: .bool ((bt t i) == 32) :: .str t :: .int .i64 f :: .int .i64 i :: .str ((t.take (i.toNat)).drop (f.toNat)) :: .str s :: .bool (((t.take (i.toNat)).drop (f.toNat)) == s) :: .bool true :: .int .i64 i :: .int .i64 f :: .bool (decide (i > f)) :: .bool (decide (i > f)) :: d34 :: d35 :: []), [], H.empty, none⟩ (by kernel_rfl) ?_
            refine WpM.cond (t := (decide (i > f))) (by kernel_rfl) (fun c107 => ?_) (fun c107 => ?_)
            · have c107p := dec_t c107
              refine WpM.run tab_ok 12 ⟨.done .ret, [], (.str s :: .str t :: U :: U :: .bool true :: .int .i64 f :: .int .i64 i :: .int .i64 i :: .str t :: .int .i64 ((t.length : Int)) :: .bool (decide (i ≤ ((t.length : Int)))) :: d11 :: d12 :: .int .i64 i :: .str t :: .int .i64 ((t.length : Int)) :: .bool (i == ((t.length : Int))) :: .bool false :: .str t :: .int .i64 i :: .int .u8 (bt t i) :: .bool ((bt t i) == 32) :: .bool ((bt t i) == 32) :: .str t :: .int .i64 f :: .int .i64 i :: .str ((t.take (i.toNat)).drop (f.toNat)) :: .str s :: .bool (((t.take (i.toNat)).drop (f.toNat)) == s) :: .bool true :: .int .i64 i :: .int .i64 f :: .bool (decide (i > f)) :: .bool (decide (i > f)) :: d34 :: d35 :: []), [], H.empty, none⟩ (by kernel_rfl) ?_
              refine WpM.ret (.bool true) H.empty (by kernel_rfl) (by kernel_rfl) ?_
              first
                | (rw [hA, among_end h0 h1 (by assumption)]; simp only [c101, c102, c105, c106, c107, Bool.true_and, Bool.false_and, Bool.and_true, Bool.and_false, Bool.or_false, Bool.false_or, Bool.true_or, Bool.or_true]; done)
                | (rw [hA, among_blank h0 h1 (by omega) (by assumption)]; simp only [c101, c102, c105, c106, c107, Bool.true_and, Bool.false_and, Bool.and_true, Bool.and_false, Bool.or_false, Bool.false_or, Bool.true_or, Bool.or_true]; done)
                | (rw [hA, h3 (by omega), among_past (by omega)])
            · have c107p := dec_f c107
              refine WpM.run tab_ok 4 ⟨.ops (p26_24_1 :: o26_24.drop 2), [.blk 1, .seq x26_25, .loop x26_9, .blk 0, .seq x26_26], (.str s :: .str t :: U :: U :: d4 :: .int .i64 f :: .int .i64 i :: .int .i64 i :: .str t :: .int .i64 ((t.length : Int)) :: .bool (decide (i ≤ ((t.length : Int)))) :: d11 :: d12 :: .int .i64 i :: .str t :: .int .i64 ((t.length : Int)) :: .bool (i == ((t.length : Int))) :: .bool false :: .str t :: .int .i64 i :: .int .u8 (bt t i) :: .bool ((bt t i) == 32) :: .bool ((bt t i) == 32) :: .str t :: .int .i64 f :: .int .i64 i :: .str ((t.take (i.toNat)).drop (f.toNat)) :: .str s :: .bool (((t.take (i.toNat)).drop (f.toNat)) == s) :: .bool true :: .int .i64 i :: .int .i64 f :: .bool (decide (i > f)) :: .bool (decide (i > f)) :: .int .i64 i :: d35 :: []), [], H.empty, none⟩ (by kernel_rfl) ?_
              refine WpM.op (.int .i64 (i + 1)) _ (by kernel_rfl) (arith_add (by kernel_rfl) (by kernel_rfl) (by omega)) ?_
              refine WpM.run tab_ok 6 ⟨.ops (p26_25_1 :: o26_25.drop 2), [.loop x26_9, .blk 0, .seq x26_26], (.str s :: .str t :: U :: U :: d4 :: .int .i64 (i + 1) :: .int .i64 i :: .int .i64 i :: .str t :: .int .i64 ((t.length : Int)) :: .bool (decide (i ≤ ((t.length : Int)))) :: .int .i64 i :: d12 :: .int .i64 i :: .str t :: .int .i64 ((t.length : Int)) :: .bool (i == ((t.length : Int))) :: .bool false :: .str t :: .int .i64 i :: .int .u8 (bt t i) :: .bool ((bt t i) == 32) :: .bool ((bt t i) == 32) :: .str t :: .int .i64 f :: .int .i64 i :: .str ((t.take (i.toNat)).drop (f.toNat)) :: .str s :: .bool (((t.take (i.toNat)).drop (f.toNat)) == s) :: .bool true :: .int .i64 i :: .int .i64 f :: .bool (decide (i > f)) :: .bool (decide (i > f)) :: .int .i64 i :: .int .i64 (i + 1) :: []), [], H.empty, none⟩ (by kernel_rfl) ?_
              refine WpM.op (.int .i64 (i + 1)) _ (by kernel_rfl) (arith_add (by kernel_rfl) (by kernel_rfl) (by omega)) ?_
              refine WpM.run tab_ok 3 ⟨.code x26_9, [.loop x26_9, .blk 0, .seq x26_26], (.str s :: .str t :: U :: U :: d4 :: .int .i64 (i + 1) :: .int .i64 (i + 1) :: .int .i64 i :: .str t :: .int .i64 ((t.length : Int)) :: .bool (decide (i ≤ ((t.length : Int)))) :: .int .i64 i :: .int .i64 (i + 1) :: .int .i64 i :: .str t :: .int .i64 ((t.length : Int)) :: .bool (i == ((t.length : Int))) :: .bool false :: .str t :: .int .i64 i :: .int .u8 (bt t i) :: .bool ((bt t i) == 32) :: .bool ((bt t i) == 32) :: .str t :: .int .i64 f :: .int .i64 i :: .str ((t.take (i.toNat)).drop (f.toNat)) :: .str s :: .bool (((t.take (i.toNat)).drop (f.toNat)) == s) :: .bool true :: .int .i64 i :: .int .i64 f :: .bool (decide (i > f)) :: .bool (decide (i > f)) :: .int .i64 i :: .int .i64 (i + 1) :: []), [], H.empty, none⟩ (by kernel_rfl) ?_
              refine ih _ ?_ _ _  _ _ _ _ _ _ _ _ _ _ _ _ _ _ _ _ _ _ _ _ _ _ _ _ _ _ _ _ _ _ rfl ?_ ?_ ?_ ?_ ?_
              · omega
              · omega
              · omega
              · omega
              · omega
              · first
                | (rw [hA]; exact among_step h0 h1 (by omega) (by assumption))
                | (rw [hA, among_blank h0 h1 (by omega) (by assumption)]; simp only [c101, c102, c105, c106, c107, Bool.true_and, Bool.false_and, Bool.and_true, Bool.and_false, Bool.or_false, Bool.false_or, Bool.true_or, Bool.or_true]; done)
                | (rw [hA, among_end h0 h1 (by assumption), among_past (by omega)]; simp only [c101, c102, c105, c106, c107, Bool.true_and, Bool.false_and, Bool.and_true, Bool.and_false, Bool.or_false, Bool.false_or, Bool.true_or, Bool.or_true]; done)
          · have c106p := beq_f c106
            refine WpM.run tab_ok 11 ⟨.ops (p26_24_1 :: o26_24.drop 2), [.blk 1, .seq x26_25, .loop x26_9, .blk 0, .seq x26_26], (.str s :: .str t :: U :: U :: d4 :: .int .i64 f :: .int .i64 i :: .int .i64 i :: .str t :: .int .i64 ((t.length : Int)) :: .bool (decide (i ≤ ((t.length : Int)))) :: d11 :: d12 :: .int .i64 i :: .str t :: .int .i64 ((t.length : Int)) :: .bool (i == ((t.length : Int))) :: .bool false :: .str t :: .int .i64 i :: .int .u8 (bt t i) :: .bool ((bt t i) == 32) :: .bool ((bt t i) == 32) :: .str t :: .int .i64 f :: .int .i64 i :: .str ((t.take (i.toNat)).drop (f.toNat)) :: .str s :: .bool (((t.take (i.toNat)).drop (f.toNat)) == s) :: .bool false :: U :: U :: U :: .bool false :: .int .i64 i :: d35 :: []), [], H.empty, none⟩ (by kernel_rfl) ?_
            refine WpM.op (.int .i64 (i + 1)) _ (by kernel_rfl) (arith_add (by kernel_rfl) (by kernel_rfl) (by omega)) ?_
            refine WpM.run tab_ok 6 ⟨.ops (p26_25_1 :: o26_25.drop 2), [.loop x26_9, .blk 0, .seq x26_26], (.str s :: .str t :: U :: U :: d4 :: .int .i64 (i + 1) :: .int .i64 i :: .int .i64 i :: .str t :: .int .i64 ((t.length : Int)) :: .bool (decide (i ≤ ((t.length : Int)))) :: .int .i64 i :: d12 :: .int .i64 i :: .str t :: .int .i64 ((t.length : Int)) :: .bool (i == ((t.length : Int))) :: .bool false :: .str t :: .int .i64 i :: .int .u8 (bt t i) :: .bool ((bt t i) == 32) :: .bool ((bt t i) == 32) :: .str t :: .int .i64 f :: .int .i64 i :: .str ((t.take (i.toNat)).drop (f.toNat)) :: .str s :: .bool (((t.take (i.toNat)).drop (f.toNat)) == s) :: .bool false :: U :: U :: U :: .bool false :: .int .i64 i :: .int .i64 (i + 1) :: []), [], H.empty, none⟩ (by kernel_rfl) ?_
            refine WpM.op (.int .i64 (i + 1)) _ (by kernel_rfl) (arith_add (by kernel_rfl) (by kernel_rfl) (by omega)) ?_
            refine WpM.run tab_ok 3 ⟨.code x26_9, [.loop x26_9, .blk 0, .seq x26_26], (.str s :: .str t :: U :: U :: d4 :: .int .i64 (i + 1) :: .int .i64 (i + 1) :: .int .i64 i :: .str t :: .int .i64 ((t.length : Int)) :: .bool (decide (i ≤ ((t.length : Int)))) :: .int .i64 i :: .int .i64 (i + 1) :: .int .i64 i :: .str t :: .int .i64 ((t.length : Int)) :: .bool (i == ((t.length : Int))) :: .bool false :: .str t :: .int .i64 i :: .int .u8 (bt t i) :: .bool ((bt t i) == 32) :: .bool ((bt t i) == 32) :: .str t :: .int .i64 f :: .int .i64 i :: .str ((t.take (i.toNat)).drop (f.toNat)) :: .str s :: .bool (((t.take (i.toNat)).drop (f.toNat)) == s) :: .bool false :: U :: U :: U :: .bool false :: .int .i64 i :: .int .i64 (i + 1) :: []), [], H.empty, none⟩ (by kernel_rfl) ?_
            refine ih _ ?_ _ _  _ _ _ _ _ _ _ _ _ _ _ _ _ _ _ _ _ _ _ _ _ _ _ _ _ _ _ _ _ _ rfl ?_ ?_ ?_ ?_ ?_
            · omega
            · omega
            · omega
            · omega
            · omega
            · first
              | (rw [hA]; exact among_step h0 h1 (by omega) (by assumption))
              | (rw [hA, among_blank h0 h1 (by omega) (by assumption)]; simp only [c101, c102, c105, c106, Bool.true_and, Bool.false_and, Bool.and_true, Bool.and_false, Bool.or_false, Bool.false_or, Bool.true_or, Bool.or_true]; done)
              | (rw [hA, among_end h0 h1 (by assumption), among_past (by omega)]; simp only [c101, c102, c105, c106, Bool.true_and, Bool.false_and, Bool.and_true, Bool.and_false, Bool.or_false, Bool.false_or, Bool.true_or, Bool.or_true]; done)
        · have c105p := beq_f c105
          refine WpM.run tab_ok 5 ⟨.ops (p26_25_1 :: o26_25.drop 2), [.loop x26_9, .blk 0, .seq x26_26], (.str s :: .str t :: U :: U :: d4 :: .int .i64 f :: .int .i64 i :: .int .i64 i :: .str t :: .int .i64 ((t.length : Int)) :: .bool (decide (i ≤ ((t.length : Int)))) :: .int .i64 i :: d12 :: .int .i64 i :: .str t :: .int .i64 ((t.length : Int)) :: .bool (i == ((t.length : Int))) :: .bool false :: .str t :: .int .i64 i :: .int .u8 (bt t i) :: .bool ((bt t i) == 32) :: .bool ((bt t i) == 32) :: d23 :: d24 :: d25 :: d26 :: d27 :: d28 :: d29 :: d30 :: d31 :: d32 :: d33 :: d34 :: d35 :: []), [], H.empty, none⟩ (by kernel_rfl) ?_
          refine WpM.op (.int .i64 (i + 1)) _ (by kernel_rfl) (arith_add (by kernel_rfl) (by kernel_rfl) (by omega)) ?_
          refine WpM.run tab_ok 3 ⟨.code x26_9, [.loop x26_9, .blk 0, .seq x26_26], (.str s :: .str t :: U :: U :: d4 :: .int .i64 f :: .int .i64 (i + 1) :: .int .i64 i :: .str t :: .int .i64 ((t.length : Int)) :: .bool (decide (i ≤ ((t.length : Int)))) :: .int .i64 i :: .int .i64 (i + 1) :: .int .i64 i :: .str t :: .int .i64 ((t.length : Int)) :: .bool (i == ((t.length : Int))) :: .bool false :: .str t :: .int .i64 i :: .int .u8 (bt t i) :: .bool ((bt t i) == 32) :: .bool ((bt t i) == 32) :: d23 :: d24 :: d25 :: d26 :: d27 :: d28 :: d29 :: d30 :: d31 :: d32 :: d33 :: d34 :: d35 :: []), [], H.empty, none⟩ (by kernel_rfl) ?_
          refine ih _ ?_ _ _  _ _ _ _ _ _ _ _ _ _ _ _ _ _ _ _ _ _ _ _ _ _ _ _ _ _ _ _ _ _ rfl ?_ ?_ ?_ ?_ ?_
          · omega
          · omega
          · omega
          · omega
          · omega
          · first
            | (rw [hA]; exact among_step h0 h1 (by omega) (by assumption))
            | (rw [hA, among_blank h0 h1 (by omega) (by assumption)]; simp only [c101, c102, c105, Bool.true_and, Bool.false_and, Bool.and_true, Bool.and_false, Bool.or_false, Bool.false_or, Bool.true_or, Bool.or_true]; done)
            | (rw [hA, among_end h0 h1 (by assumption), among_past (by omega)]; simp only [c101, c102, c105, Bool.true_and, Bool.false_and, Bool.and_true, Bool.and_false, Bool.or_false, Bool.false_or, Bool.true_or, Bool.or_true]; done)
    · have c101p := dec_f c101
      refine WpM.run tab_ok 11 ⟨.done .ret, [], (.str s :: .str t :: U :: U :: .bool false :: .int .i64 f :: .int .i64 i :: .int .i64 i :: .str t :: .int .i64 ((t.length : Int)) :: .bool (decide (i ≤ ((t.length : Int)))) :: d11 :: d12 :: d13 :: d14 :: d15 :: d16 :: d17 :: d18 :: d19 :: d20 :: d21 :: d22 :: d23 :: d24 :: d25 :: d26 :: d27 :: d28 :: d29 :: d30 :: d31 :: d32 :: d33 :: d34 :: d35 :: []), [], H.empty, none⟩ (by kernel_rfl) ?_
      refine WpM.ret (.bool false) H.empty (by kernel_rfl) (by kernel_rfl) ?_
      first
        | (rw [hA, among_end h0 h1 (by assumption)]; simp only [c101, Bool.true_and, Bool.false_and, Bool.and_true, Bool.and_false, Bool.or_false, Bool.false_or, Bool.true_or, Bool.or_true]; done)
        | (rw [hA, among_blank h0 h1 (by omega) (by assumption)]; simp only [c101, Bool.true_and, Bool.false_and, Bool.and_true, Bool.and_false, Bool.or_false, Bool.false_or, Bool.true_or, Bool.or_true]; done)
        | (rw [hA, h3 (by omega), among_past (by omega)])
theorem among_ok {W : World} {s t : List UInt8} (ht : t.length ≤ 140737488355328) : WpF Try.prog W prim0 26 [.str s, .str t] H.empty (fun v _ => v = .bool (among s t)) := by
  refine WpF.m tab_ok (by kernel_rfl) rfl ?_
  refine WpM.cfg (c' := ⟨.code x26_0, [], (.str s :: .str t :: us 34), [], H.empty, none⟩) (by kernel_rfl) ?_
  refine WpM.run tab_ok 18 ⟨.code x26_9, [.loop x26_9, .blk 0, .seq x26_26], (.str s :: .str t :: U :: U :: .bool false :: .int .i64 0 :: .int .i64 0 :: us 29), [], H.empty, none⟩ (by kernel_rfl) ?_
  exact among_loop ht _ 0 0 _ _ _ _ _ _ _ _ _ _ _ _ _ _ _ _ _ _ _ _ _ _ _ _ _ _ _ _ _ _ rfl (by omega) (by omega) (by omega) (by omega) (by rw [amongAt_start])
def q26 (l : List V) : Option V :=
  match l with
  | [.str s, .str t] => if t.length ≤ 140737488355328 then some (.bool (among s t)) else none
  | _ => none
def prim1 : FuncId → Option (List V → H → Option (V × H)) := setPrim prim0 26 q26
theorem prim1s (W : World) (hW : WOK W) : Prims Try.prog W prim1 := by
  refine Prims.add base (prim0s W hW) ⟨_, _, Try.func26, rfl⟩ ?_
  intro w _ args v h
  unfold q26 at h
  split at h
  · split at h
    · rename_i hc; injection h with h; subst h; exact ⟨by simp only [old_cons, old_nil, old_int, old_str, old_bool, old_agg, old_tup, old_nils, Bool.and_true, Bool.true_and, hc], by simp only [old_cons, old_nil, old_int, old_str, old_bool, old_agg, old_tup, old_nils, Bool.and_true, Bool.true_and, hc], among_ok hc⟩
    · cases h
  · cases h
def q37 (l : List V) : Option V :=
  match l with
  | [.str s, .str t] => if s.length < 4294967281 then some (.bool (Lib.contains s t)) else none
  | _ => none
def prim2 : FuncId → Option (List V → H → Option (V × H)) := setPrim prim1 37 q37
theorem prim2s (W : World) (hW : WOK W) : Prims Try.prog W prim2 := by
  refine Prims.addC (prim1s W hW) ⟨_, _, Try.func37, rfl⟩ ?_
  intro w hb args v h μ args' hv
  unfold q37 at h
  split at h
  · split at h
    · rename_i hc
      injection h with h; subst h
      obtain ⟨a, b, rfl, rfl, rfl⟩ := hv.strs2
      obtain ⟨m, hm⟩ := SomeInt.below hW hb
      have hl : a.size = a.data.toList.length := by rw [Array.length_toList]; rfl
      refine (Try.strings_Contains a b m w (by omega) hm).mono ?_
      rintro e w' ⟨rfl, rfl⟩
      exact ⟨_, rfl, by simp [VR], rfl⟩
    · cases h
  · cases h
theorem vin_ok {W : World} {t s : List UInt8} (h1 : tableOk t = true) (h2 : t.length < 4294967281) (h3 : s.length < 4294967281) : WpF Try.prog W prim2 36 [.str t, .str s] H.empty (fun v _ => v = .bool (among s t)) := by
  refine WpF.m tab_ok (by kernel_rfl) rfl ?_
  refine WpM.cfg (c' := ⟨.code x36_0, [], (.str t :: .str s :: us 17), [], H.empty, none⟩) (by kernel_rfl) ?_
  refine WpM.run tab_ok 10 ⟨.ops (p36_3_3 :: o36_3.drop 4), [.seq .ret], (.str t :: .str s :: U :: U :: .bool false :: .str s :: .bool (!(s == [])) :: .bool (!(s == [])) :: us 11), [], H.empty, none⟩ (by kernel_rfl) ?_
  refine WpM.guard (b := (!(s == []))) (by kernel_rfl) (fun c1 => ?_) (fun c1 => ?_)
  · have c1p := nbeq_t c1
    refine WpM.run tab_ok 1 ⟨.ops (p36_3_4 :: o36_3.drop 5), [.seq .ret], (.str t :: .str s :: U :: U :: .bool false :: .str s :: .bool (!(s == [])) :: .bool true :: .str s :: us 10), [], H.empty, none⟩ (by kernel_rfl) ?_
    refine WpM.givenQ (f := 37) (args := [.str s, .str [32]]) (q := q37) (.bool (Lib.contains s [32])) (by kernel_rfl) (by kernel_rfl) (by kernel_rfl) (by simp only [q37]; rw [if_pos (by omega)]) ?_
    refine WpM.run tab_ok 3 ⟨.ops (p36_3_8 :: o36_3.drop 9), [.seq .ret], (.str t :: .str s :: U :: U :: .bool false :: .str s :: .bool (!(s == [])) :: .bool true :: .str s :: .bool (Lib.contains s [32]) :: .bool (!(Lib.contains s [32])) :: .bool (!(Lib.contains s [32])) :: .bool (!(Lib.contains s [32])) :: us 6), [], H.empty, none⟩ (by kernel_rfl) ?_
    refine WpM.guard (b := (!(Lib.contains s [32]))) (by kernel_rfl) (fun c2 => ?_) (fun c2 => ?_)
    · have c2p := not_t c2
      refine WpM.run tab_ok 2 ⟨.ops (p36_3_10 :: o36_3.drop 11), [.seq .ret], (.str t :: .str s :: U :: U :: .bool false :: .str s :: .bool (!(s == [])) :: .bool true :: .str s :: .bool (Lib.contains s [32]) :: .bool (!(Lib.contains s [32])) :: .bool (!(Lib.contains s [32])) :: .bool true :: .str t :: .str s :: us 4), [], H.empty, none⟩ (by kernel_rfl) ?_
      refine WpM.op (.str ([32] ++ s)) _ (by kernel_rfl) (concat_str (by kernel_rfl) (by kernel_rfl) (by simp only [List.length_append, List.length_cons, List.length_nil]; omega)) ?_
      refine WpM.run tab_ok 0 ⟨.ops (p36_3_11 :: o36_3.drop 12), [.seq .ret], (.str t :: .str s :: U :: U :: .bool false :: .str s :: .bool (!(s == [])) :: .bool true :: .str s :: .bool (Lib.contains s [32]) :: .bool (!(Lib.contains s [32])) :: .bool (!(Lib.contains s [32])) :: .bool true :: .str t :: .str s :: .str ([32] ++ s) :: U :: U :: U :: []), [], H.empty, none⟩ (by kernel_rfl) ?_
      refine WpM.op (.str (([32] ++ s) ++ [32])) _ (by kernel_rfl) (concat_str (by kernel_rfl) (by kernel_rfl) (by simp only [List.length_append, List.length_cons, List.length_nil]; omega)) ?_
      refine WpM.run tab_ok 0 ⟨.ops (p36_3_12 :: o36_3.drop 13), [.seq .ret], (.str t :: .str s :: U :: U :: .bool false :: .str s :: .bool (!(s == [])) :: .bool true :: .str s :: .bool (Lib.contains s [32]) :: .bool (!(Lib.contains s [32])) :: .bool (!(Lib.contains s [32])) :: .bool true :: .str t :: .str s :: .str ([32] ++ s) :: .str (([32] ++ s) ++ [32]) :: U :: U :: []), [], H.empty, none⟩ (by kernel_rfl) ?_
      refine WpM.givenQ (f := 37) (args := [.str t, .str (([32] ++ s) ++ [32])]) (q := q37) (.bool (Lib.contains t (([32] ++ s) ++ [32]))) (by kernel_rfl) (by kernel_rfl) (by kernel_rfl) (by simp only [q37]; rw [if_pos (by omega)]) ?_
      refine WpM.run tab_ok 5 ⟨.done .ret, [], (.str t :: .str s :: U :: U :: .bool (Lib.contains t (([32] ++ s) ++ [32])) :: .str s :: .bool (!(s == [])) :: .bool true :: .str s :: .bool (Lib.contains s [32]) :: .bool (!(Lib.contains s [32])) :: .bool (!(Lib.contains s [32])) :: .bool true :: .str t :: .str s :: .str ([32] ++ s) :: .str (([32] ++ s) ++ [32]) :: .bool (Lib.contains t (([32] ++ s) ++ [32])) :: .bool (Lib.contains t (([32] ++ s) ++ [32])) :: []), [], H.empty, none⟩ (by kernel_rfl) ?_
      refine WpM.ret (.bool (Lib.contains t (([32] ++ s) ++ [32]))) H.empty (by kernel_rfl) (by kernel_rfl) ?_
      rw [← among_in h1]; simp only [c1, c2, Bool.true_and, Bool.false_and, Bool.and_true, Bool.and_false, Bool.or_false, Bool.false_or, Bool.true_or, Bool.or_true, Bool.not_true, Bool.not_false, List.cons_append, List.nil_append]
    · have c2p := not_f c2
      refine WpM.run tab_ok 10 ⟨.done .ret, [], (.str t :: .str s :: U :: U :: .bool false :: .str s :: .bool (!(s == [])) :: .bool true :: .str s :: .bool (Lib.contains s [32]) :: .bool (!(Lib.contains s [32])) :: .bool (!(Lib.contains s [32])) :: .bool false :: U :: U :: U :: U :: U :: .bool false :: []), [], H.empty, none⟩ (by kernel_rfl) ?_
      refine WpM.ret (.bool false) H.empty (by kernel_rfl) (by kernel_rfl) ?_
      rw [← among_in h1]; simp only [c1, c2, Bool.true_and, Bool.false_and, Bool.and_true, Bool.and_false, Bool.or_false, Bool.false_or, Bool.true_or, Bool.or_true, Bool.not_true, Bool.not_false, List.cons_append, List.nil_append]
  · have c1p := nbeq_f c1
    refine WpM.run tab_ok 15 ⟨.done .ret, [], (.str t :: .str s :: U :: U :: .bool false :: .str s :: .bool (!(s == [])) :: .bool false :: U :: U :: U :: .bool false :: .bool false :: U :: U :: U :: U :: U :: .bool false :: []), [], H.empty, none⟩ (by kernel_rfl) ?_
    refine WpM.ret (.bool false) H.empty (by kernel_rfl) (by kernel_rfl) ?_
    rw [← among_in h1]; simp only [c1, Bool.true_and, Bool.false_and, Bool.and_true, Bool.and_false, Bool.or_false, Bool.false_or, Bool.true_or, Bool.or_true, Bool.not_true, Bool.not_false, List.cons_append, List.nil_append]
def q36 (l : List V) : Option V :=
  match l with
  | [.str t, .str s] => if tableOk t = true ∧ t.length < 4294967281 ∧ s.length < 4294967281 then some (.bool (among s t)) else none
  | _ => none
def prim3 : FuncId → Option (List V → H → Option (V × H)) := setPrim prim2 36 q36
theorem prim3s (W : World) (hW : WOK W) : Prims Try.prog W prim3 := by
  refine Prims.add base (prim2s W hW) ⟨_, _, Try.func36, rfl⟩ ?_
  intro w _ args v h
  unfold q36 at h
  split at h
  · split at h
    · rename_i hc; injection h with h; subst h; exact ⟨by simp only [old_cons, old_nil, old_int, old_str, old_bool, old_agg, old_tup, old_nils, Bool.and_true, Bool.true_and, hc], by simp only [old_cons, old_nil, old_int, old_str, old_bool, old_agg, old_tup, old_nils, Bool.and_true, Bool.true_and, hc], vin_ok hc.1 hc.2.1 hc.2.2⟩
    · cases h
  · cases h
def q7 (l : List V) : Option V :=
  match l with
  | [] => some (.bool true)
  | _ => none
def prim4 : FuncId → Option (List V → H → Option (V × H)) := setPrim prim3 7 q7
theorem prim4s (W : World) (hW : WOK W) : Prims Try.prog W prim4 := by
  refine Prims.add base (prim3s W hW) ⟨_, _, Try.func7, rfl⟩ ?_
  intro w _ args v h
  unfold q7 at h
  split at h
  · injection h with h; subst h; exact ⟨by simp only [old_cons, old_nil, old_int, old_str, old_bool, old_agg, old_tup, old_nils, Bool.and_true, Bool.true_and], by simp only [old_cons, old_nil, old_int, old_str, old_bool, old_agg, old_tup, old_nils, Bool.and_true, Bool.true_and], WpF.found (n := 120) (by kernel_rfl)⟩
  · cases h
def lowB (c : UInt8) : UInt8 := if 65 ≤ c.toNat ∧ c.toNat ≤ 90 then UInt8.ofNat (c.toNat + 32) else c
def lower (s : List UInt8) : List UInt8 := s.map lowB
def lowAt (s : List UInt8) (i : Int) : List UInt8 := lower (s.take i.toNat) ++ s.drop i.toNat
theorem lower_length (s : List UInt8) : (lower s).length = s.length := by simp [lower]
theorem lowAt_length (s : List UInt8) (i : Int) : (lowAt s i).length = s.length := by simp only [lowAt, lower, List.length_append, List.length_map, List.length_take, List.length_drop]; omega
theorem lowAt_zero (s : List UInt8) : lowAt s 0 = s := by simp [lowAt, lower]
theorem lowAt_end {s : List UInt8} {i : Int} (h : ¬ i < (s.length : Int)) : lowAt s i = lower s := by
  unfold lowAt
  rw [List.take_of_length_le (by omega), List.drop_eq_nil_of_le (by omega), List.append_nil]
theorem lowAt_bt {s : List UInt8} {i : Int} (h0 : 0 ≤ i) (h : i < (s.length : Int)) : bt (lowAt s i) i = bt s i := by
  have hl : i.toNat < s.length := by omega
  unfold bt lowAt
  rw [List.getD_eq_getElem?_getD, List.getD_eq_getElem?_getD, List.getElem?_append_right (by simp [lower]; omega)]
  simp [lower, Nat.min_eq_left (Nat.le_of_lt hl)]
theorem lowAt_step {s : List UInt8} {i : Int} (h0 : 0 ≤ i) (h : i < (s.length : Int)) : lowAt s (i + 1) = (lowAt s i).set i.toNat (lowB (s.getD i.toNat 0)) := by
  obtain ⟨c, e1, e2, e3⟩ := bt_get h0 h
  have hl : i.toNat < s.length := by omega
  have hc : s.getD i.toNat 0 = c := by
    rw [List.getD_eq_getElem?_getD, List.getElem?_eq_getElem hl]
    have := List.drop_eq_getElem_cons hl
    rw [e1] at this
    injection this with h1 _
    exact h1.symm
  unfold lowAt
  rw [toNat_succ h0, e3, e1, hc, List.set_append_right _ _ (by simp [lower]; omega)]
  have hm : (lower (List.take i.toNat s)).length = i.toNat := by simp [lower]; omega
  rw [hm, Nat.sub_self]
  simp [lower]
theorem set_selfG {α : Type} {env : List α} {t : Nat} {v : α} (h : env[t]? = some v) : env.set t v = env := by
  apply List.ext_getElem?
  intro i
  rw [List.getElem?_set]
  split
  · rename_i e
    subst e
    split
    · exact h.symm
    · rename_i hn
      rw [List.getElem?_eq_none (Nat.le_of_not_lt hn)]
  · rfl
theorem lowAt_big {s : List UInt8} {i : Int} (h0 : 0 ≤ i) (h : i < (s.length : Int)) (h1 : 65 ≤ bt s i) (h2 : bt s i ≤ 90) : lowAt s (i + 1) = (lowAt s i).set i.toNat (UInt8.ofNat (bt s i + 32).toNat) := by
  rw [lowAt_step h0 h]
  congr 1
  unfold bt at h1 h2 ⊢
  unfold lowB
  rw [if_pos ⟨by omega, by omega⟩]
  congr 1
theorem lowAt_small {s : List UInt8} {i : Int} (h0 : 0 ≤ i) (h : i < (s.length : Int)) (h1 : ¬ (65 ≤ bt s i) ∨ ¬ (bt s i ≤ 90)) : lowAt s (i + 1) = lowAt s i := by
  rw [lowAt_step h0 h]
  have : lowB (s.getD i.toNat 0) = s.getD i.toNat 0 := by
    unfold bt at h1
    unfold lowB
    rw [if_neg (by omega)]
  rw [this]
  apply set_selfG
  have hl : i.toNat < s.length := by omega
  unfold lowAt
  rw [List.getElem?_append_right (by simp [lower]; omega), List.getD_eq_getElem?_getD]
  simp [lower, Nat.min_eq_left (Nat.le_of_lt hl), List.getElem?_eq_getElem hl]
theorem lowB_twice (c : UInt8) : lowB (lowB c) = lowB c := by
  unfold lowB
  split
  · rename_i h
    have : (UInt8.ofNat (c.toNat + 32)).toNat = c.toNat + 32 := UInt8.toNat_ofNat_of_lt' (by have := h.2; show c.toNat + 32 < 256; omega)
    rw [this, if_neg (by omega)]
  · rfl
theorem lower_twice (s : List UInt8) : lower (lower s) = lower s := by
  unfold lower
  rw [List.map_map]
  apply List.map_congr_left
  intro c _
  exact lowB_twice c
theorem low_loop {W : World} {s : List UInt8} (hs : s.length ≤ 140737488355328) (n : Nat) : ∀ (i : Int) (h : H) (p1 : Nat) (cur : List UInt8) (d4 d5 d11 d12 d13 d14 d15 d16 d17 d18 d19 d20 d21 d22 d23 d24 d25 d26 : V), n = ((s.length : Int) - i).toNat → (0 ≤ i) → (i ≤ (s.length : Int)) → (cur = lowAt s i) → (h.get p1 = some (.cells (bv cur) 5)) → (p1 < h.nx) → WpM Try.prog W prim4 ⟨.code x33_9, [.loop x33_9, .blk 0, .seq x33_22], (.str s :: U :: .str [] :: .slice (some (.new p1 0)) s.length s.length false :: d4 :: d5 :: .str s :: .slice (some (.new p1 0)) s.length s.length false :: .slice (some (.new p1 0)) s.length s.length false :: .int .i64 ((s.length : Int)) :: .int .i64 i :: d11 :: d12 :: d13 :: d14 :: d15 :: d16 :: d17 :: d18 :: d19 :: d20 :: d21 :: d22 :: d23 :: d24 :: d25 :: d26 :: U :: U :: []), [], h, none⟩ (retQ Try.prog W [.tmp 2] (fun v _ => v = .str (lower s))) := by
  induction n using Nat.strongRecOn with
  | _ n ih =>
    intro i h p1 cur d4 d5 d11 d12 d13 d14 d15 d16 d17 d18 d19 d20 d21 d22 d23 d24 d25 d26 hn h0 h1 hc g1 l1
    have hl : s.length = cur.length := by rw [hc, lowAt_length]
    have hl2 : (s.length : Int) = (cur.length : Int) := by omega
    have hb : 0 ≤ i → i < (s.length : Int) → bt cur i = bt s i := fun a b => by rw [hc, lowAt_bt a b]
    have hr := bt_range cur i
    refine WpM.run tab_ok 6 ⟨.code x33_12, [.seq x33_13, .loop x33_9, .blk 0, .seq x33_22], (.str s :: U :: .str [] :: .slice (some (.new p1 0)) s.length s.length false :: d4 :: d5 :: .str s :: .slice (some (.new p1 0)) s.length s.length false :: .slice (some (.new p1 0)) s.length s.length false :: .int .i64 ((s.length : Int)) :: .int .i64 i :: .bool (decide (i < ((s.length : Int)))) :: d12 :: d13 :: d14 :: d15 :: d16 :: d17 :: d18 :: d19 :: d20 :: d21 :: d22 :: d23 :: d24 :: d25 :: d26 :: U :: U :: []), [], h, none⟩ (by kernel_rfl) ?_
    refine WpM.cond (t := (decide (i < ((s.length : Int))))) (by kernel_rfl) (fun c101 => ?_) (fun c101 => ?_)
    · have c101p := dec_t c101
      refine WpM.run tab_ok 7 ⟨.ops (p33_16_1 :: o33_16.drop 2), [.seq x33_17, .blk 1, .seq x33_21, .loop x33_9, .blk 0, .seq x33_22], (.str s :: U :: .str [] :: .slice (some (.new p1 0)) s.length s.length false :: d4 :: d5 :: .str s :: .slice (some (.new p1 0)) s.length s.length false :: .slice (some (.new p1 0)) s.length s.length false :: .int .i64 ((s.length : Int)) :: .int .i64 i :: .bool (decide (i < ((s.length : Int)))) :: .int .i64 i :: d13 :: d14 :: d15 :: d16 :: d17 :: d18 :: d19 :: d20 :: d21 :: d22 :: d23 :: d24 :: d25 :: d26 :: U :: U :: []), [], h, none⟩ (by kernel_rfl) ?_
      refine WpM.op (.ptr (some (.new p1 (0 + i.toNat * 1)))) _ (by kernel_rfl) (indexAddr_sl (e := 5) (a := (.new p1 0)) (len := s.length) (lb := s.length) (ex := false) (z := 1) (k := .i64) (n := i) (by kernel_rfl) (by kernel_rfl) (by kernel_rfl) (by kernel_rfl) (by omega)) ?_
      refine WpM.run tab_ok 0 ⟨.ops (p33_16_2 :: o33_16.drop 3), [.seq x33_17, .blk 1, .seq x33_21, .loop x33_9, .blk 0, .seq x33_22], (.str s :: U :: .str [] :: .slice (some (.new p1 0)) s.length s.length false :: d4 :: d5 :: .str s :: .slice (some (.new p1 0)) s.length s.length false :: .slice (some (.new p1 0)) s.length s.length false :: .int .i64 ((s.length : Int)) :: .int .i64 i :: .bool (decide (i < ((s.length : Int)))) :: .int .i64 i :: .ptr (some (.new p1 (0 + i.toNat * 1))) :: d14 :: d15 :: d16 :: d17 :: d18 :: d19 :: d20 :: d21 :: d22 :: d23 :: d24 :: d25 :: d26 :: U :: U :: []), [], h, none⟩ (by kernel_rfl) ?_
      refine WpM.op (.int .u8 (bt cur i)) _ (by kernel_rfl) (load_new (o := (0 + i.toNat * 1)) (by kernel_rfl) g1 (bv_ld (i := i) (by kernel_rfl) (by omega) (by omega))) ?_
      refine WpM.run tab_ok 9 ⟨.ops (p33_18_3 :: o33_18.drop 4), [.seq x33_19, .blk 1, .seq x33_21, .loop x33_9, .blk 0, .seq x33_22], (.str s :: U :: .str [] :: .slice (some (.new p1 0)) s.length s.length false :: .int .i64 i :: .int .u8 (bt cur i) :: .str s :: .slice (some (.new p1 0)) s.length s.length false :: .slice (some (.new p1 0)) s.length s.length false :: .int .i64 ((s.length : Int)) :: .int .i64 i :: .bool (decide (i < ((s.length : Int)))) :: .int .i64 i :: .ptr (some (.new p1 (0 + i.toNat * 1))) :: .int .u8 (bt cur i) :: .int .u8 (bt cur i) :: .bool (decide ((65 : Int) ≤ (bt cur i))) :: .bool (decide ((65 : Int) ≤ (bt cur i))) :: d18 :: d19 :: d20 :: d21 :: d22 :: d23 :: d24 :: d25 :: d26 :: U :: U :: []), [], h, none⟩ (by kernel_rfl) ?_
      refine WpM.guard (b := (decide ((65 : Int) ≤ (bt cur i)))) (by kernel_rfl) (fun c102 => ?_) (fun c102 => ?_)
      · have c102p := dec_t c102
        refine WpM.run tab_ok 5 ⟨.code x33_19, [.blk 1, .seq x33_21, .loop x33_9, .blk 0, .seq x33_22], (.str s :: U :: .str [] :: .slice (some (.new p1 0)) s.length s.length false :: .int .i64 i :: .int .u8 (bt cur i) :: .str s :: .slice (some (.new p1 0)) s.length s.length false :: .slice (some (.new p1 0)) s.length s.length false :: .int .i64 ((s.length : Int)) :: .int .i64 i :: .bool (decide (i < ((s.length : Int)))) :: .int .i64 i :: .ptr (some (.new p1 (0 + i.toNat * 1))) :: .int .u8 (bt cur i) :: .int .u8 (bt cur i) :: .bool (decide ((65 : Int) ≤ (bt cur i))) :: .bool true :: .int .u8 (bt cur i) :: .bool (decide ((bt cur i) ≤ 90)) :: .bool (decide ((bt cur i) ≤ 90)) :: d21 :: d22 :: d23 :: d24 :: d25 :: d26 :: U :: U :: []), [], h, none⟩ (by kernel_rfl) ?_
        refine WpM.cond (t := (decide ((bt cur i) ≤ 90))) (by kernel_rfl) (fun c103 => ?_) (fun c103 => ?_)
        · have c103p := dec_t c103
          refine WpM.run tab_ok 4 ⟨.ops (p33_20_3 :: o33_20.drop 4), [.blk 1, .seq x33_21, .loop x33_9, .blk 0, .seq x33_22], (.str s :: U :: .str [] :: .slice (some (.new p1 0)) s.length s.length false :: .int .i64 i :: .int .u8 (bt cur i) :: .str s :: .slice (some (.new p1 0)) s.length s.length false :: .slice (some (.new p1 0)) s.length s.length false :: .int .i64 ((s.length : Int)) :: .int .i64 i :: .bool (decide (i < ((s.length : Int)))) :: .int .i64 i :: .ptr (some (.new p1 (0 + i.toNat * 1))) :: .int .u8 (bt cur i) :: .int .u8 (bt cur i) :: .bool (decide ((65 : Int) ≤ (bt cur i))) :: .bool true :: .int .u8 (bt cur i) :: .bool (decide ((bt cur i) ≤ 90)) :: .bool (decide ((bt cur i) ≤ 90)) :: .slice (some (.new p1 0)) s.length s.length false :: .int .i64 i :: .int .u8 (bt cur i) :: d24 :: d25 :: d26 :: U :: U :: []), [], h, none⟩ (by kernel_rfl) ?_
          refine WpM.op (.int .u8 ((bt cur i) + 32)) _ (by kernel_rfl) (arith_addU (by kernel_rfl) (by kernel_rfl) (by omega)) ?_
          refine WpM.run tab_ok 0 ⟨.ops (p33_20_4 :: o33_20.drop 5), [.blk 1, .seq x33_21, .loop x33_9, .blk 0, .seq x33_22], (.str s :: U :: .str [] :: .slice (some (.new p1 0)) s.length s.length false :: .int .i64 i :: .int .u8 (bt cur i) :: .str s :: .slice (some (.new p1 0)) s.length s.length false :: .slice (some (.new p1 0)) s.length s.length false :: .int .i64 ((s.length : Int)) :: .int .i64 i :: .bool (decide (i < ((s.length : Int)))) :: .int .i64 i :: .ptr (some (.new p1 (0 + i.toNat * 1))) :: .int .u8 (bt cur i) :: .int .u8 (bt cur i) :: .bool (decide ((65 : Int) ≤ (bt cur i))) :: .bool true :: .int .u8 (bt cur i) :: .bool (decide ((bt cur i) ≤ 90)) :: .bool (decide ((bt cur i) ≤ 90)) :: .slice (some (.new p1 0)) s.length s.length false :: .int .i64 i :: .int .u8 (bt cur i) :: .int .u8 ((bt cur i) + 32) :: d25 :: d26 :: U :: U :: []), [], h, none⟩ (by kernel_rfl) ?_
          refine WpM.op (.ptr (some (.new p1 (0 + i.toNat * 1)))) _ (by kernel_rfl) (indexAddr_sl (e := 5) (a := (.new p1 0)) (len := s.length) (lb := s.length) (ex := false) (z := 1) (k := .i64) (n := i) (by kernel_rfl) (by kernel_rfl) (by kernel_rfl) (by kernel_rfl) (by omega)) ?_
          refine WpM.run tab_ok 0 ⟨.ops (p33_20_5 :: o33_20.drop 6), [.blk 1, .seq x33_21, .loop x33_9, .blk 0, .seq x33_22], (.str s :: U :: .str [] :: .slice (some (.new p1 0)) s.length s.length false :: .int .i64 i :: .int .u8 (bt cur i) :: .str s :: .slice (some (.new p1 0)) s.length s.length false :: .slice (some (.new p1 0)) s.length s.length false :: .int .i64 ((s.length : Int)) :: .int .i64 i :: .bool (decide (i < ((s.length : Int)))) :: .int .i64 i :: .ptr (some (.new p1 (0 + i.toNat * 1))) :: .int .u8 (bt cur i) :: .int .u8 (bt cur i) :: .bool (decide ((65 : Int) ≤ (bt cur i))) :: .bool true :: .int .u8 (bt cur i) :: .bool (decide ((bt cur i) ≤ 90)) :: .bool (decide ((bt cur i) ≤ 90)) :: .slice (some (.new p1 0)) s.length s.length false :: .int .i64 i :: .int .u8 (bt cur i) :: .int .u8 ((bt cur i) + 32) :: .ptr (some (.new p1 (0 + i.toNat * 1))) :: d26 :: U :: U :: []), [], h, none⟩ (by kernel_rfl) ?_
          refine WpM.opS U p1 (some (.cells (bv (cur.set i.toNat (UInt8.ofNat ((bt cur i) + 32).toNat))) 5)) (by kernel_rfl) (store_new (o := (0 + i.toNat * 1)) (v := .int .u8 ((bt cur i) + 32)) (by kernel_rfl) (by kernel_rfl) g1 (bv_st (i := i) (by kernel_rfl) (by omega) (by omega) (by omega))) (fun h104 a105 => ?_)
          refine WpM.run tab_ok 4 ⟨.ops (p33_21_0 :: o33_21.drop 1), [.loop x33_9, .blk 0, .seq x33_22], (.str s :: U :: .str [] :: .slice (some (.new p1 0)) s.length s.length false :: .int .i64 i :: .int .u8 (bt cur i) :: .str s :: .slice (some (.new p1 0)) s.length s.length false :: .slice (some (.new p1 0)) s.length s.length false :: .int .i64 ((s.length : Int)) :: .int .i64 i :: .bool (decide (i < ((s.length : Int)))) :: .int .i64 i :: .ptr (some (.new p1 (0 + i.toNat * 1))) :: .int .u8 (bt cur i) :: .int .u8 (bt cur i) :: .bool (decide ((65 : Int) ≤ (bt cur i))) :: .bool true :: .int .u8 (bt cur i) :: .bool (decide ((bt cur i) ≤ 90)) :: .bool (decide ((bt cur i) ≤ 90)) :: .slice (some (.new p1 0)) s.length s.length false :: .int .i64 i :: .int .u8 (bt cur i) :: .int .u8 ((bt cur i) + 32) :: .ptr (some (.new p1 (0 + i.toNat * 1))) :: d26 :: U :: U :: []), [], h104, none⟩ (by kernel_rfl) ?_
          refine WpM.op (.int .i64 (i + 1)) _ (by kernel_rfl) (arith_add (by kernel_rfl) (by kernel_rfl) (by omega)) ?_
          refine WpM.run tab_ok 3 ⟨.code x33_9, [.loop x33_9, .blk 0, .seq x33_22], (.str s :: U :: .str [] :: .slice (some (.new p1 0)) s.length s.length false :: .int .i64 i :: .int .u8 (bt cur i) :: .str s :: .slice (some (.new p1 0)) s.length s.length false :: .slice (some (.new p1 0)) s.length s.length false :: .int .i64 ((s.length : Int)) :: .int .i64 (i + 1) :: .bool (decide (i < ((s.length : Int)))) :: .int .i64 i :: .ptr (some (.new p1 (0 + i.toNat * 1))) :: .int .u8 (bt cur i) :: .int .u8 (bt cur i) :: .bool (decide ((65 : Int) ≤ (bt cur i))) :: .bool true :: .int .u8 (bt cur i) :: .bool (decide ((bt cur i) ≤ 90)) :: .bool (decide ((bt cur i) ≤ 90)) :: .slice (some (.new p1 0)) s.length s.length false :: .int .i64 i :: .int .u8 (bt cur i) :: .int .u8 ((bt cur i) + 32) :: .ptr (some (.new p1 (0 + i.toNat * 1))) :: .int .i64 (i + 1) :: U :: U :: []), [], h104, none⟩ (by kernel_rfl) ?_
          refine ih _ ?_ _ h104 p1 (cur.set i.toNat (UInt8.ofNat ((bt cur i) + 32).toNat)) _ _ _ _ _ _ _ _ _ _ _ _ _ _ _ _ _ _ rfl ?_ ?_ ?_ ?_ ?_
          · omega
          · omega
          · omega
          · have hb2 := hb h0 (by omega)
            first
              | (rw [hc]; exact (lowAt_small h0 (by omega) (by first | (left; omega) | (right; omega))).symm)
              | (rw [lowAt_big h0 (by omega) (by omega) (by omega), ← hc, hb2])
          · first | exact a105.get
          · first | exact (a105.le l1)
        · have c103p := dec_f c103
          refine WpM.run tab_ok 4 ⟨.ops (p33_21_0 :: o33_21.drop 1), [.loop x33_9, .blk 0, .seq x33_22], (.str s :: U :: .str [] :: .slice (some (.new p1 0)) s.length s.length false :: .int .i64 i :: .int .u8 (bt cur i) :: .str s :: .slice (some (.new p1 0)) s.length s.length false :: .slice (some (.new p1 0)) s.length s.length false :: .int .i64 ((s.length : Int)) :: .int .i64 i :: .bool (decide (i < ((s.length : Int)))) :: .int .i64 i :: .ptr (some (.new p1 (0 + i.toNat * 1))) :: .int .u8 (bt cur i) :: .int .u8 (bt cur i) :: .bool (decide ((65 : Int) ≤ (bt cur i))) :: .bool true :: .int .u8 (bt cur i) :: .bool (decide ((bt cur i) ≤ 90)) :: .bool (decide ((bt cur i) ≤ 90)) :: d21 :: d22 :: d23 :: d24 :: d25 :: d26 :: U :: U :: []), [], h, none⟩ (by kernel_rfl) ?_
          refine WpM.op (.int .i64 (i + 1)) _ (by kernel_rfl) (arith_add (by kernel_rfl) (by kernel_rfl) (by omega)) ?_
          refine WpM.run tab_ok 3 ⟨.code x33_9, [.loop x33_9, .blk 0, .seq x33_22], (.str s :: U :: .str [] :: .slice (some (.new p1 0)) s.length s.length false :: .int .i64 i :: .int .u8 (bt cur i) :: .str s :: .slice (some (.new p1 0)) s.length s.length false :: .slice (some (.new p1 0)) s.length s.length false :: .int .i64 ((s.length : Int)) :: .int .i64 (i + 1) :: .bool (decide (i < ((s.length : Int)))) :: .int .i64 i :: .ptr (some (.new p1 (0 + i.toNat * 1))) :: .int .u8 (bt cur i) :: .int .u8 (bt cur i) :: .bool (decide ((65 : Int) ≤ (bt cur i))) :: .bool true :: .int .u8 (bt cur i) :: .bool (decide ((bt cur i) ≤ 90)) :: .bool (decide ((bt cur i) ≤ 90)) :: d21 :: d22 :: d23 :: d24 :: d25 :: .int .i64 (i + 1) :: U :: U :: []), [], h, none⟩ (by kernel_rfl) ?_
          refine ih _ ?_ _ h p1 (cur) _ _ _ _ _ _ _ _ _ _ _ _ _ _ _ _ _ _ rfl ?_ ?_ ?_ ?_ ?_
          · omega
          · omega
          · omega
          · have hb2 := hb h0 (by omega)
            first
              | (rw [hc]; exact (lowAt_small h0 (by omega) (by first | (left; omega) | (right; omega))).symm)
              | (rw [lowAt_big h0 (by omega) (by omega) (by omega), ← hc, hb2])
          · first | exact g1
          · first | exact l1
      · have c102p := dec_f c102
        refine WpM.run tab_ok 10 ⟨.ops (p33_21_0 :: o33_21.drop 1), [.loop x33_9, .blk 0, .seq x33_22], (.str s :: U :: .str [] :: .slice (some (.new p1 0)) s.length s.length false :: .int .i64 i :: .int .u8 (bt cur i) :: .str s :: .slice (some (.new p1 0)) s.length s.length false :: .slice (some (.new p1 0)) s.length s.length false :: .int .i64 ((s.length : Int)) :: .int .i64 i :: .bool (decide (i < ((s.length : Int)))) :: .int .i64 i :: .ptr (some (.new p1 (0 + i.toNat * 1))) :: .int .u8 (bt cur i) :: .int .u8 (bt cur i) :: .bool (decide ((65 : Int) ≤ (bt cur i))) :: .bool false :: U :: U :: .bool false :: d21 :: d22 :: d23 :: d24 :: d25 :: d26 :: U :: U :: []), [], h, none⟩ (by kernel_rfl) ?_
        refine WpM.op (.int .i64 (i + 1)) _ (by kernel_rfl) (arith_add (by kernel_rfl) (by kernel_rfl) (by omega)) ?_
        refine WpM.run tab_ok 3 ⟨.code x33_9, [.loop x33_9, .blk 0, .seq x33_22], (.str s :: U :: .str [] :: .slice (some (.new p1 0)) s.length s.length false :: .int .i64 i :: .int .u8 (bt cur i) :: .str s :: .slice (some (.new p1 0)) s.length s.length false :: .slice (some (.new p1 0)) s.length s.length false :: .int .i64 ((s.length : Int)) :: .int .i64 (i + 1) :: .bool (decide (i < ((s.length : Int)))) :: .int .i64 i :: .ptr (some (.new p1 (0 + i.toNat * 1))) :: .int .u8 (bt cur i) :: .int .u8 (bt cur i) :: .bool (decide ((65 : Int) ≤ (bt cur i))) :: .bool false :: U :: U :: .bool false :: d21 :: d22 :: d23 :: d24 :: d25 :: .int .i64 (i + 1) :: U :: U :: []), [], h, none⟩ (by kernel_rfl) ?_
        refine ih _ ?_ _ h p1 (cur) _ _ _ _ _ _ _ _ _ _ _ _ _ _ _ _ _ _ rfl ?_ ?_ ?_ ?_ ?_
        · omega
        · omega
        · omega
        · have hb2 := hb h0 (by omega)
          first
            | (rw [hc]; exact (lowAt_small h0 (by omega) (by first | (left; omega) | (right; omega))).symm)
            | (rw [lowAt_big h0 (by omega) (by omega) (by omega), ← hc, hb2])
        · first | exact g1
        · first | exact l1
    · have c101p := dec_f c101
      refine WpM.run tab_ok 8 ⟨.ops (p33_23_1 :: o33_23.drop 2), [.seq .ret], (.str s :: U :: .str [] :: .slice (some (.new p1 0)) s.length s.length false :: d4 :: d5 :: .str s :: .slice (some (.new p1 0)) s.length s.length false :: .slice (some (.new p1 0)) s.length s.length false :: .int .i64 ((s.length : Int)) :: .int .i64 i :: .bool (decide (i < ((s.length : Int)))) :: d12 :: d13 :: d14 :: d15 :: d16 :: d17 :: d18 :: d19 :: d20 :: d21 :: d22 :: d23 :: d24 :: d25 :: d26 :: .slice (some (.new p1 0)) s.length s.length false :: U :: []), [], h, none⟩ (by kernel_rfl) ?_
      refine WpM.op (.str cur) _ (by kernel_rfl) (conv_str (bs := cur) (e := 5) (i := p1) (len := s.length) (lb := s.length) (ex := false) (by kernel_rfl) (by kernel_rfl) (by kernel_rfl) (by kernel_rfl) g1 (by exact hl)) ?_
      refine WpM.run tab_ok 4 ⟨.done .ret, [], (.str s :: U :: .str cur :: .slice (some (.new p1 0)) s.length s.length false :: d4 :: d5 :: .str s :: .slice (some (.new p1 0)) s.length s.length false :: .slice (some (.new p1 0)) s.length s.length false :: .int .i64 ((s.length : Int)) :: .int .i64 i :: .bool (decide (i < ((s.length : Int)))) :: d12 :: d13 :: d14 :: d15 :: d16 :: d17 :: d18 :: d19 :: d20 :: d21 :: d22 :: d23 :: d24 :: d25 :: d26 :: .slice (some (.new p1 0)) s.length s.length false :: .str cur :: []), [], h, none⟩ (by kernel_rfl) ?_
      refine WpM.ret (.str cur) h (by kernel_rfl) (by kernel_rfl) ?_
      rw [hc, lowAt_end (by omega)]
theorem low_ok {W : World} {s : List UInt8} (hs : s.length ≤ 140737488355328) : WpF Try.prog W prim4 33 [.str s] H.empty (fun v _ => v = .str (lower s)) := by
  refine WpF.m tab_ok (by kernel_rfl) rfl ?_
  refine WpM.cfg (c' := ⟨.code x33_0, [], (.str s :: us 28), [], H.empty, none⟩) (by kernel_rfl) ?_
  refine WpM.run tab_ok 8 ⟨.ops (p33_3_1 :: o33_3.drop 2), [.seq x33_4], (.str s :: U :: .str [] :: U :: U :: U :: .str s :: us 22), [], H.empty, none⟩ (by kernel_rfl) ?_
  refine WpM.opA (fun p => .slice (some (.new p 0)) s.length s.length false) (.cells (bv s) 5) (by kernel_rfl) (by kernel_rfl) (fun p1 h2 a3 => ?_)
  refine WpM.run tab_ok 13 ⟨.code x33_9, [.loop x33_9, .blk 0, .seq x33_22], (.str s :: U :: .str [] :: .slice (some (.new p1 0)) s.length s.length false :: U :: U :: .str s :: .slice (some (.new p1 0)) s.length s.length false :: .slice (some (.new p1 0)) s.length s.length false :: .int .i64 ((s.length : Int)) :: .int .i64 0 :: us 18), [], h2, none⟩ (by kernel_rfl) ?_
  exact low_loop hs _ 0 _ _ s _ _ _ _ _ _ _ _ _ _ _ _ _ _ _ _ _ _ rfl (by omega) (by omega) (lowAt_zero s).symm a3.get a3.lt
def q33 (l : List V) : Option V :=
  match l with
  | [.str s] => if s.length ≤ 140737488355328 then some (.str (lower s)) else none
  | _ => none
def prim5 : FuncId → Option (List V → H → Option (V × H)) := setPrim prim4 33 q33
theorem prim5s (W : World) (hW : WOK W) : Prims Try.prog W prim5 := by
  refine Prims.add base (prim4s W hW) ⟨_, _, Try.func33, rfl⟩ ?_
  intro w _ args v h
  unfold q33 at h
  split at h
  · split at h
    · rename_i hc; injection h with h; subst h; exact ⟨by simp only [old_cons, old_nil, old_int, old_str, old_bool, old_agg, old_tup, old_nils, Bool.and_true, Bool.true_and, hc], by simp only [old_cons, old_nil, old_int, old_str, old_bool, old_agg, old_tup, old_nils, Bool.and_true, Bool.true_and, hc], low_ok hc⟩
    · cases h
  · cases h
theorem lowr_loop {W : World} {s : List UInt8} (hs : s.length ≤ 140737488355328) (n : Nat) : ∀ (i : Int) (h : H) (p1 : Nat) (cur : List UInt8) (d7 d8 d9 d10 d11 d12 d13 d14 d15 d16 d17 d18 d19 d20 d21 d22 d23 d24 d25 d26 d27 d28 d29 d30 : V), n = ((s.length : Int) - i).toNat → (0 ≤ i) → (i ≤ (s.length : Int)) → (cur = lowAt s i) → (h.get p1 = some (.cells (bv cur) 5)) → (p1 < h.nx) → WpM Try.prog W prim5 ⟨.code x21_9, [.loop x21_9, .blk 0, .seq x21_20], (.str s :: U :: .str [] :: .slice (some (.new p1 0)) s.length s.length false :: .int .i64 i :: .str s :: .slice (some (.new p1 0)) s.length s.length false :: d7 :: d8 :: d9 :: d10 :: d11 :: d12 :: d13 :: d14 :: d15 :: d16 :: d17 :: d18 :: d19 :: d20 :: d21 :: d22 :: d23 :: d24 :: d25 :: d26 :: d27 :: d28 :: d29 :: d30 :: U :: U :: []), [], h, none⟩ (retQ Try.prog W [.tmp 2] (fun v _ => v = .str (lower s))) := by
  induction n using Nat.strongRecOn with
  | _ n ih =>
    intro i h p1 cur d7 d8 d9 d10 d11 d12 d13 d14 d15 d16 d17 d18 d19 d20 d21 d22 d23 d24 d25 d26 d27 d28 d29 d30 hn h0 h1 hc g1 l1
    have hl : s.length = cur.length := by rw [hc, lowAt_length]
    have hl2 : (s.length : Int) = (cur.length : Int) := by omega
    have hb : 0 ≤ i → i < (s.length : Int) → bt cur i = bt s i := fun a b => by rw [hc, lowAt_bt a b]
    have hr := bt_range cur i
    refine WpM.run tab_ok 9 ⟨.code x21_12, [.seq x21_13, .loop x21_9, .blk 0, .seq x21_20], (.str s :: U :: .str [] :: .slice (some (.new p1 0)) s.length s.length false :: .int .i64 i :: .str s :: .slice (some (.new p1 0)) s.length s.length false :: .int .i64 i :: .slice (some (.new p1 0)) s.length s.length false :: .int .i64 ((s.length : Int)) :: .bool (decide (i < ((s.length : Int)))) :: d11 :: d12 :: d13 :: d14 :: d15 :: d16 :: d17 :: d18 :: d19 :: d20 :: d21 :: d22 :: d23 :: d24 :: d25 :: d26 :: d27 :: d28 :: d29 :: d30 :: U :: U :: []), [], h, none⟩ (by kernel_rfl) ?_
    refine WpM.cond (t := (decide (i < ((s.length : Int))))) (by kernel_rfl) (fun c101 => ?_) (fun c101 => ?_)
    · have c101p := dec_t c101
      refine WpM.run tab_ok 8 ⟨.ops (p21_16_2 :: o21_16.drop 3), [.seq x21_17, .blk 1, .seq x21_19, .loop x21_9, .blk 0, .seq x21_20], (.str s :: U :: .str [] :: .slice (some (.new p1 0)) s.length s.length false :: .int .i64 i :: .str s :: .slice (some (.new p1 0)) s.length s.length false :: .int .i64 i :: .slice (some (.new p1 0)) s.length s.length false :: .int .i64 ((s.length : Int)) :: .bool (decide (i < ((s.length : Int)))) :: d11 :: d12 :: .slice (some (.new p1 0)) s.length s.length false :: .int .i64 i :: d15 :: d16 :: d17 :: d18 :: d19 :: d20 :: d21 :: d22 :: d23 :: d24 :: d25 :: d26 :: d27 :: d28 :: d29 :: d30 :: U :: U :: []), [], h, none⟩ (by kernel_rfl) ?_
      refine WpM.op (.ptr (some (.new p1 (0 + i.toNat * 1)))) _ (by kernel_rfl) (indexAddr_sl (e := 5) (a := (.new p1 0)) (len := s.length) (lb := s.length) (ex := false) (z := 1) (k := .i64) (n := i) (by kernel_rfl) (by kernel_rfl) (by kernel_rfl) (by kernel_rfl) (by omega)) ?_
      refine WpM.run tab_ok 0 ⟨.ops (p21_16_3 :: o21_16.drop 4), [.seq x21_17, .blk 1, .seq x21_19, .loop x21_9, .blk 0, .seq x21_20], (.str s :: U :: .str [] :: .slice (some (.new p1 0)) s.length s.length false :: .int .i64 i :: .str s :: .slice (some (.new p1 0)) s.length s.length false :: .int .i64 i :: .slice (some (.new p1 0)) s.length s.length false :: .int .i64 ((s.length : Int)) :: .bool (decide (i < ((s.length : Int)))) :: d11 :: d12 :: .slice (some (.new p1 0)) s.length s.length false :: .int .i64 i :: .ptr (some (.new p1 (0 + i.toNat * 1))) :: d16 :: d17 :: d18 :: d19 :: d20 :: d21 :: d22 :: d23 :: d24 :: d25 :: d26 :: d27 :: d28 :: d29 :: d30 :: U :: U :: []), [], h, none⟩ (by kernel_rfl) ?_
      refine WpM.op (.int .u8 (bt cur i)) _ (by kernel_rfl) (load_new (o := (0 + i.toNat * 1)) (by kernel_rfl) g1 (bv_ld (i := i) (by kernel_rfl) (by omega) (by omega))) ?_
      refine WpM.run tab_ok 2 ⟨.ops (p21_16_6 :: o21_16.drop 7), [.seq x21_17, .blk 1, .seq x21_19, .loop x21_9, .blk 0, .seq x21_20], (.str s :: U :: .str [] :: .slice (some (.new p1 0)) s.length s.length false :: .int .i64 i :: .str s :: .slice (some (.new p1 0)) s.length s.length false :: .int .i64 i :: .slice (some (.new p1 0)) s.length s.length false :: .int .i64 ((s.length : Int)) :: .bool (decide (i < ((s.length : Int)))) :: d11 :: d12 :: .slice (some (.new p1 0)) s.length s.length false :: .int .i64 i :: .ptr (some (.new p1 (0 + i.toNat * 1))) :: .int .u8 (bt cur i) :: .bool (decide ((bt cur i) ≥ 65)) :: .bool (decide ((bt cur i) ≥ 65)) :: d19 :: d20 :: d21 :: d22 :: d23 :: d24 :: d25 :: d26 :: d27 :: d28 :: d29 :: d30 :: U :: U :: []), [], h, none⟩ (by kernel_rfl) ?_
      refine WpM.guard (b := (decide ((bt cur i) ≥ 65))) (by kernel_rfl) (fun c102 => ?_) (fun c102 => ?_)
      · have c102p := dec_t c102
        refine WpM.run tab_ok 2 ⟨.ops (p21_16_8 :: o21_16.drop 9), [.seq x21_17, .blk 1, .seq x21_19, .loop x21_9, .blk 0, .seq x21_20], (.str s :: U :: .str [] :: .slice (some (.new p1 0)) s.length s.length false :: .int .i64 i :: .str s :: .slice (some (.new p1 0)) s.length s.length false :: .int .i64 i :: .slice (some (.new p1 0)) s.length s.length false :: .int .i64 ((s.length : Int)) :: .bool (decide (i < ((s.length : Int)))) :: d11 :: d12 :: .slice (some (.new p1 0)) s.length s.length false :: .int .i64 i :: .ptr (some (.new p1 (0 + i.toNat * 1))) :: .int .u8 (bt cur i) :: .bool (decide ((bt cur i) ≥ 65)) :: .bool true :: .slice (some (.new p1 0)) s.length s.length false :: .int .i64 i :: d21 :: d22 :: d23 :: d24 :: d25 :: d26 :: d27 :: d28 :: d29 :: d30 :: U :: U :: []), [], h, none⟩ (by kernel_rfl) ?_
        refine WpM.op (.ptr (some (.new p1 (0 + i.toNat * 1)))) _ (by kernel_rfl) (indexAddr_sl (e := 5) (a := (.new p1 0)) (len := s.length) (lb := s.length) (ex := false) (z := 1) (k := .i64) (n := i) (by kernel_rfl) (by kernel_rfl) (by kernel_rfl) (by kernel_rfl) (by omega)) ?_
        refine WpM.run tab_ok 0 ⟨.ops (p21_16_9 :: o21_16.drop 10), [.seq x21_17, .blk 1, .seq x21_19, .loop x21_9, .blk 0, .seq x21_20], (.str s :: U :: .str [] :: .slice (some (.new p1 0)) s.length s.length false :: .int .i64 i :: .str s :: .slice (some (.new p1 0)) s.length s.length false :: .int .i64 i :: .slice (some (.new p1 0)) s.length s.length false :: .int .i64 ((s.length : Int)) :: .bool (decide (i < ((s.length : Int)))) :: d11 :: d12 :: .slice (some (.new p1 0)) s.length s.length false :: .int .i64 i :: .ptr (some (.new p1 (0 + i.toNat * 1))) :: .int .u8 (bt cur i) :: .bool (decide ((bt cur i) ≥ 65)) :: .bool true :: .slice (some (.new p1 0)) s.length s.length false :: .int .i64 i :: .ptr (some (.new p1 (0 + i.toNat * 1))) :: d22 :: d23 :: d24 :: d25 :: d26 :: d27 :: d28 :: d29 :: d30 :: U :: U :: []), [], h, none⟩ (by kernel_rfl) ?_
        refine WpM.op (.int .u8 (bt cur i)) _ (by kernel_rfl) (load_new (o := (0 + i.toNat * 1)) (by kernel_rfl) g1 (bv_ld (i := i) (by kernel_rfl) (by omega) (by omega))) ?_
        refine WpM.run tab_ok 4 ⟨.code x21_17, [.blk 1, .seq x21_19, .loop x21_9, .blk 0, .seq x21_20], (.str s :: U :: .str [] :: .slice (some (.new p1 0)) s.length s.length false :: .int .i64 i :: .str s :: .slice (some (.new p1 0)) s.length s.length false :: .int .i64 i :: .slice (some (.new p1 0)) s.length s.length false :: .int .i64 ((s.length : Int)) :: .bool (decide (i < ((s.length : Int)))) :: d11 :: d12 :: .slice (some (.new p1 0)) s.length s.length false :: .int .i64 i :: .ptr (some (.new p1 (0 + i.toNat * 1))) :: .int .u8 (bt cur i) :: .bool (decide ((bt cur i) ≥ 65)) :: .bool true :: .slice (some (.new p1 0)) s.length s.length false :: .int .i64 i :: .ptr (some (.new p1 (0 + i.toNat * 1))) :: .int .u8 (bt cur i) :: .bool (decide ((bt cur i) ≤ 90)) :: .bool (decide ((bt cur i) ≤ 90)) :: d25 :: d26 :: d27 :: d28 :: d29 :: d30 :: U :: U :: []), [], h, none⟩ (by kernel_rfl) ?_
        refine WpM.cond (t := (decide ((bt cur i) ≤ 90))) (by kernel_rfl) (fun c103 => ?_) (fun c103 => ?_)
        · have c103p := dec_t c103
          refine WpM.run tab_ok 3 ⟨.ops (p21_18_2 :: o21_18.drop 3), [.blk 1, .seq x21_19, .loop x21_9, .blk 0, .seq x21_20], (.str s :: U :: .str [] :: .slice (some (.new p1 0)) s.length s.length false :: .int .i64 i :: .str s :: .slice (some (.new p1 0)) s.length s.length false :: .int .i64 i :: .slice (some (.new p1 0)) s.length s.length false :: .int .i64 ((s.length : Int)) :: .bool (decide (i < ((s.length : Int)))) :: d11 :: d12 :: .slice (some (.new p1 0)) s.length s.length false :: .int .i64 i :: .ptr (some (.new p1 (0 + i.toNat * 1))) :: .int .u8 (bt cur i) :: .bool (decide ((bt cur i) ≥ 65)) :: .bool true :: .slice (some (.new p1 0)) s.length s.length false :: .int .i64 i :: .ptr (some (.new p1 (0 + i.toNat * 1))) :: .int .u8 (bt cur i) :: .bool (decide ((bt cur i) ≤ 90)) :: .bool (decide ((bt cur i) ≤ 90)) :: .slice (some (.new p1 0)) s.length s.length false :: .int .i64 i :: d27 :: d28 :: d29 :: d30 :: U :: U :: []), [], h, none⟩ (by kernel_rfl) ?_
          refine WpM.op (.ptr (some (.new p1 (0 + i.toNat * 1)))) _ (by kernel_rfl) (indexAddr_sl (e := 5) (a := (.new p1 0)) (len := s.length) (lb := s.length) (ex := false) (z := 1) (k := .i64) (n := i) (by kernel_rfl) (by kernel_rfl) (by kernel_rfl) (by kernel_rfl) (by omega)) ?_
          refine WpM.run tab_ok 0 ⟨.ops (p21_18_3 :: o21_18.drop 4), [.blk 1, .seq x21_19, .loop x21_9, .blk 0, .seq x21_20], (.str s :: U :: .str [] :: .slice (some (.new p1 0)) s.length s.length false :: .int .i64 i :: .str s :: .slice (some (.new p1 0)) s.length s.length false :: .int .i64 i :: .slice (some (.new p1 0)) s.length s.length false :: .int .i64 ((s.length : Int)) :: .bool (decide (i < ((s.length : Int)))) :: d11 :: d12 :: .slice (some (.new p1 0)) s.length s.length false :: .int .i64 i :: .ptr (some (.new p1 (0 + i.toNat * 1))) :: .int .u8 (bt cur i) :: .bool (decide ((bt cur i) ≥ 65)) :: .bool true :: .slice (some (.new p1 0)) s.length s.length false :: .int .i64 i :: .ptr (some (.new p1 (0 + i.toNat * 1))) :: .int .u8 (bt cur i) :: .bool (decide ((bt cur i) ≤ 90)) :: .bool (decide ((bt cur i) ≤ 90)) :: .slice (some (.new p1 0)) s.length s.length false :: .int .i64 i :: .ptr (some (.new p1 (0 + i.toNat * 1))) :: d28 :: d29 :: d30 :: U :: U :: []), [], h, none⟩ (by kernel_rfl) ?_
          refine WpM.op (.int .u8 (bt cur i)) _ (by kernel_rfl) (load_new (o := (0 + i.toNat * 1)) (by kernel_rfl) g1 (bv_ld (i := i) (by kernel_rfl) (by omega) (by omega))) ?_
          refine WpM.run tab_ok 0 ⟨.ops (p21_18_4 :: o21_18.drop 5), [.blk 1, .seq x21_19, .loop x21_9, .blk 0, .seq x21_20], (.str s :: U :: .str [] :: .slice (some (.new p1 0)) s.length s.length false :: .int .i64 i :: .str s :: .slice (some (.new p1 0)) s.length s.length false :: .int .i64 i :: .slice (some (.new p1 0)) s.length s.length false :: .int .i64 ((s.length : Int)) :: .bool (decide (i < ((s.length : Int)))) :: d11 :: d12 :: .slice (some (.new p1 0)) s.length s.length false :: .int .i64 i :: .ptr (some (.new p1 (0 + i.toNat * 1))) :: .int .u8 (bt cur i) :: .bool (decide ((bt cur i) ≥ 65)) :: .bool true :: .slice (some (.new p1 0)) s.length s.length false :: .int .i64 i :: .ptr (some (.new p1 (0 + i.toNat * 1))) :: .int .u8 (bt cur i) :: .bool (decide ((bt cur i) ≤ 90)) :: .bool (decide ((bt cur i) ≤ 90)) :: .slice (some (.new p1 0)) s.length s.length false :: .int .i64 i :: .ptr (some (.new p1 (0 + i.toNat * 1))) :: .int .u8 (bt cur i) :: d29 :: d30 :: U :: U :: []), [], h, none⟩ (by kernel_rfl) ?_
          refine WpM.op (.int .u8 ((bt cur i) + 32)) _ (by kernel_rfl) (arith_addU (by kernel_rfl) (by kernel_rfl) (by omega)) ?_
          refine WpM.run tab_ok 0 ⟨.ops (p21_18_5 :: o21_18.drop 6), [.blk 1, .seq x21_19, .loop x21_9, .blk 0, .seq x21_20], (.str s :: U :: .str [] :: .slice (some (.new p1 0)) s.length s.length false :: .int .i64 i :: .str s :: .slice (some (.new p1 0)) s.length s.length false :: .int .i64 i :: .slice (some (.new p1 0)) s.length s.length false :: .int .i64 ((s.length : Int)) :: .bool (decide (i < ((s.length : Int)))) :: d11 :: d12 :: .slice (some (.new p1 0)) s.length s.length false :: .int .i64 i :: .ptr (some (.new p1 (0 + i.toNat * 1))) :: .int .u8 (bt cur i) :: .bool (decide ((bt cur i) ≥ 65)) :: .bool true :: .slice (some (.new p1 0)) s.length s.length false :: .int .i64 i :: .ptr (some (.new p1 (0 + i.toNat * 1))) :: .int .u8 (bt cur i) :: .bool (decide ((bt cur i) ≤ 90)) :: .bool (decide ((bt cur i) ≤ 90)) :: .slice (some (.new p1 0)) s.length s.length false :: .int .i64 i :: .ptr (some (.new p1 (0 + i.toNat * 1))) :: .int .u8 (bt cur i) :: .int .u8 ((bt cur i) + 32) :: d30 :: U :: U :: []), [], h, none⟩ (by kernel_rfl) ?_
          refine WpM.op (.ptr (some (.new p1 (0 + i.toNat * 1)))) _ (by kernel_rfl) (indexAddr_sl (e := 5) (a := (.new p1 0)) (len := s.length) (lb := s.length) (ex := false) (z := 1) (k := .i64) (n := i) (by kernel_rfl) (by kernel_rfl) (by kernel_rfl) (by kernel_rfl) (by omega)) ?_
          refine WpM.run tab_ok 0 ⟨.ops (p21_18_6 :: o21_18.drop 7), [.blk 1, .seq x21_19, .loop x21_9, .blk 0, .seq x21_20], (.str s :: U :: .str [] :: .slice (some (.new p1 0)) s.length s.length false :: .int .i64 i :: .str s :: .slice (some (.new p1 0)) s.length s.length false :: .int .i64 i :: .slice (some (.new p1 0)) s.length s.length false :: .int .i64 ((s.length : Int)) :: .bool (decide (i < ((s.length : Int)))) :: d11 :: d12 :: .slice (some (.new p1 0)) s.length s.length false :: .int .i64 i :: .ptr (some (.new p1 (0 + i.toNat * 1))) :: .int .u8 (bt cur i) :: .bool (decide ((bt cur i) ≥ 65)) :: .bool true :: .slice (some (.new p1 0)) s.length s.length false :: .int .i64 i :: .ptr (some (.new p1 (0 + i.toNat * 1))) :: .int .u8 (bt cur i) :: .bool (decide ((bt cur i) ≤ 90)) :: .bool (decide ((bt cur i) ≤ 90)) :: .slice (some (.new p1 0)) s.length s.length false :: .int .i64 i :: .ptr (some (.new p1 (0 + i.toNat * 1))) :: .int .u8 (bt cur i) :: .int .u8 ((bt cur i) + 32) :: .ptr (some (.new p1 (0 + i.toNat * 1))) :: U :: U :: []), [], h, none⟩ (by kernel_rfl) ?_
          refine WpM.opS U p1 (some (.cells (bv (cur.set i.toNat (UInt8.ofNat ((bt cur i) + 32).toNat))) 5)) (by kernel_rfl) (store_new (o := (0 + i.toNat * 1)) (v := .int .u8 ((bt cur i) + 32)) (by kernel_rfl) (by kernel_rfl) g1 (bv_st (i := i) (by kernel_rfl) (by omega) (by omega) (by omega))) (fun h104 a105 => ?_)
          refine WpM.run tab_ok 5 ⟨.ops (p21_19_1 :: o21_19.drop 2), [.loop x21_9, .blk 0, .seq x21_20], (.str s :: U :: .str [] :: .slice (some (.new p1 0)) s.length s.length false :: .int .i64 i :: .str s :: .slice (some (.new p1 0)) s.length s.length false :: .int .i64 i :: .slice (some (.new p1 0)) s.length s.length false :: .int .i64 ((s.length : Int)) :: .bool (decide (i < ((s.length : Int)))) :: .int .i64 i :: d12 :: .slice (some (.new p1 0)) s.length s.length false :: .int .i64 i :: .ptr (some (.new p1 (0 + i.toNat * 1))) :: .int .u8 (bt cur i) :: .bool (decide ((bt cur i) ≥ 65)) :: .bool true :: .slice (some (.new p1 0)) s.length s.length false :: .int .i64 i :: .ptr (some (.new p1 (0 + i.toNat * 1))) :: .int .u8 (bt cur i) :: .bool (decide ((bt cur i) ≤ 90)) :: .bool (decide ((bt cur i) ≤ 90)) :: .slice (some (.new p1 0)) s.length s.length false :: .int .i64 i :: .ptr (some (.new p1 (0 + i.toNat * 1))) :: .int .u8 (bt cur i) :: .int .u8 ((bt cur i) + 32) :: .ptr (some (.new p1 (0 + i.toNat * 1))) :: U :: U :: []), [], h104, none⟩ (by kernel_rfl) ?_
          refine WpM.op (.int .i64 (i + 1)) _ (by kernel_rfl) (arith_add (by kernel_rfl) (by kernel_rfl) (by omega)) ?_
          refine WpM.run tab_ok 3 ⟨.code x21_9, [.loop x21_9, .blk 0, .seq x21_20], (.str s :: U :: .str [] :: .slice (some (.new p1 0)) s.length s.length false :: .int .i64 (i + 1) :: .str s :: .slice (some (.new p1 0)) s.length s.length false :: .int .i64 i :: .slice (some (.new p1 0)) s.length s.length false :: .int .i64 ((s.length : Int)) :: .bool (decide (i < ((s.length : Int)))) :: .int .i64 i :: .int .i64 (i + 1) :: .slice (some (.new p1 0)) s.length s.length false :: .int .i64 i :: .ptr (some (.new p1 (0 + i.toNat * 1))) :: .int .u8 (bt cur i) :: .bool (decide ((bt cur i) ≥ 65)) :: .bool true :: .slice (some (.new p1 0)) s.length s.length false :: .int .i64 i :: .ptr (some (.new p1 (0 + i.toNat * 1))) :: .int .u8 (bt cur i) :: .bool (decide ((bt cur i) ≤ 90)) :: .bool (decide ((bt cur i) ≤ 90)) :: .slice (some (.new p1 0)) s.length s.length false :: .int .i64 i :: .ptr (some (.new p1 (0 + i.toNat * 1))) :: .int .u8 (bt cur i) :: .int .u8 ((bt cur i) + 32) :: .ptr (some (.new p1 (0 + i.toNat * 1))) :: U :: U :: []), [], h104, none⟩ (by kernel_rfl) ?_
          refine ih _ ?_ _ h104 p1 (cur.set i.toNat (UInt8.ofNat ((bt cur i) + 32).toNat)) _ _ _ _ _ _ _ _ _ _ _ _ _ _ _ _ _ _ _ _ _ _ _ _ rfl ?_ ?_ ?_ ?_ ?_
          · omega
          · omega
          · omega
          · have hb2 := hb h0 (by omega)
            first
              | (rw [hc]; exact (lowAt_small h0 (by omega) (by first | (left; omega) | (right; omega))).symm)
              | (rw [lowAt_big h0 (by omega) (by omega) (by omega), ← hc, hb2])
          · first | exact a105.get
          · first | exact (a105.le l1)
        · have c103p := dec_f c103
          refine WpM.run tab_ok 5 ⟨.ops (p21_19_1 :: o21_19.drop 2), [.loop x21_9, .blk 0, .seq x21_20], (.str s :: U :: .str [] :: .slice (some (.new p1 0)) s.length s.length false :: .int .i64 i :: .str s :: .slice (some (.new p1 0)) s.length s.length false :: .int .i64 i :: .slice (some (.new p1 0)) s.length s.length false :: .int .i64 ((s.length : Int)) :: .bool (decide (i < ((s.length : Int)))) :: .int .i64 i :: d12 :: .slice (some (.new p1 0)) s.length s.length false :: .int .i64 i :: .ptr (some (.new p1 (0 + i.toNat * 1))) :: .int .u8 (bt cur i) :: .bool (decide ((bt cur i) ≥ 65)) :: .bool true :: .slice (some (.new p1 0)) s.length s.length false :: .int .i64 i :: .ptr (some (.new p1 (0 + i.toNat * 1))) :: .int .u8 (bt cur i) :: .bool (decide ((bt cur i) ≤ 90)) :: .bool (decide ((bt cur i) ≤ 90)) :: d25 :: d26 :: d27 :: d28 :: d29 :: d30 :: U :: U :: []), [], h, none⟩ (by kernel_rfl) ?_
          refine WpM.op (.int .i64 (i + 1)) _ (by kernel_rfl) (arith_add (by kernel_rfl) (by kernel_rfl) (by omega)) ?_
          refine WpM.run tab_ok 3 ⟨.code x21_9, [.loop x21_9, .blk 0, .seq x21_20], (.str s :: U :: .str [] :: .slice (some (.new p1 0)) s.length s.length false :: .int .i64 (i + 1) :: .str s :: .slice (some (.new p1 0)) s.length s.length false :: .int .i64 i :: .slice (some (.new p1 0)) s.length s.length false :: .int .i64 ((s.length : Int)) :: .bool (decide (i < ((s.length : Int)))) :: .int .i64 i :: .int .i64 (i + 1) :: .slice (some (.new p1 0)) s.length s.length false :: .int .i64 i :: .ptr (some (.new p1 (0 + i.toNat * 1))) :: .int .u8 (bt cur i) :: .bool (decide ((bt cur i) ≥ 65)) :: .bool true :: .slice (some (.new p1 0)) s.length s.length false :: .int .i64 i :: .ptr (some (.new p1 (0 + i.toNat * 1))) :: .int .u8 (bt cur i) :: .bool (decide ((bt cur i) ≤ 90)) :: .bool (decide ((bt cur i) ≤ 90)) :: d25 :: d26 :: d27 :: d28 :: d29 :: d30 :: U :: U :: []), [], h, none⟩ (by kernel_rfl) ?_
          refine ih _ ?_ _ h p1 (cur) _ _ _ _ _ _ _ _ _ _ _ _ _ _ _ _ _ _ _ _ _ _ _ _ rfl ?_ ?_ ?_ ?_ ?_
          · omega
          · omega
          · omega
          · have hb2 := hb h0 (by omega)
            first
              | (rw [hc]; exact (lowAt_small h0 (by omega) (by first | (left; omega) | (right; omega))).symm)
              | (rw [lowAt_big h0 (by omega) (by omega) (by omega), ← hc, hb2])
          · first | exact g1
          · first | exact l1
      · have c102p := dec_f c102
        refine WpM.run tab_ok 14 ⟨.ops (p21_19_1 :: o21_19.drop 2), [.loop x21_9, .blk 0, .seq x21_20], (.str s :: U :: .str [] :: .slice (some (.new p1 0)) s.length s.length false :: .int .i64 i :: .str s :: .slice (some (.new p1 0)) s.length s.length false :: .int .i64 i :: .slice (some (.new p1 0)) s.length s.length false :: .int .i64 ((s.length : Int)) :: .bool (decide (i < ((s.length : Int)))) :: .int .i64 i :: d12 :: .slice (some (.new p1 0)) s.length s.length false :: .int .i64 i :: .ptr (some (.new p1 (0 + i.toNat * 1))) :: .int .u8 (bt cur i) :: .bool (decide ((bt cur i) ≥ 65)) :: .bool false :: U :: U :: U :: U :: U :: .bool false :: d25 :: d26 :: d27 :: d28 :: d29 :: d30 :: U :: U :: []), [], h, none⟩ (by kernel_rfl) ?_
        refine WpM.op (.int .i64 (i + 1)) _ (by kernel_rfl) (arith_add (by kernel_rfl) (by kernel_rfl) (by omega)) ?_
        refine WpM.run tab_ok 3 ⟨.code x21_9, [.loop x21_9, .blk 0, .seq x21_20], (.str s :: U :: .str [] :: .slice (some (.new p1 0)) s.length s.length false :: .int .i64 (i + 1) :: .str s :: .slice (some (.new p1 0)) s.length s.length false :: .int .i64 i :: .slice (some (.new p1 0)) s.length s.length false :: .int .i64 ((s.length : Int)) :: .bool (decide (i < ((s.length : Int)))) :: .int .i64 i :: .int .i64 (i + 1) :: .slice (some (.new p1 0)) s.length s.length false :: .int .i64 i :: .ptr (some (.new p1 (0 + i.toNat * 1))) :: .int .u8 (bt cur i) :: .bool (decide ((bt cur i) ≥ 65)) :: .bool false :: U :: U :: U :: U :: U :: .bool false :: d25 :: d26 :: d27 :: d28 :: d29 :: d30 :: U :: U :: []), [], h, none⟩ (by kernel_rfl) ?_
        refine ih _ ?_ _ h p1 (cur) _ _ _ _ _ _ _ _ _ _ _ _ _ _ _ _ _ _ _ _ _ _ _ _ rfl ?_ ?_ ?_ ?_ ?_
        · omega
        · omega
        · omega
        · have hb2 := hb h0 (by omega)
          first
            | (rw [hc]; exact (lowAt_small h0 (by omega) (by first | (left; omega) | (right; omega))).symm)
            | (rw [lowAt_big h0 (by omega) (by omega) (by omega), ← hc, hb2])
        · first | exact g1
        · first | exact l1
    · have c101p := dec_f c101
      refine WpM.run tab_ok 8 ⟨.ops (p21_21_1 :: o21_21.drop 2), [.seq .ret], (.str s :: U :: .str [] :: .slice (some (.new p1 0)) s.length s.length false :: .int .i64 i :: .str s :: .slice (some (.new p1 0)) s.length s.length false :: .int .i64 i :: .slice (some (.new p1 0)) s.length s.length false :: .int .i64 ((s.length : Int)) :: .bool (decide (i < ((s.length : Int)))) :: d11 :: d12 :: d13 :: d14 :: d15 :: d16 :: d17 :: d18 :: d19 :: d20 :: d21 :: d22 :: d23 :: d24 :: d25 :: d26 :: d27 :: d28 :: d29 :: d30 :: .slice (some (.new p1 0)) s.length s.length false :: U :: []), [], h, none⟩ (by kernel_rfl) ?_
      refine WpM.op (.str cur) _ (by kernel_rfl) (conv_str (bs := cur) (e := 5) (i := p1) (len := s.length) (lb := s.length) (ex := false) (by kernel_rfl) (by kernel_rfl) (by kernel_rfl) (by kernel_rfl) g1 (by exact hl)) ?_
      refine WpM.run tab_ok 4 ⟨.done .ret, [], (.str s :: U :: .str cur :: .slice (some (.new p1 0)) s.length s.length false :: .int .i64 i :: .str s :: .slice (some (.new p1 0)) s.length s.length false :: .int .i64 i :: .slice (some (.new p1 0)) s.length s.length false :: .int .i64 ((s.length : Int)) :: .bool (decide (i < ((s.length : Int)))) :: d11 :: d12 :: d13 :: d14 :: d15 :: d16 :: d17 :: d18 :: d19 :: d20 :: d21 :: d22 :: d23 :: d24 :: d25 :: d26 :: d27 :: d28 :: d29 :: d30 :: .slice (some (.new p1 0)) s.length s.length false :: .str cur :: []), [], h, none⟩ (by kernel_rfl) ?_
      refine WpM.ret (.str cur) h (by kernel_rfl) (by kernel_rfl) ?_
      rw [hc, lowAt_end (by omega)]
theorem lowr_ok {W : World} {s : List UInt8} (hs : s.length ≤ 140737488355328) : WpF Try.prog W prim5 21 [.str s] H.empty (fun v _ => v = .str (lower s)) := by
  refine WpF.m tab_ok (by kernel_rfl) rfl ?_
  refine WpM.cfg (c' := ⟨.code x21_0, [], (.str s :: us 32), [], H.empty, none⟩) (by kernel_rfl) ?_
  refine WpM.run tab_ok 8 ⟨.ops (p21_3_1 :: o21_3.drop 2), [.seq x21_4], (.str s :: U :: .str [] :: U :: U :: .str s :: us 27), [], H.empty, none⟩ (by kernel_rfl) ?_
  refine WpM.opA (fun p => .slice (some (.new p 0)) s.length s.length false) (.cells (bv s) 5) (by kernel_rfl) (by kernel_rfl) (fun p1 h2 a3 => ?_)
  refine WpM.run tab_ok 11 ⟨.code x21_9, [.loop x21_9, .blk 0, .seq x21_20], (.str s :: U :: .str [] :: .slice (some (.new p1 0)) s.length s.length false :: .int .i64 0 :: .str s :: .slice (some (.new p1 0)) s.length s.length false :: us 26), [], h2, none⟩ (by kernel_rfl) ?_
  exact lowr_loop hs _ 0 _ _ s _ _ _ _ _ _ _ _ _ _ _ _ _ _ _ _ _ _ _ _ _ _ _ _ rfl (by omega) (by omega) (lowAt_zero s).symm a3.get a3.lt
def q21 (l : List V) : Option V :=
  match l with
  | [.str s] => if s.length ≤ 140737488355328 then some (.str (lower s)) else none
  | _ => none
def prim6 : FuncId → Option (List V → H → Option (V × H)) := setPrim prim5 21 q21
theorem prim6s (W : World) (hW : WOK W) : Prims Try.prog W prim6 := by
  refine Prims.add base (prim5s W hW) ⟨_, _, Try.func21, rfl⟩ ?_
  intro w _ args v h
  unfold q21 at h
  split at h
  · split at h
    · rename_i hc; injection h with h; subst h; exact ⟨by simp only [old_cons, old_nil, old_int, old_str, old_bool, old_agg, old_tup, old_nils, Bool.and_true, Bool.true_and, hc], by simp only [old_cons, old_nil, old_int, old_str, old_bool, old_agg, old_tup, old_nils, Bool.and_true, Bool.true_and, hc], lowr_ok hc⟩
    · cases h
  · cases h
def capM : List (List UInt8 × List UInt8) → List UInt8 → List UInt8
  | [], s => s
  | (a, b) :: l, s => if a == s then b else capM l s
def tagM (p : Int) (s : List UInt8) : List UInt8 := if p == 1 then capM [(k_foreignobject, k_foreignObject), (k_lineargradient, k_linearGradient), (k_radialgradient, k_radialGradient), (k_textpath, k_textPath), (k_clippath, k_clipPath), (k_animatetransform, k_animateTransform)] s else s
def textP (p : Int) (s : List UInt8) : Bool := p == 2 && (s == k_mi || (s == k_mo || (s == k_mn || (s == k_ms || s == k_mtext))))
def htmlP (p : Int) (s : List UInt8) : Bool := p == 1 && (s == k_foreignObject || (s == k_desc || s == k_title))
theorem am_k_mimomnmsmtext (s : List UInt8) : among s k_mimomnmsmtext = (s == k_mi || (s == k_mo || (s == k_mn || (s == k_ms || s == k_mtext)))) := by
  unfold among
  rw [show words k_mimomnmsmtext = [k_mi, k_mo, k_mn, k_ms, k_mtext] from by kernel_rfl]
  simp only [List.any_cons, List.any_nil, Bool.or_false]
theorem am_k_foreignObjectdesctitle (s : List UInt8) : among s k_foreignObjectdesctitle = (s == k_foreignObject || (s == k_desc || s == k_title)) := by
  unfold among
  rw [show words k_foreignObjectdesctitle = [k_foreignObject, k_desc, k_title] from by kernel_rfl]
  simp only [List.any_cons, List.any_nil, Bool.or_false]
theorem tag {W : World} {p : Int} {s : List UInt8} (hs : s.length ≤ 100000) : WpF Try.prog W prim6 8 [.int .i64 p, .str s] H.empty (fun v _ => v = .str (tagM p s)) := by
  refine WpF.m tab_ok (by kernel_rfl) rfl ?_
  refine WpM.cfg (c' := ⟨.code x8_0, [], (.int .i64 p :: .str s :: us 11), [], H.empty, none⟩) (by kernel_rfl) ?_
  refine WpM.run tab_ok 12 ⟨.code x8_5, [.seq x8_10], (.int .i64 p :: .str s :: U :: U :: .str [] :: U :: .int .i64 p :: .bool (p == 1) :: us 5), [], H.empty, none⟩ (by kernel_rfl) ?_
  refine WpM.cond (t := (p == 1)) (by kernel_rfl) (fun c1 => ?_) (fun c1 => ?_)
  · have c1p := beq_t c1
    subst c1p
    refine WpM.run tab_ok 5 ⟨.ops (p22_1_0 :: o22_1.drop 1), [.seq x22_2, .call [.cell 0 40] (some 8) (o8_7.drop 1) (.int .i64 1 :: .str s :: U :: U :: .str [] :: U :: .int .i64 1 :: .bool true :: us 5) [] none, .seq x8_8, .seq x8_10], [U, U], [], H.empty, none⟩ (by kernel_rfl) ?_
    refine WpM.opA (fun p => .ptr (some (.new p 0))) (.cells [.str [], .str [], .str [], .str [], .str [], .str []] 40) (by kernel_rfl) (by kernel_rfl) (fun p2 h3 a4 => ?_)
    refine WpM.run tab_ok 5 ⟨.ops (p22_3_1 :: o22_3.drop 2), [.seq .ret, .call [.cell 0 40] (some 8) (o8_7.drop 1) (.int .i64 1 :: .str s :: U :: U :: .str [] :: U :: .int .i64 1 :: .bool true :: us 5) [] none, .seq x8_8, .seq x8_10], [.ptr (some (.new p2 0)), .agg [.str k_foreignObject, .str k_linearGradient, .str k_radialGradient, .str k_textPath, .str k_clipPath, .str k_animateTransform]], [], h3, none⟩ (by kernel_rfl) ?_
    refine WpM.opS U p2 (some (.cells [.str k_foreignObject, .str k_linearGradient, .str k_radialGradient, .str k_textPath, .str k_clipPath, .str k_animateTransform] 40)) (by kernel_rfl) (store_new (o := 0) (v := .agg [.str k_foreignObject, .str k_linearGradient, .str k_radialGradient, .str k_textPath, .str k_clipPath, .str k_animateTransform]) (by kernel_rfl) (by kernel_rfl) a4.get (by kernel_rfl)) (fun h5 a6 => ?_)
    refine WpM.run tab_ok 3 ⟨.done .ret, [.call [.cell 0 40] (some 8) (o8_7.drop 1) (.int .i64 1 :: .str s :: U :: U :: .str [] :: U :: .int .i64 1 :: .bool true :: us 5) [] none, .seq x8_8, .seq x8_10], [.ptr (some (.new p2 0)), .agg [.str k_foreignObject, .str k_linearGradient, .str k_radialGradient, .str k_textPath, .str k_clipPath, .str k_animateTransform]], [], h5, none⟩ (by kernel_rfl) ?_
    refine WpM.pop (.agg [.str k_foreignObject, .str k_linearGradient, .str k_radialGradient, .str k_textPath, .str k_clipPath, .str k_animateTransform]) (by kernel_rfl) (resL_cell1 (o := 0) (by kernel_rfl) a6.get (by kernel_rfl)) ?_
    refine WpM.run tab_ok 0 ⟨.ops (p8_7_1 :: o8_7.drop 2), [.seq x8_8, .seq x8_10], (.int .i64 1 :: .str s :: U :: U :: .str [] :: U :: .int .i64 1 :: .bool true :: .agg [.str k_foreignObject, .str k_linearGradient, .str k_radialGradient, .str k_textPath, .str k_clipPath, .str k_animateTransform] :: us 4), [], h5, none⟩ (by kernel_rfl) ?_
    refine WpM.opA (fun p => .ptr (some (.new p 0))) (.cells [.str [], .str [], .str [], .str [], .str [], .str []] 40) (by kernel_rfl) (by kernel_rfl) (fun p7 h8 a9 => ?_)
    refine WpM.run tab_ok 0 ⟨.ops (p8_7_2 :: o8_7.drop 3), [.seq x8_8, .seq x8_10], (.int .i64 1 :: .str s :: U :: U :: .str [] :: .ptr (some (.new p7 0)) :: .int .i64 1 :: .bool true :: .agg [.str k_foreignObject, .str k_linearGradient, .str k_radialGradient, .str k_textPath, .str k_clipPath, .str k_animateTransform] :: us 4), [], h8, none⟩ (by kernel_rfl) ?_
    refine WpM.opS U p7 (some (.cells [.str k_foreignObject, .str k_linearGradient, .str k_radialGradient, .str k_textPath, .str k_clipPath, .str k_animateTransform] 40)) (by kernel_rfl) (store_new (o := 0) (v := .agg [.str k_foreignObject, .str k_linearGradient, .str k_radialGradient, .str k_textPath, .str k_clipPath, .str k_animateTransform]) (by kernel_rfl) (by kernel_rfl) a9.get (by kernel_rfl)) (fun h10 a11 => ?_)
    refine WpM.run tab_ok 36 ⟨.ops (p23_14_1 :: o23_14.drop 2), [.seq x23_15, .blk 1, .seq x23_20, .loop x23_7, .blk 0, .seq x23_21, .call [.tmp 4] (some 11) (o8_9.drop 3) (.int .i64 1 :: .str s :: U :: U :: .str [] :: .ptr (some (.new p7 0)) :: .int .i64 1 :: .bool true :: .agg [.str k_foreignObject, .str k_linearGradient, .str k_radialGradient, .str k_textPath, .str k_clipPath, .str k_animateTransform] :: .slice (some (.new p7 0)) 6 6 true :: .str s :: U :: U :: []) [] none, .seq .ret, .seq x8_10], (.slice (some (.new p7 0)) 6 6 true :: .str s :: U :: U :: .str [] :: U :: U :: .slice (some (.new p7 0)) 6 6 true :: .int .i64 6 :: .int .i64 0 :: .bool true :: .ptr (some (.new p7 0)) :: us 12), [], h10, none⟩ (by kernel_rfl) ?_
    refine WpM.op (.str k_foreignObject) _ (by kernel_rfl) (load_new (o := 0) (by kernel_rfl) a11.get (by kernel_rfl)) ?_
    refine WpM.run tab_ok 15 ⟨.code x23_17, [.blk 1, .seq x23_20, .loop x23_7, .blk 0, .seq x23_21, .call [.tmp 4] (some 11) (o8_9.drop 3) (.int .i64 1 :: .str s :: U :: U :: .str [] :: .ptr (some (.new p7 0)) :: .int .i64 1 :: .bool true :: .agg [.str k_foreignObject, .str k_linearGradient, .str k_radialGradient, .str k_textPath, .str k_clipPath, .str k_animateTransform] :: .slice (some (.new p7 0)) 6 6 true :: .str s :: U :: U :: []) [] none, .seq .ret, .seq x8_10], (.slice (some (.new p7 0)) 6 6 true :: .str s :: U :: U :: .str [] :: U :: .str k_foreignObject :: .slice (some (.new p7 0)) 6 6 true :: .int .i64 6 :: .int .i64 0 :: .bool true :: .ptr (some (.new p7 0)) :: .str k_foreignObject :: .str k_foreignObject :: .bool true :: .bool true :: .str k_foreignObject :: .str k_foreignobject :: .str s :: .bool ((k_foreignobject : List UInt8) == s) :: .bool ((k_foreignobject : List UInt8) == s) :: U :: U :: U :: []), [], h10, none⟩ (by kernel_rfl) ?_
    refine WpM.cond (t := ((k_foreignobject : List UInt8) == s)) (by kernel_rfl) (fun c12 => ?_) (fun c12 => ?_)
    · have c12p := beq_t c12
      refine WpM.run tab_ok 18 ⟨.done .ret, [], (.int .i64 1 :: .str s :: U :: U :: .str k_foreignObject :: .ptr (some (.new p7 0)) :: .int .i64 1 :: .bool true :: .agg [.str k_foreignObject, .str k_linearGradient, .str k_radialGradient, .str k_textPath, .str k_clipPath, .str k_animateTransform] :: .slice (some (.new p7 0)) 6 6 true :: .str s :: .str k_foreignObject :: U :: []), [], h10, none⟩ (by kernel_rfl) ?_
      refine WpM.ret (.str k_foreignObject) h10 (by kernel_rfl) (by kernel_rfl) ?_
      first | rfl | (simp only [tagM, capM, c12, Bool.true_and, Bool.false_and, Bool.and_true, Bool.and_false, Bool.or_false, Bool.false_or, Bool.true_or, Bool.or_true, Bool.not_true, Bool.not_false, Int.reduceBEq, beq_self_eq_true, if_true, Bool.false_eq_true, if_false]; done) | (simp [tagM, capM, *]; done) | (simp_all [tagM, capM]; done)
    · have c12p := beq_f c12
      refine WpM.run tab_ok 22 ⟨.ops (p23_14_1 :: o23_14.drop 2), [.seq x23_15, .blk 1, .seq x23_20, .loop x23_7, .blk 0, .seq x23_21, .call [.tmp 4] (some 11) (o8_9.drop 3) (.int .i64 1 :: .str s :: U :: U :: .str [] :: .ptr (some (.new p7 0)) :: .int .i64 1 :: .bool true :: .agg [.str k_foreignObject, .str k_linearGradient, .str k_radialGradient, .str k_textPath, .str k_clipPath, .str k_animateTransform] :: .slice (some (.new p7 0)) 6 6 true :: .str s :: U :: U :: []) [] none, .seq .ret, .seq x8_10], (.slice (some (.new p7 0)) 6 6 true :: .str s :: U :: U :: .str [] :: U :: .str k_foreignObject :: .slice (some (.new p7 0)) 6 6 true :: .int .i64 6 :: .int .i64 1 :: .bool true :: .ptr (some (.new p7 1)) :: .str k_foreignObject :: .str k_foreignObject :: .bool true :: .bool true :: .str k_foreignObject :: .str k_foreignobject :: .str s :: .bool ((k_foreignobject : List UInt8) == s) :: .bool ((k_foreignobject : List UInt8) == s) :: U :: .int .i64 1 :: U :: []), [], h10, none⟩ (by kernel_rfl) ?_
      refine WpM.op (.str k_linearGradient) _ (by kernel_rfl) (load_new (o := 1) (by kernel_rfl) a11.get (by kernel_rfl)) ?_
      refine WpM.run tab_ok 15 ⟨.code x23_17, [.blk 1, .seq x23_20, .loop x23_7, .blk 0, .seq x23_21, .call [.tmp 4] (some 11) (o8_9.drop 3) (.int .i64 1 :: .str s :: U :: U :: .str [] :: .ptr (some (.new p7 0)) :: .int .i64 1 :: .bool true :: .agg [.str k_foreignObject, .str k_linearGradient, .str k_radialGradient, .str k_textPath, .str k_clipPath, .str k_animateTransform] :: .slice (some (.new p7 0)) 6 6 true :: .str s :: U :: U :: []) [] none, .seq .ret, .seq x8_10], (.slice (some (.new p7 0)) 6 6 true :: .str s :: U :: U :: .str [] :: U :: .str k_linearGradient :: .slice (some (.new p7 0)) 6 6 true :: .int .i64 6 :: .int .i64 1 :: .bool true :: .ptr (some (.new p7 1)) :: .str k_linearGradient :: .str k_linearGradient :: .bool true :: .bool true :: .str k_linearGradient :: .str k_lineargradient :: .str s :: .bool ((k_lineargradient : List UInt8) == s) :: .bool ((k_lineargradient : List UInt8) == s) :: U :: .int .i64 1 :: U :: []), [], h10, none⟩ (by kernel_rfl) ?_
      refine WpM.cond (t := ((k_lineargradient : List UInt8) == s)) (by kernel_rfl) (fun c13 => ?_) (fun c13 => ?_)
      · have c13p := beq_t c13
        refine WpM.run tab_ok 18 ⟨.done .ret, [], (.int .i64 1 :: .str s :: U :: U :: .str k_linearGradient :: .ptr (some (.new p7 0)) :: .int .i64 1 :: .bool true :: .agg [.str k_foreignObject, .str k_linearGradient, .str k_radialGradient, .str k_textPath, .str k_clipPath, .str k_animateTransform] :: .slice (some (.new p7 0)) 6 6 true :: .str s :: .str k_linearGradient :: U :: []), [], h10, none⟩ (by kernel_rfl) ?_
        refine WpM.ret (.str k_linearGradient) h10 (by kernel_rfl) (by kernel_rfl) ?_
        first | rfl | (simp only [tagM, capM, c12, c13, Bool.true_and, Bool.false_and, Bool.and_true, Bool.and_false, Bool.or_false, Bool.false_or, Bool.true_or, Bool.or_true, Bool.not_true, Bool.not_false, Int.reduceBEq, beq_self_eq_true, if_true, Bool.false_eq_true, if_false]; done) | (simp [tagM, capM, *]; done) | (simp_all [tagM, capM]; done)
      · have c13p := beq_f c13
        refine WpM.run tab_ok 22 ⟨.ops (p23_14_1 :: o23_14.drop 2), [.seq x23_15, .blk 1, .seq x23_20, .loop x23_7, .blk 0, .seq x23_21, .call [.tmp 4] (some 11) (o8_9.drop 3) (.int .i64 1 :: .str s :: U :: U :: .str [] :: .ptr (some (.new p7 0)) :: .int .i64 1 :: .bool true :: .agg [.str k_foreignObject, .str k_linearGradient, .str k_radialGradient, .str k_textPath, .str k_clipPath, .str k_animateTransform] :: .slice (some (.new p7 0)) 6 6 true :: .str s :: U :: U :: []) [] none, .seq .ret, .seq x8_10], (.slice (some (.new p7 0)) 6 6 true :: .str s :: U :: U :: .str [] :: U :: .str k_linearGradient :: .slice (some (.new p7 0)) 6 6 true :: .int .i64 6 :: .int .i64 2 :: .bool true :: .ptr (some (.new p7 2)) :: .str k_linearGradient :: .str k_linearGradient :: .bool true :: .bool true :: .str k_linearGradient :: .str k_lineargradient :: .str s :: .bool ((k_lineargradient : List UInt8) == s) :: .bool ((k_lineargradient : List UInt8) == s) :: U :: .int .i64 2 :: U :: []), [], h10, none⟩ (by kernel_rfl) ?_
        refine WpM.op (.str k_radialGradient) _ (by kernel_rfl) (load_new (o := 2) (by kernel_rfl) a11.get (by kernel_rfl)) ?_
        refine WpM.run tab_ok 15 ⟨.code x23_17, [.blk 1, .seq x23_20, .loop x23_7, .blk 0, .seq x23_21, .call [.tmp 4] (some 11) (o8_9.drop 3) (.int .i64 1 :: .str s :: U :: U :: .str [] :: .ptr (some (.new p7 0)) :: .int .i64 1 :: .bool true :: .agg [.str k_foreignObject, .str k_linearGradient, .str k_radialGradient, .str k_textPath, .str k_clipPath, .str k_animateTransform] :: .slice (some (.new p7 0)) 6 6 true :: .str s :: U :: U :: []) [] none, .seq .ret, .seq x8_10], (.slice (some (.new p7 0)) 6 6 true :: .str s :: U :: U :: .str [] :: U :: .str k_radialGradient :: .slice (some (.new p7 0)) 6 6 true :: .int .i64 6 :: .int .i64 2 :: .bool true :: .ptr (some (.new p7 2)) :: .str k_radialGradient :: .str k_radialGradient :: .bool true :: .bool true :: .str k_radialGradient :: .str k_radialgradient :: .str s :: .bool ((k_radialgradient : List UInt8) == s) :: .bool ((k_radialgradient : List UInt8) == s) :: U :: .int .i64 2 :: U :: []), [], h10, none⟩ (by kernel_rfl) ?_
        refine WpM.cond (t := ((k_radialgradient : List UInt8) == s)) (by kernel_rfl) (fun c14 => ?_) (fun c14 => ?_)
        · have c14p := beq_t c14
          refine WpM.run tab_ok 18 ⟨.done .ret, [], (.int .i64 1 :: .str s :: U :: U :: .str k_radialGradient :: .ptr (some (.new p7 0)) :: .int .i64 1 :: .bool true :: .agg [.str k_foreignObject, .str k_linearGradient, .str k_radialGradient, .str k_textPath, .str k_clipPath, .str k_animateTransform] :: .slice (some (.new p7 0)) 6 6 true :: .str s :: .str k_radialGradient :: U :: []), [], h10, none⟩ (by kernel_rfl) ?_
          refine WpM.ret (.str k_radialGradient) h10 (by kernel_rfl) (by kernel_rfl) ?_
          first | rfl | (simp only [tagM, capM, c12, c13, c14, Bool.true_and, Bool.false_and, Bool.and_true, Bool.and_false, Bool.or_false, Bool.false_or, Bool.true_or, Bool.or_true, Bool.not_true, Bool.not_false, Int.reduceBEq, beq_self_eq_true, if_true, Bool.false_eq_true, if_false]; done) | (simp [tagM, capM, *]; done) | (simp_all [tagM, capM]; done)
        · have c14p := beq_f c14
          refine WpM.run tab_ok 22 ⟨.ops (p23_14_1 :: o23_14.drop 2), [.seq x23_15, .blk 1, .seq x23_20, .loop x23_7, .blk 0, .seq x23_21, .call [.tmp 4] (some 11) (o8_9.drop 3) (.int .i64 1 :: .str s :: U :: U :: .str [] :: .ptr (some (.new p7 0)) :: .int .i64 1 :: .bool true :: .agg [.str k_foreignObject, .str k_linearGradient, .str k_radialGradient, .str k_textPath, .str k_clipPath, .str k_animateTransform] :: .slice (some (.new p7 0)) 6 6 true :: .str s :: U :: U :: []) [] none, .seq .ret, .seq x8_10], (.slice (some (.new p7 0)) 6 6 true :: .str s :: U :: U :: .str [] :: U :: .str k_radialGradient :: .slice (some (.new p7 0)) 6 6 true :: .int .i64 6 :: .int .i64 3 :: .bool true :: .ptr (some (.new p7 3)) :: .str k_radialGradient :: .str k_radialGradient :: .bool true :: .bool true :: .str k_radialGradient :: .str k_radialgradient :: .str s :: .bool ((k_radialgradient : List UInt8) == s) :: .bool ((k_radialgradient : List UInt8) == s) :: U :: .int .i64 3 :: U :: []), [], h10, none⟩ (by kernel_rfl) ?_
          refine WpM.op (.str k_textPath) _ (by kernel_rfl) (load_new (o := 3) (by kernel_rfl) a11.get (by kernel_rfl)) ?_
          refine WpM.run tab_ok 15 ⟨.code x23_17, [.blk 1, .seq x23_20, .loop x23_7, .blk 0, .seq x23_21, .call [.tmp 4] (some 11) (o8_9.drop 3) (.int .i64 1 :: .str s :: U :: U :: .str [] :: .ptr (some (.new p7 0)) :: .int .i64 1 :: .bool true :: .agg [.str k_foreignObject, .str k_linearGradient, .str k_radialGradient, .str k_textPath, .str k_clipPath, .str k_animateTransform] :: .slice (some (.new p7 0)) 6 6 true :: .str s :: U :: U :: []) [] none, .seq .ret, .seq x8_10], (.slice (some (.new p7 0)) 6 6 true :: .str s :: U :: U :: .str [] :: U :: .str k_textPath :: .slice (some (.new p7 0)) 6 6 true :: .int .i64 6 :: .int .i64 3 :: .bool true :: .ptr (some (.new p7 3)) :: .str k_textPath :: .str k_textPath :: .bool true :: .bool true :: .str k_textPath :: .str k_textpath :: .str s :: .bool ((k_textpath : List UInt8) == s) :: .bool ((k_textpath : List UInt8) == s) :: U :: .int .i64 3 :: U :: []), [], h10, none⟩ (by kernel_rfl) ?_
          refine WpM.cond (t := ((k_textpath : List UInt8) == s)) (by kernel_rfl) (fun c15 => ?_) (fun c15 => ?_)
          · have c15p := beq_t c15
            refine WpM.run tab_ok 18 ⟨.done .ret, [], (.int .i64 1 :: .str s :: U :: U :: .str k_textPath :: .ptr (some (.new p7 0)) :: .int .i64 1 :: .bool true :: .agg [.str k_foreignObject, .str k_linearGradient, .str k_radialGradient, .str k_textPath, .str k_clipPath, .str k_animateTransform] :: .slice (some (.new p7 0)) 6 6 true :: .str s :: .str k_textPath :: U :: []), [], h10, none⟩ (by kernel_rfl) ?_
            refine WpM.ret (.str k_textPath) h10 (by kernel_rfl) (by kernel_rfl) ?_
            first | rfl | (simp only [tagM, capM, c12, c13, c14, c15, Bool.true_and, Bool.false_and, Bool.and_true, Bool.and_false, Bool.or_false, Bool.false_or, Bool.true_or, Bool.or_true, Bool.not_true, Bool.not_false, Int.reduceBEq, beq_self_eq_true, if_true, Bool.false_eq_true, if_false]; done) | (simp [tagM, capM, *]; done) | (simp_all [tagM, capM]; done)
          · have c15p := beq_f c15
            refine WpM.run tab_ok 22 ⟨.ops (p23_14_1 :: o23_14.drop 2), [.seq x23_15, .blk 1, .seq x23_20, .loop x23_7, .blk 0, .seq x23_21, .call [.tmp 4] (some 11) (o8_9.drop 3) (.int .i64 1 :: .str s :: U :: U :: .str [] :: .ptr (some (.new p7 0)) :: .int .i64 1 :: .bool true :: .agg [.str k_foreignObject, .str k_linearGradient, .str k_radialGradient, .str k_textPath, .str k_clipPath, .str k_animateTransform] :: .slice (some (.new p7 0)) 6 6 true :: .str s :: U :: U :: []) [] none, .seq .ret, .seq x8_10], (.slice (some (.new p7 0)) 6 6 true :: .str s :: U :: U :: .str [] :: U :: .str k_textPath :: .slice (some (.new p7 0)) 6 6 true :: .int .i64 6 :: .int .i64 4 :: .bool true :: .ptr (some (.new p7 4)) :: .str k_textPath :: .str k_textPath :: .bool true :: .bool true :: .str k_textPath :: .str k_textpath :: .str s :: .bool ((k_textpath : List UInt8) == s) :: .bool ((k_textpath : List UInt8) == s) :: U :: .int .i64 4 :: U :: []), [], h10, none⟩ (by kernel_rfl) ?_
            refine WpM.op (.str k_clipPath) _ (by kernel_rfl) (load_new (o := 4) (by kernel_rfl) a11.get (by kernel_rfl)) ?_
            refine WpM.run tab_ok 15 ⟨.code x23_17, [.blk 1, .seq x23_20, .loop x23_7, .blk 0, .seq x23_21, .call [.tmp 4] (some 11) (o8_9.drop 3) (.int .i64 1 :: .str s :: U :: U :: .str [] :: .ptr (some (.new p7 0)) :: .int .i64 1 :: .bool true :: .agg [.str k_foreignObject, .str k_linearGradient, .str k_radialGradient, .str k_textPath, .str k_clipPath, .str k_animateTransform] :: .slice (some (.new p7 0)) 6 6 true :: .str s :: U :: U :: []) [] none, .seq .ret, .seq x8_10], (.slice (some (.new p7 0)) 6 6 true :: .str s :: U :: U :: .str [] :: U :: .str k_clipPath :: .slice (some (.new p7 0)) 6 6 true :: .int .i64 6 :: .int .i64 4 :: .bool true :: .ptr (some (.new p7 4)) :: .str k_clipPath :: .str k_clipPath :: .bool true :: .bool true :: .str k_clipPath :: .str k_clippath :: .str s :: .bool ((k_clippath : List UInt8) == s) :: .bool ((k_clippath : List UInt8) == s) :: U :: .int .i64 4 :: U :: []), [], h10, none⟩ (by kernel_rfl) ?_
            refine WpM.cond (t := ((k_clippath : List UInt8) == s)) (by kernel_rfl) (fun c16 => ?_) (fun c16 => ?_)
            · have c16p := beq_t c16
              refine WpM.run tab_ok 18 ⟨.done .ret, [], (.int .i64 1 :: .str s :: U :: U :: .str k_clipPath :: .ptr (some (.new p7 0)) :: .int .i64 1 :: .bool true :: .agg [.str k_foreignObject, .str k_linearGradient, .str k_radialGradient, .str k_textPath, .str k_clipPath, .str k_animateTransform] :: .slice (some (.new p7 0)) 6 6 true :: .str s :: .str k_clipPath :: U :: []), [], h10, none⟩ (by kernel_rfl) ?_
              refine WpM.ret (.str k_clipPath) h10 (by kernel_rfl) (by kernel_rfl) ?_
              first | rfl | (simp only [tagM, capM, c12, c13, c14, c15, c16, Bool.true_and, Bool.false_and, Bool.and_true, Bool.and_false, Bool.or_false, Bool.false_or, Bool.true_or, Bool.or_true, Bool.not_true, Bool.not_false, Int.reduceBEq, beq_self_eq_true, if_true, Bool.false_eq_true, if_false]; done) | (simp [tagM, capM, *]; done) | (simp_all [tagM, capM]; done)
            · have c16p := beq_f c16
              refine WpM.run tab_ok 22 ⟨.ops (p23_14_1 :: o23_14.drop 2), [.seq x23_15, .blk 1, .seq x23_20, .loop x23_7, .blk 0, .seq x23_21, .call [.tmp 4] (some 11) (o8_9.drop 3) (.int .i64 1 :: .str s :: U :: U :: .str [] :: .ptr (some (.new p7 0)) :: .int .i64 1 :: .bool true :: .agg [.str k_foreignObject, .str k_linearGradient, .str k_radialGradient, .str k_textPath, .str k_clipPath, .str k_animateTransform] :: .slice (some (.new p7 0)) 6 6 true :: .str s :: U :: U :: []) [] none, .seq .ret, .seq x8_10], (.slice (some (.new p7 0)) 6 6 true :: .str s :: U :: U :: .str [] :: U :: .str k_clipPath :: .slice (some (.new p7 0)) 6 6 true :: .int .i64 6 :: .int .i64 5 :: .bool true :: .ptr (some (.new p7 5)) :: .str k_clipPath :: .str k_clipPath :: .bool true :: .bool true :: .str k_clipPath :: .str k_clippath :: .str s :: .bool ((k_clippath : List UInt8) == s) :: .bool ((k_clippath : List UInt8) == s) :: U :: .int .i64 5 :: U :: []), [], h10, none⟩ (by kernel_rfl) ?_
              refine WpM.op (.str k_animateTransform) _ (by kernel_rfl) (load_new (o := 5) (by kernel_rfl) a11.get (by kernel_rfl)) ?_
              refine WpM.run tab_ok 15 ⟨.code x23_17, [.blk 1, .seq x23_20, .loop x23_7, .blk 0, .seq x23_21, .call [.tmp 4] (some 11) (o8_9.drop 3) (.int .i64 1 :: .str s :: U :: U :: .str [] :: .ptr (some (.new p7 0)) :: .int .i64 1 :: .bool true :: .agg [.str k_foreignObject, .str k_linearGradient, .str k_radialGradient, .str k_textPath, .str k_clipPath, .str k_animateTransform] :: .slice (some (.new p7 0)) 6 6 true :: .str s :: U :: U :: []) [] none, .seq .ret, .seq x8_10], (.slice (some (.new p7 0)) 6 6 true :: .str s :: U :: U :: .str [] :: U :: .str k_animateTransform :: .slice (some (.new p7 0)) 6 6 true :: .int .i64 6 :: .int .i64 5 :: .bool true :: .ptr (some (.new p7 5)) :: .str k_animateTransform :: .str k_animateTransform :: .bool true :: .bool true :: .str k_animateTransform :: .str k_animatetransform :: .str s :: .bool ((k_animatetransform : List UInt8) == s) :: .bool ((k_animatetransform : List UInt8) == s) :: U :: .int .i64 5 :: U :: []), [], h10, none⟩ (by kernel_rfl) ?_
              refine WpM.cond (t := ((k_animatetransform : List UInt8) == s)) (by kernel_rfl) (fun c17 => ?_) (fun c17 => ?_)
              · have c17p := beq_t c17
                refine WpM.run tab_ok 18 ⟨.done .ret, [], (.int .i64 1 :: .str s :: U :: U :: .str k_animateTransform :: .ptr (some (.new p7 0)) :: .int .i64 1 :: .bool true :: .agg [.str k_foreignObject, .str k_linearGradient, .str k_radialGradient, .str k_textPath, .str k_clipPath, .str k_animateTransform] :: .slice (some (.new p7 0)) 6 6 true :: .str s :: .str k_animateTransform :: U :: []), [], h10, none⟩ (by kernel_rfl) ?_
                refine WpM.ret (.str k_animateTransform) h10 (by kernel_rfl) (by kernel_rfl) ?_
                first | rfl | (simp only [tagM, capM, c12, c13, c14, c15, c16, c17, Bool.true_and, Bool.false_and, Bool.and_true, Bool.and_false, Bool.or_false, Bool.false_or, Bool.true_or, Bool.or_true, Bool.not_true, Bool.not_false, Int.reduceBEq, beq_self_eq_true, if_true, Bool.false_eq_true, if_false]; done) | (simp [tagM, capM, *]; done) | (simp_all [tagM, capM]; done)
              · have c17p := beq_f c17
                refine WpM.run tab_ok 33 ⟨.done .ret, [], (.int .i64 1 :: .str s :: U :: U :: .str s :: .ptr (some (.new p7 0)) :: .int .i64 1 :: .bool true :: .agg [.str k_foreignObject, .str k_linearGradient, .str k_radialGradient, .str k_textPath, .str k_clipPath, .str k_animateTransform] :: .slice (some (.new p7 0)) 6 6 true :: .str s :: .str s :: U :: []), [], h10, none⟩ (by kernel_rfl) ?_
                refine WpM.ret (.str s) h10 (by kernel_rfl) (by kernel_rfl) ?_
                first | rfl | (simp only [tagM, capM, c12, c13, c14, c15, c16, c17, Bool.true_and, Bool.false_and, Bool.and_true, Bool.and_false, Bool.or_false, Bool.false_or, Bool.true_or, Bool.or_true, Bool.not_true, Bool.not_false, Int.reduceBEq, beq_self_eq_true, if_true, Bool.false_eq_true, if_false]; done) | (simp [tagM, capM, *]; done) | (simp_all [tagM, capM]; done)
  · have c1p := beq_f c1
    refine WpM.run tab_ok 9 ⟨.done .ret, [], (.int .i64 p :: .str s :: U :: U :: .str s :: U :: .int .i64 p :: .bool (p == 1) :: U :: U :: U :: U :: .str s :: []), [], H.empty, none⟩ (by kernel_rfl) ?_
    refine WpM.ret (.str s) H.empty (by kernel_rfl) (by kernel_rfl) ?_
    first | rfl | (simp only [tagM, capM, c1, Bool.true_and, Bool.false_and, Bool.and_true, Bool.and_false, Bool.or_false, Bool.false_or, Bool.true_or, Bool.or_true, Bool.not_true, Bool.not_false, Int.reduceBEq, beq_self_eq_true, if_true, Bool.false_eq_true, if_false]; done) | (simp [tagM, capM, *]; done) | (simp_all [tagM, capM]; done)
def q8 (l : List V) : Option V :=
  match l with
  | [.int .i64 p, .str s] => if s.length ≤ 100000 then some (.str (tagM p s)) else none
  | _ => none
def prim7 : FuncId → Option (List V → H → Option (V × H)) := setPrim prim6 8 q8
theorem prim7s (W : World) (hW : WOK W) : Prims Try.prog W prim7 := by
  refine Prims.add base (prim6s W hW) ⟨_, _, Try.func8, rfl⟩ ?_
  intro w _ args v h
  unfold q8 at h
  split at h
  · split at h
    · rename_i hc; injection h with h; subst h; exact ⟨by simp only [old_cons, old_nil, old_int, old_str, old_bool, old_agg, old_tup, old_nils, Bool.and_true, Bool.true_and, hc], by simp only [old_cons, old_nil, old_int, old_str, old_bool, old_agg, old_tup, old_nils, Bool.and_true, Bool.true_and, hc], tag hc⟩
    · cases h
  · cases h
theorem tagr {W : World} {p : Int} {s : List UInt8} (hs : s.length ≤ 100000) : WpF Try.prog W prim7 9 [.int .i64 p, .str s] H.empty (fun v _ => v = .str (tagM p s)) := by
  refine WpF.m tab_ok (by kernel_rfl) rfl ?_
  refine WpM.cfg (c' := ⟨.code x9_0, [], [.int .i64 p, .str s, U, U, U, U, U, U, U, U, U], [], H.empty, none⟩) (by kernel_rfl) ?_
  refine WpM.run tab_ok 12 ⟨.code x9_5, [.seq x9_8], [.int .i64 p, .str s, U, U, .str [], .int .i64 p, .bool (!(p == 1)), U, U, U, U], [], H.empty, none⟩ (by kernel_rfl) ?_
  refine WpM.cond (t := (!(p == 1))) (by kernel_rfl) (fun c1 => ?_) (fun c1 => ?_)
  · have c1p := nbeq_t c1
    refine WpM.run tab_ok 8 ⟨.done .ret, [], [.int .i64 p, .str s, U, U, .str s, .int .i64 p, .bool (!(p == 1)), .str s, U, U, U], [], H.empty, none⟩ (by kernel_rfl) ?_
    refine WpM.ret (.str s) H.empty (by kernel_rfl) (by kernel_rfl) ?_
    first | rfl | (simp only [tagM, capM, c1, Bool.true_and, Bool.false_and, Bool.and_true, Bool.and_false, Bool.or_false, Bool.false_or, Bool.true_or, Bool.or_true, Bool.not_true, Bool.not_false, Int.reduceBEq, beq_self_eq_true, if_true, Bool.false_eq_true, if_false]; done) | (simp [tagM, capM, *]; done) | (simp_all [tagM, capM]; done)
  · have c1p := nbeq_f c1
    subst c1p
    refine WpM.run tab_ok 5 ⟨.ops (p9_9_1 :: o9_9.drop 2), [.seq .ret], [.int .i64 1, .str s, U, U, .str [], .int .i64 1, .bool false, U, .str s, U, U], [], H.empty, none⟩ (by kernel_rfl) ?_
    refine WpM.opA (fun p => .slice (some (.new p 0)) 6 6 true) (.cells [.str k_foreignObject, .str k_linearGradient, .str k_radialGradient, .str k_textPath, .str k_clipPath, .str k_animateTransform] 9) (by kernel_rfl) (by kernel_rfl) (fun p2 h3 a4 => ?_)
    refine WpM.run tab_ok 33 ⟨.ops (p24_14_3 :: o24_14.drop 4), [.seq x24_15, .blk 1, .seq x24_18, .loop x24_7, .blk 0, .seq x24_19, .call [.tmp 4] (some 10) (o9_9.drop 3) [.int .i64 1, .str s, U, U, .str [], .int .i64 1, .bool false, U, .str s, .slice (some (.new p2 0)) 6 6 true, U] [] none, .seq .ret], (.str s :: .slice (some (.new p2 0)) 6 6 true :: U :: U :: .str [] :: .int .i64 0 :: .int .i64 0 :: .slice (some (.new p2 0)) 6 6 true :: .int .i64 6 :: .bool true :: U :: U :: .slice (some (.new p2 0)) 6 6 true :: .int .i64 0 :: .ptr (some (.new p2 0)) :: us 9), [], h3, none⟩ (by kernel_rfl) ?_
    refine WpM.op (.str k_foreignObject) _ (by kernel_rfl) (load_new (o := 0) (by kernel_rfl) a4.get (by kernel_rfl)) ?_
    refine WpM.run tab_ok 5 ⟨.code x24_15, [.blk 1, .seq x24_18, .loop x24_7, .blk 0, .seq x24_19, .call [.tmp 4] (some 10) (o9_9.drop 3) [.int .i64 1, .str s, U, U, .str [], .int .i64 1, .bool false, U, .str s, .slice (some (.new p2 0)) 6 6 true, U] [] none, .seq .ret], (.str s :: .slice (some (.new p2 0)) 6 6 true :: U :: U :: .str [] :: .int .i64 0 :: .int .i64 0 :: .slice (some (.new p2 0)) 6 6 true :: .int .i64 6 :: .bool true :: U :: U :: .slice (some (.new p2 0)) 6 6 true :: .int .i64 0 :: .ptr (some (.new p2 0)) :: .str k_foreignObject :: .str k_foreignobject :: .str s :: .bool ((k_foreignobject : List UInt8) == s) :: us 5), [], h3, none⟩ (by kernel_rfl) ?_
    refine WpM.cond (t := ((k_foreignobject : List UInt8) == s)) (by kernel_rfl) (fun c5 => ?_) (fun c5 => ?_)
    · have c5p := beq_t c5
      refine WpM.run tab_ok 5 ⟨.ops (p24_17_3 :: o24_17.drop 4), [.seq .ret, .blk 1, .seq x24_18, .loop x24_7, .blk 0, .seq x24_19, .call [.tmp 4] (some 10) (o9_9.drop 3) [.int .i64 1, .str s, U, U, .str [], .int .i64 1, .bool false, U, .str s, .slice (some (.new p2 0)) 6 6 true, U] [] none, .seq .ret], (.str s :: .slice (some (.new p2 0)) 6 6 true :: U :: U :: .str [] :: .int .i64 0 :: .int .i64 0 :: .slice (some (.new p2 0)) 6 6 true :: .int .i64 6 :: .bool true :: U :: U :: .slice (some (.new p2 0)) 6 6 true :: .int .i64 0 :: .ptr (some (.new p2 0)) :: .str k_foreignObject :: .str k_foreignobject :: .str s :: .bool ((k_foreignobject : List UInt8) == s) :: .slice (some (.new p2 0)) 6 6 true :: .int .i64 0 :: .ptr (some (.new p2 0)) :: U :: U :: []), [], h3, none⟩ (by kernel_rfl) ?_
      refine WpM.op (.str k_foreignObject) _ (by kernel_rfl) (load_new (o := 0) (by kernel_rfl) a4.get (by kernel_rfl)) ?_
      refine WpM.run tab_ok 14 ⟨.done .ret, [], [.int .i64 1, .str s, U, U, .str k_foreignObject, .int .i64 1, .bool false, U, .str s, .slice (some (.new p2 0)) 6 6 true, .str k_foreignObject], [], h3, none⟩ (by kernel_rfl) ?_
      refine WpM.ret (.str k_foreignObject) h3 (by kernel_rfl) (by kernel_rfl) ?_
      first | rfl | (simp only [tagM, capM, c5, Bool.true_and, Bool.false_and, Bool.and_true, Bool.and_false, Bool.or_false, Bool.false_or, Bool.true_or, Bool.or_true, Bool.not_true, Bool.not_false, Int.reduceBEq, beq_self_eq_true, if_true, Bool.false_eq_true, if_false]; done) | (simp [tagM, capM, *]; done) | (simp_all [tagM, capM]; done)
    · have c5p := beq_f c5
      refine WpM.run tab_ok 28 ⟨.ops (p24_14_3 :: o24_14.drop 4), [.seq x24_15, .blk 1, .seq x24_18, .loop x24_7, .blk 0, .seq x24_19, .call [.tmp 4] (some 10) (o9_9.drop 3) [.int .i64 1, .str s, U, U, .str [], .int .i64 1, .bool false, U, .str s, .slice (some (.new p2 0)) 6 6 true, U] [] none, .seq .ret], (.str s :: .slice (some (.new p2 0)) 6 6 true :: U :: U :: .str [] :: .int .i64 1 :: .int .i64 1 :: .slice (some (.new p2 0)) 6 6 true :: .int .i64 6 :: .bool true :: .int .i64 0 :: .int .i64 1 :: .slice (some (.new p2 0)) 6 6 true :: .int .i64 1 :: .ptr (some (.new p2 1)) :: .str k_foreignObject :: .str k_foreignobject :: .str s :: .bool ((k_foreignobject : List UInt8) == s) :: us 5), [], h3, none⟩ (by kernel_rfl) ?_
      refine WpM.op (.str k_linearGradient) _ (by kernel_rfl) (load_new (o := 1) (by kernel_rfl) a4.get (by kernel_rfl)) ?_
      refine WpM.run tab_ok 5 ⟨.code x24_15, [.blk 1, .seq x24_18, .loop x24_7, .blk 0, .seq x24_19, .call [.tmp 4] (some 10) (o9_9.drop 3) [.int .i64 1, .str s, U, U, .str [], .int .i64 1, .bool false, U, .str s, .slice (some (.new p2 0)) 6 6 true, U] [] none, .seq .ret], (.str s :: .slice (some (.new p2 0)) 6 6 true :: U :: U :: .str [] :: .int .i64 1 :: .int .i64 1 :: .slice (some (.new p2 0)) 6 6 true :: .int .i64 6 :: .bool true :: .int .i64 0 :: .int .i64 1 :: .slice (some (.new p2 0)) 6 6 true :: .int .i64 1 :: .ptr (some (.new p2 1)) :: .str k_linearGradient :: .str k_lineargradient :: .str s :: .bool ((k_lineargradient : List UInt8) == s) :: us 5), [], h3, none⟩ (by kernel_rfl) ?_
      refine WpM.cond (t := ((k_lineargradient : List UInt8) == s)) (by kernel_rfl) (fun c6 => ?_) (fun c6 => ?_)
      · have c6p := beq_t c6
        refine WpM.run tab_ok 5 ⟨.ops (p24_17_3 :: o24_17.drop 4), [.seq .ret, .blk 1, .seq x24_18, .loop x24_7, .blk 0, .seq x24_19, .call [.tmp 4] (some 10) (o9_9.drop 3) [.int .i64 1, .str s, U, U, .str [], .int .i64 1, .bool false, U, .str s, .slice (some (.new p2 0)) 6 6 true, U] [] none, .seq .ret], (.str s :: .slice (some (.new p2 0)) 6 6 true :: U :: U :: .str [] :: .int .i64 1 :: .int .i64 1 :: .slice (some (.new p2 0)) 6 6 true :: .int .i64 6 :: .bool true :: .int .i64 0 :: .int .i64 1 :: .slice (some (.new p2 0)) 6 6 true :: .int .i64 1 :: .ptr (some (.new p2 1)) :: .str k_linearGradient :: .str k_lineargradient :: .str s :: .bool ((k_lineargradient : List UInt8) == s) :: .slice (some (.new p2 0)) 6 6 true :: .int .i64 1 :: .ptr (some (.new p2 1)) :: U :: U :: []), [], h3, none⟩ (by kernel_rfl) ?_
        refine WpM.op (.str k_linearGradient) _ (by kernel_rfl) (load_new (o := 1) (by kernel_rfl) a4.get (by kernel_rfl)) ?_
        refine WpM.run tab_ok 14 ⟨.done .ret, [], [.int .i64 1, .str s, U, U, .str k_linearGradient, .int .i64 1, .bool false, U, .str s, .slice (some (.new p2 0)) 6 6 true, .str k_linearGradient], [], h3, none⟩ (by kernel_rfl) ?_
        refine WpM.ret (.str k_linearGradient) h3 (by kernel_rfl) (by kernel_rfl) ?_
        first | rfl | (simp only [tagM, capM, c5, c6, Bool.true_and, Bool.false_and, Bool.and_true, Bool.and_false, Bool.or_false, Bool.false_or, Bool.true_or, Bool.or_true, Bool.not_true, Bool.not_false, Int.reduceBEq, beq_self_eq_true, if_true, Bool.false_eq_true, if_false]; done) | (simp [tagM, capM, *]; done) | (simp_all [tagM, capM]; done)
      · have c6p := beq_f c6
        refine WpM.run tab_ok 28 ⟨.ops (p24_14_3 :: o24_14.drop 4), [.seq x24_15, .blk 1, .seq x24_18, .loop x24_7, .blk 0, .seq x24_19, .call [.tmp 4] (some 10) (o9_9.drop 3) [.int .i64 1, .str s, U, U, .str [], .int .i64 1, .bool false, U, .str s, .slice (some (.new p2 0)) 6 6 true, U] [] none, .seq .ret], (.str s :: .slice (some (.new p2 0)) 6 6 true :: U :: U :: .str [] :: .int .i64 2 :: .int .i64 2 :: .slice (some (.new p2 0)) 6 6 true :: .int .i64 6 :: .bool true :: .int .i64 1 :: .int .i64 2 :: .slice (some (.new p2 0)) 6 6 true :: .int .i64 2 :: .ptr (some (.new p2 2)) :: .str k_linearGradient :: .str k_lineargradient :: .str s :: .bool ((k_lineargradient : List UInt8) == s) :: us 5), [], h3, none⟩ (by kernel_rfl) ?_
        refine WpM.op (.str k_radialGradient) _ (by kernel_rfl) (load_new (o := 2) (by kernel_rfl) a4.get (by kernel_rfl)) ?_
        refine WpM.run tab_ok 5 ⟨.code x24_15, [.blk 1, .seq x24_18, .loop x24_7, .blk 0, .seq x24_19, .call [.tmp 4] (some 10) (o9_9.drop 3) [.int .i64 1, .str s, U, U, .str [], .int .i64 1, .bool false, U, .str s, .slice (some (.new p2 0)) 6 6 true, U] [] none, .seq .ret], (.str s :: .slice (some (.new p2 0)) 6 6 true :: U :: U :: .str [] :: .int .i64 2 :: .int .i64 2 :: .slice (some (.new p2 0)) 6 6 true :: .int .i64 6 :: .bool true :: .int .i64 1 :: .int .i64 2 :: .slice (some (.new p2 0)) 6 6 true :: .int .i64 2 :: .ptr (some (.new p2 2)) :: .str k_radialGradient :: .str k_radialgradient :: .str s :: .bool ((k_radialgradient : List UInt8) == s) :: us 5), [], h3, none⟩ (by kernel_rfl) ?_
        refine WpM.cond (t := ((k_radialgradient : List UInt8) == s)) (by kernel_rfl) (fun c7 => ?_) (fun c7 => ?_)
        · have c7p := beq_t c7
          refine WpM.run tab_ok 5 ⟨.ops (p24_17_3 :: o24_17.drop 4), [.seq .ret, .blk 1, .seq x24_18, .loop x24_7, .blk 0, .seq x24_19, .call [.tmp 4] (some 10) (o9_9.drop 3) [.int .i64 1, .str s, U, U, .str [], .int .i64 1, .bool false, U, .str s, .slice (some (.new p2 0)) 6 6 true, U] [] none, .seq .ret], (.str s :: .slice (some (.new p2 0)) 6 6 true :: U :: U :: .str [] :: .int .i64 2 :: .int .i64 2 :: .slice (some (.new p2 0)) 6 6 true :: .int .i64 6 :: .bool true :: .int .i64 1 :: .int .i64 2 :: .slice (some (.new p2 0)) 6 6 true :: .int .i64 2 :: .ptr (some (.new p2 2)) :: .str k_radialGradient :: .str k_radialgradient :: .str s :: .bool ((k_radialgradient : List UInt8) == s) :: .slice (some (.new p2 0)) 6 6 true :: .int .i64 2 :: .ptr (some (.new p2 2)) :: U :: U :: []), [], h3, none⟩ (by kernel_rfl) ?_
          refine WpM.op (.str k_radialGradient) _ (by kernel_rfl) (load_new (o := 2) (by kernel_rfl) a4.get (by kernel_rfl)) ?_
          refine WpM.run tab_ok 14 ⟨.done .ret, [], [.int .i64 1, .str s, U, U, .str k_radialGradient, .int .i64 1, .bool false, U, .str s, .slice (some (.new p2 0)) 6 6 true, .str k_radialGradient], [], h3, none⟩ (by kernel_rfl) ?_
          refine WpM.ret (.str k_radialGradient) h3 (by kernel_rfl) (by kernel_rfl) ?_
          first | rfl | (simp only [tagM, capM, c5, c6, c7, Bool.true_and, Bool.false_and, Bool.and_true, Bool.and_false, Bool.or_false, Bool.false_or, Bool.true_or, Bool.or_true, Bool.not_true, Bool.not_false, Int.reduceBEq, beq_self_eq_true, if_true, Bool.false_eq_true, if_false]; done) | (simp [tagM, capM, *]; done) | (simp_all [tagM, capM]; done)
        · have c7p := beq_f c7
          refine WpM.run tab_ok 28 ⟨.ops (p24_14_3 :: o24_14.drop 4), [.seq x24_15, .blk 1, .seq x24_18, .loop x24_7, .blk 0, .seq x24_19, .call [.tmp 4] (some 10) (o9_9.drop 3) [.int .i64 1, .str s, U, U, .str [], .int .i64 1, .bool false, U, .str s, .slice (some (.new p2 0)) 6 6 true, U] [] none, .seq .ret], (.str s :: .slice (some (.new p2 0)) 6 6 true :: U :: U :: .str [] :: .int .i64 3 :: .int .i64 3 :: .slice (some (.new p2 0)) 6 6 true :: .int .i64 6 :: .bool true :: .int .i64 2 :: .int .i64 3 :: .slice (some (.new p2 0)) 6 6 true :: .int .i64 3 :: .ptr (some (.new p2 3)) :: .str k_radialGradient :: .str k_radialgradient :: .str s :: .bool ((k_radialgradient : List UInt8) == s) :: us 5), [], h3, none⟩ (by kernel_rfl) ?_
          refine WpM.op (.str k_textPath) _ (by kernel_rfl) (load_new (o := 3) (by kernel_rfl) a4.get (by kernel_rfl)) ?_
          refine WpM.run tab_ok 5 ⟨.code x24_15, [.blk 1, .seq x24_18, .loop x24_7, .blk 0, .seq x24_19, .call [.tmp 4] (some 10) (o9_9.drop 3) [.int .i64 1, .str s, U, U, .str [], .int .i64 1, .bool false, U, .str s, .slice (some (.new p2 0)) 6 6 true, U] [] none, .seq .ret], (.str s :: .slice (some (.new p2 0)) 6 6 true :: U :: U :: .str [] :: .int .i64 3 :: .int .i64 3 :: .slice (some (.new p2 0)) 6 6 true :: .int .i64 6 :: .bool true :: .int .i64 2 :: .int .i64 3 :: .slice (some (.new p2 0)) 6 6 true :: .int .i64 3 :: .ptr (some (.new p2 3)) :: .str k_textPath :: .str k_textpath :: .str s :: .bool ((k_textpath : List UInt8) == s) :: us 5), [], h3, none⟩ (by kernel_rfl) ?_
          refine WpM.cond (t := ((k_textpath : List UInt8) == s)) (by kernel_rfl) (fun c8 => ?_) (fun c8 => ?_)
          · have c8p := beq_t c8
            refine WpM.run tab_ok 5 ⟨.ops (p24_17_3 :: o24_17.drop 4), [.seq .ret, .blk 1, .seq x24_18, .loop x24_7, .blk 0, .seq x24_19, .call [.tmp 4] (some 10) (o9_9.drop 3) [.int .i64 1, .str s, U, U, .str [], .int .i64 1, .bool false, U, .str s, .slice (some (.new p2 0)) 6 6 true, U] [] none, .seq .ret], (.str s :: .slice (some (.new p2 0)) 6 6 true :: U :: U :: .str [] :: .int .i64 3 :: .int .i64 3 :: .slice (some (.new p2 0)) 6 6 true :: .int .i64 6 :: .bool true :: .int .i64 2 :: .int .i64 3 :: .slice (some (.new p2 0)) 6 6 true :: .int .i64 3 :: .ptr (some (.new p2 3)) :: .str k_textPath :: .str k_textpath :: .str s :: .bool ((k_textpath : List UInt8) == s) :: .slice (some (.new p2 0)) 6 6 true :: .int .i64 3 :: .ptr (some (.new p2 3)) :: U :: U :: []), [], h3, none⟩ (by kernel_rfl) ?_
            refine WpM.op (.str k_textPath) _ (by kernel_rfl) (load_new (o := 3) (by kernel_rfl) a4.get (by kernel_rfl)) ?_
            refine WpM.run tab_ok 14 ⟨.done .ret, [], [.int .i64 1, .str s, U, U, .str k_textPath, .int .i64 1, .bool false, U, .str s, .slice (some (.new p2 0)) 6 6 true, .str k_textPath], [], h3, none⟩ (by kernel_rfl) ?_
            refine WpM.ret (.str k_textPath) h3 (by kernel_rfl) (by kernel_rfl) ?_
            first | rfl | (simp only [tagM, capM, c5, c6, c7, c8, Bool.true_and, Bool.false_and, Bool.and_true, Bool.and_false, Bool.or_false, Bool.false_or, Bool.true_or, Bool.or_true, Bool.not_true, Bool.not_false, Int.reduceBEq, beq_self_eq_true, if_true, Bool.false_eq_true, if_false]; done) | (simp [tagM, capM, *]; done) | (simp_all [tagM, capM]; done)
          · have c8p := beq_f c8
            refine WpM.run tab_ok 28 ⟨.ops (p24_14_3 :: o24_14.drop 4), [.seq x24_15, .blk 1, .seq x24_18, .loop x24_7, .blk 0, .seq x24_19, .call [.tmp 4] (some 10) (o9_9.drop 3) [.int .i64 1, .str s, U, U, .str [], .int .i64 1, .bool false, U, .str s, .slice (some (.new p2 0)) 6 6 true, U] [] none, .seq .ret], (.str s :: .slice (some (.new p2 0)) 6 6 true :: U :: U :: .str [] :: .int .i64 4 :: .int .i64 4 :: .slice (some (.new p2 0)) 6 6 true :: .int .i64 6 :: .bool true :: .int .i64 3 :: .int .i64 4 :: .slice (some (.new p2 0)) 6 6 true :: .int .i64 4 :: .ptr (some (.new p2 4)) :: .str k_textPath :: .str k_textpath :: .str s :: .bool ((k_textpath : List UInt8) == s) :: us 5), [], h3, none⟩ (by kernel_rfl) ?_
            refine WpM.op (.str k_clipPath) _ (by kernel_rfl) (load_new (o := 4) (by kernel_rfl) a4.get (by kernel_rfl)) ?_
            refine WpM.run tab_ok 5 ⟨.code x24_15, [.blk 1, .seq x24_18, .loop x24_7, .blk 0, .seq x24_19, .call [.tmp 4] (some 10) (o9_9.drop 3) [.int .i64 1, .str s, U, U, .str [], .int .i64 1, .bool false, U, .str s, .slice (some (.new p2 0)) 6 6 true, U] [] none, .seq .ret], (.str s :: .slice (some (.new p2 0)) 6 6 true :: U :: U :: .str [] :: .int .i64 4 :: .int .i64 4 :: .slice (some (.new p2 0)) 6 6 true :: .int .i64 6 :: .bool true :: .int .i64 3 :: .int .i64 4 :: .slice (some (.new p2 0)) 6 6 true :: .int .i64 4 :: .ptr (some (.new p2 4)) :: .str k_clipPath :: .str k_clippath :: .str s :: .bool ((k_clippath : List UInt8) == s) :: us 5), [], h3, none⟩ (by kernel_rfl) ?_
            refine WpM.cond (t := ((k_clippath : List UInt8) == s)) (by kernel_rfl) (fun c9 => ?_) (fun c9 => ?_)
            · have c9p := beq_t c9
              refine WpM.run tab_ok 5 ⟨.ops (p24_17_3 :: o24_17.drop 4), [.seq .ret, .blk 1, .seq x24_18, .loop x24_7, .blk 0, .seq x24_19, .call [.tmp 4] (some 10) (o9_9.drop 3) [.int .i64 1, .str s, U, U, .str [], .int .i64 1, .bool false, U, .str s, .slice (some (.new p2 0)) 6 6 true, U] [] none, .seq .ret], (.str s :: .slice (some (.new p2 0)) 6 6 true :: U :: U :: .str [] :: .int .i64 4 :: .int .i64 4 :: .slice (some (.new p2 0)) 6 6 true :: .int .i64 6 :: .bool true :: .int .i64 3 :: .int .i64 4 :: .slice (some (.new p2 0)) 6 6 true :: .int .i64 4 :: .ptr (some (.new p2 4)) :: .str k_clipPath :: .str k_clippath :: .str s :: .bool ((k_clippath : List UInt8) == s) :: .slice (some (.new p2 0)) 6 6 true :: .int .i64 4 :: .ptr (some (.new p2 4)) :: U :: U :: []), [], h3, none⟩ (by kernel_rfl) ?_
              refine WpM.op (.str k_clipPath) _ (by kernel_rfl) (load_new (o := 4) (by kernel_rfl) a4.get (by kernel_rfl)) ?_
              refine WpM.run tab_ok 14 ⟨.done .ret, [], [.int .i64 1, .str s, U, U, .str k_clipPath, .int .i64 1, .bool false, U, .str s, .slice (some (.new p2 0)) 6 6 true, .str k_clipPath], [], h3, none⟩ (by kernel_rfl) ?_
              refine WpM.ret (.str k_clipPath) h3 (by kernel_rfl) (by kernel_rfl) ?_
              first | rfl | (simp only [tagM, capM, c5, c6, c7, c8, c9, Bool.true_and, Bool.false_and, Bool.and_true, Bool.and_false, Bool.or_false, Bool.false_or, Bool.true_or, Bool.or_true, Bool.not_true, Bool.not_false, Int.reduceBEq, beq_self_eq_true, if_true, Bool.false_eq_true, if_false]; done) | (simp [tagM, capM, *]; done) | (simp_all [tagM, capM]; done)
            · have c9p := beq_f c9
              refine WpM.run tab_ok 28 ⟨.ops (p24_14_3 :: o24_14.drop 4), [.seq x24_15, .blk 1, .seq x24_18, .loop x24_7, .blk 0, .seq x24_19, .call [.tmp 4] (some 10) (o9_9.drop 3) [.int .i64 1, .str s, U, U, .str [], .int .i64 1, .bool false, U, .str s, .slice (some (.new p2 0)) 6 6 true, U] [] none, .seq .ret], (.str s :: .slice (some (.new p2 0)) 6 6 true :: U :: U :: .str [] :: .int .i64 5 :: .int .i64 5 :: .slice (some (.new p2 0)) 6 6 true :: .int .i64 6 :: .bool true :: .int .i64 4 :: .int .i64 5 :: .slice (some (.new p2 0)) 6 6 true :: .int .i64 5 :: .ptr (some (.new p2 5)) :: .str k_clipPath :: .str k_clippath :: .str s :: .bool ((k_clippath : List UInt8) == s) :: us 5), [], h3, none⟩ (by kernel_rfl) ?_
              refine WpM.op (.str k_animateTransform) _ (by kernel_rfl) (load_new (o := 5) (by kernel_rfl) a4.get (by kernel_rfl)) ?_
              refine WpM.run tab_ok 5 ⟨.code x24_15, [.blk 1, .seq x24_18, .loop x24_7, .blk 0, .seq x24_19, .call [.tmp 4] (some 10) (o9_9.drop 3) [.int .i64 1, .str s, U, U, .str [], .int .i64 1, .bool false, U, .str s, .slice (some (.new p2 0)) 6 6 true, U] [] none, .seq .ret], (.str s :: .slice (some (.new p2 0)) 6 6 true :: U :: U :: .str [] :: .int .i64 5 :: .int .i64 5 :: .slice (some (.new p2 0)) 6 6 true :: .int .i64 6 :: .bool true :: .int .i64 4 :: .int .i64 5 :: .slice (some (.new p2 0)) 6 6 true :: .int .i64 5 :: .ptr (some (.new p2 5)) :: .str k_animateTransform :: .str k_animatetransform :: .str s :: .bool ((k_animatetransform : List UInt8) == s) :: us 5), [], h3, none⟩ (by kernel_rfl) ?_
              refine WpM.cond (t := ((k_animatetransform : List UInt8) == s)) (by kernel_rfl) (fun c10 => ?_) (fun c10 => ?_)
              · have c10p := beq_t c10
                refine WpM.run tab_ok 5 ⟨.ops (p24_17_3 :: o24_17.drop 4), [.seq .ret, .blk 1, .seq x24_18, .loop x24_7, .blk 0, .seq x24_19, .call [.tmp 4] (some 10) (o9_9.drop 3) [.int .i64 1, .str s, U, U, .str [], .int .i64 1, .bool false, U, .str s, .slice (some (.new p2 0)) 6 6 true, U] [] none, .seq .ret], (.str s :: .slice (some (.new p2 0)) 6 6 true :: U :: U :: .str [] :: .int .i64 5 :: .int .i64 5 :: .slice (some (.new p2 0)) 6 6 true :: .int .i64 6 :: .bool true :: .int .i64 4 :: .int .i64 5 :: .slice (some (.new p2 0)) 6 6 true :: .int .i64 5 :: .ptr (some (.new p2 5)) :: .str k_animateTransform :: .str k_animatetransform :: .str s :: .bool ((k_animatetransform : List UInt8) == s) :: .slice (some (.new p2 0)) 6 6 true :: .int .i64 5 :: .ptr (some (.new p2 5)) :: U :: U :: []), [], h3, none⟩ (by kernel_rfl) ?_
                refine WpM.op (.str k_animateTransform) _ (by kernel_rfl) (load_new (o := 5) (by kernel_rfl) a4.get (by kernel_rfl)) ?_
                refine WpM.run tab_ok 14 ⟨.done .ret, [], [.int .i64 1, .str s, U, U, .str k_animateTransform, .int .i64 1, .bool false, U, .str s, .slice (some (.new p2 0)) 6 6 true, .str k_animateTransform], [], h3, none⟩ (by kernel_rfl) ?_
                refine WpM.ret (.str k_animateTransform) h3 (by kernel_rfl) (by kernel_rfl) ?_
                first | rfl | (simp only [tagM, capM, c5, c6, c7, c8, c9, c10, Bool.true_and, Bool.false_and, Bool.and_true, Bool.and_false, Bool.or_false, Bool.false_or, Bool.true_or, Bool.or_true, Bool.not_true, Bool.not_false, Int.reduceBEq, beq_self_eq_true, if_true, Bool.false_eq_true, if_false]; done) | (simp [tagM, capM, *]; done) | (simp_all [tagM, capM]; done)
              · have c10p := beq_f c10
                refine WpM.run tab_ok 36 ⟨.done .ret, [], [.int .i64 1, .str s, U, U, .str s, .int .i64 1, .bool false, U, .str s, .slice (some (.new p2 0)) 6 6 true, .str s], [], h3, none⟩ (by kernel_rfl) ?_
                refine WpM.ret (.str s) h3 (by kernel_rfl) (by kernel_rfl) ?_
                first | rfl | (simp only [tagM, capM, c5, c6, c7, c8, c9, c10, Bool.true_and, Bool.false_and, Bool.and_true, Bool.and_false, Bool.or_false, Bool.false_or, Bool.true_or, Bool.or_true, Bool.not_true, Bool.not_false, Int.reduceBEq, beq_self_eq_true, if_true, Bool.false_eq_true, if_false]; done) | (simp [tagM, capM, *]; done) | (simp_all [tagM, capM]; done)
def q9 (l : List V) : Option V :=
  match l with
  | [.int .i64 p, .str s] => if s.length ≤ 100000 then some (.str (tagM p s)) else none
  | _ => none
def prim8 : FuncId → Option (List V → H → Option (V × H)) := setPrim prim7 9 q9
theorem prim8s (W : World) (hW : WOK W) : Prims Try.prog W prim8 := by
  refine Prims.add base (prim7s W hW) ⟨_, _, Try.func9, rfl⟩ ?_
  intro w _ args v h
  unfold q9 at h
  split at h
  · split at h
    · rename_i hc; injection h with h; subst h; exact ⟨by simp only [old_cons, old_nil, old_int, old_str, old_bool, old_agg, old_tup, old_nils, Bool.and_true, Bool.true_and, hc], by simp only [old_cons, old_nil, old_int, old_str, old_bool, old_agg, old_tup, old_nils, Bool.and_true, Bool.true_and, hc], tagr hc⟩
    · cases h
  · cases h
theorem tp {W : World} {p : Int} {s : List UInt8} (hs : s.length ≤ 100000) : WpF Try.prog W prim8 10 [.int .i64 p, .str s] H.empty (fun v _ => v = .bool (textP p s)) := by
  refine WpF.m tab_ok (by kernel_rfl) rfl ?_
  refine WpM.cfg (c' := ⟨.code x10_0, [], (.int .i64 p :: .str s :: us 10), [], H.empty, none⟩) (by kernel_rfl) ?_
  refine WpM.run tab_ok 10 ⟨.ops (p10_3_3 :: o10_3.drop 4), [.seq .ret], (.int .i64 p :: .str s :: U :: U :: .bool false :: .int .i64 p :: .bool (p == 2) :: .bool (p == 2) :: us 4), [], H.empty, none⟩ (by kernel_rfl) ?_
  refine WpM.guard (b := (p == 2)) (by kernel_rfl) (fun c1 => ?_) (fun c1 => ?_)
  · have c1p := beq_t c1
    subst c1p
    refine WpM.run tab_ok 0 ⟨.ops (p10_3_3 :: o10_3.drop 4), [.seq .ret], (.int .i64 2 :: .str s :: U :: U :: .bool false :: .int .i64 2 :: .bool true :: .bool true :: us 4), [], H.empty, none⟩ (by kernel_rfl) ?_
    refine WpM.opA (fun p => .slice (some (.new p 0)) 5 5 true) (.cells [.str k_mi, .str k_mo, .str k_mn, .str k_ms, .str k_mtext] 9) (by kernel_rfl) (by kernel_rfl) (fun p2 h3 a4 => ?_)
    refine WpM.run tab_ok 50 ⟨.ops (p34_16_4 :: o34_16.drop 5), [.seq x34_17, .blk 1, .seq x34_20, .loop x34_7, .blk 0, .seq x34_21, .call [.tmp 4] (some 7) (o25_3.drop 3) [.slice (some (.new p2 0)) 5 5 true, .str s, U, U, .bool false, .slice (some (.new p2 0)) 5 5 true, .str s, U, U] [] none, .seq .ret, .call [.tmp 4] (some 10) (o10_3.drop 6) (.int .i64 2 :: .str s :: U :: U :: .bool false :: .int .i64 2 :: .bool true :: .bool true :: .slice (some (.new p2 0)) 5 5 true :: .str s :: U :: U :: []) [] none, .seq .ret], (.slice (some (.new p2 0)) 5 5 true :: .str s :: U :: U :: .int .i64 0 :: .int .i64 0 :: .slice (some (.new p2 0)) 5 5 true :: .int .i64 5 :: .int .i64 0 :: .bool true :: .int .i64 0 :: .str s :: .slice (some (.new p2 0)) 5 5 true :: .int .i64 0 :: .ptr (some (.new p2 0)) :: us 4), [], h3, none⟩ (by kernel_rfl) ?_
    refine WpM.op (.str k_mi) _ (by kernel_rfl) (load_new (o := 0) (by kernel_rfl) a4.get (by kernel_rfl)) ?_
    refine WpM.run tab_ok 3 ⟨.code x34_17, [.blk 1, .seq x34_20, .loop x34_7, .blk 0, .seq x34_21, .call [.tmp 4] (some 7) (o25_3.drop 3) [.slice (some (.new p2 0)) 5 5 true, .str s, U, U, .bool false, .slice (some (.new p2 0)) 5 5 true, .str s, U, U] [] none, .seq .ret, .call [.tmp 4] (some 10) (o10_3.drop 6) (.int .i64 2 :: .str s :: U :: U :: .bool false :: .int .i64 2 :: .bool true :: .bool true :: .slice (some (.new p2 0)) 5 5 true :: .str s :: U :: U :: []) [] none, .seq .ret], (.slice (some (.new p2 0)) 5 5 true :: .str s :: U :: U :: .int .i64 0 :: .int .i64 0 :: .slice (some (.new p2 0)) 5 5 true :: .int .i64 5 :: .int .i64 0 :: .bool true :: .int .i64 0 :: .str s :: .slice (some (.new p2 0)) 5 5 true :: .int .i64 0 :: .ptr (some (.new p2 0)) :: .str k_mi :: .bool (s == k_mi) :: U :: U :: []), [], h3, none⟩ (by kernel_rfl) ?_
    refine WpM.cond (t := (s == k_mi)) (by kernel_rfl) (fun c5 => ?_) (fun c5 => ?_)
    · have c5p := beq_t c5
      refine WpM.run tab_ok 24 ⟨.done .ret, [], (.int .i64 2 :: .str s :: U :: U :: .bool true :: .int .i64 2 :: .bool true :: .bool true :: .slice (some (.new p2 0)) 5 5 true :: .str s :: .bool true :: .bool true :: []), [], h3, none⟩ (by kernel_rfl) ?_
      refine WpM.ret (.bool true) h3 (by kernel_rfl) (by kernel_rfl) ?_
      first | rfl | (simp only [textP, capM, c5, Bool.true_and, Bool.false_and, Bool.and_true, Bool.and_false, Bool.or_false, Bool.false_or, Bool.true_or, Bool.or_true, Bool.not_true, Bool.not_false, Int.reduceBEq, beq_self_eq_true, if_true, Bool.false_eq_true, if_false]; done) | (simp [textP, capM, *]; done) | (simp_all [textP, capM]; done)
    · have c5p := beq_f c5
      refine WpM.run tab_ok 31 ⟨.ops (p34_16_4 :: o34_16.drop 5), [.seq x34_17, .blk 1, .seq x34_20, .loop x34_7, .blk 0, .seq x34_21, .call [.tmp 4] (some 7) (o25_3.drop 3) [.slice (some (.new p2 0)) 5 5 true, .str s, U, U, .bool false, .slice (some (.new p2 0)) 5 5 true, .str s, U, U] [] none, .seq .ret, .call [.tmp 4] (some 10) (o10_3.drop 6) (.int .i64 2 :: .str s :: U :: U :: .bool false :: .int .i64 2 :: .bool true :: .bool true :: .slice (some (.new p2 0)) 5 5 true :: .str s :: U :: U :: []) [] none, .seq .ret], (.slice (some (.new p2 0)) 5 5 true :: .str s :: U :: U :: .int .i64 0 :: .int .i64 1 :: .slice (some (.new p2 0)) 5 5 true :: .int .i64 5 :: .int .i64 1 :: .bool true :: .int .i64 1 :: .str s :: .slice (some (.new p2 0)) 5 5 true :: .int .i64 1 :: .ptr (some (.new p2 1)) :: .str k_mi :: .bool (s == k_mi) :: U :: .int .i64 1 :: []), [], h3, none⟩ (by kernel_rfl) ?_
      refine WpM.op (.str k_mo) _ (by kernel_rfl) (load_new (o := 1) (by kernel_rfl) a4.get (by kernel_rfl)) ?_
      refine WpM.run tab_ok 3 ⟨.code x34_17, [.blk 1, .seq x34_20, .loop x34_7, .blk 0, .seq x34_21, .call [.tmp 4] (some 7) (o25_3.drop 3) [.slice (some (.new p2 0)) 5 5 true, .str s, U, U, .bool false, .slice (some (.new p2 0)) 5 5 true, .str s, U, U] [] none, .seq .ret, .call [.tmp 4] (some 10) (o10_3.drop 6) (.int .i64 2 :: .str s :: U :: U :: .bool false :: .int .i64 2 :: .bool true :: .bool true :: .slice (some (.new p2 0)) 5 5 true :: .str s :: U :: U :: []) [] none, .seq .ret], (.slice (some (.new p2 0)) 5 5 true :: .str s :: U :: U :: .int .i64 0 :: .int .i64 1 :: .slice (some (.new p2 0)) 5 5 true :: .int .i64 5 :: .int .i64 1 :: .bool true :: .int .i64 1 :: .str s :: .slice (some (.new p2 0)) 5 5 true :: .int .i64 1 :: .ptr (some (.new p2 1)) :: .str k_mo :: .bool (s == k_mo) :: U :: .int .i64 1 :: []), [], h3, none⟩ (by kernel_rfl) ?_
      refine WpM.cond (t := (s == k_mo)) (by kernel_rfl) (fun c6 => ?_) (fun c6 => ?_)
      · have c6p := beq_t c6
        refine WpM.run tab_ok 24 ⟨.done .ret, [], (.int .i64 2 :: .str s :: U :: U :: .bool true :: .int .i64 2 :: .bool true :: .bool true :: .slice (some (.new p2 0)) 5 5 true :: .str s :: .bool true :: .bool true :: []), [], h3, none⟩ (by kernel_rfl) ?_
        refine WpM.ret (.bool true) h3 (by kernel_rfl) (by kernel_rfl) ?_
        first | rfl | (simp only [textP, capM, c5, c6, Bool.true_and, Bool.false_and, Bool.and_true, Bool.and_false, Bool.or_false, Bool.false_or, Bool.true_or, Bool.or_true, Bool.not_true, Bool.not_false, Int.reduceBEq, beq_self_eq_true, if_true, Bool.false_eq_true, if_false]; done) | (simp [textP, capM, *]; done) | (simp_all [textP, capM]; done)
      · have c6p := beq_f c6
        refine WpM.run tab_ok 31 ⟨.ops (p34_16_4 :: o34_16.drop 5), [.seq x34_17, .blk 1, .seq x34_20, .loop x34_7, .blk 0, .seq x34_21, .call [.tmp 4] (some 7) (o25_3.drop 3) [.slice (some (.new p2 0)) 5 5 true, .str s, U, U, .bool false, .slice (some (.new p2 0)) 5 5 true, .str s, U, U] [] none, .seq .ret, .call [.tmp 4] (some 10) (o10_3.drop 6) (.int .i64 2 :: .str s :: U :: U :: .bool false :: .int .i64 2 :: .bool true :: .bool true :: .slice (some (.new p2 0)) 5 5 true :: .str s :: U :: U :: []) [] none, .seq .ret], (.slice (some (.new p2 0)) 5 5 true :: .str s :: U :: U :: .int .i64 0 :: .int .i64 2 :: .slice (some (.new p2 0)) 5 5 true :: .int .i64 5 :: .int .i64 2 :: .bool true :: .int .i64 2 :: .str s :: .slice (some (.new p2 0)) 5 5 true :: .int .i64 2 :: .ptr (some (.new p2 2)) :: .str k_mo :: .bool (s == k_mo) :: U :: .int .i64 2 :: []), [], h3, none⟩ (by kernel_rfl) ?_
        refine WpM.op (.str k_mn) _ (by kernel_rfl) (load_new (o := 2) (by kernel_rfl) a4.get (by kernel_rfl)) ?_
        refine WpM.run tab_ok 3 ⟨.code x34_17, [.blk 1, .seq x34_20, .loop x34_7, .blk 0, .seq x34_21, .call [.tmp 4] (some 7) (o25_3.drop 3) [.slice (some (.new p2 0)) 5 5 true, .str s, U, U, .bool false, .slice (some (.new p2 0)) 5 5 true, .str s, U, U] [] none, .seq .ret, .call [.tmp 4] (some 10) (o10_3.drop 6) (.int .i64 2 :: .str s :: U :: U :: .bool false :: .int .i64 2 :: .bool true :: .bool true :: .slice (some (.new p2 0)) 5 5 true :: .str s :: U :: U :: []) [] none, .seq .ret], (.slice (some (.new p2 0)) 5 5 true :: .str s :: U :: U :: .int .i64 0 :: .int .i64 2 :: .slice (some (.new p2 0)) 5 5 true :: .int .i64 5 :: .int .i64 2 :: .bool true :: .int .i64 2 :: .str s :: .slice (some (.new p2 0)) 5 5 true :: .int .i64 2 :: .ptr (some (.new p2 2)) :: .str k_mn :: .bool (s == k_mn) :: U :: .int .i64 2 :: []), [], h3, none⟩ (by kernel_rfl) ?_
        refine WpM.cond (t := (s == k_mn)) (by kernel_rfl) (fun c7 => ?_) (fun c7 => ?_)
        · have c7p := beq_t c7
          refine WpM.run tab_ok 24 ⟨.done .ret, [], (.int .i64 2 :: .str s :: U :: U :: .bool true :: .int .i64 2 :: .bool true :: .bool true :: .slice (some (.new p2 0)) 5 5 true :: .str s :: .bool true :: .bool true :: []), [], h3, none⟩ (by kernel_rfl) ?_
          refine WpM.ret (.bool true) h3 (by kernel_rfl) (by kernel_rfl) ?_
          first | rfl | (simp only [textP, capM, c5, c6, c7, Bool.true_and, Bool.false_and, Bool.and_true, Bool.and_false, Bool.or_false, Bool.false_or, Bool.true_or, Bool.or_true, Bool.not_true, Bool.not_false, Int.reduceBEq, beq_self_eq_true, if_true, Bool.false_eq_true, if_false]; done) | (simp [textP, capM, *]; done) | (simp_all [textP, capM]; done)
        · have c7p := beq_f c7
          refine WpM.run tab_ok 31 ⟨.ops (p34_16_4 :: o34_16.drop 5), [.seq x34_17, .blk 1, .seq x34_20, .loop x34_7, .blk 0, .seq x34_21, .call [.tmp 4] (some 7) (o25_3.drop 3) [.slice (some (.new p2 0)) 5 5 true, .str s, U, U, .bool false, .slice (some (.new p2 0)) 5 5 true, .str s, U, U] [] none, .seq .ret, .call [.tmp 4] (some 10) (o10_3.drop 6) (.int .i64 2 :: .str s :: U :: U :: .bool false :: .int .i64 2 :: .bool true :: .bool true :: .slice (some (.new p2 0)) 5 5 true :: .str s :: U :: U :: []) [] none, .seq .ret], (.slice (some (.new p2 0)) 5 5 true :: .str s :: U :: U :: .int .i64 0 :: .int .i64 3 :: .slice (some (.new p2 0)) 5 5 true :: .int .i64 5 :: .int .i64 3 :: .bool true :: .int .i64 3 :: .str s :: .slice (some (.new p2 0)) 5 5 true :: .int .i64 3 :: .ptr (some (.new p2 3)) :: .str k_mn :: .bool (s == k_mn) :: U :: .int .i64 3 :: []), [], h3, none⟩ (by kernel_rfl) ?_
          refine WpM.op (.str k_ms) _ (by kernel_rfl) (load_new (o := 3) (by kernel_rfl) a4.get (by kernel_rfl)) ?_
          refine WpM.run tab_ok 3 ⟨.code x34_17, [.blk 1, .seq x34_20, .loop x34_7, .blk 0, .seq x34_21, .call [.tmp 4] (some 7) (o25_3.drop 3) [.slice (some (.new p2 0)) 5 5 true, .str s, U, U, .bool false, .slice (some (.new p2 0)) 5 5 true, .str s, U, U] [] none, .seq .ret, .call [.tmp 4] (some 10) (o10_3.drop 6) (.int .i64 2 :: .str s :: U :: U :: .bool false :: .int .i64 2 :: .bool true :: .bool true :: .slice (some (.new p2 0)) 5 5 true :: .str s :: U :: U :: []) [] none, .seq .ret], (.slice (some (.new p2 0)) 5 5 true :: .str s :: U :: U :: .int .i64 0 :: .int .i64 3 :: .slice (some (.new p2 0)) 5 5 true :: .int .i64 5 :: .int .i64 3 :: .bool true :: .int .i64 3 :: .str s :: .slice (some (.new p2 0)) 5 5 true :: .int .i64 3 :: .ptr (some (.new p2 3)) :: .str k_ms :: .bool (s == k_ms) :: U :: .int .i64 3 :: []), [], h3, none⟩ (by kernel_rfl) ?_
          refine WpM.cond (t := (s == k_ms)) (by kernel_rfl) (fun c8 => ?_) (fun c8 => ?_)
          · have c8p := beq_t c8
            refine WpM.run tab_ok 24 ⟨.done .ret, [], (.int .i64 2 :: .str s :: U :: U :: .bool true :: .int .i64 2 :: .bool true :: .bool true :: .slice (some (.new p2 0)) 5 5 true :: .str s :: .bool true :: .bool true :: []), [], h3, none⟩ (by kernel_rfl) ?_
            refine WpM.ret (.bool true) h3 (by kernel_rfl) (by kernel_rfl) ?_
            first | rfl | (simp only [textP, capM, c5, c6, c7, c8, Bool.true_and, Bool.false_and, Bool.and_true, Bool.and_false, Bool.or_false, Bool.false_or, Bool.true_or, Bool.or_true, Bool.not_true, Bool.not_false, Int.reduceBEq, beq_self_eq_true, if_true, Bool.false_eq_true, if_false]; done) | (simp [textP, capM, *]; done) | (simp_all [textP, capM]; done)
          · have c8p := beq_f c8
            refine WpM.run tab_ok 31 ⟨.ops (p34_16_4 :: o34_16.drop 5), [.seq x34_17, .blk 1, .seq x34_20, .loop x34_7, .blk 0, .seq x34_21, .call [.tmp 4] (some 7) (o25_3.drop 3) [.slice (some (.new p2 0)) 5 5 true, .str s, U, U, .bool false, .slice (some (.new p2 0)) 5 5 true, .str s, U, U] [] none, .seq .ret, .call [.tmp 4] (some 10) (o10_3.drop 6) (.int .i64 2 :: .str s :: U :: U :: .bool false :: .int .i64 2 :: .bool true :: .bool true :: .slice (some (.new p2 0)) 5 5 true :: .str s :: U :: U :: []) [] none, .seq .ret], (.slice (some (.new p2 0)) 5 5 true :: .str s :: U :: U :: .int .i64 0 :: .int .i64 4 :: .slice (some (.new p2 0)) 5 5 true :: .int .i64 5 :: .int .i64 4 :: .bool true :: .int .i64 4 :: .str s :: .slice (some (.new p2 0)) 5 5 true :: .int .i64 4 :: .ptr (some (.new p2 4)) :: .str k_ms :: .bool (s == k_ms) :: U :: .int .i64 4 :: []), [], h3, none⟩ (by kernel_rfl) ?_
            refine WpM.op (.str k_mtext) _ (by kernel_rfl) (load_new (o := 4) (by kernel_rfl) a4.get (by kernel_rfl)) ?_
            refine WpM.run tab_ok 3 ⟨.code x34_17, [.blk 1, .seq x34_20, .loop x34_7, .blk 0, .seq x34_21, .call [.tmp 4] (some 7) (o25_3.drop 3) [.slice (some (.new p2 0)) 5 5 true, .str s, U, U, .bool false, .slice (some (.new p2 0)) 5 5 true, .str s, U, U] [] none, .seq .ret, .call [.tmp 4] (some 10) (o10_3.drop 6) (.int .i64 2 :: .str s :: U :: U :: .bool false :: .int .i64 2 :: .bool true :: .bool true :: .slice (some (.new p2 0)) 5 5 true :: .str s :: U :: U :: []) [] none, .seq .ret], (.slice (some (.new p2 0)) 5 5 true :: .str s :: U :: U :: .int .i64 0 :: .int .i64 4 :: .slice (some (.new p2 0)) 5 5 true :: .int .i64 5 :: .int .i64 4 :: .bool true :: .int .i64 4 :: .str s :: .slice (some (.new p2 0)) 5 5 true :: .int .i64 4 :: .ptr (some (.new p2 4)) :: .str k_mtext :: .bool (s == k_mtext) :: U :: .int .i64 4 :: []), [], h3, none⟩ (by kernel_rfl) ?_
            refine WpM.cond (t := (s == k_mtext)) (by kernel_rfl) (fun c9 => ?_) (fun c9 => ?_)
            · have c9p := beq_t c9
              refine WpM.run tab_ok 24 ⟨.done .ret, [], (.int .i64 2 :: .str s :: U :: U :: .bool true :: .int .i64 2 :: .bool true :: .bool true :: .slice (some (.new p2 0)) 5 5 true :: .str s :: .bool true :: .bool true :: []), [], h3, none⟩ (by kernel_rfl) ?_
              refine WpM.ret (.bool true) h3 (by kernel_rfl) (by kernel_rfl) ?_
              first | rfl | (simp only [textP, capM, c5, c6, c7, c8, c9, Bool.true_and, Bool.false_and, Bool.and_true, Bool.and_false, Bool.or_false, Bool.false_or, Bool.true_or, Bool.or_true, Bool.not_true, Bool.not_false, Int.reduceBEq, beq_self_eq_true, if_true, Bool.false_eq_true, if_false]; done) | (simp [textP, capM, *]; done) | (simp_all [textP, capM]; done)
            · have c9p := beq_f c9
              refine WpM.run tab_ok 38 ⟨.done .ret, [], (.int .i64 2 :: .str s :: U :: U :: .bool false :: .int .i64 2 :: .bool true :: .bool true :: .slice (some (.new p2 0)) 5 5 true :: .str s :: .bool false :: .bool false :: []), [], h3, none⟩ (by kernel_rfl) ?_
              refine WpM.ret (.bool false) h3 (by kernel_rfl) (by kernel_rfl) ?_
              first | rfl | (simp only [textP, capM, c5, c6, c7, c8, c9, Bool.true_and, Bool.false_and, Bool.and_true, Bool.and_false, Bool.or_false, Bool.false_or, Bool.true_or, Bool.or_true, Bool.not_true, Bool.not_false, Int.reduceBEq, beq_self_eq_true, if_true, Bool.false_eq_true, if_false]; done) | (simp [textP, capM, *]; done) | (simp_all [textP, capM]; done)
  · have c1p := beq_f c1
    refine WpM.run tab_ok 8 ⟨.done .ret, [], (.int .i64 p :: .str s :: U :: U :: .bool false :: .int .i64 p :: .bool (p == 2) :: .bool false :: U :: U :: U :: .bool false :: []), [], H.empty, none⟩ (by kernel_rfl) ?_
    refine WpM.ret (.bool false) H.empty (by kernel_rfl) (by kernel_rfl) ?_
    first | rfl | (simp only [textP, capM, c1, Bool.true_and, Bool.false_and, Bool.and_true, Bool.and_false, Bool.or_false, Bool.false_or, Bool.true_or, Bool.or_true, Bool.not_true, Bool.not_false, Int.reduceBEq, beq_self_eq_true, if_true, Bool.false_eq_true, if_false]; done) | (simp [textP, capM, *]; done) | (simp_all [textP, capM]; done)
def q10 (l : List V) : Option V :=
  match l with
  | [.int .i64 p, .str s] => if s.length ≤ 100000 then some (.bool (textP p s)) else none
  | _ => none
def prim9 : FuncId → Option (List V → H → Option (V × H)) := setPrim prim8 10 q10
theorem prim9s (W : World) (hW : WOK W) : Prims Try.prog W prim9 := by
  refine Prims.add base (prim8s W hW) ⟨_, _, Try.func10, rfl⟩ ?_
  intro w _ args v h
  unfold q10 at h
  split at h
  · split at h
    · rename_i hc; injection h with h; subst h; exact ⟨by simp only [old_cons, old_nil, old_int, old_str, old_bool, old_agg, old_tup, old_nils, Bool.and_true, Bool.true_and, hc], by simp only [old_cons, old_nil, old_int, old_str, old_bool, old_agg, old_tup, old_nils, Bool.and_true, Bool.true_and, hc], tp hc⟩
    · cases h
  · cases h
theorem tpr {W : World} {p : Int} {s : List UInt8} (hs : s.length ≤ 100000) : WpF Try.prog W prim9 11 [.int .i64 p, .str s] H.empty (fun v _ => v = .bool (textP p s)) := by
  refine WpF.m tab_ok (by kernel_rfl) rfl ?_
  refine WpM.cfg (c' := ⟨.code x11_0, [], [.int .i64 p, .str s, U, U, U, U, U, U, U, U, U], [], H.empty, none⟩) (by kernel_rfl) ?_
  refine WpM.run tab_ok 10 ⟨.ops (p11_3_3 :: o11_3.drop 4), [.seq .ret], [.int .i64 p, .str s, U, U, .bool false, .int .i64 p, .bool (p == 2), .bool (p == 2), U, U, U], [], H.empty, none⟩ (by kernel_rfl) ?_
  refine WpM.guard (b := (p == 2)) (by kernel_rfl) (fun c1 => ?_) (fun c1 => ?_)
  · have c1p := beq_t c1
    subst c1p
    refine WpM.run tab_ok 7 ⟨.done .ret, [], [.int .i64 2, .str s, U, U, .bool (among s k_mimomnmsmtext), .int .i64 2, .bool true, .bool true, .str s, .bool (among s k_mimomnmsmtext), .bool (among s k_mimomnmsmtext)], [], H.empty, none⟩ (by kernel_rfl) ?_
    refine WpM.ret (.bool (among s k_mimomnmsmtext)) H.empty (by kernel_rfl) (by kernel_rfl) ?_
    first | rfl | (simp only [textP, capM, if_true, Bool.true_and, Bool.false_and, Bool.and_true, Bool.and_false, Bool.or_false, Bool.false_or, Bool.true_or, Bool.or_true, Bool.not_true, Bool.not_false, Int.reduceBEq, beq_self_eq_true, if_true, Bool.false_eq_true, if_false, am_k_mimomnmsmtext]; done) | (simp [textP, capM, *]; done) | (simp_all [textP, capM]; done)
  · have c1p := beq_f c1
    refine WpM.run tab_ok 7 ⟨.done .ret, [], [.int .i64 p, .str s, U, U, .bool false, .int .i64 p, .bool (p == 2), .bool false, U, U, .bool false], [], H.empty, none⟩ (by kernel_rfl) ?_
    refine WpM.ret (.bool false) H.empty (by kernel_rfl) (by kernel_rfl) ?_
    first | rfl | (simp only [textP, capM, c1, Bool.true_and, Bool.false_and, Bool.and_true, Bool.and_false, Bool.or_false, Bool.false_or, Bool.true_or, Bool.or_true, Bool.not_true, Bool.not_false, Int.reduceBEq, beq_self_eq_true, if_true, Bool.false_eq_true, if_false, am_k_mimomnmsmtext]; done) | (simp [textP, capM, *]; done) | (simp_all [textP, capM]; done)
def q11 (l : List V) : Option V :=
  match l with
  | [.int .i64 p, .str s] => if s.length ≤ 100000 then some (.bool (textP p s)) else none
  | _ => none
def prim10 : FuncId → Option (List V → H → Option (V × H)) := setPrim prim9 11 q11
theorem prim10s (W : World) (hW : WOK W) : Prims Try.prog W prim10 := by
  refine Prims.add base (prim9s W hW) ⟨_, _, Try.func11, rfl⟩ ?_
  intro w _ args v h
  unfold q11 at h
  split at h
  · split at h
    · rename_i hc; injection h with h; subst h; exact ⟨by simp only [old_cons, old_nil, old_int, old_str, old_bool, old_agg, old_tup, old_nils, Bool.and_true, Bool.true_and, hc], by simp only [old_cons, old_nil, old_int, old_str, old_bool, old_agg, old_tup, old_nils, Bool.and_true, Bool.true_and, hc], tpr hc⟩
    · cases h
  · cases h
theorem htp {W : World} {p : Int} {s : List UInt8} (hs : s.length ≤ 100000) : WpF Try.prog W prim10 12 [.int .i64 p, .str s] H.empty (fun v _ => v = .bool (htmlP p s)) := by
  refine WpF.m tab_ok (by kernel_rfl) rfl ?_
  refine WpM.cfg (c' := ⟨.code x12_0, [], (.int .i64 p :: .str s :: us 10), [], H.empty, none⟩) (by kernel_rfl) ?_
  refine WpM.run tab_ok 10 ⟨.ops (p12_3_3 :: o12_3.drop 4), [.seq .ret], (.int .i64 p :: .str s :: U :: U :: .bool false :: .int .i64 p :: .bool (p == 1) :: .bool (p == 1) :: us 4), [], H.empty, none⟩ (by kernel_rfl) ?_
  refine WpM.guard (b := (p == 1)) (by kernel_rfl) (fun c1 => ?_) (fun c1 => ?_)
  · have c1p := beq_t c1
    subst c1p
    refine WpM.run tab_ok 0 ⟨.ops (p12_3_3 :: o12_3.drop 4), [.seq .ret], (.int .i64 1 :: .str s :: U :: U :: .bool false :: .int .i64 1 :: .bool true :: .bool true :: us 4), [], H.empty, none⟩ (by kernel_rfl) ?_
    refine WpM.opA (fun p => .slice (some (.new p 0)) 3 3 true) (.cells [.str k_foreignObject, .str k_desc, .str k_title] 9) (by kernel_rfl) (by kernel_rfl) (fun p2 h3 a4 => ?_)
    refine WpM.run tab_ok 50 ⟨.ops (p34_16_4 :: o34_16.drop 5), [.seq x34_17, .blk 1, .seq x34_20, .loop x34_7, .blk 0, .seq x34_21, .call [.tmp 4] (some 7) (o25_3.drop 3) [.slice (some (.new p2 0)) 3 3 true, .str s, U, U, .bool false, .slice (some (.new p2 0)) 3 3 true, .str s, U, U] [] none, .seq .ret, .call [.tmp 4] (some 10) (o12_3.drop 6) (.int .i64 1 :: .str s :: U :: U :: .bool false :: .int .i64 1 :: .bool true :: .bool true :: .slice (some (.new p2 0)) 3 3 true :: .str s :: U :: U :: []) [] none, .seq .ret], (.slice (some (.new p2 0)) 3 3 true :: .str s :: U :: U :: .int .i64 0 :: .int .i64 0 :: .slice (some (.new p2 0)) 3 3 true :: .int .i64 3 :: .int .i64 0 :: .bool true :: .int .i64 0 :: .str s :: .slice (some (.new p2 0)) 3 3 true :: .int .i64 0 :: .ptr (some (.new p2 0)) :: us 4), [], h3, none⟩ (by kernel_rfl) ?_
    refine WpM.op (.str k_foreignObject) _ (by kernel_rfl) (load_new (o := 0) (by kernel_rfl) a4.get (by kernel_rfl)) ?_
    refine WpM.run tab_ok 3 ⟨.code x34_17, [.blk 1, .seq x34_20, .loop x34_7, .blk 0, .seq x34_21, .call [.tmp 4] (some 7) (o25_3.drop 3) [.slice (some (.new p2 0)) 3 3 true, .str s, U, U, .bool false, .slice (some (.new p2 0)) 3 3 true, .str s, U, U] [] none, .seq .ret, .call [.tmp 4] (some 10) (o12_3.drop 6) (.int .i64 1 :: .str s :: U :: U :: .bool false :: .int .i64 1 :: .bool true :: .bool true :: .slice (some (.new p2 0)) 3 3 true :: .str s :: U :: U :: []) [] none, .seq .ret], (.slice (some (.new p2 0)) 3 3 true :: .str s :: U :: U :: .int .i64 0 :: .int .i64 0 :: .slice (some (.new p2 0)) 3 3 true :: .int .i64 3 :: .int .i64 0 :: .bool true :: .int .i64 0 :: .str s :: .slice (some (.new p2 0)) 3 3 true :: .int .i64 0 :: .ptr (some (.new p2 0)) :: .str k_foreignObject :: .bool (s == k_foreignObject) :: U :: U :: []), [], h3, none⟩ (by kernel_rfl) ?_
    refine WpM.cond (t := (s == k_foreignObject)) (by kernel_rfl) (fun c5 => ?_) (fun c5 => ?_)
    · have c5p := beq_t c5
      refine WpM.run tab_ok 24 ⟨.done .ret, [], (.int .i64 1 :: .str s :: U :: U :: .bool true :: .int .i64 1 :: .bool true :: .bool true :: .slice (some (.new p2 0)) 3 3 true :: .str s :: .bool true :: .bool true :: []), [], h3, none⟩ (by kernel_rfl) ?_
      refine WpM.ret (.bool true) h3 (by kernel_rfl) (by kernel_rfl) ?_
      first | rfl | (simp only [htmlP, capM, c5, Bool.true_and, Bool.false_and, Bool.and_true, Bool.and_false, Bool.or_false, Bool.false_or, Bool.true_or, Bool.or_true, Bool.not_true, Bool.not_false, Int.reduceBEq, beq_self_eq_true, if_true, Bool.false_eq_true, if_false]; done) | (simp [htmlP, capM, *]; done) | (simp_all [htmlP, capM]; done)
    · have c5p := beq_f c5
      refine WpM.run tab_ok 31 ⟨.ops (p34_16_4 :: o34_16.drop 5), [.seq x34_17, .blk 1, .seq x34_20, .loop x34_7, .blk 0, .seq x34_21, .call [.tmp 4] (some 7) (o25_3.drop 3) [.slice (some (.new p2 0)) 3 3 true, .str s, U, U, .bool false, .slice (some (.new p2 0)) 3 3 true, .str s, U, U] [] none, .seq .ret, .call [.tmp 4] (some 10) (o12_3.drop 6) (.int .i64 1 :: .str s :: U :: U :: .bool false :: .int .i64 1 :: .bool true :: .bool true :: .slice (some (.new p2 0)) 3 3 true :: .str s :: U :: U :: []) [] none, .seq .ret], (.slice (some (.new p2 0)) 3 3 true :: .str s :: U :: U :: .int .i64 0 :: .int .i64 1 :: .slice (some (.new p2 0)) 3 3 true :: .int .i64 3 :: .int .i64 1 :: .bool true :: .int .i64 1 :: .str s :: .slice (some (.new p2 0)) 3 3 true :: .int .i64 1 :: .ptr (some (.new p2 1)) :: .str k_foreignObject :: .bool (s == k_foreignObject) :: U :: .int .i64 1 :: []), [], h3, none⟩ (by kernel_rfl) ?_
      refine WpM.op (.str k_desc) _ (by kernel_rfl) (load_new (o := 1) (by kernel_rfl) a4.get (by kernel_rfl)) ?_
      refine WpM.run tab_ok 3 ⟨.code x34_17, [.blk 1, .seq x34_20, .loop x34_7, .blk 0, .seq x34_21, .call [.tmp 4] (some 7) (o25_3.drop 3) [.slice (some (.new p2 0)) 3 3 true, .str s, U, U, .bool false, .slice (some (.new p2 0)) 3 3 true, .str s, U, U] [] none, .seq .ret, .call [.tmp 4] (some 10) (o12_3.drop 6) (.int .i64 1 :: .str s :: U :: U :: .bool false :: .int .i64 1 :: .bool true :: .bool true :: .slice (some (.new p2 0)) 3 3 true :: .str s :: U :: U :: []) [] none, .seq .ret], (.slice (some (.new p2 0)) 3 3 true :: .str s :: U :: U :: .int .i64 0 :: .int .i64 1 :: .slice (some (.new p2 0)) 3 3 true :: .int .i64 3 :: .int .i64 1 :: .bool true :: .int .i64 1 :: .str s :: .slice (some (.new p2 0)) 3 3 true :: .int .i64 1 :: .ptr (some (.new p2 1)) :: .str k_desc :: .bool (s == k_desc) :: U :: .int .i64 1 :: []), [], h3, none⟩ (by kernel_rfl) ?_
      refine WpM.cond (t := (s == k_desc)) (by kernel_rfl) (fun c6 => ?_) (fun c6 => ?_)
      · have c6p := beq_t c6
        refine WpM.run tab_ok 24 ⟨.done .ret, [], (.int .i64 1 :: .str s :: U :: U :: .bool true :: .int .i64 1 :: .bool true :: .bool true :: .slice (some (.new p2 0)) 3 3 true :: .str s :: .bool true :: .bool true :: []), [], h3, none⟩ (by kernel_rfl) ?_
        refine WpM.ret (.bool true) h3 (by kernel_rfl) (by kernel_rfl) ?_
        first | rfl | (simp only [htmlP, capM, c5, c6, Bool.true_and, Bool.false_and, Bool.and_true, Bool.and_false, Bool.or_false, Bool.false_or, Bool.true_or, Bool.or_true, Bool.not_true, Bool.not_false, Int.reduceBEq, beq_self_eq_true, if_true, Bool.false_eq_true, if_false]; done) | (simp [htmlP, capM, *]; done) | (simp_all [htmlP, capM]; done)
      · have c6p := beq_f c6
        refine WpM.run tab_ok 31 ⟨.ops (p34_16_4 :: o34_16.drop 5), [.seq x34_17, .blk 1, .seq x34_20, .loop x34_7, .blk 0, .seq x34_21, .call [.tmp 4] (some 7) (o25_3.drop 3) [.slice (some (.new p2 0)) 3 3 true, .str s, U, U, .bool false, .slice (some (.new p2 0)) 3 3 true, .str s, U, U] [] none, .seq .ret, .call [.tmp 4] (some 10) (o12_3.drop 6) (.int .i64 1 :: .str s :: U :: U :: .bool false :: .int .i64 1 :: .bool true :: .bool true :: .slice (some (.new p2 0)) 3 3 true :: .str s :: U :: U :: []) [] none, .seq .ret], (.slice (some (.new p2 0)) 3 3 true :: .str s :: U :: U :: .int .i64 0 :: .int .i64 2 :: .slice (some (.new p2 0)) 3 3 true :: .int .i64 3 :: .int .i64 2 :: .bool true :: .int .i64 2 :: .str s :: .slice (some (.new p2 0)) 3 3 true :: .int .i64 2 :: .ptr (some (.new p2 2)) :: .str k_desc :: .bool (s == k_desc) :: U :: .int .i64 2 :: []), [], h3, none⟩ (by kernel_rfl) ?_
        refine WpM.op (.str k_title) _ (by kernel_rfl) (load_new (o := 2) (by kernel_rfl) a4.get (by kernel_rfl)) ?_
        refine WpM.run tab_ok 3 ⟨.code x34_17, [.blk 1, .seq x34_20, .loop x34_7, .blk 0, .seq x34_21, .call [.tmp 4] (some 7) (o25_3.drop 3) [.slice (some (.new p2 0)) 3 3 true, .str s, U, U, .bool false, .slice (some (.new p2 0)) 3 3 true, .str s, U, U] [] none, .seq .ret, .call [.tmp 4] (some 10) (o12_3.drop 6) (.int .i64 1 :: .str s :: U :: U :: .bool false :: .int .i64 1 :: .bool true :: .bool true :: .slice (some (.new p2 0)) 3 3 true :: .str s :: U :: U :: []) [] none, .seq .ret], (.slice (some (.new p2 0)) 3 3 true :: .str s :: U :: U :: .int .i64 0 :: .int .i64 2 :: .slice (some (.new p2 0)) 3 3 true :: .int .i64 3 :: .int .i64 2 :: .bool true :: .int .i64 2 :: .str s :: .slice (some (.new p2 0)) 3 3 true :: .int .i64 2 :: .ptr (some (.new p2 2)) :: .str k_title :: .bool (s == k_title) :: U :: .int .i64 2 :: []), [], h3, none⟩ (by kernel_rfl) ?_
        refine WpM.cond (t := (s == k_title)) (by kernel_rfl) (fun c7 => ?_) (fun c7 => ?_)
        · have c7p := beq_t c7
          refine WpM.run tab_ok 24 ⟨.done .ret, [], (.int .i64 1 :: .str s :: U :: U :: .bool true :: .int .i64 1 :: .bool true :: .bool true :: .slice (some (.new p2 0)) 3 3 true :: .str s :: .bool true :: .bool true :: []), [], h3, none⟩ (by kernel_rfl) ?_
          refine WpM.ret (.bool true) h3 (by kernel_rfl) (by kernel_rfl) ?_
          first | rfl | (simp only [htmlP, capM, c5, c6, c7, Bool.true_and, Bool.false_and, Bool.and_true, Bool.and_false, Bool.or_false, Bool.false_or, Bool.true_or, Bool.or_true, Bool.not_true, Bool.not_false, Int.reduceBEq, beq_self_eq_true, if_true, Bool.false_eq_true, if_false]; done) | (simp [htmlP, capM, *]; done) | (simp_all [htmlP, capM]; done)
        · have c7p := beq_f c7
          refine WpM.run tab_ok 38 ⟨.done .ret, [], (.int .i64 1 :: .str s :: U :: U :: .bool false :: .int .i64 1 :: .bool true :: .bool true :: .slice (some (.new p2 0)) 3 3 true :: .str s :: .bool false :: .bool false :: []), [], h3, none⟩ (by kernel_rfl) ?_
          refine WpM.ret (.bool false) h3 (by kernel_rfl) (by kernel_rfl) ?_
          first | rfl | (simp only [htmlP, capM, c5, c6, c7, Bool.true_and, Bool.false_and, Bool.and_true, Bool.and_false, Bool.or_false, Bool.false_or, Bool.true_or, Bool.or_true, Bool.not_true, Bool.not_false, Int.reduceBEq, beq_self_eq_true, if_true, Bool.false_eq_true, if_false]; done) | (simp [htmlP, capM, *]; done) | (simp_all [htmlP, capM]; done)
  · have c1p := beq_f c1
    refine WpM.run tab_ok 8 ⟨.done .ret, [], (.int .i64 p :: .str s :: U :: U :: .bool false :: .int .i64 p :: .bool (p == 1) :: .bool false :: U :: U :: U :: .bool false :: []), [], H.empty, none⟩ (by kernel_rfl) ?_
    refine WpM.ret (.bool false) H.empty (by kernel_rfl) (by kernel_rfl) ?_
    first | rfl | (simp only [htmlP, capM, c1, Bool.true_and, Bool.false_and, Bool.and_true, Bool.and_false, Bool.or_false, Bool.false_or, Bool.true_or, Bool.or_true, Bool.not_true, Bool.not_false, Int.reduceBEq, beq_self_eq_true, if_true, Bool.false_eq_true, if_false]; done) | (simp [htmlP, capM, *]; done) | (simp_all [htmlP, capM]; done)
def q12 (l : List V) : Option V :=
  match l with
  | [.int .i64 p, .str s] => if s.length ≤ 100000 then some (.bool (htmlP p s)) else none
  | _ => none
def prim11 : FuncId → Option (List V → H → Option (V × H)) := setPrim prim10 12 q12
theorem prim11s (W : World) (hW : WOK W) : Prims Try.prog W prim11 := by
  refine Prims.add base (prim10s W hW) ⟨_, _, Try.func12, rfl⟩ ?_
  intro w _ args v h
  unfold q12 at h
  split at h
  · split at h
    · rename_i hc; injection h with h; subst h; exact ⟨by simp only [old_cons, old_nil, old_int, old_str, old_bool, old_agg, old_tup, old_nils, Bool.and_true, Bool.true_and, hc], by simp only [old_cons, old_nil, old_int, old_str, old_bool, old_agg, old_tup, old_nils, Bool.and_true, Bool.true_and, hc], htp hc⟩
    · cases h
  · cases h
theorem htpr {W : World} {p : Int} {s : List UInt8} (hs : s.length ≤ 100000) : WpF Try.prog W prim11 13 [.int .i64 p, .str s] H.empty (fun v _ => v = .bool (htmlP p s)) := by
  refine WpF.m tab_ok (by kernel_rfl) rfl ?_
  refine WpM.cfg (c' := ⟨.code x13_0, [], [.int .i64 p, .str s, U, U, U, U, U, U, U, U, U], [], H.empty, none⟩) (by kernel_rfl) ?_
  refine WpM.run tab_ok 10 ⟨.ops (p13_3_3 :: o13_3.drop 4), [.seq .ret], [.int .i64 p, .str s, U, U, .bool false, .int .i64 p, .bool (p == 1), .bool (p == 1), U, U, U], [], H.empty, none⟩ (by kernel_rfl) ?_
  refine WpM.guard (b := (p == 1)) (by kernel_rfl) (fun c1 => ?_) (fun c1 => ?_)
  · have c1p := beq_t c1
    subst c1p
    refine WpM.run tab_ok 7 ⟨.done .ret, [], [.int .i64 1, .str s, U, U, .bool (among s k_foreignObjectdesctitle), .int .i64 1, .bool true, .bool true, .str s, .bool (among s k_foreignObjectdesctitle), .bool (among s k_foreignObjectdesctitle)], [], H.empty, none⟩ (by kernel_rfl) ?_
    refine WpM.ret (.bool (among s k_foreignObjectdesctitle)) H.empty (by kernel_rfl) (by kernel_rfl) ?_
    first | rfl | (simp only [htmlP, capM, if_true, Bool.true_and, Bool.false_and, Bool.and_true, Bool.and_false, Bool.or_false, Bool.false_or, Bool.true_or, Bool.or_true, Bool.not_true, Bool.not_false, Int.reduceBEq, beq_self_eq_true, if_true, Bool.false_eq_true, if_false, am_k_foreignObjectdesctitle]; done) | (simp [htmlP, capM, *]; done) | (simp_all [htmlP, capM]; done)
  · have c1p := beq_f c1
    refine WpM.run tab_ok 7 ⟨.done .ret, [], [.int .i64 p, .str s, U, U, .bool false, .int .i64 p, .bool (p == 1), .bool false, U, U, .bool false], [], H.empty, none⟩ (by kernel_rfl) ?_
    refine WpM.ret (.bool false) H.empty (by kernel_rfl) (by kernel_rfl) ?_
    first | rfl | (simp only [htmlP, capM, c1, Bool.true_and, Bool.false_and, Bool.and_true, Bool.and_false, Bool.or_false, Bool.false_or, Bool.true_or, Bool.or_true, Bool.not_true, Bool.not_false, Int.reduceBEq, beq_self_eq_true, if_true, Bool.false_eq_true, if_false, am_k_foreignObjectdesctitle]; done) | (simp [htmlP, capM, *]; done) | (simp_all [htmlP, capM]; done)
def q13 (l : List V) : Option V :=
  match l with
  | [.int .i64 p, .str s] => if s.length ≤ 100000 then some (.bool (htmlP p s)) else none
  | _ => none
def prim12 : FuncId → Option (List V → H → Option (V × H)) := setPrim prim11 13 q13
theorem prim12s (W : World) (hW : WOK W) : Prims Try.prog W prim12 := by
  refine Prims.add base (prim11s W hW) ⟨_, _, Try.func13, rfl⟩ ?_
  intro w _ args v h
  unfold q13 at h
  split at h
  · split at h
    · rename_i hc; injection h with h; subst h; exact ⟨by simp only [old_cons, old_nil, old_int, old_str, old_bool, old_agg, old_tup, old_nils, Bool.and_true, Bool.true_and, hc], by simp only [old_cons, old_nil, old_int, old_str, old_bool, old_agg, old_tup, old_nils, Bool.and_true, Bool.true_and, hc], htpr hc⟩
    · cases h
  · cases h
theorem get_loop {W : World} {la : Option Ad} {l : List T39} {cap : Nat} {nm : List UInt8} (hA : Arr W 2 T39.cells la l) (hb : l.length ≤ 100000) {h : H} {ans : Bool} (n : Nat) : ∀ (i : Int) (d4 d5 d7 d8 d9 d10 d11 d12 d13 d14 d15 d16 d17 d18 d19 d20 d21 d22 d23 d24 : V), n = ((l.length : Int) - i).toNat → (0 ≤ i) → (i ≤ (l.length : Int)) → (ans = (l.drop i.toNat).any (fun a => a.fName == nm)) → WpM Try.prog W prim12 ⟨.code x32_7, [.loop x32_7, .blk 0, .seq x32_19], (.slice la l.length cap true :: .str nm :: U :: U :: d4 :: d5 :: .int .i64 i :: d7 :: d8 :: d9 :: d10 :: d11 :: d12 :: d13 :: d14 :: d15 :: d16 :: d17 :: d18 :: d19 :: d20 :: d21 :: d22 :: d23 :: d24 :: []), [], h, none⟩ (retQ Try.prog W [.tmp 4, .tmp 5] (fun v h' => h = h' ∧ ∃ x, v = .tup [.str x, .bool ans])) := by
  induction n using Nat.strongRecOn with
  | _ n ih =>
    intro i  d4 d5 d7 d8 d9 d10 d11 d12 d13 d14 d15 d16 d17 d18 d19 d20 d21 d22 d23 d24 hn h0 h1 hA2
    refine WpM.run tab_ok 9 ⟨.code x32_10, [.seq x32_11, .loop x32_7, .blk 0, .seq x32_19], (.slice la l.length cap true :: .str nm :: U :: U :: d4 :: d5 :: .int .i64 i :: .int .i64 i :: .slice la l.length cap true :: .int .i64 ((l.length : Int)) :: .bool (decide (i < ((l.length : Int)))) :: d11 :: d12 :: d13 :: d14 :: d15 :: d16 :: d17 :: d18 :: d19 :: d20 :: d21 :: d22 :: d23 :: d24 :: []), [], h, none⟩ (by kernel_rfl) ?_
    refine WpM.cond (t := (decide (i < ((l.length : Int))))) (by kernel_rfl) (fun c101 => ?_) (fun c101 => ?_)
    · have c101p := dec_t c101
      refine WpM.run tab_ok 8 ⟨.ops (p32_14_2 :: o32_14.drop 3), [.seq x32_15, .blk 1, .seq x32_18, .loop x32_7, .blk 0, .seq x32_19], (.slice la l.length cap true :: .str nm :: U :: U :: d4 :: d5 :: .int .i64 i :: .int .i64 i :: .slice la l.length cap true :: .int .i64 ((l.length : Int)) :: .bool (decide (i < ((l.length : Int)))) :: d11 :: d12 :: .slice la l.length cap true :: .int .i64 i :: d15 :: d16 :: d17 :: d18 :: d19 :: d20 :: d21 :: d22 :: d23 :: d24 :: []), [], h, none⟩ (by kernel_rfl) ?_
      refine WpM.op (.ptr (some ((adr la).add (i.toNat * 2)))) _ (by kernel_rfl) (indexAddr_arr (l := l) (cap := cap) (e := 39) (k := .i64) hA (by kernel_rfl) (by kernel_rfl) (by kernel_rfl) (by kernel_rfl) (by omega)) ?_
      refine WpM.run tab_ok 1 ⟨.ops (p32_14_4 :: o32_14.drop 5), [.seq x32_15, .blk 1, .seq x32_18, .loop x32_7, .blk 0, .seq x32_19], (.slice la l.length cap true :: .str nm :: U :: U :: d4 :: d5 :: .int .i64 i :: .int .i64 i :: .slice la l.length cap true :: .int .i64 ((l.length : Int)) :: .bool (decide (i < ((l.length : Int)))) :: d11 :: d12 :: .slice la l.length cap true :: .int .i64 i :: .ptr (some ((adr la).add (i.toNat * 2))) :: .ptr (some (((adr la).add (i.toNat * 2)).add 0)) :: d17 :: d18 :: d19 :: d20 :: d21 :: d22 :: d23 :: d24 :: []), [], h, none⟩ (by kernel_rfl) ?_
      refine WpM.op (.str ((gt l i).fName)) _ (by kernel_rfl) (arr_load (i := i) hA (by omega) (off := 0) (ad := (((adr la).add (i.toNat * 2)).add 0)) (by kernel_rfl) (by kernel_rfl) (by decide) (by kernel_rfl) (rfl)) ?_
      refine WpM.run tab_ok 4 ⟨.code x32_15, [.blk 1, .seq x32_18, .loop x32_7, .blk 0, .seq x32_19], (.slice la l.length cap true :: .str nm :: U :: U :: d4 :: d5 :: .int .i64 i :: .int .i64 i :: .slice la l.length cap true :: .int .i64 ((l.length : Int)) :: .bool (decide (i < ((l.length : Int)))) :: d11 :: d12 :: .slice la l.length cap true :: .int .i64 i :: .ptr (some ((adr la).add (i.toNat * 2))) :: .ptr (some (((adr la).add (i.toNat * 2)).add 0)) :: .str ((gt l i).fName) :: .str nm :: .bool (((gt l i).fName) == nm) :: d20 :: d21 :: d22 :: d23 :: d24 :: []), [], h, none⟩ (by kernel_rfl) ?_
      refine WpM.cond (t := (((gt l i).fName) == nm)) (by kernel_rfl) (fun c102 => ?_) (fun c102 => ?_)
      · have c102p := beq_t c102
        refine WpM.run tab_ok 4 ⟨.ops (p32_17_2 :: o32_17.drop 3), [.seq .ret, .blk 1, .seq x32_18, .loop x32_7, .blk 0, .seq x32_19], (.slice la l.length cap true :: .str nm :: U :: U :: d4 :: d5 :: .int .i64 i :: .int .i64 i :: .slice la l.length cap true :: .int .i64 ((l.length : Int)) :: .bool (decide (i < ((l.length : Int)))) :: d11 :: d12 :: .slice la l.length cap true :: .int .i64 i :: .ptr (some ((adr la).add (i.toNat * 2))) :: .ptr (some (((adr la).add (i.toNat * 2)).add 0)) :: .str ((gt l i).fName) :: .str nm :: .bool (((gt l i).fName) == nm) :: .slice la l.length cap true :: .int .i64 i :: d22 :: d23 :: d24 :: []), [], h, none⟩ (by kernel_rfl) ?_
        refine WpM.op (.ptr (some ((adr la).add (i.toNat * 2)))) _ (by kernel_rfl) (indexAddr_arr (l := l) (cap := cap) (e := 39) (k := .i64) hA (by kernel_rfl) (by kernel_rfl) (by kernel_rfl) (by kernel_rfl) (by omega)) ?_
        refine WpM.run tab_ok 1 ⟨.ops (p32_17_4 :: o32_17.drop 5), [.seq .ret, .blk 1, .seq x32_18, .loop x32_7, .blk 0, .seq x32_19], (.slice la l.length cap true :: .str nm :: U :: U :: d4 :: d5 :: .int .i64 i :: .int .i64 i :: .slice la l.length cap true :: .int .i64 ((l.length : Int)) :: .bool (decide (i < ((l.length : Int)))) :: d11 :: d12 :: .slice la l.length cap true :: .int .i64 i :: .ptr (some ((adr la).add (i.toNat * 2))) :: .ptr (some (((adr la).add (i.toNat * 2)).add 0)) :: .str ((gt l i).fName) :: .str nm :: .bool (((gt l i).fName) == nm) :: .slice la l.length cap true :: .int .i64 i :: .ptr (some ((adr la).add (i.toNat * 2))) :: .ptr (some (((adr la).add (i.toNat * 2)).add 1)) :: d24 :: []), [], h, none⟩ (by kernel_rfl) ?_
        refine WpM.op (.str ((gt l i).fValue)) _ (by kernel_rfl) (arr_load (i := i) hA (by omega) (off := 1) (ad := (((adr la).add (i.toNat * 2)).add 1)) (by kernel_rfl) (by kernel_rfl) (by decide) (by kernel_rfl) (rfl)) ?_
        refine WpM.run tab_ok 10 ⟨.done .ret, [], (.slice la l.length cap true :: .str nm :: U :: U :: .str ((gt l i).fValue) :: .bool true :: .int .i64 i :: .int .i64 i :: .slice la l.length cap true :: .int .i64 ((l.length : Int)) :: .bool (decide (i < ((l.length : Int)))) :: d11 :: d12 :: .slice la l.length cap true :: .int .i64 i :: .ptr (some ((adr la).add (i.toNat * 2))) :: .ptr (some (((adr la).add (i.toNat * 2)).add 0)) :: .str ((gt l i).fName) :: .str nm :: .bool (((gt l i).fName) == nm) :: .slice la l.length cap true :: .int .i64 i :: .ptr (some ((adr la).add (i.toNat * 2))) :: .ptr (some (((adr la).add (i.toNat * 2)).add 1)) :: .str ((gt l i).fValue) :: []), [], h, none⟩ (by kernel_rfl) ?_
        refine WpM.ret (.tup [.str ((gt l i).fValue), .bool true]) h (by kernel_rfl) (by kernel_rfl) ?_
        exact ⟨rfl, _, by rw [hA2]; first | (rw [List.drop_eq_nil_of_le (by omega)]; rfl) | (rw [gt_drop h0 (by omega), List.any_cons, c102]; rfl)⟩
      · have c102p := beq_f c102
        refine WpM.run tab_ok 5 ⟨.ops (p32_18_1 :: o32_18.drop 2), [.loop x32_7, .blk 0, .seq x32_19], (.slice la l.length cap true :: .str nm :: U :: U :: d4 :: d5 :: .int .i64 i :: .int .i64 i :: .slice la l.length cap true :: .int .i64 ((l.length : Int)) :: .bool (decide (i < ((l.length : Int)))) :: .int .i64 i :: d12 :: .slice la l.length cap true :: .int .i64 i :: .ptr (some ((adr la).add (i.toNat * 2))) :: .ptr (some (((adr la).add (i.toNat * 2)).add 0)) :: .str ((gt l i).fName) :: .str nm :: .bool (((gt l i).fName) == nm) :: d20 :: d21 :: d22 :: d23 :: d24 :: []), [], h, none⟩ (by kernel_rfl) ?_
        refine WpM.op (.int .i64 (i + 1)) _ (by kernel_rfl) (arith_add (by kernel_rfl) (by kernel_rfl) (by omega)) ?_
        refine WpM.run tab_ok 3 ⟨.code x32_7, [.loop x32_7, .blk 0, .seq x32_19], (.slice la l.length cap true :: .str nm :: U :: U :: d4 :: d5 :: .int .i64 (i + 1) :: .int .i64 i :: .slice la l.length cap true :: .int .i64 ((l.length : Int)) :: .bool (decide (i < ((l.length : Int)))) :: .int .i64 i :: .int .i64 (i + 1) :: .slice la l.length cap true :: .int .i64 i :: .ptr (some ((adr la).add (i.toNat * 2))) :: .ptr (some (((adr la).add (i.toNat * 2)).add 0)) :: .str ((gt l i).fName) :: .str nm :: .bool (((gt l i).fName) == nm) :: d20 :: d21 :: d22 :: d23 :: d24 :: []), [], h, none⟩ (by kernel_rfl) ?_
        refine ih _ ?_ _  _ _ _ _ _ _ _ _ _ _ _ _ _ _ _ _ _ _ _ _ rfl ?_ ?_ ?_
        · omega
        · omega
        · omega
        · rw [hA2, gt_drop h0 (by omega), List.any_cons, c102, toNat_succ h0, Bool.false_or]
    · have c101p := dec_f c101
      refine WpM.run tab_ok 12 ⟨.done .ret, [], (.slice la l.length cap true :: .str nm :: U :: U :: .str [] :: .bool false :: .int .i64 i :: .int .i64 i :: .slice la l.length cap true :: .int .i64 ((l.length : Int)) :: .bool (decide (i < ((l.length : Int)))) :: d11 :: d12 :: d13 :: d14 :: d15 :: d16 :: d17 :: d18 :: d19 :: d20 :: d21 :: d22 :: d23 :: d24 :: []), [], h, none⟩ (by kernel_rfl) ?_
      refine WpM.ret (.tup [.str [], .bool false]) h (by kernel_rfl) (by kernel_rfl) ?_
      exact ⟨rfl, _, by rw [hA2, List.drop_eq_nil_of_le (by omega)]; rfl⟩
theorem get_ok {W : World} {la : Option Ad} {l : List T39} {cap : Nat} {nm : List UInt8} (hA : Arr W 2 T39.cells la l) (hb : l.length ≤ 100000) (h : H) : WpF Try.prog W prim12 32 [.slice la l.length cap true, .str nm] h (fun v h' => h = h' ∧ ∃ x, v = .tup [.str x, .bool (l.any (fun a => a.fName == nm))]) := by
  refine WpF.m tab_ok (by kernel_rfl) rfl ?_
  refine WpM.cfg (c' := ⟨.code x32_0, [], (.slice la l.length cap true :: .str nm :: us 23), [], h, none⟩) (by kernel_rfl) ?_
  refine WpM.run tab_ok 14 ⟨.code x32_7, [.loop x32_7, .blk 0, .seq x32_19], (.slice la l.length cap true :: .str nm :: U :: U :: .str [] :: .bool false :: .int .i64 0 :: us 18), [], h, none⟩ (by kernel_rfl) ?_
  exact get_loop hA hb _ 0 _ _ _ _ _ _ _ _ _ _ _ _ _ _ _ _ _ _ _ _ rfl (by omega) (by omega) rfl
def brk (a : T39) : Bool := a.fName == k_color || (a.fName == k_face || a.fName == k_size)
end Go.Proofs.Ytjfnoiknjeklhaa.Dg
