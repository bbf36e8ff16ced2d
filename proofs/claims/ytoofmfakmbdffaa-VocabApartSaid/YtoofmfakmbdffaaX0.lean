/-
  The code of chapter 7, as it is walked; names among names.
-/
import Derived.Test.YtoofmfakmbdffaaChecked
import Derived.Test.YtoofmfakmbdffaaShelf
import Derived.Test.YtoofmfakmbdffaaDgS31
set_option linter.unusedVariables false
set_option linter.unusedSimpArgs false
namespace Go.Proofs.Ytoofmfakmbdffaa.Dg
open Go Go.RowKit
set_option maxRecDepth 20000
def k_areabasebrcolembedhrimgi : List UInt8 := [32, 97, 114, 101, 97, 32, 98, 97, 115, 101, 32, 98, 114, 32, 99, 111, 108, 32, 101, 109, 98, 101, 100, 32, 104, 114, 32, 105, 109, 103, 32, 105, 110, 112, 117, 116, 32, 107, 101, 121, 103, 101, 110, 32, 108, 105, 110, 107, 32, 109, 101, 116, 97, 32, 112, 97, 114, 97, 109, 32, 115, 111, 117, 114, 99, 101, 32, 116, 114, 97, 99, 107, 32, 119, 98, 114, 32]
def k_abbigcodeemfontinobrssma : List UInt8 := [32, 97, 32, 98, 32, 98, 105, 103, 32, 99, 111, 100, 101, 32, 101, 109, 32, 102, 111, 110, 116, 32, 105, 32, 110, 111, 98, 114, 32, 115, 32, 115, 109, 97, 108, 108, 32, 115, 116, 114, 105, 107, 101, 32, 115, 116, 114, 111, 110, 103, 32, 116, 116, 32, 117, 32]
def k_dddtlioptgroupoptionprbr : List UInt8 := [32, 100, 100, 32, 100, 116, 32, 108, 105, 32, 111, 112, 116, 103, 114, 111, 117, 112, 32, 111, 112, 116, 105, 111, 110, 32, 112, 32, 114, 98, 32, 114, 112, 32, 114, 116, 32, 114, 116, 99, 32]
def k_h1h2h3h4h5h6 : List UInt8 := [32, 104, 49, 32, 104, 50, 32, 104, 51, 32, 104, 52, 32, 104, 53, 32, 104, 54, 32]
def k_addressarticleasideblock : List UInt8 := [32, 97, 100, 100, 114, 101, 115, 115, 32, 97, 114, 116, 105, 99, 108, 101, 32, 97, 115, 105, 100, 101, 32, 98, 108, 111, 99, 107, 113, 117, 111, 116, 101, 32, 99, 101, 110, 116, 101, 114, 32, 100, 101, 116, 97, 105, 108, 115, 32, 100, 105, 97, 108, 111, 103, 32, 100, 105, 114, 32, 100, 105, 118, 32, 100, 108, 32, 102, 105, 101, 108, 100, 115, 101, 116, 32, 102, 105, 103, 99, 97, 112, 116, 105, 111, 110, 32, 102, 105, 103, 117, 114, 101, 32, 102, 111, 111, 116, 101, 114, 32, 104, 101, 97, 100, 101, 114, 32, 104, 103, 114, 111, 117, 112, 32, 109, 97, 105, 110, 32, 109, 101, 110, 117, 32, 110, 97, 118, 32, 111, 108, 32, 115, 101, 99, 116, 105, 111, 110, 32, 115, 117, 109, 109, 97, 114, 121, 32, 117, 108, 32]
def k_areabasebrcolembedhrimgi' : List UInt8 := [97, 114, 101, 97, 32, 98, 97, 115, 101, 32, 98, 114, 32, 99, 111, 108, 32, 101, 109, 98, 101, 100, 32, 104, 114, 32, 105, 109, 103, 32, 105, 110, 112, 117, 116, 32, 107, 101, 121, 103, 101, 110, 32, 108, 105, 110, 107, 32, 109, 101, 116, 97, 32, 112, 97, 114, 97, 109, 32, 115, 111, 117, 114, 99, 101, 32, 116, 114, 97, 99, 107, 32, 119, 98, 114]
def k_abbigcodeemfontinobrssma' : List UInt8 := [97, 32, 98, 32, 98, 105, 103, 32, 99, 111, 100, 101, 32, 101, 109, 32, 102, 111, 110, 116, 32, 105, 32, 110, 111, 98, 114, 32, 115, 32, 115, 109, 97, 108, 108, 32, 115, 116, 114, 105, 107, 101, 32, 115, 116, 114, 111, 110, 103, 32, 116, 116, 32, 117]
def k_dddtlioptgroupoptionprbr' : List UInt8 := [100, 100, 32, 100, 116, 32, 108, 105, 32, 111, 112, 116, 103, 114, 111, 117, 112, 32, 111, 112, 116, 105, 111, 110, 32, 112, 32, 114, 98, 32, 114, 112, 32, 114, 116, 32, 114, 116, 99]
def k_h1h2h3h4h5h6' : List UInt8 := [104, 49, 32, 104, 50, 32, 104, 51, 32, 104, 52, 32, 104, 53, 32, 104, 54]
def k_addressarticleasideblock' : List UInt8 := [97, 100, 100, 114, 101, 115, 115, 32, 97, 114, 116, 105, 99, 108, 101, 32, 97, 115, 105, 100, 101, 32, 98, 108, 111, 99, 107, 113, 117, 111, 116, 101, 32, 99, 101, 110, 116, 101, 114, 32, 100, 101, 116, 97, 105, 108, 115, 32, 100, 105, 97, 108, 111, 103, 32, 100, 105, 114, 32, 100, 105, 118, 32, 100, 108, 32, 102, 105, 101, 108, 100, 115, 101, 116, 32, 102, 105, 103, 99, 97, 112, 116, 105, 111, 110, 32, 102, 105, 103, 117, 114, 101, 32, 102, 111, 111, 116, 101, 114, 32, 104, 101, 97, 100, 101, 114, 32, 104, 103, 114, 111, 117, 112, 32, 109, 97, 105, 110, 32, 109, 101, 110, 117, 32, 110, 97, 118, 32, 111, 108, 32, 115, 101, 99, 116, 105, 111, 110, 32, 115, 117, 109, 109, 97, 114, 121, 32, 117, 108]
def k_plaintext : List UInt8 := [112, 108, 97, 105, 110, 116, 101, 120, 116]
def k_titletextarea : List UInt8 := [32, 116, 105, 116, 108, 101, 32, 116, 101, 120, 116, 97, 114, 101, 97, 32]
def k_stylescriptxmpiframenoem : List UInt8 := [32, 115, 116, 121, 108, 101, 32, 115, 99, 114, 105, 112, 116, 32, 120, 109, 112, 32, 105, 102, 114, 97, 109, 101, 32, 110, 111, 101, 109, 98, 101, 100, 32]
def k_titletextarea' : List UInt8 := [116, 105, 116, 108, 101, 32, 116, 101, 120, 116, 97, 114, 101, 97]
def k_stylescriptxmpiframenoem' : List UInt8 := [115, 116, 121, 108, 101, 32, 115, 99, 114, 105, 112, 116, 32, 120, 109, 112, 32, 105, 102, 114, 97, 109, 101, 32, 110, 111, 101, 109, 98, 101, 100]
def k_appletbodybuttoncaptionc : List UInt8 := [32, 97, 112, 112, 108, 101, 116, 32, 98, 111, 100, 121, 32, 98, 117, 116, 116, 111, 110, 32, 99, 97, 112, 116, 105, 111, 110, 32, 99, 111, 108, 103, 114, 111, 117, 112, 32, 100, 100, 32, 100, 116, 32, 102, 111, 114, 109, 32, 104, 101, 97, 100, 32, 104, 116, 109, 108, 32, 105, 102, 114, 97, 109, 101, 32, 108, 105, 32, 108, 105, 115, 116, 105, 110, 103, 32, 109, 97, 114, 113, 117, 101, 101, 32, 110, 111, 101, 109, 98, 101, 100, 32, 111, 98, 106, 101, 99, 116, 32, 112, 32, 112, 108, 97, 105, 110, 116, 101, 120, 116, 32, 112, 114, 101, 32, 115, 99, 114, 105, 112, 116, 32, 115, 101, 108, 101, 99, 116, 32, 115, 116, 121, 108, 101, 32, 116, 97, 98, 108, 101, 32, 116, 98, 111, 100, 121, 32, 116, 100, 32, 116, 101, 120, 116, 97, 114, 101, 97, 32, 116, 102, 111, 111, 116, 32, 116, 104, 32, 116, 104, 101, 97, 100, 32, 116, 105, 116, 108, 101, 32, 116, 114, 32, 120, 109, 112, 32]
def k_foreignObjectdesctitle : List UInt8 := [32, 102, 111, 114, 101, 105, 103, 110, 79, 98, 106, 101, 99, 116, 32, 100, 101, 115, 99, 32, 116, 105, 116, 108, 101, 32]
def k_mimomnmsmtext : List UInt8 := [32, 109, 105, 32, 109, 111, 32, 109, 110, 32, 109, 115, 32, 109, 116, 101, 120, 116, 32]
def k_appletbodybuttoncaptionc' : List UInt8 := [97, 112, 112, 108, 101, 116, 32, 98, 111, 100, 121, 32, 98, 117, 116, 116, 111, 110, 32, 99, 97, 112, 116, 105, 111, 110, 32, 99, 111, 108, 103, 114, 111, 117, 112, 32, 100, 100, 32, 100, 116, 32, 102, 111, 114, 109, 32, 104, 101, 97, 100, 32, 104, 116, 109, 108, 32, 105, 102, 114, 97, 109, 101, 32, 108, 105, 32, 108, 105, 115, 116, 105, 110, 103, 32, 109, 97, 114, 113, 117, 101, 101, 32, 110, 111, 101, 109, 98, 101, 100, 32, 111, 98, 106, 101, 99, 116, 32, 112, 32, 112, 108, 97, 105, 110, 116, 101, 120, 116, 32, 112, 114, 101, 32, 115, 99, 114, 105, 112, 116, 32, 115, 101, 108, 101, 99, 116, 32, 115, 116, 121, 108, 101, 32, 116, 97, 98, 108, 101, 32, 116, 98, 111, 100, 121, 32, 116, 100, 32, 116, 101, 120, 116, 97, 114, 101, 97, 32, 116, 102, 111, 111, 116, 32, 116, 104, 32, 116, 104, 101, 97, 100, 32, 116, 105, 116, 108, 101, 32, 116, 114, 32, 120, 109, 112]
def k_foreignObjectdesctitle' : List UInt8 := [102, 111, 114, 101, 105, 103, 110, 79, 98, 106, 101, 99, 116, 32, 100, 101, 115, 99, 32, 116, 105, 116, 108, 101]
def k_mimomnmsmtext' : List UInt8 := [109, 105, 32, 109, 111, 32, 109, 110, 32, 109, 115, 32, 109, 116, 101, 120, 116]
def p3_1_0 : RO := ⟨none, some 2, .assign (.const (.bool false))⟩
def o3_1 : List RO := [p3_1_0]
def x3_1 : RC := .ops o3_1
def p3_4_0 : RO := ⟨none, some 5, .move (.tmp 0)⟩
def p3_4_1 : RO := ⟨none, some 6, .call ⟨.builtin .len, #[(.tmp 5)], #[9]⟩⟩
def p3_4_2 : RO := ⟨none, some 7, .binOp .gtr 3 (.tmp 6) (.const (.int .i64 (10000))) 3⟩
def o3_4 : List RO := [p3_4_0, p3_4_1, p3_4_2]
def x3_4 : RC := .ops o3_4
def p3_7_0 : RO := ⟨none, some 8, .call ⟨.value (.func 8), #[], #[]⟩⟩
def p3_7_1 : RO := ⟨none, some 2, .assign (.tmp 8)⟩
def o3_7 : List RO := [p3_7_0, p3_7_1]
def x3_7 : RC := .ops o3_7
def x3_6 : RC := .seq x3_7 .ret
def x3_5 : RC := .cond (.tmp 7) x3_6 .skip
def x3_3 : RC := .seq x3_4 x3_5
def p3_9_0 : RO := ⟨none, some 9, .move (.tmp 0)⟩
def p3_9_1 : RO := ⟨none, some 10, .call ⟨.value (.func 9), #[(.tmp 9)], #[9]⟩⟩
def p3_9_2 : RO := ⟨none, some 11, .move (.tmp 0)⟩
def p3_9_3 : RO := ⟨none, some 12, .call ⟨.value (.func 10), #[(.tmp 11)], #[9]⟩⟩
def p3_9_4 : RO := ⟨none, some 13, .binOp .eql 4 (.tmp 10) (.tmp 12) 4⟩
def p3_9_5 : RO := ⟨none, some 14, .move (.tmp 13)⟩
def p3_9_6 : RO := ⟨some (some 14, true), some 15, .move (.tmp 0)⟩
def p3_9_7 : RO := ⟨some (some 14, true), some 16, .call ⟨.value (.func 11), #[(.tmp 15)], #[9]⟩⟩
def p3_9_8 : RO := ⟨some (some 14, true), some 17, .move (.tmp 0)⟩
def p3_9_9 : RO := ⟨some (some 14, true), some 18, .call ⟨.value (.func 12), #[(.tmp 17)], #[9]⟩⟩
def p3_9_10 : RO := ⟨some (some 14, true), some 19, .binOp .eql 4 (.tmp 16) (.tmp 18) 4⟩
def p3_9_11 : RO := ⟨none, some 20, .pick (.tmp 14) (.tmp 19) (.const (.bool false))⟩
def p3_9_12 : RO := ⟨none, some 21, .move (.tmp 20)⟩
def p3_9_13 : RO := ⟨some (some 21, true), some 22, .move (.tmp 0)⟩
def p3_9_14 : RO := ⟨some (some 21, true), some 23, .call ⟨.value (.func 13), #[(.tmp 22)], #[9]⟩⟩
def p3_9_15 : RO := ⟨some (some 21, true), some 24, .move (.tmp 0)⟩
def p3_9_16 : RO := ⟨some (some 21, true), some 25, .call ⟨.value (.func 14), #[(.tmp 24)], #[9]⟩⟩
def p3_9_17 : RO := ⟨some (some 21, true), some 26, .binOp .eql 4 (.tmp 23) (.tmp 25) 4⟩
def p3_9_18 : RO := ⟨none, some 27, .pick (.tmp 21) (.tmp 26) (.const (.bool false))⟩
def p3_9_19 : RO := ⟨none, some 3, .assign (.tmp 27)⟩
def o3_9 : List RO := [p3_9_0, p3_9_1, p3_9_2, p3_9_3, p3_9_4, p3_9_5, p3_9_6, p3_9_7, p3_9_8, p3_9_9, p3_9_10, p3_9_11, p3_9_12, p3_9_13, p3_9_14, p3_9_15, p3_9_16, p3_9_17, p3_9_18, p3_9_19]
def x3_9 : RC := .ops o3_9
def p3_11_0 : RO := ⟨none, some 28, .move (.tmp 0)⟩
def p3_11_1 : RO := ⟨none, some 29, .call ⟨.value (.func 15), #[(.tmp 28)], #[9]⟩⟩
def p3_11_2 : RO := ⟨none, some 30, .move (.tmp 0)⟩
def p3_11_3 : RO := ⟨none, some 31, .call ⟨.value (.func 16), #[(.tmp 30)], #[9]⟩⟩
def p3_11_4 : RO := ⟨none, some 32, .binOp .eql 4 (.tmp 29) (.tmp 31) 4⟩
def p3_11_5 : RO := ⟨none, some 33, .move (.tmp 32)⟩
def p3_11_6 : RO := ⟨some (some 33, true), some 34, .move (.tmp 0)⟩
def p3_11_7 : RO := ⟨some (some 33, true), some 35, .call ⟨.value (.func 17), #[(.tmp 34)], #[9]⟩⟩
def p3_11_8 : RO := ⟨some (some 33, true), some 36, .move (.tmp 0)⟩
def p3_11_9 : RO := ⟨some (some 33, true), some 37, .call ⟨.value (.func 18), #[(.tmp 36)], #[9]⟩⟩
def p3_11_10 : RO := ⟨some (some 33, true), some 38, .binOp .eql 4 (.tmp 35) (.tmp 37) 4⟩
def p3_11_11 : RO := ⟨none, some 39, .pick (.tmp 33) (.tmp 38) (.const (.bool false))⟩
def p3_11_12 : RO := ⟨none, some 40, .move (.tmp 39)⟩
def p3_11_13 : RO := ⟨some (some 40, true), some 41, .move (.tmp 0)⟩
def p3_11_14 : RO := ⟨some (some 40, true), some 42, .call ⟨.value (.func 19), #[(.tmp 41)], #[9]⟩⟩
def p3_11_15 : RO := ⟨some (some 40, true), some 43, .move (.tmp 0)⟩
def p3_11_16 : RO := ⟨some (some 40, true), some 44, .call ⟨.value (.func 20), #[(.tmp 43)], #[9]⟩⟩
def p3_11_17 : RO := ⟨some (some 40, true), some 45, .binOp .eql 3 (.tmp 42) (.tmp 44) 3⟩
def p3_11_18 : RO := ⟨none, some 46, .pick (.tmp 40) (.tmp 45) (.const (.bool false))⟩
def p3_11_19 : RO := ⟨none, some 4, .assign (.tmp 46)⟩
def o3_11 : List RO := [p3_11_0, p3_11_1, p3_11_2, p3_11_3, p3_11_4, p3_11_5, p3_11_6, p3_11_7, p3_11_8, p3_11_9, p3_11_10, p3_11_11, p3_11_12, p3_11_13, p3_11_14, p3_11_15, p3_11_16, p3_11_17, p3_11_18, p3_11_19]
def x3_11 : RC := .ops o3_11
def p3_13_0 : RO := ⟨none, some 47, .move (.tmp 3)⟩
def p3_13_1 : RO := ⟨none, some 48, .move (.tmp 47)⟩
def p3_13_2 : RO := ⟨some (some 48, true), some 49, .move (.tmp 4)⟩
def p3_13_3 : RO := ⟨none, some 50, .pick (.tmp 48) (.tmp 49) (.const (.bool false))⟩
def p3_13_4 : RO := ⟨none, some 51, .move (.tmp 50)⟩
def p3_13_5 : RO := ⟨some (some 51, true), some 52, .call ⟨.value (.func 8), #[], #[]⟩⟩
def p3_13_6 : RO := ⟨none, some 53, .pick (.tmp 51) (.tmp 52) (.const (.bool false))⟩
def p3_13_7 : RO := ⟨none, some 2, .assign (.tmp 53)⟩
def o3_13 : List RO := [p3_13_0, p3_13_1, p3_13_2, p3_13_3, p3_13_4, p3_13_5, p3_13_6, p3_13_7]
def x3_13 : RC := .ops o3_13
def x3_12 : RC := .seq x3_13 .ret
def x3_10 : RC := .seq x3_11 x3_12
def x3_8 : RC := .seq x3_9 x3_10
def x3_2 : RC := .seq x3_3 x3_8
def x3_0 : RC := .seq x3_1 x3_2
theorem x3_eq : Try.f3.body.map rc = some x3_0 := by kernel_rfl
def p4_1_0 : RO := ⟨none, some 4, .assign (.const (.bool false))⟩
def o4_1 : List RO := [p4_1_0]
def x4_1 : RC := .ops o4_1
def p4_4_0 : RO := ⟨none, some 5, .move (.tmp 1)⟩
def p4_4_1 : RO := ⟨none, some 6, .call ⟨.builtin .len, #[(.tmp 5)], #[9]⟩⟩
def p4_4_2 : RO := ⟨none, some 7, .binOp .gtr 3 (.tmp 6) (.const (.int .i64 (10000))) 3⟩
def o4_4 : List RO := [p4_4_0, p4_4_1, p4_4_2]
def x4_4 : RC := .ops o4_4
def p4_7_0 : RO := ⟨none, some 8, .call ⟨.value (.func 8), #[], #[]⟩⟩
def p4_7_1 : RO := ⟨none, some 4, .assign (.tmp 8)⟩
def o4_7 : List RO := [p4_7_0, p4_7_1]
def x4_7 : RC := .ops o4_7
def x4_6 : RC := .seq x4_7 .ret
def x4_5 : RC := .cond (.tmp 7) x4_6 .skip
def x4_3 : RC := .seq x4_4 x4_5
def p4_9_0 : RO := ⟨none, some 9, .move (.tmp 0)⟩
def p4_9_1 : RO := ⟨none, some 10, .move (.tmp 1)⟩
def p4_9_2 : RO := ⟨none, some 11, .call ⟨.value (.func 21), #[(.tmp 9), (.tmp 10)], #[3, 9]⟩⟩
def p4_9_3 : RO := ⟨none, some 12, .move (.tmp 0)⟩
def p4_9_4 : RO := ⟨none, some 13, .move (.tmp 1)⟩
def p4_9_5 : RO := ⟨none, some 14, .call ⟨.value (.func 22), #[(.tmp 12), (.tmp 13)], #[3, 9]⟩⟩
def p4_9_6 : RO := ⟨none, some 15, .binOp .eql 4 (.tmp 11) (.tmp 14) 4⟩
def p4_9_7 : RO := ⟨none, some 16, .move (.tmp 15)⟩
def p4_9_8 : RO := ⟨some (some 16, true), some 17, .call ⟨.value (.func 8), #[], #[]⟩⟩
def p4_9_9 : RO := ⟨none, some 18, .pick (.tmp 16) (.tmp 17) (.const (.bool false))⟩
def p4_9_10 : RO := ⟨none, some 4, .assign (.tmp 18)⟩
def o4_9 : List RO := [p4_9_0, p4_9_1, p4_9_2, p4_9_3, p4_9_4, p4_9_5, p4_9_6, p4_9_7, p4_9_8, p4_9_9, p4_9_10]
def x4_9 : RC := .ops o4_9
def x4_8 : RC := .seq x4_9 .ret
def x4_2 : RC := .seq x4_3 x4_8
def x4_0 : RC := .seq x4_1 x4_2
theorem x4_eq : Try.f4.body.map rc = some x4_0 := by kernel_rfl
def p5_1_0 : RO := ⟨none, some 2, .assign (.const (.bool false))⟩
def o5_1 : List RO := [p5_1_0]
def x5_1 : RC := .ops o5_1
def p5_4_0 : RO := ⟨none, some 4, .move (.tmp 0)⟩
def p5_4_1 : RO := ⟨none, some 5, .call ⟨.builtin .len, #[(.tmp 4)], #[9]⟩⟩
def p5_4_2 : RO := ⟨none, some 6, .binOp .gtr 3 (.tmp 5) (.const (.int .i64 (10000))) 3⟩
def o5_4 : List RO := [p5_4_0, p5_4_1, p5_4_2]
def x5_4 : RC := .ops o5_4
def p5_7_0 : RO := ⟨none, some 7, .call ⟨.value (.func 8), #[], #[]⟩⟩
def p5_7_1 : RO := ⟨none, some 2, .assign (.tmp 7)⟩
def o5_7 : List RO := [p5_7_0, p5_7_1]
def x5_7 : RC := .ops o5_7
def x5_6 : RC := .seq x5_7 .ret
def x5_5 : RC := .cond (.tmp 6) x5_6 .skip
def x5_3 : RC := .seq x5_4 x5_5
def p5_9_0 : RO := ⟨none, some 8, .move (.tmp 0)⟩
def p5_9_1 : RO := ⟨none, some 9, .call ⟨.value (.func 23), #[(.tmp 8)], #[9]⟩⟩
def p5_9_2 : RO := ⟨none, some 3, .assign (.tmp 9)⟩
def o5_9 : List RO := [p5_9_0, p5_9_1, p5_9_2]
def x5_9 : RC := .ops o5_9
def p5_11_0 : RO := ⟨none, some 10, .move (.tmp 3)⟩
def p5_11_1 : RO := ⟨none, some 11, .move (.tmp 0)⟩
def p5_11_2 : RO := ⟨none, some 12, .call ⟨.value (.func 24), #[(.tmp 11)], #[9]⟩⟩
def p5_11_3 : RO := ⟨none, some 13, .binOp .eql 9 (.tmp 10) (.tmp 12) 9⟩
def p5_11_4 : RO := ⟨none, some 14, .move (.tmp 13)⟩
def p5_11_5 : RO := ⟨some (some 14, true), some 15, .move (.tmp 3)⟩
def p5_11_6 : RO := ⟨some (some 14, true), some 16, .call ⟨.value (.func 23), #[(.tmp 15)], #[9]⟩⟩
def p5_11_7 : RO := ⟨some (some 14, true), some 17, .move (.tmp 3)⟩
def p5_11_8 : RO := ⟨some (some 14, true), some 18, .binOp .eql 9 (.tmp 16) (.tmp 17) 9⟩
def p5_11_9 : RO := ⟨none, some 19, .pick (.tmp 14) (.tmp 18) (.const (.bool false))⟩
def p5_11_10 : RO := ⟨none, some 20, .move (.tmp 19)⟩
def p5_11_11 : RO := ⟨some (some 20, true), some 21, .move (.tmp 3)⟩
def p5_11_12 : RO := ⟨some (some 20, true), some 22, .call ⟨.builtin .len, #[(.tmp 21)], #[9]⟩⟩
def p5_11_13 : RO := ⟨some (some 20, true), some 23, .move (.tmp 0)⟩
def p5_11_14 : RO := ⟨some (some 20, true), some 24, .call ⟨.builtin .len, #[(.tmp 23)], #[9]⟩⟩
def p5_11_15 : RO := ⟨some (some 20, true), some 25, .binOp .eql 3 (.tmp 22) (.tmp 24) 3⟩
def p5_11_16 : RO := ⟨none, some 26, .pick (.tmp 20) (.tmp 25) (.const (.bool false))⟩
def p5_11_17 : RO := ⟨none, some 27, .move (.tmp 26)⟩
def p5_11_18 : RO := ⟨some (some 27, true), some 28, .call ⟨.value (.func 8), #[], #[]⟩⟩
def p5_11_19 : RO := ⟨none, some 29, .pick (.tmp 27) (.tmp 28) (.const (.bool false))⟩
def p5_11_20 : RO := ⟨none, some 2, .assign (.tmp 29)⟩
def o5_11 : List RO := [p5_11_0, p5_11_1, p5_11_2, p5_11_3, p5_11_4, p5_11_5, p5_11_6, p5_11_7, p5_11_8, p5_11_9, p5_11_10, p5_11_11, p5_11_12, p5_11_13, p5_11_14, p5_11_15, p5_11_16, p5_11_17, p5_11_18, p5_11_19, p5_11_20]
def x5_11 : RC := .ops o5_11
def x5_10 : RC := .seq x5_11 .ret
def x5_8 : RC := .seq x5_9 x5_10
def x5_2 : RC := .seq x5_3 x5_8
def x5_0 : RC := .seq x5_1 x5_2
theorem x5_eq : Try.f5.body.map rc = some x5_0 := by kernel_rfl
def p6_1_0 : RO := ⟨none, some 2, .assign (.const (.bool false))⟩
def o6_1 : List RO := [p6_1_0]
def x6_1 : RC := .ops o6_1
def p6_3_0 : RO := ⟨none, some 3, .move (.tmp 0)⟩
def p6_3_1 : RO := ⟨none, some 4, .call ⟨.value (.func 25), #[(.tmp 3)], #[3]⟩⟩
def p6_3_2 : RO := ⟨none, some 5, .move (.tmp 0)⟩
def p6_3_3 : RO := ⟨none, some 6, .call ⟨.value (.func 26), #[(.tmp 5)], #[3]⟩⟩
def p6_3_4 : RO := ⟨none, some 7, .binOp .eql 4 (.tmp 4) (.tmp 6) 4⟩
def p6_3_5 : RO := ⟨none, some 8, .move (.tmp 7)⟩
def p6_3_6 : RO := ⟨some (some 8, true), some 9, .call ⟨.value (.func 8), #[], #[]⟩⟩
def p6_3_7 : RO := ⟨none, some 10, .pick (.tmp 8) (.tmp 9) (.const (.bool false))⟩
def p6_3_8 : RO := ⟨none, some 2, .assign (.tmp 10)⟩
def o6_3 : List RO := [p6_3_0, p6_3_1, p6_3_2, p6_3_3, p6_3_4, p6_3_5, p6_3_6, p6_3_7, p6_3_8]
def x6_3 : RC := .ops o6_3
def x6_2 : RC := .seq x6_3 .ret
def x6_0 : RC := .seq x6_1 x6_2
theorem x6_eq : Try.f6.body.map rc = some x6_0 := by kernel_rfl
def p7_1_0 : RO := ⟨none, some 2, .assign (.const (.bool false))⟩
def o7_1 : List RO := [p7_1_0]
def x7_1 : RC := .ops o7_1
def p7_4_0 : RO := ⟨none, some 3, .move (.tmp 0)⟩
def p7_4_1 : RO := ⟨none, some 4, .call ⟨.builtin .len, #[(.tmp 3)], #[9]⟩⟩
def p7_4_2 : RO := ⟨none, some 5, .binOp .gtr 3 (.tmp 4) (.const (.int .i64 (10000))) 3⟩
def o7_4 : List RO := [p7_4_0, p7_4_1, p7_4_2]
def x7_4 : RC := .ops o7_4
def p7_7_0 : RO := ⟨none, some 6, .call ⟨.value (.func 8), #[], #[]⟩⟩
def p7_7_1 : RO := ⟨none, some 2, .assign (.tmp 6)⟩
def o7_7 : List RO := [p7_7_0, p7_7_1]
def x7_7 : RC := .ops o7_7
def x7_6 : RC := .seq x7_7 .ret
def x7_5 : RC := .cond (.tmp 5) x7_6 .skip
def x7_3 : RC := .seq x7_4 x7_5
def p7_10_0 : RO := ⟨none, some 7, .move (.tmp 0)⟩
def p7_10_1 : RO := ⟨none, some 8, .call ⟨.value (.func 11), #[(.tmp 7)], #[9]⟩⟩
def p7_10_2 : RO := ⟨none, some 9, .move (.tmp 8)⟩
def p7_10_3 : RO := ⟨some (some 9, true), some 10, .move (.tmp 0)⟩
def p7_10_4 : RO := ⟨some (some 9, true), some 11, .call ⟨.value (.func 21), #[(.const (.int .i64 (0))), (.tmp 10)], #[3, 9]⟩⟩
def p7_10_5 : RO := ⟨none, some 12, .pick (.tmp 9) (.tmp 11) (.const (.bool false))⟩
def o7_10 : List RO := [p7_10_0, p7_10_1, p7_10_2, p7_10_3, p7_10_4, p7_10_5]
def x7_10 : RC := .ops o7_10
def p7_13_0 : RO := ⟨none, some 2, .assign (.const (.bool false))⟩
def o7_13 : List RO := [p7_13_0]
def x7_13 : RC := .ops o7_13
def x7_12 : RC := .seq x7_13 .ret
def x7_11 : RC := .cond (.tmp 12) x7_12 .skip
def x7_9 : RC := .seq x7_10 x7_11
def p7_16_0 : RO := ⟨none, some 13, .move (.tmp 0)⟩
def p7_16_1 : RO := ⟨none, some 14, .call ⟨.value (.func 9), #[(.tmp 13)], #[9]⟩⟩
def p7_16_2 : RO := ⟨none, some 15, .move (.tmp 14)⟩
def p7_16_3 : RO := ⟨some (some 15, false), some 16, .move (.tmp 0)⟩
def p7_16_4 : RO := ⟨some (some 15, false), some 17, .call ⟨.value (.func 17), #[(.tmp 16)], #[9]⟩⟩
def p7_16_5 : RO := ⟨none, some 18, .pick (.tmp 15) (.const (.bool true)) (.tmp 17)⟩
def p7_16_6 : RO := ⟨none, some 19, .move (.tmp 18)⟩
def p7_16_7 : RO := ⟨some (some 19, false), some 20, .move (.tmp 0)⟩
def p7_16_8 : RO := ⟨some (some 19, false), some 21, .call ⟨.value (.func 15), #[(.tmp 20)], #[9]⟩⟩
def p7_16_9 : RO := ⟨none, some 22, .pick (.tmp 19) (.const (.bool true)) (.tmp 21)⟩
def p7_16_10 : RO := ⟨none, some 23, .move (.tmp 22)⟩
def p7_16_11 : RO := ⟨some (some 23, true), some 24, .move (.tmp 0)⟩
def p7_16_12 : RO := ⟨some (some 23, true), some 25, .call ⟨.value (.func 21), #[(.const (.int .i64 (0))), (.tmp 24)], #[3, 9]⟩⟩
def p7_16_13 : RO := ⟨some (some 23, true), some 26, .unOp .not 4 (.tmp 25)⟩
def p7_16_14 : RO := ⟨none, some 27, .pick (.tmp 23) (.tmp 26) (.const (.bool false))⟩
def o7_16 : List RO := [p7_16_0, p7_16_1, p7_16_2, p7_16_3, p7_16_4, p7_16_5, p7_16_6, p7_16_7, p7_16_8, p7_16_9, p7_16_10, p7_16_11, p7_16_12, p7_16_13, p7_16_14]
def x7_16 : RC := .ops o7_16
def p7_19_0 : RO := ⟨none, some 2, .assign (.const (.bool false))⟩
def o7_19 : List RO := [p7_19_0]
def x7_19 : RC := .ops o7_19
def x7_18 : RC := .seq x7_19 .ret
def x7_17 : RC := .cond (.tmp 27) x7_18 .skip
def x7_15 : RC := .seq x7_16 x7_17
def p7_21_0 : RO := ⟨none, some 28, .move (.tmp 0)⟩
def p7_21_1 : RO := ⟨none, some 29, .call ⟨.value (.func 19), #[(.tmp 28)], #[9]⟩⟩
def p7_21_2 : RO := ⟨none, some 30, .binOp .neq 3 (.tmp 29) (.const (.int .i64 (0))) 3⟩
def p7_21_3 : RO := ⟨none, some 31, .move (.tmp 30)⟩
def p7_21_4 : RO := ⟨some (some 31, true), some 32, .move (.tmp 0)⟩
def p7_21_5 : RO := ⟨some (some 31, true), some 33, .call ⟨.value (.func 9), #[(.tmp 32)], #[9]⟩⟩
def p7_21_6 : RO := ⟨none, some 34, .pick (.tmp 31) (.tmp 33) (.const (.bool false))⟩
def p7_21_7 : RO := ⟨none, some 35, .unOp .not 4 (.tmp 34)⟩
def p7_21_8 : RO := ⟨none, some 36, .move (.tmp 35)⟩
def p7_21_9 : RO := ⟨some (some 36, true), some 37, .call ⟨.value (.func 8), #[], #[]⟩⟩
def p7_21_10 : RO := ⟨none, some 38, .pick (.tmp 36) (.tmp 37) (.const (.bool false))⟩
def p7_21_11 : RO := ⟨none, some 2, .assign (.tmp 38)⟩
def o7_21 : List RO := [p7_21_0, p7_21_1, p7_21_2, p7_21_3, p7_21_4, p7_21_5, p7_21_6, p7_21_7, p7_21_8, p7_21_9, p7_21_10, p7_21_11]
def x7_21 : RC := .ops o7_21
def x7_20 : RC := .seq x7_21 .ret
def x7_14 : RC := .seq x7_15 x7_20
def x7_8 : RC := .seq x7_9 x7_14
def x7_2 : RC := .seq x7_3 x7_8
def x7_0 : RC := .seq x7_1 x7_2
theorem x7_eq : Try.f7.body.map rc = some x7_0 := by kernel_rfl
def p9_1_0 : RO := ⟨none, some 2, .assign (.const (.bool false))⟩
def o9_1 : List RO := [p9_1_0]
def x9_1 : RC := .ops o9_1
def p9_3_0 : RO := ⟨none, some 3, .move (.tmp 0)⟩
def p9_3_1 : RO := ⟨none, some 4, .call ⟨.value (.func 27), #[(.const (.string ⟨#[32, 97, 114, 101, 97, 32, 98, 97, 115, 101, 32, 98, 114, 32, 99, 111, 108, 32, 101, 109, 98, 101, 100, 32, 104, 114, 32, 105, 109, 103, 32, 105, 110, 112, 117, 116, 32, 107, 101, 121, 103, 101, 110, 32, 108, 105, 110, 107, 32, 109, 101, 116, 97, 32, 112, 97, 114, 97, 109, 32, 115, 111, 117, 114, 99, 101, 32, 116, 114, 97, 99, 107, 32, 119, 98, 114, 32]⟩)), (.tmp 3)], #[9, 9]⟩⟩
def p9_3_2 : RO := ⟨none, some 2, .assign (.tmp 4)⟩
def o9_3 : List RO := [p9_3_0, p9_3_1, p9_3_2]
def x9_3 : RC := .ops o9_3
def x9_2 : RC := .seq x9_3 .ret
def x9_0 : RC := .seq x9_1 x9_2
theorem x9_eq : Try.f9.body.map rc = some x9_0 := by kernel_rfl
def p10_1_0 : RO := ⟨none, some 2, .assign (.const (.bool false))⟩
def o10_1 : List RO := [p10_1_0]
def x10_1 : RC := .ops o10_1
def p10_3_0 : RO := ⟨none, some 3, .move (.tmp 0)⟩
def p10_3_1 : RO := ⟨none, some 4, .call ⟨.value (.func 28), #[(.tmp 3), (.const (.string ⟨#[97, 114, 101, 97, 32, 98, 97, 115, 101, 32, 98, 114, 32, 99, 111, 108, 32, 101, 109, 98, 101, 100, 32, 104, 114, 32, 105, 109, 103, 32, 105, 110, 112, 117, 116, 32, 107, 101, 121, 103, 101, 110, 32, 108, 105, 110, 107, 32, 109, 101, 116, 97, 32, 112, 97, 114, 97, 109, 32, 115, 111, 117, 114, 99, 101, 32, 116, 114, 97, 99, 107, 32, 119, 98, 114]⟩))], #[9, 9]⟩⟩
def p10_3_2 : RO := ⟨none, some 2, .assign (.tmp 4)⟩
def o10_3 : List RO := [p10_3_0, p10_3_1, p10_3_2]
def x10_3 : RC := .ops o10_3
def x10_2 : RC := .seq x10_3 .ret
def x10_0 : RC := .seq x10_1 x10_2
theorem x10_eq : Try.f10.body.map rc = some x10_0 := by kernel_rfl
def p11_1_0 : RO := ⟨none, some 2, .assign (.const (.bool false))⟩
def o11_1 : List RO := [p11_1_0]
def x11_1 : RC := .ops o11_1
def p11_3_0 : RO := ⟨none, some 3, .move (.tmp 0)⟩
def p11_3_1 : RO := ⟨none, some 4, .call ⟨.value (.func 27), #[(.const (.string ⟨#[32, 97, 32, 98, 32, 98, 105, 103, 32, 99, 111, 100, 101, 32, 101, 109, 32, 102, 111, 110, 116, 32, 105, 32, 110, 111, 98, 114, 32, 115, 32, 115, 109, 97, 108, 108, 32, 115, 116, 114, 105, 107, 101, 32, 115, 116, 114, 111, 110, 103, 32, 116, 116, 32, 117, 32]⟩)), (.tmp 3)], #[9, 9]⟩⟩
def p11_3_2 : RO := ⟨none, some 2, .assign (.tmp 4)⟩
def o11_3 : List RO := [p11_3_0, p11_3_1, p11_3_2]
def x11_3 : RC := .ops o11_3
def x11_2 : RC := .seq x11_3 .ret
def x11_0 : RC := .seq x11_1 x11_2
theorem x11_eq : Try.f11.body.map rc = some x11_0 := by kernel_rfl
def p12_1_0 : RO := ⟨none, some 2, .assign (.const (.bool false))⟩
def o12_1 : List RO := [p12_1_0]
def x12_1 : RC := .ops o12_1
def p12_3_0 : RO := ⟨none, some 3, .move (.tmp 0)⟩
def p12_3_1 : RO := ⟨none, some 4, .call ⟨.value (.func 28), #[(.tmp 3), (.const (.string ⟨#[97, 32, 98, 32, 98, 105, 103, 32, 99, 111, 100, 101, 32, 101, 109, 32, 102, 111, 110, 116, 32, 105, 32, 110, 111, 98, 114, 32, 115, 32, 115, 109, 97, 108, 108, 32, 115, 116, 114, 105, 107, 101, 32, 115, 116, 114, 111, 110, 103, 32, 116, 116, 32, 117]⟩))], #[9, 9]⟩⟩
def p12_3_2 : RO := ⟨none, some 2, .assign (.tmp 4)⟩
def o12_3 : List RO := [p12_3_0, p12_3_1, p12_3_2]
def x12_3 : RC := .ops o12_3
def x12_2 : RC := .seq x12_3 .ret
def x12_0 : RC := .seq x12_1 x12_2
theorem x12_eq : Try.f12.body.map rc = some x12_0 := by kernel_rfl
def p13_1_0 : RO := ⟨none, some 2, .assign (.const (.bool false))⟩
def o13_1 : List RO := [p13_1_0]
def x13_1 : RC := .ops o13_1
def p13_3_0 : RO := ⟨none, some 3, .move (.tmp 0)⟩
def p13_3_1 : RO := ⟨none, some 4, .call ⟨.value (.func 27), #[(.const (.string ⟨#[32, 100, 100, 32, 100, 116, 32, 108, 105, 32, 111, 112, 116, 103, 114, 111, 117, 112, 32, 111, 112, 116, 105, 111, 110, 32, 112, 32, 114, 98, 32, 114, 112, 32, 114, 116, 32, 114, 116, 99, 32]⟩)), (.tmp 3)], #[9, 9]⟩⟩
def p13_3_2 : RO := ⟨none, some 2, .assign (.tmp 4)⟩
def o13_3 : List RO := [p13_3_0, p13_3_1, p13_3_2]
def x13_3 : RC := .ops o13_3
def x13_2 : RC := .seq x13_3 .ret
def x13_0 : RC := .seq x13_1 x13_2
theorem x13_eq : Try.f13.body.map rc = some x13_0 := by kernel_rfl
def p14_1_0 : RO := ⟨none, some 2, .assign (.const (.bool false))⟩
def o14_1 : List RO := [p14_1_0]
def x14_1 : RC := .ops o14_1
def p14_3_0 : RO := ⟨none, some 3, .move (.tmp 0)⟩
def p14_3_1 : RO := ⟨none, some 4, .call ⟨.value (.func 28), #[(.tmp 3), (.const (.string ⟨#[100, 100, 32, 100, 116, 32, 108, 105, 32, 111, 112, 116, 103, 114, 111, 117, 112, 32, 111, 112, 116, 105, 111, 110, 32, 112, 32, 114, 98, 32, 114, 112, 32, 114, 116, 32, 114, 116, 99]⟩))], #[9, 9]⟩⟩
def p14_3_2 : RO := ⟨none, some 2, .assign (.tmp 4)⟩
def o14_3 : List RO := [p14_3_0, p14_3_1, p14_3_2]
def x14_3 : RC := .ops o14_3
def x14_2 : RC := .seq x14_3 .ret
def x14_0 : RC := .seq x14_1 x14_2
theorem x14_eq : Try.f14.body.map rc = some x14_0 := by kernel_rfl
def p15_1_0 : RO := ⟨none, some 2, .assign (.const (.bool false))⟩
def o15_1 : List RO := [p15_1_0]
def x15_1 : RC := .ops o15_1
def p15_3_0 : RO := ⟨none, some 3, .move (.tmp 0)⟩
def p15_3_1 : RO := ⟨none, some 4, .call ⟨.value (.func 27), #[(.const (.string ⟨#[32, 104, 49, 32, 104, 50, 32, 104, 51, 32, 104, 52, 32, 104, 53, 32, 104, 54, 32]⟩)), (.tmp 3)], #[9, 9]⟩⟩
def p15_3_2 : RO := ⟨none, some 2, .assign (.tmp 4)⟩
def o15_3 : List RO := [p15_3_0, p15_3_1, p15_3_2]
def x15_3 : RC := .ops o15_3
def x15_2 : RC := .seq x15_3 .ret
def x15_0 : RC := .seq x15_1 x15_2
theorem x15_eq : Try.f15.body.map rc = some x15_0 := by kernel_rfl
def p16_1_0 : RO := ⟨none, some 2, .assign (.const (.bool false))⟩
def o16_1 : List RO := [p16_1_0]
def x16_1 : RC := .ops o16_1
def p16_3_0 : RO := ⟨none, some 3, .move (.tmp 0)⟩
def p16_3_1 : RO := ⟨none, some 4, .call ⟨.value (.func 28), #[(.tmp 3), (.const (.string ⟨#[104, 49, 32, 104, 50, 32, 104, 51, 32, 104, 52, 32, 104, 53, 32, 104, 54]⟩))], #[9, 9]⟩⟩
def p16_3_2 : RO := ⟨none, some 2, .assign (.tmp 4)⟩
def o16_3 : List RO := [p16_3_0, p16_3_1, p16_3_2]
def x16_3 : RC := .ops o16_3
def x16_2 : RC := .seq x16_3 .ret
def x16_0 : RC := .seq x16_1 x16_2
theorem x16_eq : Try.f16.body.map rc = some x16_0 := by kernel_rfl
def p17_1_0 : RO := ⟨none, some 2, .assign (.const (.bool false))⟩
def o17_1 : List RO := [p17_1_0]
def x17_1 : RC := .ops o17_1
def p17_3_0 : RO := ⟨none, some 3, .move (.tmp 0)⟩
def p17_3_1 : RO := ⟨none, some 4, .call ⟨.value (.func 27), #[(.const (.string ⟨#[32, 97, 100, 100, 114, 101, 115, 115, 32, 97, 114, 116, 105, 99, 108, 101, 32, 97, 115, 105, 100, 101, 32, 98, 108, 111, 99, 107, 113, 117, 111, 116, 101, 32, 99, 101, 110, 116, 101, 114, 32, 100, 101, 116, 97, 105, 108, 115, 32, 100, 105, 97, 108, 111, 103, 32, 100, 105, 114, 32, 100, 105, 118, 32, 100, 108, 32, 102, 105, 101, 108, 100, 115, 101, 116, 32, 102, 105, 103, 99, 97, 112, 116, 105, 111, 110, 32, 102, 105, 103, 117, 114, 101, 32, 102, 111, 111, 116, 101, 114, 32, 104, 101, 97, 100, 101, 114, 32, 104, 103, 114, 111, 117, 112, 32, 109, 97, 105, 110, 32, 109, 101, 110, 117, 32, 110, 97, 118, 32, 111, 108, 32, 115, 101, 99, 116, 105, 111, 110, 32, 115, 117, 109, 109, 97, 114, 121, 32, 117, 108, 32]⟩)), (.tmp 3)], #[9, 9]⟩⟩
def p17_3_2 : RO := ⟨none, some 2, .assign (.tmp 4)⟩
def o17_3 : List RO := [p17_3_0, p17_3_1, p17_3_2]
def x17_3 : RC := .ops o17_3
def x17_2 : RC := .seq x17_3 .ret
def x17_0 : RC := .seq x17_1 x17_2
theorem x17_eq : Try.f17.body.map rc = some x17_0 := by kernel_rfl
def p18_1_0 : RO := ⟨none, some 2, .assign (.const (.bool false))⟩
def o18_1 : List RO := [p18_1_0]
def x18_1 : RC := .ops o18_1
def p18_3_0 : RO := ⟨none, some 3, .move (.tmp 0)⟩
def p18_3_1 : RO := ⟨none, some 4, .call ⟨.value (.func 28), #[(.tmp 3), (.const (.string ⟨#[97, 100, 100, 114, 101, 115, 115, 32, 97, 114, 116, 105, 99, 108, 101, 32, 97, 115, 105, 100, 101, 32, 98, 108, 111, 99, 107, 113, 117, 111, 116, 101, 32, 99, 101, 110, 116, 101, 114, 32, 100, 101, 116, 97, 105, 108, 115, 32, 100, 105, 97, 108, 111, 103, 32, 100, 105, 114, 32, 100, 105, 118, 32, 100, 108, 32, 102, 105, 101, 108, 100, 115, 101, 116, 32, 102, 105, 103, 99, 97, 112, 116, 105, 111, 110, 32, 102, 105, 103, 117, 114, 101, 32, 102, 111, 111, 116, 101, 114, 32, 104, 101, 97, 100, 101, 114, 32, 104, 103, 114, 111, 117, 112, 32, 109, 97, 105, 110, 32, 109, 101, 110, 117, 32, 110, 97, 118, 32, 111, 108, 32, 115, 101, 99, 116, 105, 111, 110, 32, 115, 117, 109, 109, 97, 114, 121, 32, 117, 108]⟩))], #[9, 9]⟩⟩
def p18_3_2 : RO := ⟨none, some 2, .assign (.tmp 4)⟩
def o18_3 : List RO := [p18_3_0, p18_3_1, p18_3_2]
def x18_3 : RC := .ops o18_3
def x18_2 : RC := .seq x18_3 .ret
def x18_0 : RC := .seq x18_1 x18_2
theorem x18_eq : Try.f18.body.map rc = some x18_0 := by kernel_rfl
def p19_1_0 : RO := ⟨none, some 2, .assign (.const (.int .i64 (0)))⟩
def o19_1 : List RO := [p19_1_0]
def x19_1 : RC := .ops o19_1
def p19_5_0 : RO := ⟨none, some 4, .move (.tmp 0)⟩
def p19_5_1 : RO := ⟨none, some 5, .binOp .eql 9 (.tmp 4) (.const (.string ⟨#[112, 108, 97, 105, 110, 116, 101, 120, 116]⟩)) 9⟩
def p19_5_2 : RO := ⟨none, some 3, .assign (.tmp 5)⟩
def o19_5 : List RO := [p19_5_0, p19_5_1, p19_5_2]
def x19_5 : RC := .ops o19_5
def p19_8_0 : RO := ⟨none, some 2, .assign (.const (.int .i64 (3)))⟩
def o19_8 : List RO := [p19_8_0]
def x19_8 : RC := .ops o19_8
def x19_7 : RC := .seq x19_8 .ret
def p19_10_0 : RO := ⟨none, some 7, .move (.tmp 0)⟩
def p19_10_1 : RO := ⟨none, some 8, .call ⟨.value (.func 27), #[(.const (.string ⟨#[32, 116, 105, 116, 108, 101, 32, 116, 101, 120, 116, 97, 114, 101, 97, 32]⟩)), (.tmp 7)], #[9, 9]⟩⟩
def p19_10_2 : RO := ⟨none, some 6, .assign (.tmp 8)⟩
def o19_10 : List RO := [p19_10_0, p19_10_1, p19_10_2]
def x19_10 : RC := .ops o19_10
def p19_13_0 : RO := ⟨none, some 2, .assign (.const (.int .i64 (1)))⟩
def o19_13 : List RO := [p19_13_0]
def x19_13 : RC := .ops o19_13
def x19_12 : RC := .seq x19_13 .ret
def p19_15_0 : RO := ⟨none, some 10, .move (.tmp 0)⟩
def p19_15_1 : RO := ⟨none, some 11, .call ⟨.value (.func 27), #[(.const (.string ⟨#[32, 115, 116, 121, 108, 101, 32, 115, 99, 114, 105, 112, 116, 32, 120, 109, 112, 32, 105, 102, 114, 97, 109, 101, 32, 110, 111, 101, 109, 98, 101, 100, 32]⟩)), (.tmp 10)], #[9, 9]⟩⟩
def p19_15_2 : RO := ⟨none, some 9, .assign (.tmp 11)⟩
def o19_15 : List RO := [p19_15_0, p19_15_1, p19_15_2]
def x19_15 : RC := .ops o19_15
def p19_18_0 : RO := ⟨none, some 2, .assign (.const (.int .i64 (2)))⟩
def o19_18 : List RO := [p19_18_0]
def x19_18 : RC := .ops o19_18
def x19_17 : RC := .seq x19_18 .ret
def x19_16 : RC := .cond (.tmp 9) x19_17 .skip
def x19_14 : RC := .seq x19_15 x19_16
def x19_11 : RC := .cond (.tmp 6) x19_12 x19_14
def x19_9 : RC := .seq x19_10 x19_11
def x19_6 : RC := .cond (.tmp 3) x19_7 x19_9
def x19_4 : RC := .seq x19_5 x19_6
def x19_3 : RC := .block 0 x19_4
def p19_20_0 : RO := ⟨none, some 2, .assign (.const (.int .i64 (0)))⟩
def o19_20 : List RO := [p19_20_0]
def x19_20 : RC := .ops o19_20
def x19_19 : RC := .seq x19_20 .ret
def x19_2 : RC := .seq x19_3 x19_19
def x19_0 : RC := .seq x19_1 x19_2
theorem x19_eq : Try.f19.body.map rc = some x19_0 := by kernel_rfl
def p20_1_0 : RO := ⟨none, some 2, .assign (.const (.int .i64 (0)))⟩
def o20_1 : List RO := [p20_1_0]
def x20_1 : RC := .ops o20_1
def p20_5_0 : RO := ⟨none, some 4, .move (.tmp 0)⟩
def p20_5_1 : RO := ⟨none, some 5, .call ⟨.value (.func 28), #[(.tmp 4), (.const (.string ⟨#[116, 105, 116, 108, 101, 32, 116, 101, 120, 116, 97, 114, 101, 97]⟩))], #[9, 9]⟩⟩
def p20_5_2 : RO := ⟨none, some 3, .assign (.tmp 5)⟩
def o20_5 : List RO := [p20_5_0, p20_5_1, p20_5_2]
def x20_5 : RC := .ops o20_5
def p20_8_0 : RO := ⟨none, some 2, .assign (.const (.int .i64 (1)))⟩
def o20_8 : List RO := [p20_8_0]
def x20_8 : RC := .ops o20_8
def x20_7 : RC := .seq x20_8 .ret
def p20_10_0 : RO := ⟨none, some 7, .move (.tmp 0)⟩
def p20_10_1 : RO := ⟨none, some 8, .call ⟨.value (.func 28), #[(.tmp 7), (.const (.string ⟨#[115, 116, 121, 108, 101, 32, 115, 99, 114, 105, 112, 116, 32, 120, 109, 112, 32, 105, 102, 114, 97, 109, 101, 32, 110, 111, 101, 109, 98, 101, 100]⟩))], #[9, 9]⟩⟩
def p20_10_2 : RO := ⟨none, some 6, .assign (.tmp 8)⟩
def o20_10 : List RO := [p20_10_0, p20_10_1, p20_10_2]
def x20_10 : RC := .ops o20_10
def p20_13_0 : RO := ⟨none, some 2, .assign (.const (.int .i64 (2)))⟩
def o20_13 : List RO := [p20_13_0]
def x20_13 : RC := .ops o20_13
def x20_12 : RC := .seq x20_13 .ret
def p20_15_0 : RO := ⟨none, some 10, .move (.tmp 0)⟩
def p20_15_1 : RO := ⟨none, some 11, .binOp .eql 9 (.tmp 10) (.const (.string ⟨#[112, 108, 97, 105, 110, 116, 101, 120, 116]⟩)) 9⟩
def p20_15_2 : RO := ⟨none, some 9, .assign (.tmp 11)⟩
def o20_15 : List RO := [p20_15_0, p20_15_1, p20_15_2]
def x20_15 : RC := .ops o20_15
def p20_18_0 : RO := ⟨none, some 2, .assign (.const (.int .i64 (3)))⟩
def o20_18 : List RO := [p20_18_0]
def x20_18 : RC := .ops o20_18
def x20_17 : RC := .seq x20_18 .ret
def x20_16 : RC := .cond (.tmp 9) x20_17 .skip
def x20_14 : RC := .seq x20_15 x20_16
def x20_11 : RC := .cond (.tmp 6) x20_12 x20_14
def x20_9 : RC := .seq x20_10 x20_11
def x20_6 : RC := .cond (.tmp 3) x20_7 x20_9
def x20_4 : RC := .seq x20_5 x20_6
def x20_3 : RC := .block 0 x20_4
def p20_20_0 : RO := ⟨none, some 2, .assign (.const (.int .i64 (0)))⟩
def o20_20 : List RO := [p20_20_0]
def x20_20 : RC := .ops o20_20
def x20_19 : RC := .seq x20_20 .ret
def x20_2 : RC := .seq x20_3 x20_19
def x20_0 : RC := .seq x20_1 x20_2
theorem x20_eq : Try.f20.body.map rc = some x20_0 := by kernel_rfl
def p21_1_0 : RO := ⟨none, some 4, .assign (.const (.bool false))⟩
def o21_1 : List RO := [p21_1_0]
def x21_1 : RC := .ops o21_1
def p21_3_0 : RO := ⟨none, some 6, .build 29 #[(0, (.const (.string ⟨#[32, 97, 112, 112, 108, 101, 116, 32, 98, 111, 100, 121, 32, 98, 117, 116, 116, 111, 110, 32, 99, 97, 112, 116, 105, 111, 110, 32, 99, 111, 108, 103, 114, 111, 117, 112, 32, 100, 100, 32, 100, 116, 32, 102, 111, 114, 109, 32, 104, 101, 97, 100, 32, 104, 116, 109, 108, 32, 105, 102, 114, 97, 109, 101, 32, 108, 105, 32, 108, 105, 115, 116, 105, 110, 103, 32, 109, 97, 114, 113, 117, 101, 101, 32, 110, 111, 101, 109, 98, 101, 100, 32, 111, 98, 106, 101, 99, 116, 32, 112, 32, 112, 108, 97, 105, 110, 116, 101, 120, 116, 32, 112, 114, 101, 32, 115, 99, 114, 105, 112, 116, 32, 115, 101, 108, 101, 99, 116, 32, 115, 116, 121, 108, 101, 32, 116, 97, 98, 108, 101, 32, 116, 98, 111, 100, 121, 32, 116, 100, 32, 116, 101, 120, 116, 97, 114, 101, 97, 32, 116, 102, 111, 111, 116, 32, 116, 104, 32, 116, 104, 101, 97, 100, 32, 116, 105, 116, 108, 101, 32, 116, 114, 32, 120, 109, 112, 32]⟩))), (1, (.const (.string ⟨#[32, 102, 111, 114, 101, 105, 103, 110, 79, 98, 106, 101, 99, 116, 32, 100, 101, 115, 99, 32, 116, 105, 116, 108, 101, 32]⟩))), (2, (.const (.string ⟨#[32, 109, 105, 32, 109, 111, 32, 109, 110, 32, 109, 115, 32, 109, 116, 101, 120, 116, 32]⟩)))]⟩
def p21_3_1 : RO := ⟨none, some 5, .alloc 29⟩
def p21_3_2 : RO := ⟨none, none, .store 29 (.tmp 5) (.tmp 6)⟩
def o21_3 : List RO := [p21_3_0, p21_3_1, p21_3_2]
def x21_3 : RC := .ops o21_3
def p21_7_0 : RO := ⟨none, some 8, .move (.tmp 0)⟩
def p21_7_1 : RO := ⟨none, some 9, .binOp .lss 3 (.tmp 8) (.const (.int .i64 (0))) 3⟩
def p21_7_2 : RO := ⟨none, some 10, .move (.tmp 9)⟩
def p21_7_3 : RO := ⟨some (some 10, false), some 11, .move (.tmp 0)⟩
def p21_7_4 : RO := ⟨some (some 10, false), some 12, .binOp .geq 3 (.tmp 11) (.const (.int .i64 (3))) 3⟩
def p21_7_5 : RO := ⟨none, some 13, .pick (.tmp 10) (.const (.bool true)) (.tmp 12)⟩
def p21_7_6 : RO := ⟨none, some 7, .assign (.tmp 13)⟩
def o21_7 : List RO := [p21_7_0, p21_7_1, p21_7_2, p21_7_3, p21_7_4, p21_7_5, p21_7_6]
def x21_7 : RC := .ops o21_7
def p21_10_0 : RO := ⟨none, some 4, .assign (.const (.bool false))⟩
def o21_10 : List RO := [p21_10_0]
def x21_10 : RC := .ops o21_10
def x21_9 : RC := .seq x21_10 .ret
def p21_12_0 : RO := ⟨none, some 15, .move (.tmp 0)⟩
def p21_12_1 : RO := ⟨none, some 16, .binOp .eql 3 (.tmp 15) (.const (.int .i64 (0))) 3⟩
def p21_12_2 : RO := ⟨none, some 17, .move (.tmp 16)⟩
def p21_12_3 : RO := ⟨some (some 17, true), some 18, .move (.tmp 1)⟩
def p21_12_4 : RO := ⟨some (some 17, true), some 19, .call ⟨.value (.func 9), #[(.tmp 18)], #[9]⟩⟩
def p21_12_5 : RO := ⟨some (some 17, true), some 20, .move (.tmp 19)⟩
def p21_12_6 : RO := ⟨some (some 20, false), some 21, .move (.tmp 1)⟩
def p21_12_7 : RO := ⟨some (some 20, false), some 22, .call ⟨.value (.func 17), #[(.tmp 21)], #[9]⟩⟩
def p21_12_8 : RO := ⟨some (some 17, true), some 23, .pick (.tmp 20) (.const (.bool true)) (.tmp 22)⟩
def p21_12_9 : RO := ⟨some (some 17, true), some 24, .move (.tmp 23)⟩
def p21_12_10 : RO := ⟨some (some 24, false), some 25, .move (.tmp 1)⟩
def p21_12_11 : RO := ⟨some (some 24, false), some 26, .call ⟨.value (.func 15), #[(.tmp 25)], #[9]⟩⟩
def p21_12_12 : RO := ⟨some (some 17, true), some 27, .pick (.tmp 24) (.const (.bool true)) (.tmp 26)⟩
def p21_12_13 : RO := ⟨none, some 28, .pick (.tmp 17) (.tmp 27) (.const (.bool false))⟩
def p21_12_14 : RO := ⟨none, some 14, .assign (.tmp 28)⟩
def o21_12 : List RO := [p21_12_0, p21_12_1, p21_12_2, p21_12_3, p21_12_4, p21_12_5, p21_12_6, p21_12_7, p21_12_8, p21_12_9, p21_12_10, p21_12_11, p21_12_12, p21_12_13, p21_12_14]
def x21_12 : RC := .ops o21_12
def p21_15_0 : RO := ⟨none, some 4, .assign (.const (.bool true))⟩
def o21_15 : List RO := [p21_15_0]
def x21_15 : RC := .ops o21_15
def x21_14 : RC := .seq x21_15 .ret
def x21_13 : RC := .cond (.tmp 14) x21_14 .skip
def x21_11 : RC := .seq x21_12 x21_13
def x21_8 : RC := .cond (.tmp 7) x21_9 x21_11
def x21_6 : RC := .seq x21_7 x21_8
def x21_5 : RC := .block 0 x21_6
def p21_17_0 : RO := ⟨none, some 29, .move (.tmp 0)⟩
def p21_17_1 : RO := ⟨none, some 30, .indexAddr 29 (.tmp 5) (.tmp 29)⟩
def p21_17_2 : RO := ⟨none, some 31, .load 9 (.tmp 30)⟩
def p21_17_3 : RO := ⟨none, some 32, .move (.tmp 1)⟩
def p21_17_4 : RO := ⟨none, some 33, .call ⟨.value (.func 27), #[(.tmp 31), (.tmp 32)], #[9, 9]⟩⟩
def p21_17_5 : RO := ⟨none, some 4, .assign (.tmp 33)⟩
def o21_17 : List RO := [p21_17_0, p21_17_1, p21_17_2, p21_17_3, p21_17_4, p21_17_5]
def x21_17 : RC := .ops o21_17
def x21_16 : RC := .seq x21_17 .ret
def x21_4 : RC := .seq x21_5 x21_16
def x21_2 : RC := .seq x21_3 x21_4
def x21_0 : RC := .seq x21_1 x21_2
theorem x21_eq : Try.f21.body.map rc = some x21_0 := by kernel_rfl
def p22_1_0 : RO := ⟨none, some 4, .assign (.const (.bool false))⟩
def o22_1 : List RO := [p22_1_0]
def x22_1 : RC := .ops o22_1
def p22_4_0 : RO := ⟨none, some 5, .move (.tmp 0)⟩
def o22_4 : List RO := [p22_4_0]
def x22_4 : RC := .ops o22_4
def p22_7_0 : RO := ⟨none, some 7, .binOp .eql 3 (.tmp 5) (.const (.int .i64 (0))) 3⟩
def p22_7_1 : RO := ⟨none, some 6, .assign (.tmp 7)⟩
def o22_7 : List RO := [p22_7_0, p22_7_1]
def x22_7 : RC := .ops o22_7
def p22_10_0 : RO := ⟨none, some 8, .move (.tmp 1)⟩
def p22_10_1 : RO := ⟨none, some 9, .call ⟨.value (.func 28), #[(.tmp 8), (.const (.string ⟨#[97, 114, 101, 97, 32, 98, 97, 115, 101, 32, 98, 114, 32, 99, 111, 108, 32, 101, 109, 98, 101, 100, 32, 104, 114, 32, 105, 109, 103, 32, 105, 110, 112, 117, 116, 32, 107, 101, 121, 103, 101, 110, 32, 108, 105, 110, 107, 32, 109, 101, 116, 97, 32, 112, 97, 114, 97, 109, 32, 115, 111, 117, 114, 99, 101, 32, 116, 114, 97, 99, 107, 32, 119, 98, 114]⟩))], #[9, 9]⟩⟩
def p22_10_2 : RO := ⟨none, some 10, .move (.tmp 9)⟩
def p22_10_3 : RO := ⟨some (some 10, false), some 11, .move (.tmp 1)⟩
def p22_10_4 : RO := ⟨some (some 10, false), some 12, .call ⟨.value (.func 28), #[(.tmp 11), (.const (.string ⟨#[97, 100, 100, 114, 101, 115, 115, 32, 97, 114, 116, 105, 99, 108, 101, 32, 97, 115, 105, 100, 101, 32, 98, 108, 111, 99, 107, 113, 117, 111, 116, 101, 32, 99, 101, 110, 116, 101, 114, 32, 100, 101, 116, 97, 105, 108, 115, 32, 100, 105, 97, 108, 111, 103, 32, 100, 105, 114, 32, 100, 105, 118, 32, 100, 108, 32, 102, 105, 101, 108, 100, 115, 101, 116, 32, 102, 105, 103, 99, 97, 112, 116, 105, 111, 110, 32, 102, 105, 103, 117, 114, 101, 32, 102, 111, 111, 116, 101, 114, 32, 104, 101, 97, 100, 101, 114, 32, 104, 103, 114, 111, 117, 112, 32, 109, 97, 105, 110, 32, 109, 101, 110, 117, 32, 110, 97, 118, 32, 111, 108, 32, 115, 101, 99, 116, 105, 111, 110, 32, 115, 117, 109, 109, 97, 114, 121, 32, 117, 108]⟩))], #[9, 9]⟩⟩
def p22_10_5 : RO := ⟨none, some 13, .pick (.tmp 10) (.const (.bool true)) (.tmp 12)⟩
def p22_10_6 : RO := ⟨none, some 14, .move (.tmp 13)⟩
def p22_10_7 : RO := ⟨some (some 14, false), some 15, .move (.tmp 1)⟩
def p22_10_8 : RO := ⟨some (some 14, false), some 16, .call ⟨.value (.func 28), #[(.tmp 15), (.const (.string ⟨#[104, 49, 32, 104, 50, 32, 104, 51, 32, 104, 52, 32, 104, 53, 32, 104, 54]⟩))], #[9, 9]⟩⟩
def p22_10_9 : RO := ⟨none, some 17, .pick (.tmp 14) (.const (.bool true)) (.tmp 16)⟩
def p22_10_10 : RO := ⟨none, some 18, .move (.tmp 17)⟩
def p22_10_11 : RO := ⟨some (some 18, false), some 19, .move (.tmp 1)⟩
def p22_10_12 : RO := ⟨some (some 18, false), some 20, .call ⟨.value (.func 28), #[(.tmp 19), (.const (.string ⟨#[97, 112, 112, 108, 101, 116, 32, 98, 111, 100, 121, 32, 98, 117, 116, 116, 111, 110, 32, 99, 97, 112, 116, 105, 111, 110, 32, 99, 111, 108, 103, 114, 111, 117, 112, 32, 100, 100, 32, 100, 116, 32, 102, 111, 114, 109, 32, 104, 101, 97, 100, 32, 104, 116, 109, 108, 32, 105, 102, 114, 97, 109, 101, 32, 108, 105, 32, 108, 105, 115, 116, 105, 110, 103, 32, 109, 97, 114, 113, 117, 101, 101, 32, 110, 111, 101, 109, 98, 101, 100, 32, 111, 98, 106, 101, 99, 116, 32, 112, 32, 112, 108, 97, 105, 110, 116, 101, 120, 116, 32, 112, 114, 101, 32, 115, 99, 114, 105, 112, 116, 32, 115, 101, 108, 101, 99, 116, 32, 115, 116, 121, 108, 101, 32, 116, 97, 98, 108, 101, 32, 116, 98, 111, 100, 121, 32, 116, 100, 32, 116, 101, 120, 116, 97, 114, 101, 97, 32, 116, 102, 111, 111, 116, 32, 116, 104, 32, 116, 104, 101, 97, 100, 32, 116, 105, 116, 108, 101, 32, 116, 114, 32, 120, 109, 112]⟩))], #[9, 9]⟩⟩
def p22_10_13 : RO := ⟨none, some 21, .pick (.tmp 18) (.const (.bool true)) (.tmp 20)⟩
def p22_10_14 : RO := ⟨none, some 4, .assign (.tmp 21)⟩
def o22_10 : List RO := [p22_10_0, p22_10_1, p22_10_2, p22_10_3, p22_10_4, p22_10_5, p22_10_6, p22_10_7, p22_10_8, p22_10_9, p22_10_10, p22_10_11, p22_10_12, p22_10_13, p22_10_14]
def x22_10 : RC := .ops o22_10
def x22_9 : RC := .seq x22_10 .ret
def p22_12_0 : RO := ⟨none, some 23, .binOp .eql 3 (.tmp 5) (.const (.int .i64 (1))) 3⟩
def p22_12_1 : RO := ⟨none, some 22, .assign (.tmp 23)⟩
def o22_12 : List RO := [p22_12_0, p22_12_1]
def x22_12 : RC := .ops o22_12
def p22_15_0 : RO := ⟨none, some 24, .move (.tmp 1)⟩
def p22_15_1 : RO := ⟨none, some 25, .call ⟨.value (.func 28), #[(.tmp 24), (.const (.string ⟨#[102, 111, 114, 101, 105, 103, 110, 79, 98, 106, 101, 99, 116, 32, 100, 101, 115, 99, 32, 116, 105, 116, 108, 101]⟩))], #[9, 9]⟩⟩
def p22_15_2 : RO := ⟨none, some 4, .assign (.tmp 25)⟩
def o22_15 : List RO := [p22_15_0, p22_15_1, p22_15_2]
def x22_15 : RC := .ops o22_15
def x22_14 : RC := .seq x22_15 .ret
def p22_17_0 : RO := ⟨none, some 27, .binOp .eql 3 (.tmp 5) (.const (.int .i64 (2))) 3⟩
def p22_17_1 : RO := ⟨none, some 26, .assign (.tmp 27)⟩
def o22_17 : List RO := [p22_17_0, p22_17_1]
def x22_17 : RC := .ops o22_17
def p22_20_0 : RO := ⟨none, some 28, .move (.tmp 1)⟩
def p22_20_1 : RO := ⟨none, some 29, .call ⟨.value (.func 28), #[(.tmp 28), (.const (.string ⟨#[109, 105, 32, 109, 111, 32, 109, 110, 32, 109, 115, 32, 109, 116, 101, 120, 116]⟩))], #[9, 9]⟩⟩
def p22_20_2 : RO := ⟨none, some 4, .assign (.tmp 29)⟩
def o22_20 : List RO := [p22_20_0, p22_20_1, p22_20_2]
def x22_20 : RC := .ops o22_20
def x22_19 : RC := .seq x22_20 .ret
def x22_18 : RC := .cond (.tmp 26) x22_19 .skip
def x22_16 : RC := .seq x22_17 x22_18
def x22_13 : RC := .cond (.tmp 22) x22_14 x22_16
def x22_11 : RC := .seq x22_12 x22_13
def x22_8 : RC := .cond (.tmp 6) x22_9 x22_11
def x22_6 : RC := .seq x22_7 x22_8
def x22_5 : RC := .block 0 x22_6
def x22_3 : RC := .seq x22_4 x22_5
def p22_22_0 : RO := ⟨none, some 4, .assign (.const (.bool false))⟩
def o22_22 : List RO := [p22_22_0]
def x22_22 : RC := .ops o22_22
def x22_21 : RC := .seq x22_22 .ret
def x22_2 : RC := .seq x22_3 x22_21
def x22_0 : RC := .seq x22_1 x22_2
theorem x22_eq : Try.f22.body.map rc = some x22_0 := by kernel_rfl
def p23_1_0 : RO := ⟨none, some 2, .assign (.const (.string ⟨#[]⟩))⟩
def o23_1 : List RO := [p23_1_0]
def x23_1 : RC := .ops o23_1
def p23_3_0 : RO := ⟨none, some 6, .move (.tmp 0)⟩
def p23_3_1 : RO := ⟨none, some 7, .convert 9 30 (.tmp 6)⟩
def p23_3_2 : RO := ⟨none, some 3, .assign (.tmp 7)⟩
def o23_3 : List RO := [p23_3_0, p23_3_1, p23_3_2]
def x23_3 : RC := .ops o23_3
def p23_6_0 : RO := ⟨none, some 8, .move (.tmp 3)⟩
def p23_6_1 : RO := ⟨none, some 9, .call ⟨.builtin .len, #[(.tmp 8)], #[30]⟩⟩
def p23_6_2 : RO := ⟨none, some 10, .move (.const (.int .i64 (0)))⟩
def o23_6 : List RO := [p23_6_0, p23_6_1, p23_6_2]
def x23_6 : RC := .ops o23_6
def p23_10_0 : RO := ⟨none, some 11, .binOp .lss 3 (.tmp 10) (.tmp 9) 3⟩
def o23_10 : List RO := [p23_10_0]
def x23_10 : RC := .ops o23_10
def x23_12 : RC := .cond (.tmp 11) .skip (.exit 0)
def p23_16_0 : RO := ⟨none, some 12, .move (.tmp 10)⟩
def p23_16_1 : RO := ⟨none, some 13, .indexAddr 30 (.tmp 8) (.tmp 10)⟩
def p23_16_2 : RO := ⟨none, some 14, .load 5 (.tmp 13)⟩
def p23_16_3 : RO := ⟨none, some 4, .assign (.tmp 12)⟩
def p23_16_4 : RO := ⟨none, some 5, .assign (.tmp 14)⟩
def o23_16 : List RO := [p23_16_0, p23_16_1, p23_16_2, p23_16_3, p23_16_4]
def x23_16 : RC := .ops o23_16
def p23_18_0 : RO := ⟨none, some 15, .move (.tmp 5)⟩
def p23_18_1 : RO := ⟨none, some 16, .binOp .leq 5 (.const (.int .u8 (65))) (.tmp 15) 5⟩
def p23_18_2 : RO := ⟨none, some 17, .move (.tmp 16)⟩
def p23_18_3 : RO := ⟨some (some 17, true), some 18, .move (.tmp 5)⟩
def p23_18_4 : RO := ⟨some (some 17, true), some 19, .binOp .leq 5 (.tmp 18) (.const (.int .u8 (90))) 5⟩
def p23_18_5 : RO := ⟨none, some 20, .pick (.tmp 17) (.tmp 19) (.const (.bool false))⟩
def o23_18 : List RO := [p23_18_0, p23_18_1, p23_18_2, p23_18_3, p23_18_4, p23_18_5]
def x23_18 : RC := .ops o23_18
def p23_20_0 : RO := ⟨none, some 21, .move (.tmp 3)⟩
def p23_20_1 : RO := ⟨none, some 22, .move (.tmp 4)⟩
def p23_20_2 : RO := ⟨none, some 23, .move (.tmp 5)⟩
def p23_20_3 : RO := ⟨none, some 24, .binOp .add 5 (.tmp 23) (.const (.int .u8 (32))) 5⟩
def p23_20_4 : RO := ⟨none, some 25, .indexAddr 30 (.tmp 21) (.tmp 22)⟩
def p23_20_5 : RO := ⟨none, none, .store 5 (.tmp 25) (.tmp 24)⟩
def o23_20 : List RO := [p23_20_0, p23_20_1, p23_20_2, p23_20_3, p23_20_4, p23_20_5]
def x23_20 : RC := .ops o23_20
def x23_19 : RC := .cond (.tmp 20) x23_20 .skip
def x23_17 : RC := .seq x23_18 x23_19
def x23_15 : RC := .seq x23_16 x23_17
def x23_14 : RC := .block 1 x23_15
def p23_21_0 : RO := ⟨none, some 26, .binOp .add 3 (.tmp 10) (.const (.int .i64 (1))) 3⟩
def p23_21_1 : RO := ⟨none, some 10, .move (.tmp 26)⟩
def o23_21 : List RO := [p23_21_0, p23_21_1]
def x23_21 : RC := .ops o23_21
def x23_13 : RC := .seq x23_14 x23_21
def x23_11 : RC := .seq x23_12 x23_13
def x23_9 : RC := .seq x23_10 x23_11
def x23_8 : RC := .loop x23_9
def x23_7 : RC := .block 0 x23_8
def x23_5 : RC := .seq x23_6 x23_7
def p23_23_0 : RO := ⟨none, some 27, .move (.tmp 3)⟩
def p23_23_1 : RO := ⟨none, some 28, .convert 30 9 (.tmp 27)⟩
def p23_23_2 : RO := ⟨none, some 2, .assign (.tmp 28)⟩
def o23_23 : List RO := [p23_23_0, p23_23_1, p23_23_2]
def x23_23 : RC := .ops o23_23
def x23_22 : RC := .seq x23_23 .ret
def x23_4 : RC := .seq x23_5 x23_22
def x23_2 : RC := .seq x23_3 x23_4
def x23_0 : RC := .seq x23_1 x23_2
theorem x23_eq : Try.f23.body.map rc = some x23_0 := by kernel_rfl
def p24_1_0 : RO := ⟨none, some 2, .assign (.const (.string ⟨#[]⟩))⟩
def o24_1 : List RO := [p24_1_0]
def x24_1 : RC := .ops o24_1
def p24_3_0 : RO := ⟨none, some 5, .move (.tmp 0)⟩
def p24_3_1 : RO := ⟨none, some 6, .convert 9 30 (.tmp 5)⟩
def p24_3_2 : RO := ⟨none, some 3, .assign (.tmp 6)⟩
def o24_3 : List RO := [p24_3_0, p24_3_1, p24_3_2]
def x24_3 : RC := .ops o24_3
def p24_6_0 : RO := ⟨none, some 4, .assign (.const (.int .i64 (0)))⟩
def o24_6 : List RO := [p24_6_0]
def x24_6 : RC := .ops o24_6
def p24_11_0 : RO := ⟨none, some 7, .move (.tmp 4)⟩
def p24_11_1 : RO := ⟨none, some 8, .move (.tmp 3)⟩
def p24_11_2 : RO := ⟨none, some 9, .call ⟨.builtin .len, #[(.tmp 8)], #[30]⟩⟩
def p24_11_3 : RO := ⟨none, some 10, .binOp .lss 3 (.tmp 7) (.tmp 9) 3⟩
def o24_11 : List RO := [p24_11_0, p24_11_1, p24_11_2, p24_11_3]
def x24_11 : RC := .ops o24_11
def x24_12 : RC := .cond (.tmp 10) .skip (.exit 0)
def x24_10 : RC := .seq x24_11 x24_12
def p24_16_0 : RO := ⟨none, some 13, .move (.tmp 3)⟩
def p24_16_1 : RO := ⟨none, some 14, .move (.tmp 4)⟩
def p24_16_2 : RO := ⟨none, some 15, .indexAddr 30 (.tmp 13) (.tmp 14)⟩
def p24_16_3 : RO := ⟨none, some 16, .load 5 (.tmp 15)⟩
def p24_16_4 : RO := ⟨none, some 17, .binOp .geq 5 (.tmp 16) (.const (.int .u8 (65))) 5⟩
def p24_16_5 : RO := ⟨none, some 18, .move (.tmp 17)⟩
def p24_16_6 : RO := ⟨some (some 18, true), some 19, .move (.tmp 3)⟩
def p24_16_7 : RO := ⟨some (some 18, true), some 20, .move (.tmp 4)⟩
def p24_16_8 : RO := ⟨some (some 18, true), some 21, .indexAddr 30 (.tmp 19) (.tmp 20)⟩
def p24_16_9 : RO := ⟨some (some 18, true), some 22, .load 5 (.tmp 21)⟩
def p24_16_10 : RO := ⟨some (some 18, true), some 23, .binOp .leq 5 (.tmp 22) (.const (.int .u8 (90))) 5⟩
def p24_16_11 : RO := ⟨none, some 24, .pick (.tmp 18) (.tmp 23) (.const (.bool false))⟩
def o24_16 : List RO := [p24_16_0, p24_16_1, p24_16_2, p24_16_3, p24_16_4, p24_16_5, p24_16_6, p24_16_7, p24_16_8, p24_16_9, p24_16_10, p24_16_11]
def x24_16 : RC := .ops o24_16
def p24_18_0 : RO := ⟨none, some 25, .move (.tmp 3)⟩
def p24_18_1 : RO := ⟨none, some 26, .move (.tmp 4)⟩
def p24_18_2 : RO := ⟨none, some 27, .indexAddr 30 (.tmp 25) (.tmp 26)⟩
def p24_18_3 : RO := ⟨none, some 28, .load 5 (.tmp 27)⟩
def p24_18_4 : RO := ⟨none, some 29, .binOp .add 5 (.tmp 28) (.const (.int .u8 (32))) 5⟩
def p24_18_5 : RO := ⟨none, some 30, .indexAddr 30 (.tmp 25) (.tmp 26)⟩
def p24_18_6 : RO := ⟨none, none, .store 5 (.tmp 30) (.tmp 29)⟩
def o24_18 : List RO := [p24_18_0, p24_18_1, p24_18_2, p24_18_3, p24_18_4, p24_18_5, p24_18_6]
def x24_18 : RC := .ops o24_18
def x24_17 : RC := .cond (.tmp 24) x24_18 .skip
def x24_15 : RC := .seq x24_16 x24_17
def x24_14 : RC := .block 1 x24_15
def p24_19_0 : RO := ⟨none, some 11, .move (.tmp 4)⟩
def p24_19_1 : RO := ⟨none, some 12, .binOp .add 3 (.tmp 11) (.const (.int .i64 (1))) 3⟩
def p24_19_2 : RO := ⟨none, some 4, .assign (.tmp 12)⟩
def o24_19 : List RO := [p24_19_0, p24_19_1, p24_19_2]
def x24_19 : RC := .ops o24_19
def x24_13 : RC := .seq x24_14 x24_19
def x24_9 : RC := .seq x24_10 x24_13
def x24_8 : RC := .loop x24_9
def x24_7 : RC := .block 0 x24_8
def x24_5 : RC := .seq x24_6 x24_7
def p24_21_0 : RO := ⟨none, some 31, .move (.tmp 3)⟩
def p24_21_1 : RO := ⟨none, some 32, .convert 30 9 (.tmp 31)⟩
def p24_21_2 : RO := ⟨none, some 2, .assign (.tmp 32)⟩
def o24_21 : List RO := [p24_21_0, p24_21_1, p24_21_2]
def x24_21 : RC := .ops o24_21
def x24_20 : RC := .seq x24_21 .ret
def x24_4 : RC := .seq x24_5 x24_20
def x24_2 : RC := .seq x24_3 x24_4
def x24_0 : RC := .seq x24_1 x24_2
theorem x24_eq : Try.f24.body.map rc = some x24_0 := by kernel_rfl
def p25_1_0 : RO := ⟨none, some 2, .assign (.const (.bool false))⟩
def o25_1 : List RO := [p25_1_0]
def x25_1 : RC := .ops o25_1
def p25_4_0 : RO := ⟨none, some 3, .move (.tmp 0)⟩
def o25_4 : List RO := [p25_4_0]
def x25_4 : RC := .ops o25_4
def p25_8_0 : RO := ⟨none, some 5, .binOp .eql 3 (.tmp 3) (.const (.int .i64 (32))) 3⟩
def p25_8_1 : RO := ⟨none, some 4, .assign (.tmp 5)⟩
def o25_8 : List RO := [p25_8_0, p25_8_1]
def x25_8 : RC := .ops o25_8
def p25_11_0 : RO := ⟨none, some 6, .binOp .eql 3 (.tmp 3) (.const (.int .i64 (9))) 3⟩
def p25_11_1 : RO := ⟨none, some 4, .assign (.tmp 6)⟩
def o25_11 : List RO := [p25_11_0, p25_11_1]
def x25_11 : RC := .ops o25_11
def p25_14_0 : RO := ⟨none, some 7, .binOp .eql 3 (.tmp 3) (.const (.int .i64 (10))) 3⟩
def p25_14_1 : RO := ⟨none, some 4, .assign (.tmp 7)⟩
def o25_14 : List RO := [p25_14_0, p25_14_1]
def x25_14 : RC := .ops o25_14
def p25_16_0 : RO := ⟨none, some 8, .binOp .eql 3 (.tmp 3) (.const (.int .i64 (12))) 3⟩
def p25_16_1 : RO := ⟨none, some 4, .assign (.tmp 8)⟩
def o25_16 : List RO := [p25_16_0, p25_16_1]
def x25_16 : RC := .ops o25_16
def x25_15 : RC := .cond (.tmp 4) .skip x25_16
def x25_13 : RC := .seq x25_14 x25_15
def x25_12 : RC := .cond (.tmp 4) .skip x25_13
def x25_10 : RC := .seq x25_11 x25_12
def x25_9 : RC := .cond (.tmp 4) .skip x25_10
def x25_7 : RC := .seq x25_8 x25_9
def p25_19_0 : RO := ⟨none, some 2, .assign (.const (.bool true))⟩
def o25_19 : List RO := [p25_19_0]
def x25_19 : RC := .ops o25_19
def x25_18 : RC := .seq x25_19 .ret
def x25_17 : RC := .cond (.tmp 4) x25_18 .skip
def x25_6 : RC := .seq x25_7 x25_17
def x25_5 : RC := .block 0 x25_6
def x25_3 : RC := .seq x25_4 x25_5
def p25_21_0 : RO := ⟨none, some 2, .assign (.const (.bool false))⟩
def o25_21 : List RO := [p25_21_0]
def x25_21 : RC := .ops o25_21
def x25_20 : RC := .seq x25_21 .ret
def x25_2 : RC := .seq x25_3 x25_20
def x25_0 : RC := .seq x25_1 x25_2
theorem x25_eq : Try.f25.body.map rc = some x25_0 := by kernel_rfl
def p26_1_0 : RO := ⟨none, some 2, .assign (.const (.bool false))⟩
def o26_1 : List RO := [p26_1_0]
def x26_1 : RC := .ops o26_1
def p26_3_0 : RO := ⟨none, some 3, .move (.tmp 0)⟩
def p26_3_1 : RO := ⟨none, some 4, .binOp .eql 3 (.tmp 3) (.const (.int .i64 (9))) 3⟩
def p26_3_2 : RO := ⟨none, some 5, .move (.tmp 4)⟩
def p26_3_3 : RO := ⟨some (some 5, false), some 6, .move (.tmp 0)⟩
def p26_3_4 : RO := ⟨some (some 5, false), some 7, .binOp .eql 3 (.tmp 6) (.const (.int .i64 (10))) 3⟩
def p26_3_5 : RO := ⟨none, some 8, .pick (.tmp 5) (.const (.bool true)) (.tmp 7)⟩
def p26_3_6 : RO := ⟨none, some 9, .move (.tmp 8)⟩
def p26_3_7 : RO := ⟨some (some 9, false), some 10, .move (.tmp 0)⟩
def p26_3_8 : RO := ⟨some (some 9, false), some 11, .binOp .eql 3 (.tmp 10) (.const (.int .i64 (12))) 3⟩
def p26_3_9 : RO := ⟨none, some 12, .pick (.tmp 9) (.const (.bool true)) (.tmp 11)⟩
def p26_3_10 : RO := ⟨none, some 13, .move (.tmp 12)⟩
def p26_3_11 : RO := ⟨some (some 13, false), some 14, .move (.tmp 0)⟩
def p26_3_12 : RO := ⟨some (some 13, false), some 15, .binOp .eql 3 (.tmp 14) (.const (.int .i64 (32))) 3⟩
def p26_3_13 : RO := ⟨none, some 16, .pick (.tmp 13) (.const (.bool true)) (.tmp 15)⟩
def p26_3_14 : RO := ⟨none, some 2, .assign (.tmp 16)⟩
def o26_3 : List RO := [p26_3_0, p26_3_1, p26_3_2, p26_3_3, p26_3_4, p26_3_5, p26_3_6, p26_3_7, p26_3_8, p26_3_9, p26_3_10, p26_3_11, p26_3_12, p26_3_13, p26_3_14]
def x26_3 : RC := .ops o26_3
def x26_2 : RC := .seq x26_3 .ret
def x26_0 : RC := .seq x26_1 x26_2
theorem x26_eq : Try.f26.body.map rc = some x26_0 := by kernel_rfl
def p27_1_0 : RO := ⟨none, some 4, .assign (.const (.bool false))⟩
def o27_1 : List RO := [p27_1_0]
def x27_1 : RC := .ops o27_1
def p27_3_0 : RO := ⟨none, some 5, .move (.tmp 1)⟩
def p27_3_1 : RO := ⟨none, some 6, .binOp .neq 9 (.tmp 5) (.const (.string ⟨#[]⟩)) 9⟩
def p27_3_2 : RO := ⟨none, some 7, .move (.tmp 6)⟩
def p27_3_3 : RO := ⟨some (some 7, true), some 8, .move (.tmp 1)⟩
def p27_3_4 : RO := ⟨some (some 7, true), some 9, .call ⟨.value (.func 29), #[(.tmp 8), (.const (.string ⟨#[32]⟩))], #[9, 9]⟩⟩
def p27_3_5 : RO := ⟨some (some 7, true), some 10, .unOp .not 4 (.tmp 9)⟩
def p27_3_6 : RO := ⟨none, some 11, .pick (.tmp 7) (.tmp 10) (.const (.bool false))⟩
def p27_3_7 : RO := ⟨none, some 12, .move (.tmp 11)⟩
def p27_3_8 : RO := ⟨some (some 12, true), some 13, .move (.tmp 0)⟩
def p27_3_9 : RO := ⟨some (some 12, true), some 14, .move (.tmp 1)⟩
def p27_3_10 : RO := ⟨some (some 12, true), some 15, .binOp .add 9 (.const (.string ⟨#[32]⟩)) (.tmp 14) 9⟩
def p27_3_11 : RO := ⟨some (some 12, true), some 16, .binOp .add 9 (.tmp 15) (.const (.string ⟨#[32]⟩)) 9⟩
def p27_3_12 : RO := ⟨some (some 12, true), some 17, .call ⟨.value (.func 29), #[(.tmp 13), (.tmp 16)], #[9, 9]⟩⟩
def p27_3_13 : RO := ⟨none, some 18, .pick (.tmp 12) (.tmp 17) (.const (.bool false))⟩
def p27_3_14 : RO := ⟨none, some 4, .assign (.tmp 18)⟩
def o27_3 : List RO := [p27_3_0, p27_3_1, p27_3_2, p27_3_3, p27_3_4, p27_3_5, p27_3_6, p27_3_7, p27_3_8, p27_3_9, p27_3_10, p27_3_11, p27_3_12, p27_3_13, p27_3_14]
def x27_3 : RC := .ops o27_3
def x27_2 : RC := .seq x27_3 .ret
def x27_0 : RC := .seq x27_1 x27_2
theorem x27_eq : Try.f27.body.map rc = some x27_0 := by kernel_rfl
def p28_1_0 : RO := ⟨none, some 4, .assign (.const (.bool false))⟩
def o28_1 : List RO := [p28_1_0]
def x28_1 : RC := .ops o28_1
def p28_3_0 : RO := ⟨none, some 5, .assign (.const (.int .i64 (0)))⟩
def o28_3 : List RO := [p28_3_0]
def x28_3 : RC := .ops o28_3
def p28_6_0 : RO := ⟨none, some 6, .assign (.const (.int .i64 (0)))⟩
def o28_6 : List RO := [p28_6_0]
def x28_6 : RC := .ops o28_6
def p28_11_0 : RO := ⟨none, some 7, .move (.tmp 6)⟩
def p28_11_1 : RO := ⟨none, some 8, .move (.tmp 1)⟩
def p28_11_2 : RO := ⟨none, some 9, .call ⟨.builtin .len, #[(.tmp 8)], #[9]⟩⟩
def p28_11_3 : RO := ⟨none, some 10, .binOp .leq 3 (.tmp 7) (.tmp 9) 3⟩
def o28_11 : List RO := [p28_11_0, p28_11_1, p28_11_2, p28_11_3]
def x28_11 : RC := .ops o28_11
def x28_12 : RC := .cond (.tmp 10) .skip (.exit 0)
def x28_10 : RC := .seq x28_11 x28_12
def p28_16_0 : RO := ⟨none, some 13, .move (.tmp 6)⟩
def p28_16_1 : RO := ⟨none, some 14, .move (.tmp 1)⟩
def p28_16_2 : RO := ⟨none, some 15, .call ⟨.builtin .len, #[(.tmp 14)], #[9]⟩⟩
def p28_16_3 : RO := ⟨none, some 16, .binOp .eql 3 (.tmp 13) (.tmp 15) 3⟩
def p28_16_4 : RO := ⟨none, some 17, .move (.tmp 16)⟩
def p28_16_5 : RO := ⟨some (some 17, false), some 18, .move (.tmp 1)⟩
def p28_16_6 : RO := ⟨some (some 17, false), some 19, .move (.tmp 6)⟩
def p28_16_7 : RO := ⟨some (some 17, false), some 20, .index 9 (.tmp 18) (.tmp 19)⟩
def p28_16_8 : RO := ⟨some (some 17, false), some 21, .binOp .eql 5 (.tmp 20) (.const (.int .u8 (32))) 5⟩
def p28_16_9 : RO := ⟨none, some 22, .pick (.tmp 17) (.const (.bool true)) (.tmp 21)⟩
def o28_16 : List RO := [p28_16_0, p28_16_1, p28_16_2, p28_16_3, p28_16_4, p28_16_5, p28_16_6, p28_16_7, p28_16_8, p28_16_9]
def x28_16 : RC := .ops o28_16
def p28_20_0 : RO := ⟨none, some 23, .move (.tmp 1)⟩
def p28_20_1 : RO := ⟨none, some 24, .move (.tmp 5)⟩
def p28_20_2 : RO := ⟨none, some 25, .move (.tmp 6)⟩
def p28_20_3 : RO := ⟨none, some 26, .slice 9 (.tmp 23) (some (.tmp 24)) (some (.tmp 25)) none⟩
def p28_20_4 : RO := ⟨none, some 27, .move (.tmp 0)⟩
def p28_20_5 : RO := ⟨none, some 28, .binOp .eql 9 (.tmp 26) (.tmp 27) 9⟩
def p28_20_6 : RO := ⟨none, some 29, .move (.tmp 28)⟩
def p28_20_7 : RO := ⟨some (some 29, true), some 30, .move (.tmp 6)⟩
def p28_20_8 : RO := ⟨some (some 29, true), some 31, .move (.tmp 5)⟩
def p28_20_9 : RO := ⟨some (some 29, true), some 32, .binOp .gtr 3 (.tmp 30) (.tmp 31) 3⟩
def p28_20_10 : RO := ⟨none, some 33, .pick (.tmp 29) (.tmp 32) (.const (.bool false))⟩
def o28_20 : List RO := [p28_20_0, p28_20_1, p28_20_2, p28_20_3, p28_20_4, p28_20_5, p28_20_6, p28_20_7, p28_20_8, p28_20_9, p28_20_10]
def x28_20 : RC := .ops o28_20
def p28_23_0 : RO := ⟨none, some 4, .assign (.const (.bool true))⟩
def o28_23 : List RO := [p28_23_0]
def x28_23 : RC := .ops o28_23
def x28_22 : RC := .seq x28_23 .ret
def x28_21 : RC := .cond (.tmp 33) x28_22 .skip
def x28_19 : RC := .seq x28_20 x28_21
def p28_24_0 : RO := ⟨none, some 34, .move (.tmp 6)⟩
def p28_24_1 : RO := ⟨none, some 35, .binOp .add 3 (.tmp 34) (.const (.int .i64 (1))) 3⟩
def p28_24_2 : RO := ⟨none, some 5, .assign (.tmp 35)⟩
def o28_24 : List RO := [p28_24_0, p28_24_1, p28_24_2]
def x28_24 : RC := .ops o28_24
def x28_18 : RC := .seq x28_19 x28_24
def x28_17 : RC := .cond (.tmp 22) x28_18 .skip
def x28_15 : RC := .seq x28_16 x28_17
def x28_14 : RC := .block 1 x28_15
def p28_25_0 : RO := ⟨none, some 11, .move (.tmp 6)⟩
def p28_25_1 : RO := ⟨none, some 12, .binOp .add 3 (.tmp 11) (.const (.int .i64 (1))) 3⟩
def p28_25_2 : RO := ⟨none, some 6, .assign (.tmp 12)⟩
def o28_25 : List RO := [p28_25_0, p28_25_1, p28_25_2]
def x28_25 : RC := .ops o28_25
def x28_13 : RC := .seq x28_14 x28_25
def x28_9 : RC := .seq x28_10 x28_13
def x28_8 : RC := .loop x28_9
def x28_7 : RC := .block 0 x28_8
def x28_5 : RC := .seq x28_6 x28_7
def p28_27_0 : RO := ⟨none, some 4, .assign (.const (.bool false))⟩
def o28_27 : List RO := [p28_27_0]
def x28_27 : RC := .ops o28_27
def x28_26 : RC := .seq x28_27 .ret
def x28_4 : RC := .seq x28_5 x28_26
def x28_2 : RC := .seq x28_3 x28_4
def x28_0 : RC := .seq x28_1 x28_2
theorem x28_eq : Try.f28.body.map rc = some x28_0 := by kernel_rfl
def tab : FuncId → Option (RC × List ResultVar × Nat)
  | 3 => some (x3_0, [.tmp 2], 54)
  | 4 => some (x4_0, [.tmp 4], 19)
  | 5 => some (x5_0, [.tmp 2], 30)
  | 6 => some (x6_0, [.tmp 2], 11)
  | 7 => some (x7_0, [.tmp 2], 39)
  | 9 => some (x9_0, [.tmp 2], 5)
  | 10 => some (x10_0, [.tmp 2], 5)
  | 11 => some (x11_0, [.tmp 2], 5)
  | 12 => some (x12_0, [.tmp 2], 5)
  | 13 => some (x13_0, [.tmp 2], 5)
  | 14 => some (x14_0, [.tmp 2], 5)
  | 15 => some (x15_0, [.tmp 2], 5)
  | 16 => some (x16_0, [.tmp 2], 5)
  | 17 => some (x17_0, [.tmp 2], 5)
  | 18 => some (x18_0, [.tmp 2], 5)
  | 19 => some (x19_0, [.tmp 2], 12)
  | 20 => some (x20_0, [.tmp 2], 12)
  | 21 => some (x21_0, [.tmp 4], 34)
  | 22 => some (x22_0, [.tmp 4], 30)
  | 23 => some (x23_0, [.tmp 2], 29)
  | 24 => some (x24_0, [.tmp 2], 33)
  | 25 => some (x25_0, [.tmp 2], 9)
  | 26 => some (x26_0, [.tmp 2], 17)
  | 27 => some (x27_0, [.tmp 4], 19)
  | 28 => some (x28_0, [.tmp 4], 36)
  | _ => none
theorem tab_ok : TabOK Try.prog tab := by
  intro f x rs n h
  unfold tab at h
  split at h
  · injection h with h; injection h with h1 h; injection h with h2 h3; subst h1; subst h2; subst h3; exact ⟨_, Try.func3, rfl, rfl, x3_eq⟩
  · injection h with h; injection h with h1 h; injection h with h2 h3; subst h1; subst h2; subst h3; exact ⟨_, Try.func4, rfl, rfl, x4_eq⟩
  · injection h with h; injection h with h1 h; injection h with h2 h3; subst h1; subst h2; subst h3; exact ⟨_, Try.func5, rfl, rfl, x5_eq⟩
  · injection h with h; injection h with h1 h; injection h with h2 h3; subst h1; subst h2; subst h3; exact ⟨_, Try.func6, rfl, rfl, x6_eq⟩
  · injection h with h; injection h with h1 h; injection h with h2 h3; subst h1; subst h2; subst h3; exact ⟨_, Try.func7, rfl, rfl, x7_eq⟩
  · injection h with h; injection h with h1 h; injection h with h2 h3; subst h1; subst h2; subst h3; exact ⟨_, Try.func9, rfl, rfl, x9_eq⟩
  · injection h with h; injection h with h1 h; injection h with h2 h3; subst h1; subst h2; subst h3; exact ⟨_, Try.func10, rfl, rfl, x10_eq⟩
  · injection h with h; injection h with h1 h; injection h with h2 h3; subst h1; subst h2; subst h3; exact ⟨_, Try.func11, rfl, rfl, x11_eq⟩
  · injection h with h; injection h with h1 h; injection h with h2 h3; subst h1; subst h2; subst h3; exact ⟨_, Try.func12, rfl, rfl, x12_eq⟩
  · injection h with h; injection h with h1 h; injection h with h2 h3; subst h1; subst h2; subst h3; exact ⟨_, Try.func13, rfl, rfl, x13_eq⟩
  · injection h with h; injection h with h1 h; injection h with h2 h3; subst h1; subst h2; subst h3; exact ⟨_, Try.func14, rfl, rfl, x14_eq⟩
  · injection h with h; injection h with h1 h; injection h with h2 h3; subst h1; subst h2; subst h3; exact ⟨_, Try.func15, rfl, rfl, x15_eq⟩
  · injection h with h; injection h with h1 h; injection h with h2 h3; subst h1; subst h2; subst h3; exact ⟨_, Try.func16, rfl, rfl, x16_eq⟩
  · injection h with h; injection h with h1 h; injection h with h2 h3; subst h1; subst h2; subst h3; exact ⟨_, Try.func17, rfl, rfl, x17_eq⟩
  · injection h with h; injection h with h1 h; injection h with h2 h3; subst h1; subst h2; subst h3; exact ⟨_, Try.func18, rfl, rfl, x18_eq⟩
  · injection h with h; injection h with h1 h; injection h with h2 h3; subst h1; subst h2; subst h3; exact ⟨_, Try.func19, rfl, rfl, x19_eq⟩
  · injection h with h; injection h with h1 h; injection h with h2 h3; subst h1; subst h2; subst h3; exact ⟨_, Try.func20, rfl, rfl, x20_eq⟩
  · injection h with h; injection h with h1 h; injection h with h2 h3; subst h1; subst h2; subst h3; exact ⟨_, Try.func21, rfl, rfl, x21_eq⟩
  · injection h with h; injection h with h1 h; injection h with h2 h3; subst h1; subst h2; subst h3; exact ⟨_, Try.func22, rfl, rfl, x22_eq⟩
  · injection h with h; injection h with h1 h; injection h with h2 h3; subst h1; subst h2; subst h3; exact ⟨_, Try.func23, rfl, rfl, x23_eq⟩
  · injection h with h; injection h with h1 h; injection h with h2 h3; subst h1; subst h2; subst h3; exact ⟨_, Try.func24, rfl, rfl, x24_eq⟩
  · injection h with h; injection h with h1 h; injection h with h2 h3; subst h1; subst h2; subst h3; exact ⟨_, Try.func25, rfl, rfl, x25_eq⟩
  · injection h with h; injection h with h1 h; injection h with h2 h3; subst h1; subst h2; subst h3; exact ⟨_, Try.func26, rfl, rfl, x26_eq⟩
  · injection h with h; injection h with h1 h; injection h with h2 h3; subst h1; subst h2; subst h3; exact ⟨_, Try.func27, rfl, rfl, x27_eq⟩
  · injection h with h; injection h with h1 h; injection h with h2 h3; subst h1; subst h2; subst h3; exact ⟨_, Try.func28, rfl, rfl, x28_eq⟩
  · cases h
def WOK (W : World) : Prop := SomeInt W 0
theorem wok_of {W : World} (h : W.ShapedOpen Try.prog) : WOK W := Try.laysM144.s1_3 W h
theorem base : Base Try.prog := ⟨by kernel_rfl, by kernel_rfl⟩
def prim0 : FuncId → Option (List V → H → Option (V × H)) := fun _ => none
theorem prim0s (W : World) (hW : WOK W) : Prims Try.prog W prim0 := fun _ _ => PrimOK.none
theorem among_loop {W : World} {s t : List UInt8} (ht : t.length ≤ 140737488355328) {ans : Bool} (n : Nat) : ∀ (f : Int) (i : Int) (d4 d7 d8 d9 d10 d11 d12 d13 d14 d15 d16 d17 d18 d19 d20 d21 d22 d23 d24 d25 d26 d27 d28 d29 d30 d31 d32 d33 d34 d35 : V), n = ((t.length : Int) + 1 - i).toNat → (0 ≤ f) → (f ≤ i) → (i ≤ (t.length : Int) + 1) → (i = (t.length : Int) + 1 → f = i) → (ans = amongAt s t f i) → WpM Try.prog W prim0 ⟨.code x28_9, [.loop x28_9, .blk 0, .seq x28_26], (.str s :: .str t :: U :: U :: d4 :: .int .i64 f :: .int .i64 i :: d7 :: d8 :: d9 :: d10 :: d11 :: d12 :: d13 :: d14 :: d15 :: d16 :: d17 :: d18 :: d19 :: d20 :: d21 :: d22 :: d23 :: d24 :: d25 :: d26 :: d27 :: d28 :: d29 :: d30 :: d31 :: d32 :: d33 :: d34 :: d35 :: []), [], H.empty, none⟩ (retQ Try.prog W [.tmp 4] (fun v _ => v = .bool ans)) := by
  induction n using Nat.strongRecOn with
  | _ n ih =>
    intro f i  d4 d7 d8 d9 d10 d11 d12 d13 d14 d15 d16 d17 d18 d19 d20 d21 d22 d23 d24 d25 d26 d27 d28 d29 d30 d31 d32 d33 d34 d35 hn h0 h1 h2 h3 hA
    refine WpM.run tab_ok 9 ⟨.code x28_12, [.seq x28_13, .loop x28_9, .blk 0, .seq x28_26], (.str s :: .str t :: U :: U :: d4 :: .int .i64 f :: .int .i64 i :: .int .i64 i :: .str t :: .int .i64 ((t.length : Int)) :: .bool (decide (i ≤ ((t.length : Int)))) :: d11 :: d12 :: d13 :: d14 :: d15 :: d16 :: d17 :: d18 :: d19 :: d20 :: d21 :: d22 :: d23 :: d24 :: d25 :: d26 :: d27 :: d28 :: d29 :: d30 :: d31 :: d32 :: d33 :: d34 :: d35 :: []), [], H.empty, none⟩ (by kernel_rfl) ?_
    refine WpM.cond (t := (decide (i ≤ ((t.length : Int))))) (by kernel_rfl) (fun c101 => ?_) (fun c101 => ?_)
    · have c101p := dec_t c101
      refine WpM.run tab_ok 11 ⟨.ops (p28_16_5 :: o28_16.drop 6), [.seq x28_17, .blk 1, .seq x28_25, .loop x28_9, .blk 0, .seq x28_26], (.str s :: .str t :: U :: U :: d4 :: .int .i64 f :: .int .i64 i :: .int .i64 i :: .str t :: .int .i64 ((t.length : Int)) :: .bool (decide (i ≤ ((t.length : Int)))) :: d11 :: d12 :: .int .i64 i :: .str t :: .int .i64 ((t.length : Int)) :: .bool (i == ((t.length : Int))) :: .bool (i == ((t.length : Int))) :: d18 :: d19 :: d20 :: d21 :: d22 :: d23 :: d24 :: d25 :: d26 :: d27 :: d28 :: d29 :: d30 :: d31 :: d32 :: d33 :: d34 :: d35 :: []), [], H.empty, none⟩ (by kernel_rfl) ?_
      refine WpM.guard (b := (i == ((t.length : Int)))) (by kernel_rfl) (fun c102 => ?_) (fun c102 => ?_)
      · have c102p := beq_t c102
        refine WpM.run tab_ok 14 ⟨.ops (p28_20_3 :: o28_20.drop 4), [.seq x28_21, .seq x28_24, .blk 1, .seq x28_25, .loop x28_9, .blk 0, .seq x28_26], (.str s :: .str t :: U :: U :: d4 :: .int .i64 f :: .int .i64 i :: .int .i64 i :: .str t :: .int .i64 ((t.length : Int)) :: .bool (decide (i ≤ ((t.length : Int)))) :: d11 :: d12 :: .int .i64 i :: .str t :: .int .i64 ((t.length : Int)) :: .bool (i == ((t.length : Int))) :: .bool true :: U :: U :: U :: U :: .bool true :: .str t :: .int .i64 f :: .int .i64 i :: d26 :: d27 :: d28 :: d29 :: d30 :: d31 :: d32 :: d33 :: d34 :: d35 :: []), [], H.empty, none⟩ (by kernel_rfl) ?_
        refine WpM.op (.str ((t.take (i.toNat)).drop (f.toNat))) _ (by kernel_rfl) (slice_str (by kernel_rfl) (by kernel_rfl) (by kernel_rfl) (by kernel_rfl) (optNat_some (k := .i64) (n := f) (by omega)) (optNat_some (k := .i64) (n := i) (by omega)) (by simp only [Option.getD_some, Option.getD_none]; omega)) ?_
        refine WpM.run tab_ok 3 ⟨.ops (p28_20_7 :: o28_20.drop 8), [.seq x28_21, .seq x28_24, .blk 1, .seq x28_25, .loop x28_9, .blk 0, .seq x28_26], (.str s :: .str t :: U :: U :: d4 :: .int .i64 f :: .int .i64 i :: .int .i64 i :: .str t :: .int .i64 ((t.length : Int)) :: .bool (decide (i ≤ ((t.length : Int)))) :: d11 :: d12 :: .int .i64 i :: .str t :: .int .i64 ((t.length : Int)) :: .bool (i == ((t.length : Int))) :: .bool true :: U :: U :: U :: U :: .bool true :: .str t :: .int .i64 f :: .int .i64 i :: .str ((t.take (i.toNat)).drop (f.toNat)) :: .str s :: .bool (((t.take (i.toNat)).drop (f.toNat)) == s) :: .bool (((t.take (i.toNat)).drop (f.toNat)) == s) :: d30 :: d31 :: d32 :: d33 :: d34 :: d35 :: []), [], H.empty, none⟩ (by kernel_rfl) ?_
        refine WpM.guard (b := (((t.take (i.toNat)).drop (f.toNat)) == s)) (by kernel_rfl) (fun c103 => ?_) (fun c103 => ?_)
        · have c103p := beq_t c103
          refine WpM.run tab_ok 6 ⟨.code x28_21, [.seq x28_24, .blk 1, .seq x28_25, .loop x28_9, .blk 0, .seq x28_26], (.str s :: .str t :: U :: U :: d4 :: .int .i64 f :: .int .i64 i :: .int .i64 i :: .str t :: .int .i64 ((t.length : Int)) :: .bool (decide (i ≤ ((t.length : Int)))) :: d11 :: d12 :: .int .i64 i :: .str t :: .int .i64 ((t.length : Int)) :: .bool (i == ((t.length : Int))) :: .bool true :: U :: U :: U :: U :: .bool true :: .str t :: .int .i64 f :: .int .i64 i :: .str ((t.take (i.toNat)).drop (f.toNat)) :: .str s :: .bool (((t.take (i.toNat)).drop (f.toNat)) == s) :: .bool true :: .int .i64 i :: .int .i64 f :: .bool (decide (i > f)) :: .bool (decide (i > f)) :: d34 :: d35 :: []), [], H.empty, none⟩ (by kernel_rfl) ?_
          refine WpM.cond (t := (decide (i > f))) (by kernel_rfl) (fun c104 => ?_) (fun c104 => ?_)
          · have c104p := dec_t c104
            refine WpM.run tab_ok 12 ⟨.done .ret, [], (.str s :: .str t :: U :: U :: .bool true :: .int .i64 f :: .int .i64 i :: .int .i64 i :: .str t :: .int .i64 ((t.length : Int)) :: .bool (decide (i ≤ ((t.length : Int)))) :: d11 :: d12 :: .int .i64 i :: .str t :: .int .i64 ((t.length : Int)) :: .bool (i == ((t.length : Int))) :: .bool true :: U :: U :: U :: U :: .bool true :: .str t :: .int .i64 f :: .int .i64 i :: .str ((t.take (i.toNat)).drop (f.toNat)) :: .str s :: .bool (((t.take (i.toNat)).drop (f.toNat)) == s) :: .bool true :: .int .i64 i :: .int .i64 f :: .bool (decide (i > f)) :: .bool (decide (i > f)) :: d34 :: d35 :: []), [], H.empty, none⟩ (by kernel_rfl) ?_
            refine WpM.ret (.bool true) H.empty (by kernel_rfl) (by kernel_rfl) ?_
            first
              | (rw [hA, among_end h0 h1 (by assumption)]; simp only [c101, c102, c103, c104, Bool.true_and, Bool.false_and, Bool.and_true, Bool.and_false, Bool.or_false, Bool.false_or, Bool.true_or, Bool.or_true]; done)
              | (rw [hA, among_blank h0 h1 (by omega) (by assumption)]; simp only [c101, c102, c103, c104, Bool.true_and, Bool.false_and, Bool.and_true, Bool.and_false, Bool.or_false, Bool.false_or, Bool.true_or, Bool.or_true]; done)
              | (rw [hA, h3 (by omega), among_past (by omega)])
          · have c104p := dec_f c104
            refine WpM.run tab_ok 4 ⟨.ops (p28_24_1 :: o28_24.drop 2), [.blk 1, .seq x28_25, .loop x28_9, .blk 0, .seq x28_26], (.str s :: .str t :: U :: U :: d4 :: .int .i64 f :: .int .i64 i :: .int .i64 i :: .str t :: .int .i64 ((t.length : Int)) :: .bool (decide (i ≤ ((t.length : Int)))) :: d11 :: d12 :: .int .i64 i :: .str t :: .int .i64 ((t.length : Int)) :: .bool (i == ((t.length : Int))) :: .bool true :: U :: U :: U :: U :: .bool true :: .str t :: .int .i64 f :: .int .i64 i :: .str ((t.take (i.toNat)).drop (f.toNat)) :: .str s :: .bool (((t.take (i.toNat)).drop (f.toNat)) == s) :: .bool true :: .int .i64 i :: .int .i64 f :: .bool (decide (i > f)) :: .bool (decide (i > f)) :: .int .i64 i :: d35 :: []), [], H.empty, none⟩ (by kernel_rfl) ?_
            refine WpM.op (.int .i64 (i + 1)) _ (by kernel_rfl) (arith_add (by kernel_rfl) (by kernel_rfl) (by omega)) ?_
            refine WpM.run tab_ok 6 ⟨.ops (p28_25_1 :: o28_25.drop 2), [.loop x28_9, .blk 0, .seq x28_26], (.str s :: .str t :: U :: U :: d4 :: .int .i64 (i + 1) :: .int .i64 i :: .int .i64 i :: .str t :: .int .i64 ((t.length : Int)) :: .bool (decide (i ≤ ((t.length : Int)))) :: .int .i64 i :: d12 :: .int .i64 i :: .str t :: .int .i64 ((t.length : Int)) :: .bool (i == ((t.length : Int))) :: .bool true :: U :: U :: U :: U :: .bool true :: .str t :: .int .i64 f :: .int .i64 i :: .str ((t.take (i.toNat)).drop (f.toNat)) :: .str s :: .bool (((t.take (i.toNat)).drop (f.toNat)) == s) :: .bool true :: .int .i64 i :: .int .i64 f :: .bool (decide (i > f)) :: .bool (decide (i > f)) :: .int .i64 i :: .int .i64 (i + 1) :: []), [], H.empty, none⟩ (by kernel_rfl) ?_
            refine WpM.op (.int .i64 (i + 1)) _ (by kernel_rfl) (arith_add (by kernel_rfl) (by kernel_rfl) (by omega)) ?_
            refine WpM.run tab_ok 3 ⟨.code x28_9, [.loop x28_9, .blk 0, .seq x28_26], (.str s :: .str t :: U :: U :: d4 :: .int .i64 (i + 1) :: .int .i64 (i + 1) :: .int .i64 i :: .str t :: .int .i64 ((t.length : Int)) :: .bool (decide (i ≤ ((t.length : Int)))) :: .int .i64 i :: .int .i64 (i + 1) :: .int .i64 i :: .str t :: .int .i64 ((t.length : Int)) :: .bool (i == ((t.length : Int))) :: .bool true :: U :: U :: U :: U :: .bool true :: .str t :: .int .i64 f :: .int .i64 i :: .str ((t.take (i.toNat)).drop (f.toNat)) :: .str s :: .bool (((t.take (i.toNat)).drop (f.toNat)) == s) :: .bool true :: .int .i64 i :: .int .i64 f :: .bool (decide (i > f)) :: .bool (decide (i > f)) :: .int .i64 i :: .int .i64 (i + 1) :: []), [], H.empty, none⟩ (by kernel_rfl) ?_
            refine ih _ ?_ _ _  _ _ _ _ _ _ _ _ _ _ _ _ _ _ _ _ _ _ _ _ _ _ _ _ _ _ _ _ _ _ rfl ?_ ?_ ?_ ?_ ?_
            · omega
            · omega
            · omega
            · omega
            · omega
            · first
              | (rw [hA]; exact among_step h0 h1 (by omega) (by assumption))
              | (rw [hA, among_blank h0 h1 (by omega) (by assumption)]; simp only [c101, c102, c103, c104, Bool.true_and, Bool.false_and, Bool.and_true, Bool.and_false, Bool.or_false, Bool.false_or, Bool.true_or, Bool.or_true]; done)
              | (rw [hA, among_end h0 h1 (by assumption), among_past (by omega)]; simp only [c101, c102, c103, c104, Bool.true_and, Bool.false_and, Bool.and_true, Bool.and_false, Bool.or_false, Bool.false_or, Bool.true_or, Bool.or_true]; done)
        · have c103p := beq_f c103
          refine WpM.run tab_ok 11 ⟨.ops (p28_24_1 :: o28_24.drop 2), [.blk 1, .seq x28_25, .loop x28_9, .blk 0, .seq x28_26], (.str s :: .str t :: U :: U :: d4 :: .int .i64 f :: .int .i64 i :: .int .i64 i :: .str t :: .int .i64 ((t.length : Int)) :: .bool (decide (i ≤ ((t.length : Int)))) :: d11 :: d12 :: .int .i64 i :: .str t :: .int .i64 ((t.length : Int)) :: .bool (i == ((t.length : Int))) :: .bool true :: U :: U :: U :: U :: .bool true :: .str t :: .int .i64 f :: .int .i64 i :: .str ((t.take (i.toNat)).drop (f.toNat)) :: .str s :: .bool (((t.take (i.toNat)).drop (f.toNat)) == s) :: .bool false :: U :: U :: U :: .bool false :: .int .i64 i :: d35 :: []), [], H.empty, none⟩ (by kernel_rfl) ?_
          refine WpM.op (.int .i64 (i + 1)) _ (by kernel_rfl) (arith_add (by kernel_rfl) (by kernel_rfl) (by omega)) ?_
          refine WpM.run tab_ok 6 ⟨.ops (p28_25_1 :: o28_25.drop 2), [.loop x28_9, .blk 0, .seq x28_26], (.str s :: .str t :: U :: U :: d4 :: .int .i64 (i + 1) :: .int .i64 i :: .int .i64 i :: .str t :: .int .i64 ((t.length : Int)) :: .bool (decide (i ≤ ((t.length : Int)))) :: .int .i64 i :: d12 :: .int .i64 i :: .str t :: .int .i64 ((t.length : Int)) :: .bool (i == ((t.length : Int))) :: .bool true :: U :: U :: U :: U :: .bool true :: .str t :: .int .i64 f :: .int .i64 i :: .str ((t.take (i.toNat)).drop (f.toNat)) :: .str s :: .bool (((t.take (i.toNat)).drop (f.toNat)) == s) :: .bool false :: U :: U :: U :: .bool false :: .int .i64 i :: .int .i64 (i + 1) :: []), [], H.empty, none⟩ (by kernel_rfl) ?_
          refine WpM.op (.int .i64 (i + 1)) _ (by kernel_rfl) (arith_add (by kernel_rfl) (by kernel_rfl) (by omega)) ?_
          refine WpM.run tab_ok 3 ⟨.code x28_9, [.loop x28_9, .blk 0, .seq x28_26], (.str s :: .str t :: U :: U :: d4 :: .int .i64 (i + 1) :: .int .i64 (i + 1) :: .int .i64 i :: .str t :: .int .i64 ((t.length : Int)) :: .bool (decide (i ≤ ((t.length : Int)))) :: .int .i64 i :: .int .i64 (i + 1) :: .int .i64 i :: .str t :: .int .i64 ((t.length : Int)) :: .bool (i == ((t.length : Int))) :: .bool true :: U :: U :: U :: U :: .bool true :: .str t :: .int .i64 f :: .int .i64 i :: .str ((t.take (i.toNat)).drop (f.toNat)) :: .str s :: .bool (((t.take (i.toNat)).drop (f.toNat)) == s) :: .bool false :: U :: U :: U :: .bool false :: .int .i64 i :: .int .i64 (i + 1) :: []), [], H.empty, none⟩ (by kernel_rfl) ?_
          refine ih _ ?_ _ _  _ _ _ _ _ _ _ _ _ _ _ _ _ _ _ _ _ _ _ _ _ _ _ _ _ _ _ _ _ _ rfl ?_ ?_ ?_ ?_ ?_
          · omega
          · omega
          · omega
          · omega
          · omega
          · first
            | (rw [hA]; exact among_step h0 h1 (by omega) (by assumption))
            | (rw [hA, among_blank h0 h1 (by omega) (by assumption)]; simp only [c101, c102, c103, Bool.true_and, Bool.false_and, Bool.and_true, Bool.and_false, Bool.or_false, Bool.false_or, Bool.true_or, Bool.or_true]; done)
            | (rw [hA, among_end h0 h1 (by assumption), among_past (by omega)]; simp only [c101, c102, c103, Bool.true_and, Bool.false_and, Bool.and_true, Bool.and_false, Bool.or_false, Bool.false_or, Bool.true_or, Bool.or_true]; done)
      · have c102p := beq_f c102
        refine WpM.run tab_ok 2 ⟨.ops (p28_16_7 :: o28_16.drop 8), [.seq x28_17, .blk 1, .seq x28_25, .loop x28_9, .blk 0, .seq x28_26], (.str s :: .str t :: U :: U :: d4 :: .int .i64 f :: .int .i64 i :: .int .i64 i :: .str t :: .int .i64 ((t.length : Int)) :: .bool (decide (i ≤ ((t.length : Int)))) :: d11 :: d12 :: .int .i64 i :: .str t :: .int .i64 ((t.length : Int)) :: .bool (i == ((t.length : Int))) :: .bool false :: .str t :: .int .i64 i :: d20 :: d21 :: d22 :: d23 :: d24 :: d25 :: d26 :: d27 :: d28 :: d29 :: d30 :: d31 :: d32 :: d33 :: d34 :: d35 :: []), [], H.empty, none⟩ (by kernel_rfl) ?_
        refine WpM.op (.int .u8 (bt t i)) _ (by kernel_rfl) (index_str (k := .i64) (by kernel_rfl) (by kernel_rfl) (by kernel_rfl) (by omega)) ?_
        refine WpM.run tab_ok 4 ⟨.code x28_17, [.blk 1, .seq x28_25, .loop x28_9, .blk 0, .seq x28_26], (.str s :: .str t :: U :: U :: d4 :: .int .i64 f :: .int .i64 i :: .int .i64 i :: .str t :: .int .i64 ((t.length : Int)) :: .bool (decide (i ≤ ((t.length : Int)))) :: d11 :: d12 :: .int .i64 i :: .str t :: .int .i64 ((t.length : Int)) :: .bool (i == ((t.length : Int))) :: .bool false :: .str t :: .int .i64 i :: .int .u8 (bt t i) :: .bool ((bt t i) == 32) :: .bool ((bt t i) == 32) :: d23 :: d24 :: d25 :: d26 :: d27 :: d28 :: d29 :: d30 :: d31 :: d32 :: d33 :: d34 :: d35 :: []), [], H.empty, none⟩ (by kernel_rfl) ?_
        refine WpM.cond (t := ((bt t i) == 32)) (by kernel_rfl) (fun c105 => ?_) (fun c105 => ?_)
        · have c105p := beq_t c105
          refine WpM.run tab_ok 6 ⟨.ops (p28_20_3 :: o28_20.drop 4), [.seq x28_21, .seq x28_24, .blk 1, .seq x28_25, .loop x28_9, .blk 0, .seq x28_26], (.str s :: .str t :: U :: U :: d4 :: .int .i64 f :: .int .i64 i :: .int .i64 i :: .str t :: .int .i64 ((t.length : Int)) :: .bool (decide (i ≤ ((t.length : Int)))) :: d11 :: d12 :: .int .i64 i :: .str t :: .int .i64 ((t.length : Int)) :: .bool (i == ((t.length : Int))) :: .bool false :: .str t :: .int .i64 i :: .int .u8 (bt t i) :: .bool ((bt t i) == 32) :: .bool ((bt t i) == 32) :: .str t :: .int .i64 f :: .int .i64 i :: d26 :: d27 :: d28 :: d29 :: d30 :: d31 :: d32 :: d33 :: d34 :: d35 :: []), [], H.empty, none⟩ (by kernel_rfl) ?_
          refine WpM.op (.str ((t.take (i.toNat)).drop (f.toNat))) _ (by kernel_rfl) (slice_str (by kernel_rfl) (by kernel_rfl) (by kernel_rfl) (by kernel_rfl) (optNat_some (k := .i64) (n := f) (by omega)) (optNat_some (k := .i64) (n := i) (by omega)) (by simp only [Option.getD_some, Option.getD_none]; omega)) ?_
          refine WpM.run tab_ok 3 ⟨.ops (p28_20_7 :: o28_20.drop 8), [.seq x28_21, .seq x28_24, .blk 1, .seq x28_25, .loop x28_9, .blk 0, .seq x28_26], (.str s :: .str t :: U :: U :: d4 :: .int .i64 f :: .int .i64 i :: .int .i64 i :: .str t :: .int .i64 ((t.length : Int)) :: .bool (decide (i ≤ ((t.length : Int)))) :: d11 :: d12 :: .int .i64 i :: .str t :: .int .i64 ((t.length : Int)) :: .bool (i == ((t.length : Int))) :: .bool false :: .str t :: .int .i64 i :: .int .u8 (bt t i) :: .bool ((bt t i) == 32) :: .bool ((bt t i) == 32) :: .str t :: .int .i64 f :: .int .i64 i :: .str ((t.take (i.toNat)).drop (f.toNat)) :: .str s :: .bool (((t.take (i.toNat)).drop (f.toNat)) == s) :: .bool (((t.take (i.toNat)).drop (f.toNat)) == s) :: d30 :: d31 :: d32 :: d33 :: d34 :: d35 :: []), [], H.empty, none⟩ (by kernel_rfl) ?_
          refine WpM.guard (b := (((t.take (i.toNat)).drop (f.toNat)) == s)) (by kernel_rfl) (fun c106 => ?_) (fun c106 => ?_)
          · have c106p := beq_t c106
            refine WpM.run tab_ok 6 ⟨.code x28_21, [.seq x28_24, .blk 1, .seq x28_25, .loop x28_9, .blk 0, .seq x28_26], (.str s :: .str t :: U :: U :: d4 :: .int .i64 f :: .int .i64 i :: .int .i64 i :: .str t :: .int .i64 ((t.length : Int)) :: .bool (decide (i ≤ ((t.length : Int)))) :: d11 :: d12 :: .int .i64 i :: .str t :: .int .i64 ((t.length : Int)) :: .bool (i == ((t.length : Int))) :: .bool false :: .str t :: .int .i64 i :: .int .u8 (bt t i) :: .bool ((bt t i) == 32) :: .bool ((bt t i) == 32) :: .str t :: .int .i64 f :: .int .i64 i :: .str ((t.take (i.toNat)).drop (f.toNat)) :: .str s :: .bool (((t.take (i.toNat)).drop (f.toNat)) == s) :: .bool true :: .int .i64 i :: .int .i64 f :: .bool (decide (i > f)) :: .bool (decide (i > f)) :: d34 :: d35 :: []), [], H.empty, none⟩ (by kernel_rfl) ?_
            refine WpM.cond (t := (decide (i > f))) (by kernel_rfl) (fun c107 => ?_) (fun c107 => ?_)
            · have c107p := dec_t c107
              refine WpM.run tab_ok 12 ⟨.done .ret, [], (.str s :: .str t :: U :: U :: .bool true :: .int .i64 f :: .int .i64 i :: .int .i64 i :: .str t :: .int .i64 ((t.length : Int)) :: .bool (decide (i ≤ ((t.length : Int)))) :: d11 :: d12 :: .int .i64 i :: .str t :: .int .i64 ((t.length : Int)) :: .bool (i == ((t.length : Int))) :: .bool false :: .str t :: .int .i64 i :: .int .u8 (bt t i) :: .bool ((bt t i) == 32) :: .bool ((bt t i) == 32) :: .str t :: .int .i64 f :: .int .i64 i :: .str ((t.take (i.toNat)).drop (f.toNat)) :: .str s :: .bool (((t.take (i.toNat)).drop (f.toNat)) == s) :: .bool true :: .int .i64 i :: .int .i64 f :: .bool (decide (i > f)) :: .bool (decide (i > f)) :: d34 :: d35 :: []), [], H.empty, none⟩ (by kernel_rfl) ?_
              refine WpM.ret (.bool true) H.empty (by kernel_rfl) (by kernel_rfl) ?_
              first
                | (rw [hA, among_end h0 h1 (by assumption)]; simp only [c101, c102, c105, c106, c107, Bool.true_and, Bool.false_and, Bool.and_true, Bool.and_false, Bool.or_false, Bool.false_or, Bool.true_or, Bool.or_true]; done)
                | (rw [hA, among_blank h0 h1 (by omega) (by assumption)]; simp only [c101, c102, c105, c106, c107, Bool.true_and, Bool.false_and, Bool.and_true, Bool.and_false, Bool.or_false, Bool.false_or, Bool.true_or, Bool.or_true]; done)
                | (rw [hA, h3 (by omega), among_past (by omega)])
            · have c107p := dec_f c107
              refine WpM.run tab_ok 4 ⟨.ops (p28_24_1 :: o28_24.drop 2), [.blk 1, .seq x28_25, .loop x28_9, .blk 0, .seq x28_26], (.str s :: .str t :: U :: U :: d4 :: .int .i64 f :: .int .i64 i :: .int .i64 i :: .str t :: .int .i64 ((t.length : Int)) :: .bool (decide (i ≤ ((t.length : Int)))) :: d11 :: d12 :: .int .i64 i :: .str t :: .int .i64 ((t.length : Int)) :: .bool (i == ((t.length : Int))) :: .bool false :: .str t :: .int .i64 i :: .int .u8 (bt t i) :: .bool ((bt t i) == 32) :: .bool ((bt t i) == 32) :: .str t :: .int .i64 f :: .int .i64 i :: .str ((t.take (i.toNat)).drop (f.toNat)) :: .str s :: .bool (((t.take (i.toNat)).drop (f.toNat)) == s) :: .bool true :: .int .i64 i :: .int .i64 f :: .bool (decide (i > f)) :: .bool (decide (i > f)) :: .int .i64 i :: d35 :: []), [], H.empty, none⟩ (by kernel_rfl) ?_
              refine WpM.op (.int .i64 (i + 1)) _ (by kernel_rfl) (arith_add (by kernel_rfl) (by kernel_rfl) (by omega)) ?_
              refine WpM.run tab_ok 6 ⟨.ops (p28_25_1 :: o28_25.drop 2), [.loop x28_9, .blk 0, .seq x28_26], (.str s :: .str t :: U :: U :: d4 :: .int .i64 (i + 1) :: .int .i64 i :: .int .i64 i :: .str t :: .int .i64 ((t.length : Int)) :: .bool (decide (i ≤ ((t.length : Int)))) :: .int .i64 i :: d12 :: .int .i64 i :: .str t :: .int .i64 ((t.length : Int)) :: .bool (i == ((t.length : Int))) :: .bool false :: .str t :: .int .i64 i :: .int .u8 (bt t i) :: .bool ((bt t i) == 32) :: .bool ((bt t i) == 32) :: .str t :: .int .i64 f :: .int .i64 i :: .str ((t.take (i.toNat)).drop (f.toNat)) :: .str s :: .bool (((t.take (i.toNat)).drop (f.toNat)) == s) :: .bool true :: .int .i64 i :: .int .i64 f :: .bool (decide (i > f)) :: .bool (decide (i > f)) :: .int .i64 i :: .int .i64 (i + 1) :: []), [], H.empty, none⟩ (by kernel_rfl) ?_
              refine WpM.op (.int .i64 (i + 1)) _ (by kernel_rfl) (arith_add (by kernel_rfl) (by kernel_rfl) (by omega)) ?_
              refine WpM.run tab_ok 3 ⟨.code x28_9, [.loop x28_9, .blk 0, .seq x28_26], (.str s :: .str t :: U :: U :: d4 :: .int .i64 (i + 1) :: .int .i64 (i + 1) :: .int .i64 i :: .str t :: .int .i64 ((t.length : Int)) :: .bool (decide (i ≤ ((t.length : Int)))) :: .int .i64 i :: .int .i64 (i + 1) :: .int .i64 i :: .str t :: .int .i64 ((t.length : Int)) :: .bool (i == ((t.length : Int))) :: .bool false :: .str t :: .int .i64 i :: .int .u8 (bt t i) :: .bool ((bt t i) == 32) :: .bool ((bt t i) == 32) :: .str t :: .int .i64 f :: .int .i64 i :: .str ((t.take (i.toNat)).drop (f.toNat)) :: .str s :: .bool (((t.take (i.toNat)).drop (f.toNat)) == s) :: .bool true :: .int .i64 i :: .int .i64 f :: .bool (decide (i > f)) :: .bool (decide (i > f)) :: .int .i64 i :: .int .i64 (i + 1) :: []), [], H.empty, none⟩ (by kernel_rfl) ?_
              refine ih _ ?_ _ _  _ _ _ _ _ _ _ _ _ _ _ _ _ _ _ _ _ _ _ _ _ _ _ _ _ _ _ _ _ _ rfl ?_ ?_ ?_ ?_ ?_
              · omega
              · omega
              · omega
              · omega
              · omega
              · first
                | (rw [hA]; exact among_step h0 h1 (by omega) (by assumption))
                | (rw [hA, among_blank h0 h1 (by omega) (by assumption)]; simp only [c101, c102, c105, c106, c107, Bool.true_and, Bool.false_and, Bool.and_true, Bool.and_false, Bool.or_false, Bool.false_or, Bool.true_or, Bool.or_true]; done)
                | (rw [hA, among_end h0 h1 (by assumption), among_past (by omega)]; simp only [c101, c102, c105, c106, c107, Bool.true_and, Bool.false_and, Bool.and_true, Bool.and_false, Bool.or_false, Bool.false_or, Bool.true_or, Bool.or_true]; done)
          · have c106p := beq_f c106
            refine WpM.run tab_ok 11 ⟨.ops (p28_24_1 :: o28_24.drop 2), [.blk 1, .seq x28_25, .loop x28_9, .blk 0, .seq x28_26], (.str s :: .str t :: U :: U :: d4 :: .int .i64 f :: .int .i64 i :: .int .i64 i :: .str t :: .int .i64 ((t.length : Int)) :: .bool (decide (i ≤ ((t.length : Int)))) :: d11 :: d12 :: .int .i64 i :: .str t :: .int .i64 ((t.length : Int)) :: .bool (i == ((t.length : Int))) :: .bool false :: .str t :: .int .i64 i :: .int .u8 (bt t i) :: .bool ((bt t i) == 32) :: .bool ((bt t i) == 32) :: .str t :: .int .i64 f :: .int .i64 i :: .str ((t.take (i.toNat)).drop (f.toNat)) :: .str s :: .bool (((t.take (i.toNat)).drop (f.toNat)) == s) :: .bool false :: U :: U :: U :: .bool false :: .int .i64 i :: d35 :: []), [], H.empty, none⟩ (by kernel_rfl) ?_
            refine WpM.op (.int .i64 (i + 1)) _ (by kernel_rfl) (arith_add (by kernel_rfl) (by kernel_rfl) (by omega)) ?_
            refine WpM.run tab_ok 6 ⟨.ops (p28_25_1 :: o28_25.drop 2), [.loop x28_9, .blk 0, .seq x28_26], (.str s :: .str t :: U :: U :: d4 :: .int .i64 (i + 1) :: .int .i64 i :: .int .i64 i :: .str t :: .int .i64 ((t.length : Int)) :: .bool (decide (i ≤ ((t.length : Int)))) :: .int .i64 i :: d12 :: .int .i64 i :: .str t :: .int .i64 ((t.length : Int)) :: .bool (i == ((t.length : Int))) :: .bool false :: .str t :: .int .i64 i :: .int .u8 (bt t i) :: .bool ((bt t i) == 32) :: .bool ((bt t i) == 32) :: .str t :: .int .i64 f :: .int .i64 i :: .str ((t.take (i.toNat)).drop (f.toNat)) :: .str s :: .bool (((t.take (i.toNat)).drop (f.toNat)) == s) :: .bool false :: U :: U :: U :: .bool false :: .int .i64 i :: .int .i64 (i + 1) :: []), [], H.empty, none⟩ (by kernel_rfl) ?_
            refine WpM.op (.int .i64 (i + 1)) _ (by kernel_rfl) (arith_add (by kernel_rfl) (by kernel_rfl) (by omega)) ?_
            refine WpM.run tab_ok 3 ⟨.code x28_9, [.loop x28_9, .blk 0, .seq x28_26], (.str s :: .str t :: U :: U :: d4 :: .int .i64 (i + 1) :: .int .i64 (i + 1) :: .int .i64 i :: .str t :: .int .i64 ((t.length : Int)) :: .bool (decide (i ≤ ((t.length : Int)))) :: .int .i64 i :: .int .i64 (i + 1) :: .int .i64 i :: .str t :: .int .i64 ((t.length : Int)) :: .bool (i == ((t.length : Int))) :: .bool false :: .str t :: .int .i64 i :: .int .u8 (bt t i) :: .bool ((bt t i) == 32) :: .bool ((bt t i) == 32) :: .str t :: .int .i64 f :: .int .i64 i :: .str ((t.take (i.toNat)).drop (f.toNat)) :: .str s :: .bool (((t.take (i.toNat)).drop (f.toNat)) == s) :: .bool false :: U :: U :: U :: .bool false :: .int .i64 i :: .int .i64 (i + 1) :: []), [], H.empty, none⟩ (by kernel_rfl) ?_
            refine ih _ ?_ _ _  _ _ _ _ _ _ _ _ _ _ _ _ _ _ _ _ _ _ _ _ _ _ _ _ _ _ _ _ _ _ rfl ?_ ?_ ?_ ?_ ?_
            · omega
            · omega
            · omega
            · omega
            · omega
            · first
              | (rw [hA]; exact among_step h0 h1 (by omega) (by assumption))
              | (rw [hA, among_blank h0 h1 (by omega) (by assumption)]; simp only [c101, c102, c105, c106, Bool.true_and, Bool.false_and, Bool.and_true, Bool.and_false, Bool.or_false, Bool.false_or, Bool.true_or, Bool.or_true]; done)
              | (rw [hA, among_end h0 h1 (by assumption), among_past (by omega)]; simp only [c101, c102, c105, c106, Bool.true_and, Bool.false_and, Bool.and_true, Bool.and_false, Bool.or_false, Bool.false_or, Bool.true_or, Bool.or_true]; done)
        · have c105p := beq_f c105
          refine WpM.run tab_ok 5 ⟨.ops (p28_25_1 :: o28_25.drop 2), [.loop x28_9, .blk 0, .seq x28_26], (.str s :: .str t :: U :: U :: d4 :: .int .i64 f :: .int .i64 i :: .int .i64 i :: .str t :: .int .i64 ((t.length : Int)) :: .bool (decide (i ≤ ((t.length : Int)))) :: .int .i64 i :: d12 :: .int .i64 i :: .str t :: .int .i64 ((t.length : Int)) :: .bool (i == ((t.length : Int))) :: .bool false :: .str t :: .int .i64 i :: .int .u8 (bt t i) :: .bool ((bt t i) == 32) :: .bool ((bt t i) == 32) :: d23 :: d24 :: d25 :: d26 :: d27 :: d28 :: d29 :: d30 :: d31 :: d32 :: d33 :: d34 :: d35 :: []), [], H.empty, none⟩ (by kernel_rfl) ?_
          refine WpM.op (.int .i64 (i + 1)) _ (by kernel_rfl) (arith_add (by kernel_rfl) (by kernel_rfl) (by omega)) ?_
          refine WpM.run tab_ok 3 ⟨.code x28_9, [.loop x28_9, .blk 0, .seq x28_26], (.str s :: .str t :: U :: U :: d4 :: .int .i64 f :: .int .i64 (i + 1) :: .int .i64 i :: .str t :: .int .i64 ((t.length : Int)) :: .bool (decide (i ≤ ((t.length : Int)))) :: .int .i64 i :: .int .i64 (i + 1) :: .int .i64 i :: .str t :: .int .i64 ((t.length : Int)) :: .bool (i == ((t.length : Int))) :: .bool false :: .str t :: .int .i64 i :: .int .u8 (bt t i) :: .bool ((bt t i) == 32) :: .bool ((bt t i) == 32) :: d23 :: d24 :: d25 :: d26 :: d27 :: d28 :: d29 :: d30 :: d31 :: d32 :: d33 :: d34 :: d35 :: []), [], H.empty, none⟩ (by kernel_rfl) ?_
          refine ih _ ?_ _ _  _ _ _ _ _ _ _ _ _ _ _ _ _ _ _ _ _ _ _ _ _ _ _ _ _ _ _ _ _ _ rfl ?_ ?_ ?_ ?_ ?_
          · omega
          · omega
          · omega
          · omega
          · omega
          · first
            | (rw [hA]; exact among_step h0 h1 (by omega) (by assumption))
            | (rw [hA, among_blank h0 h1 (by omega) (by assumption)]; simp only [c101, c102, c105, Bool.true_and, Bool.false_and, Bool.and_true, Bool.and_false, Bool.or_false, Bool.false_or, Bool.true_or, Bool.or_true]; done)
            | (rw [hA, among_end h0 h1 (by assumption), among_past (by omega)]; simp only [c101, c102, c105, Bool.true_and, Bool.false_and, Bool.and_true, Bool.and_false, Bool.or_false, Bool.false_or, Bool.true_or, Bool.or_true]; done)
    · have c101p := dec_f c101
      refine WpM.run tab_ok 11 ⟨.done .ret, [], (.str s :: .str t :: U :: U :: .bool false :: .int .i64 f :: .int .i64 i :: .int .i64 i :: .str t :: .int .i64 ((t.length : Int)) :: .bool (decide (i ≤ ((t.length : Int)))) :: d11 :: d12 :: d13 :: d14 :: d15 :: d16 :: d17 :: d18 :: d19 :: d20 :: d21 :: d22 :: d23 :: d24 :: d25 :: d26 :: d27 :: d28 :: d29 :: d30 :: d31 :: d32 :: d33 :: d34 :: d35 :: []), [], H.empty, none⟩ (by kernel_rfl) ?_
      refine WpM.ret (.bool false) H.empty (by kernel_rfl) (by kernel_rfl) ?_
      first
        | (rw [hA, among_end h0 h1 (by assumption)]; simp only [c101, Bool.true_and, Bool.false_and, Bool.and_true, Bool.and_false, Bool.or_false, Bool.false_or, Bool.true_or, Bool.or_true]; done)
        | (rw [hA, among_blank h0 h1 (by omega) (by assumption)]; simp only [c101, Bool.true_and, Bool.false_and, Bool.and_true, Bool.and_false, Bool.or_false, Bool.false_or, Bool.true_or, Bool.or_true]; done)
        | (rw [hA, h3 (by omega), among_past (by omega)])
theorem among_ok {W : World} {s t : List UInt8} (ht : t.length ≤ 140737488355328) : WpF Try.prog W prim0 28 [.str s, .str t] H.empty (fun v _ => v = .bool (among s t)) := by
  refine WpF.m tab_ok (by kernel_rfl) rfl ?_
  refine WpM.cfg (c' := ⟨.code x28_0, [], (.str s :: .str t :: us 34), [], H.empty, none⟩) (by kernel_rfl) ?_
  refine WpM.run tab_ok 18 ⟨.code x28_9, [.loop x28_9, .blk 0, .seq x28_26], (.str s :: .str t :: U :: U :: .bool false :: .int .i64 0 :: .int .i64 0 :: us 29), [], H.empty, none⟩ (by kernel_rfl) ?_
  exact among_loop ht _ 0 0 _ _ _ _ _ _ _ _ _ _ _ _ _ _ _ _ _ _ _ _ _ _ _ _ _ _ _ _ _ _ rfl (by omega) (by omega) (by omega) (by omega) (by rw [amongAt_start])
def q28 (l : List V) : Option V :=
  match l with
  | [.str s, .str t] => if t.length ≤ 140737488355328 then some (.bool (among s t)) else none
  | _ => none
def prim1 : FuncId → Option (List V → H → Option (V × H)) := setPrim prim0 28 q28
theorem prim1s (W : World) (hW : WOK W) : Prims Try.prog W prim1 := by
  refine Prims.add base (prim0s W hW) ⟨_, _, Try.func28, rfl⟩ ?_
  intro w _ args v h
  unfold q28 at h
  split at h
  · split at h
    · rename_i hc; injection h with h; subst h; exact ⟨by simp only [old_cons, old_nil, old_int, old_str, old_bool, old_agg, old_tup, old_nils, Bool.and_true, Bool.true_and, hc], by simp only [old_cons, old_nil, old_int, old_str, old_bool, old_agg, old_tup, old_nils, Bool.and_true, Bool.true_and, hc], among_ok hc⟩
    · cases h
  · cases h
def q29 (l : List V) : Option V :=
  match l with
  | [.str s, .str t] => if s.length < 4294967281 then some (.bool (Lib.contains s t)) else none
  | _ => none
def prim2 : FuncId → Option (List V → H → Option (V × H)) := setPrim prim1 29 q29
theorem prim2s (W : World) (hW : WOK W) : Prims Try.prog W prim2 := by
  refine Prims.addC (prim1s W hW) ⟨_, _, Try.func29, rfl⟩ ?_
  intro w hb args v h μ args' hv
  unfold q29 at h
  split at h
  · split at h
    · rename_i hc
      injection h with h; subst h
      obtain ⟨a, b, rfl, rfl, rfl⟩ := hv.strs2
      obtain ⟨m, hm⟩ := SomeInt.below hW hb
      have hl : a.size = a.data.toList.length := by rw [Array.length_toList]; rfl
      refine (Try.strings_Contains a b m w (by omega) hm).mono ?_
      rintro e w' ⟨rfl, rfl⟩
      exact ⟨_, rfl, by simp [VR], rfl⟩
    · cases h
  · cases h
theorem vin_ok {W : World} {t s : List UInt8} (h1 : tableOk t = true) (h2 : t.length < 4294967281) (h3 : s.length < 4294967281) : WpF Try.prog W prim2 27 [.str t, .str s] H.empty (fun v _ => v = .bool (among s t)) := by
  refine WpF.m tab_ok (by kernel_rfl) rfl ?_
  refine WpM.cfg (c' := ⟨.code x27_0, [], (.str t :: .str s :: us 17), [], H.empty, none⟩) (by kernel_rfl) ?_
  refine WpM.run tab_ok 10 ⟨.ops (p27_3_3 :: o27_3.drop 4), [.seq .ret], (.str t :: .str s :: U :: U :: .bool false :: .str s :: .bool (!(s == [])) :: .bool (!(s == [])) :: us 11), [], H.empty, none⟩ (by kernel_rfl) ?_
  refine WpM.guard (b := (!(s == []))) (by kernel_rfl) (fun c1 => ?_) (fun c1 => ?_)
  · have c1p := nbeq_t c1
    refine WpM.run tab_ok 1 ⟨.ops (p27_3_4 :: o27_3.drop 5), [.seq .ret], (.str t :: .str s :: U :: U :: .bool false :: .str s :: .bool (!(s == [])) :: .bool true :: .str s :: us 10), [], H.empty, none⟩ (by kernel_rfl) ?_
    refine WpM.givenQ (f := 29) (args := [.str s, .str [32]]) (q := q29) (.bool (Lib.contains s [32])) (by kernel_rfl) (by kernel_rfl) (by kernel_rfl) (by simp only [q29]; rw [if_pos (by omega)]) ?_
    refine WpM.run tab_ok 3 ⟨.ops (p27_3_8 :: o27_3.drop 9), [.seq .ret], (.str t :: .str s :: U :: U :: .bool false :: .str s :: .bool (!(s == [])) :: .bool true :: .str s :: .bool (Lib.contains s [32]) :: .bool (!(Lib.contains s [32])) :: .bool (!(Lib.contains s [32])) :: .bool (!(Lib.contains s [32])) :: us 6), [], H.empty, none⟩ (by kernel_rfl) ?_
    refine WpM.guard (b := (!(Lib.contains s [32]))) (by kernel_rfl) (fun c2 => ?_) (fun c2 => ?_)
    · have c2p := not_t c2
      refine WpM.run tab_ok 2 ⟨.ops (p27_3_10 :: o27_3.drop 11), [.seq .ret], (.str t :: .str s :: U :: U :: .bool false :: .str s :: .bool (!(s == [])) :: .bool true :: .str s :: .bool (Lib.contains s [32]) :: .bool (!(Lib.contains s [32])) :: .bool (!(Lib.contains s [32])) :: .bool true :: .str t :: .str s :: us 4), [], H.empty, none⟩ (by kernel_rfl) ?_
      refine WpM.op (.str ([32] ++ s)) _ (by kernel_rfl) (concat_str (by kernel_rfl) (by kernel_rfl) (by simp only [List.length_append, List.length_cons, List.length_nil]; omega)) ?_
      refine WpM.run tab_ok 0 ⟨.ops (p27_3_11 :: o27_3.drop 12), [.seq .ret], (.str t :: .str s :: U :: U :: .bool false :: .str s :: .bool (!(s == [])) :: .bool true :: .str s :: .bool (Lib.contains s [32]) :: .bool (!(Lib.contains s [32])) :: .bool (!(Lib.contains s [32])) :: .bool true :: .str t :: .str s :: .str ([32] ++ s) :: U :: U :: U :: []), [], H.empty, none⟩ (by kernel_rfl) ?_
      refine WpM.op (.str (([32] ++ s) ++ [32])) _ (by kernel_rfl) (concat_str (by kernel_rfl) (by kernel_rfl) (by simp only [List.length_append, List.length_cons, List.length_nil]; omega)) ?_
      refine WpM.run tab_ok 0 ⟨.ops (p27_3_12 :: o27_3.drop 13), [.seq .ret], (.str t :: .str s :: U :: U :: .bool false :: .str s :: .bool (!(s == [])) :: .bool true :: .str s :: .bool (Lib.contains s [32]) :: .bool (!(Lib.contains s [32])) :: .bool (!(Lib.contains s [32])) :: .bool true :: .str t :: .str s :: .str ([32] ++ s) :: .str (([32] ++ s) ++ [32]) :: U :: U :: []), [], H.empty, none⟩ (by kernel_rfl) ?_
      refine WpM.givenQ (f := 29) (args := [.str t, .str (([32] ++ s) ++ [32])]) (q := q29) (.bool (Lib.contains t (([32] ++ s) ++ [32]))) (by kernel_rfl) (by kernel_rfl) (by kernel_rfl) (by simp only [q29]; rw [if_pos (by omega)]) ?_
      refine WpM.run tab_ok 5 ⟨.done .ret, [], (.str t :: .str s :: U :: U :: .bool (Lib.contains t (([32] ++ s) ++ [32])) :: .str s :: .bool (!(s == [])) :: .bool true :: .str s :: .bool (Lib.contains s [32]) :: .bool (!(Lib.contains s [32])) :: .bool (!(Lib.contains s [32])) :: .bool true :: .str t :: .str s :: .str ([32] ++ s) :: .str (([32] ++ s) ++ [32]) :: .bool (Lib.contains t (([32] ++ s) ++ [32])) :: .bool (Lib.contains t (([32] ++ s) ++ [32])) :: []), [], H.empty, none⟩ (by kernel_rfl) ?_
      refine WpM.ret (.bool (Lib.contains t (([32] ++ s) ++ [32]))) H.empty (by kernel_rfl) (by kernel_rfl) ?_
      rw [← among_in h1]; simp only [c1, c2, Bool.true_and, Bool.false_and, Bool.and_true, Bool.and_false, Bool.or_false, Bool.false_or, Bool.true_or, Bool.or_true, Bool.not_true, Bool.not_false, List.cons_append, List.nil_append]
    · have c2p := not_f c2
      refine WpM.run tab_ok 10 ⟨.done .ret, [], (.str t :: .str s :: U :: U :: .bool false :: .str s :: .bool (!(s == [])) :: .bool true :: .str s :: .bool (Lib.contains s [32]) :: .bool (!(Lib.contains s [32])) :: .bool (!(Lib.contains s [32])) :: .bool false :: U :: U :: U :: U :: U :: .bool false :: []), [], H.empty, none⟩ (by kernel_rfl) ?_
      refine WpM.ret (.bool false) H.empty (by kernel_rfl) (by kernel_rfl) ?_
      rw [← among_in h1]; simp only [c1, c2, Bool.true_and, Bool.false_and, Bool.and_true, Bool.and_false, Bool.or_false, Bool.false_or, Bool.true_or, Bool.or_true, Bool.not_true, Bool.not_false, List.cons_append, List.nil_append]
  · have c1p := nbeq_f c1
    refine WpM.run tab_ok 15 ⟨.done .ret, [], (.str t :: .str s :: U :: U :: .bool false :: .str s :: .bool (!(s == [])) :: .bool false :: U :: U :: U :: .bool false :: .bool false :: U :: U :: U :: U :: U :: .bool false :: []), [], H.empty, none⟩ (by kernel_rfl) ?_
    refine WpM.ret (.bool false) H.empty (by kernel_rfl) (by kernel_rfl) ?_
    rw [← among_in h1]; simp only [c1, Bool.true_and, Bool.false_and, Bool.and_true, Bool.and_false, Bool.or_false, Bool.false_or, Bool.true_or, Bool.or_true, Bool.not_true, Bool.not_false, List.cons_append, List.nil_append]
def q27 (l : List V) : Option V :=
  match l with
  | [.str t, .str s] => if tableOk t = true ∧ t.length < 4294967281 ∧ s.length < 4294967281 then some (.bool (among s t)) else none
  | _ => none
def prim3 : FuncId → Option (List V → H → Option (V × H)) := setPrim prim2 27 q27
theorem prim3s (W : World) (hW : WOK W) : Prims Try.prog W prim3 := by
  refine Prims.add base (prim2s W hW) ⟨_, _, Try.func27, rfl⟩ ?_
  intro w _ args v h
  unfold q27 at h
  split at h
  · split at h
    · rename_i hc; injection h with h; subst h; exact ⟨by simp only [old_cons, old_nil, old_int, old_str, old_bool, old_agg, old_tup, old_nils, Bool.and_true, Bool.true_and, hc], by simp only [old_cons, old_nil, old_int, old_str, old_bool, old_agg, old_tup, old_nils, Bool.and_true, Bool.true_and, hc], vin_ok hc.1 hc.2.1 hc.2.2⟩
    · cases h
  · cases h
def q8 (l : List V) : Option V :=
  match l with
  | [] => some (.bool true)
  | _ => none
def prim4 : FuncId → Option (List V → H → Option (V × H)) := setPrim prim3 8 q8
theorem prim4s (W : World) (hW : WOK W) : Prims Try.prog W prim4 := by
  refine Prims.add base (prim3s W hW) ⟨_, _, Try.func8, rfl⟩ ?_
  intro w _ args v h
  unfold q8 at h
  split at h
  · injection h with h; subst h; exact ⟨by simp only [old_cons, old_nil, old_int, old_str, old_bool, old_agg, old_tup, old_nils, Bool.and_true, Bool.true_and], by simp only [old_cons, old_nil, old_int, old_str, old_bool, old_agg, old_tup, old_nils, Bool.and_true, Bool.true_and], WpF.found (n := 40) (by kernel_rfl)⟩
  · cases h
theorem void {W : World} {s : List UInt8} (hs : s.length ≤ 100000) : WpF Try.prog W prim4 9 [.str s] H.empty (fun v _ => v = .bool (among s k_areabasebrcolembedhrimgi)) := by
  refine WpF.m tab_ok (by kernel_rfl) rfl ?_
  refine WpM.cfg (c' := ⟨.code x9_0, [], [.str s, U, U, U, U], [], H.empty, none⟩) (by kernel_rfl) ?_
  refine WpM.run tab_ok 8 ⟨.ops (p9_3_1 :: o9_3.drop 2), [.seq .ret], [.str s, U, .bool false, .str s, U], [], H.empty, none⟩ (by kernel_rfl) ?_
  refine WpM.givenQ (f := 27) (args := [.str k_areabasebrcolembedhrimgi, .str s]) (q := q27) (.bool (among s k_areabasebrcolembedhrimgi)) (by kernel_rfl) (by kernel_rfl) (by kernel_rfl) (by simp only [q27]; rw [if_pos ⟨by kernel_rfl, by decide, by omega⟩]) ?_
  refine WpM.run tab_ok 4 ⟨.done .ret, [], [.str s, U, .bool (among s k_areabasebrcolembedhrimgi), .str s, .bool (among s k_areabasebrcolembedhrimgi)], [], H.empty, none⟩ (by kernel_rfl) ?_
  refine WpM.ret (.bool (among s k_areabasebrcolembedhrimgi)) H.empty (by kernel_rfl) (by kernel_rfl) ?_
  rfl
def q9 (l : List V) : Option V :=
  match l with
  | [.str s] => if s.length ≤ 100000 then some (.bool (among s k_areabasebrcolembedhrimgi)) else none
  | _ => none
def prim5 : FuncId → Option (List V → H → Option (V × H)) := setPrim prim4 9 q9
theorem prim5s (W : World) (hW : WOK W) : Prims Try.prog W prim5 := by
  refine Prims.add base (prim4s W hW) ⟨_, _, Try.func9, rfl⟩ ?_
  intro w _ args v h
  unfold q9 at h
  split at h
  · split at h
    · rename_i hc; injection h with h; subst h; exact ⟨by simp only [old_cons, old_nil, old_int, old_str, old_bool, old_agg, old_tup, old_nils, Bool.and_true, Bool.true_and, hc], by simp only [old_cons, old_nil, old_int, old_str, old_bool, old_agg, old_tup, old_nils, Bool.and_true, Bool.true_and, hc], void hc⟩
    · cases h
  · cases h
theorem formats {W : World} {s : List UInt8} (hs : s.length ≤ 100000) : WpF Try.prog W prim5 11 [.str s] H.empty (fun v _ => v = .bool (among s k_abbigcodeemfontinobrssma)) := by
  refine WpF.m tab_ok (by kernel_rfl) rfl ?_
  refine WpM.cfg (c' := ⟨.code x11_0, [], [.str s, U, U, U, U], [], H.empty, none⟩) (by kernel_rfl) ?_
  refine WpM.run tab_ok 8 ⟨.ops (p11_3_1 :: o11_3.drop 2), [.seq .ret], [.str s, U, .bool false, .str s, U], [], H.empty, none⟩ (by kernel_rfl) ?_
  refine WpM.givenQ (f := 27) (args := [.str k_abbigcodeemfontinobrssma, .str s]) (q := q27) (.bool (among s k_abbigcodeemfontinobrssma)) (by kernel_rfl) (by kernel_rfl) (by kernel_rfl) (by simp only [q27]; rw [if_pos ⟨by kernel_rfl, by decide, by omega⟩]) ?_
  refine WpM.run tab_ok 4 ⟨.done .ret, [], [.str s, U, .bool (among s k_abbigcodeemfontinobrssma), .str s, .bool (among s k_abbigcodeemfontinobrssma)], [], H.empty, none⟩ (by kernel_rfl) ?_
  refine WpM.ret (.bool (among s k_abbigcodeemfontinobrssma)) H.empty (by kernel_rfl) (by kernel_rfl) ?_
  rfl
def q11 (l : List V) : Option V :=
  match l with
  | [.str s] => if s.length ≤ 100000 then some (.bool (among s k_abbigcodeemfontinobrssma)) else none
  | _ => none
def prim6 : FuncId → Option (List V → H → Option (V × H)) := setPrim prim5 11 q11
theorem prim6s (W : World) (hW : WOK W) : Prims Try.prog W prim6 := by
  refine Prims.add base (prim5s W hW) ⟨_, _, Try.func11, rfl⟩ ?_
  intro w _ args v h
  unfold q11 at h
  split at h
  · split at h
    · rename_i hc; injection h with h; subst h; exact ⟨by simp only [old_cons, old_nil, old_int, old_str, old_bool, old_agg, old_tup, old_nils, Bool.and_true, Bool.true_and, hc], by simp only [old_cons, old_nil, old_int, old_str, old_bool, old_agg, old_tup, old_nils, Bool.and_true, Bool.true_and, hc], formats hc⟩
    · cases h
  · cases h
theorem implied {W : World} {s : List UInt8} (hs : s.length ≤ 100000) : WpF Try.prog W prim6 13 [.str s] H.empty (fun v _ => v = .bool (among s k_dddtlioptgroupoptionprbr)) := by
  refine WpF.m tab_ok (by kernel_rfl) rfl ?_
  refine WpM.cfg (c' := ⟨.code x13_0, [], [.str s, U, U, U, U], [], H.empty, none⟩) (by kernel_rfl) ?_
  refine WpM.run tab_ok 8 ⟨.ops (p13_3_1 :: o13_3.drop 2), [.seq .ret], [.str s, U, .bool false, .str s, U], [], H.empty, none⟩ (by kernel_rfl) ?_
  refine WpM.givenQ (f := 27) (args := [.str k_dddtlioptgroupoptionprbr, .str s]) (q := q27) (.bool (among s k_dddtlioptgroupoptionprbr)) (by kernel_rfl) (by kernel_rfl) (by kernel_rfl) (by simp only [q27]; rw [if_pos ⟨by kernel_rfl, by decide, by omega⟩]) ?_
  refine WpM.run tab_ok 4 ⟨.done .ret, [], [.str s, U, .bool (among s k_dddtlioptgroupoptionprbr), .str s, .bool (among s k_dddtlioptgroupoptionprbr)], [], H.empty, none⟩ (by kernel_rfl) ?_
  refine WpM.ret (.bool (among s k_dddtlioptgroupoptionprbr)) H.empty (by kernel_rfl) (by kernel_rfl) ?_
  rfl
def q13 (l : List V) : Option V :=
  match l with
  | [.str s] => if s.length ≤ 100000 then some (.bool (among s k_dddtlioptgroupoptionprbr)) else none
  | _ => none
def prim7 : FuncId → Option (List V → H → Option (V × H)) := setPrim prim6 13 q13
theorem prim7s (W : World) (hW : WOK W) : Prims Try.prog W prim7 := by
  refine Prims.add base (prim6s W hW) ⟨_, _, Try.func13, rfl⟩ ?_
  intro w _ args v h
  unfold q13 at h
  split at h
  · split at h
    · rename_i hc; injection h with h; subst h; exact ⟨by simp only [old_cons, old_nil, old_int, old_str, old_bool, old_agg, old_tup, old_nils, Bool.and_true, Bool.true_and, hc], by simp only [old_cons, old_nil, old_int, old_str, old_bool, old_agg, old_tup, old_nils, Bool.and_true, Bool.true_and, hc], implied hc⟩
    · cases h
  · cases h
theorem heading {W : World} {s : List UInt8} (hs : s.length ≤ 100000) : WpF Try.prog W prim7 15 [.str s] H.empty (fun v _ => v = .bool (among s k_h1h2h3h4h5h6)) := by
  refine WpF.m tab_ok (by kernel_rfl) rfl ?_
  refine WpM.cfg (c' := ⟨.code x15_0, [], [.str s, U, U, U, U], [], H.empty, none⟩) (by kernel_rfl) ?_
  refine WpM.run tab_ok 8 ⟨.ops (p15_3_1 :: o15_3.drop 2), [.seq .ret], [.str s, U, .bool false, .str s, U], [], H.empty, none⟩ (by kernel_rfl) ?_
  refine WpM.givenQ (f := 27) (args := [.str k_h1h2h3h4h5h6, .str s]) (q := q27) (.bool (among s k_h1h2h3h4h5h6)) (by kernel_rfl) (by kernel_rfl) (by kernel_rfl) (by simp only [q27]; rw [if_pos ⟨by kernel_rfl, by decide, by omega⟩]) ?_
  refine WpM.run tab_ok 4 ⟨.done .ret, [], [.str s, U, .bool (among s k_h1h2h3h4h5h6), .str s, .bool (among s k_h1h2h3h4h5h6)], [], H.empty, none⟩ (by kernel_rfl) ?_
  refine WpM.ret (.bool (among s k_h1h2h3h4h5h6)) H.empty (by kernel_rfl) (by kernel_rfl) ?_
  rfl
def q15 (l : List V) : Option V :=
  match l with
  | [.str s] => if s.length ≤ 100000 then some (.bool (among s k_h1h2h3h4h5h6)) else none
  | _ => none
def prim8 : FuncId → Option (List V → H → Option (V × H)) := setPrim prim7 15 q15
theorem prim8s (W : World) (hW : WOK W) : Prims Try.prog W prim8 := by
  refine Prims.add base (prim7s W hW) ⟨_, _, Try.func15, rfl⟩ ?_
  intro w _ args v h
  unfold q15 at h
  split at h
  · split at h
    · rename_i hc; injection h with h; subst h; exact ⟨by simp only [old_cons, old_nil, old_int, old_str, old_bool, old_agg, old_tup, old_nils, Bool.and_true, Bool.true_and, hc], by simp only [old_cons, old_nil, old_int, old_str, old_bool, old_agg, old_tup, old_nils, Bool.and_true, Bool.true_and, hc], heading hc⟩
    · cases h
  · cases h
theorem block {W : World} {s : List UInt8} (hs : s.length ≤ 100000) : WpF Try.prog W prim8 17 [.str s] H.empty (fun v _ => v = .bool (among s k_addressarticleasideblock)) := by
  refine WpF.m tab_ok (by kernel_rfl) rfl ?_
  refine WpM.cfg (c' := ⟨.code x17_0, [], [.str s, U, U, U, U], [], H.empty, none⟩) (by kernel_rfl) ?_
  refine WpM.run tab_ok 8 ⟨.ops (p17_3_1 :: o17_3.drop 2), [.seq .ret], [.str s, U, .bool false, .str s, U], [], H.empty, none⟩ (by kernel_rfl) ?_
  refine WpM.givenQ (f := 27) (args := [.str k_addressarticleasideblock, .str s]) (q := q27) (.bool (among s k_addressarticleasideblock)) (by kernel_rfl) (by kernel_rfl) (by kernel_rfl) (by simp only [q27]; rw [if_pos ⟨by kernel_rfl, by decide, by omega⟩]) ?_
  refine WpM.run tab_ok 4 ⟨.done .ret, [], [.str s, U, .bool (among s k_addressarticleasideblock), .str s, .bool (among s k_addressarticleasideblock)], [], H.empty, none⟩ (by kernel_rfl) ?_
  refine WpM.ret (.bool (among s k_addressarticleasideblock)) H.empty (by kernel_rfl) (by kernel_rfl) ?_
  rfl
def q17 (l : List V) : Option V :=
  match l with
  | [.str s] => if s.length ≤ 100000 then some (.bool (among s k_addressarticleasideblock)) else none
  | _ => none
def prim9 : FuncId → Option (List V → H → Option (V × H)) := setPrim prim8 17 q17
theorem prim9s (W : World) (hW : WOK W) : Prims Try.prog W prim9 := by
  refine Prims.add base (prim8s W hW) ⟨_, _, Try.func17, rfl⟩ ?_
  intro w _ args v h
  unfold q17 at h
  split at h
  · split at h
    · rename_i hc; injection h with h; subst h; exact ⟨by simp only [old_cons, old_nil, old_int, old_str, old_bool, old_agg, old_tup, old_nils, Bool.and_true, Bool.true_and, hc], by simp only [old_cons, old_nil, old_int, old_str, old_bool, old_agg, old_tup, old_nils, Bool.and_true, Bool.true_and, hc], block hc⟩
    · cases h
  · cases h
theorem voidr {W : World} {s : List UInt8} : WpF Try.prog W prim9 10 [.str s] H.empty (fun v _ => v = .bool (among s k_areabasebrcolembedhrimgi')) := by
  refine WpF.m tab_ok (by kernel_rfl) rfl ?_
  refine WpM.cfg (c' := ⟨.code x10_0, [], [.str s, U, U, U, U], [], H.empty, none⟩) (by kernel_rfl) ?_
  refine WpM.run tab_ok 13 ⟨.done .ret, [], [.str s, U, .bool (among s k_areabasebrcolembedhrimgi'), .str s, .bool (among s k_areabasebrcolembedhrimgi')], [], H.empty, none⟩ (by kernel_rfl) ?_
  refine WpM.ret (.bool (among s k_areabasebrcolembedhrimgi')) H.empty (by kernel_rfl) (by kernel_rfl) ?_
  rfl
def q10 (l : List V) : Option V :=
  match l with
  | [.str s] => some (.bool (among s k_areabasebrcolembedhrimgi'))
  | _ => none
def prim10 : FuncId → Option (List V → H → Option (V × H)) := setPrim prim9 10 q10
theorem prim10s (W : World) (hW : WOK W) : Prims Try.prog W prim10 := by
  refine Prims.add base (prim9s W hW) ⟨_, _, Try.func10, rfl⟩ ?_
  intro w _ args v h
  unfold q10 at h
  split at h
  · injection h with h; subst h; exact ⟨by simp only [old_cons, old_nil, old_int, old_str, old_bool, old_agg, old_tup, old_nils, Bool.and_true, Bool.true_and], by simp only [old_cons, old_nil, old_int, old_str, old_bool, old_agg, old_tup, old_nils, Bool.and_true, Bool.true_and], voidr⟩
  · cases h
theorem formatsr {W : World} {s : List UInt8} : WpF Try.prog W prim10 12 [.str s] H.empty (fun v _ => v = .bool (among s k_abbigcodeemfontinobrssma')) := by
  refine WpF.m tab_ok (by kernel_rfl) rfl ?_
  refine WpM.cfg (c' := ⟨.code x12_0, [], [.str s, U, U, U, U], [], H.empty, none⟩) (by kernel_rfl) ?_
  refine WpM.run tab_ok 13 ⟨.done .ret, [], [.str s, U, .bool (among s k_abbigcodeemfontinobrssma'), .str s, .bool (among s k_abbigcodeemfontinobrssma')], [], H.empty, none⟩ (by kernel_rfl) ?_
  refine WpM.ret (.bool (among s k_abbigcodeemfontinobrssma')) H.empty (by kernel_rfl) (by kernel_rfl) ?_
  rfl
def q12 (l : List V) : Option V :=
  match l with
  | [.str s] => some (.bool (among s k_abbigcodeemfontinobrssma'))
  | _ => none
def prim11 : FuncId → Option (List V → H → Option (V × H)) := setPrim prim10 12 q12
theorem prim11s (W : World) (hW : WOK W) : Prims Try.prog W prim11 := by
  refine Prims.add base (prim10s W hW) ⟨_, _, Try.func12, rfl⟩ ?_
  intro w _ args v h
  unfold q12 at h
  split at h
  · injection h with h; subst h; exact ⟨by simp only [old_cons, old_nil, old_int, old_str, old_bool, old_agg, old_tup, old_nils, Bool.and_true, Bool.true_and], by simp only [old_cons, old_nil, old_int, old_str, old_bool, old_agg, old_tup, old_nils, Bool.and_true, Bool.true_and], formatsr⟩
  · cases h
theorem impliedr {W : World} {s : List UInt8} : WpF Try.prog W prim11 14 [.str s] H.empty (fun v _ => v = .bool (among s k_dddtlioptgroupoptionprbr')) := by
  refine WpF.m tab_ok (by kernel_rfl) rfl ?_
  refine WpM.cfg (c' := ⟨.code x14_0, [], [.str s, U, U, U, U], [], H.empty, none⟩) (by kernel_rfl) ?_
  refine WpM.run tab_ok 13 ⟨.done .ret, [], [.str s, U, .bool (among s k_dddtlioptgroupoptionprbr'), .str s, .bool (among s k_dddtlioptgroupoptionprbr')], [], H.empty, none⟩ (by kernel_rfl) ?_
  refine WpM.ret (.bool (among s k_dddtlioptgroupoptionprbr')) H.empty (by kernel_rfl) (by kernel_rfl) ?_
  rfl
def q14 (l : List V) : Option V :=
  match l with
  | [.str s] => some (.bool (among s k_dddtlioptgroupoptionprbr'))
  | _ => none
def prim12 : FuncId → Option (List V → H → Option (V × H)) := setPrim prim11 14 q14
theorem prim12s (W : World) (hW : WOK W) : Prims Try.prog W prim12 := by
  refine Prims.add base (prim11s W hW) ⟨_, _, Try.func14, rfl⟩ ?_
  intro w _ args v h
  unfold q14 at h
  split at h
  · injection h with h; subst h; exact ⟨by simp only [old_cons, old_nil, old_int, old_str, old_bool, old_agg, old_tup, old_nils, Bool.and_true, Bool.true_and], by simp only [old_cons, old_nil, old_int, old_str, old_bool, old_agg, old_tup, old_nils, Bool.and_true, Bool.true_and], impliedr⟩
  · cases h
theorem headingr {W : World} {s : List UInt8} : WpF Try.prog W prim12 16 [.str s] H.empty (fun v _ => v = .bool (among s k_h1h2h3h4h5h6')) := by
  refine WpF.m tab_ok (by kernel_rfl) rfl ?_
  refine WpM.cfg (c' := ⟨.code x16_0, [], [.str s, U, U, U, U], [], H.empty, none⟩) (by kernel_rfl) ?_
  refine WpM.run tab_ok 13 ⟨.done .ret, [], [.str s, U, .bool (among s k_h1h2h3h4h5h6'), .str s, .bool (among s k_h1h2h3h4h5h6')], [], H.empty, none⟩ (by kernel_rfl) ?_
  refine WpM.ret (.bool (among s k_h1h2h3h4h5h6')) H.empty (by kernel_rfl) (by kernel_rfl) ?_
  rfl
def q16 (l : List V) : Option V :=
  match l with
  | [.str s] => some (.bool (among s k_h1h2h3h4h5h6'))
  | _ => none
def prim13 : FuncId → Option (List V → H → Option (V × H)) := setPrim prim12 16 q16
theorem prim13s (W : World) (hW : WOK W) : Prims Try.prog W prim13 := by
  refine Prims.add base (prim12s W hW) ⟨_, _, Try.func16, rfl⟩ ?_
  intro w _ args v h
  unfold q16 at h
  split at h
  · injection h with h; subst h; exact ⟨by simp only [old_cons, old_nil, old_int, old_str, old_bool, old_agg, old_tup, old_nils, Bool.and_true, Bool.true_and], by simp only [old_cons, old_nil, old_int, old_str, old_bool, old_agg, old_tup, old_nils, Bool.and_true, Bool.true_and], headingr⟩
  · cases h
theorem blockr {W : World} {s : List UInt8} : WpF Try.prog W prim13 18 [.str s] H.empty (fun v _ => v = .bool (among s k_addressarticleasideblock')) := by
  refine WpF.m tab_ok (by kernel_rfl) rfl ?_
  refine WpM.cfg (c' := ⟨.code x18_0, [], [.str s, U, U, U, U], [], H.empty, none⟩) (by kernel_rfl) ?_
  refine WpM.run tab_ok 13 ⟨.done .ret, [], [.str s, U, .bool (among s k_addressarticleasideblock'), .str s, .bool (among s k_addressarticleasideblock')], [], H.empty, none⟩ (by kernel_rfl) ?_
  refine WpM.ret (.bool (among s k_addressarticleasideblock')) H.empty (by kernel_rfl) (by kernel_rfl) ?_
  rfl
def q18 (l : List V) : Option V :=
  match l with
  | [.str s] => some (.bool (among s k_addressarticleasideblock'))
  | _ => none
def prim14 : FuncId → Option (List V → H → Option (V × H)) := setPrim prim13 18 q18
theorem prim14s (W : World) (hW : WOK W) : Prims Try.prog W prim14 := by
  refine Prims.add base (prim13s W hW) ⟨_, _, Try.func18, rfl⟩ ?_
  intro w _ args v h
  unfold q18 at h
  split at h
  · injection h with h; subst h; exact ⟨by simp only [old_cons, old_nil, old_int, old_str, old_bool, old_agg, old_tup, old_nils, Bool.and_true, Bool.true_and], by simp only [old_cons, old_nil, old_int, old_str, old_bool, old_agg, old_tup, old_nils, Bool.and_true, Bool.true_and], blockr⟩
  · cases h
def lowB (c : UInt8) : UInt8 := if 65 ≤ c.toNat ∧ c.toNat ≤ 90 then UInt8.ofNat (c.toNat + 32) else c
def lower (s : List UInt8) : List UInt8 := s.map lowB
def lowAt (s : List UInt8) (i : Int) : List UInt8 := lower (s.take i.toNat) ++ s.drop i.toNat
theorem lower_length (s : List UInt8) : (lower s).length = s.length := by simp [lower]
theorem lowAt_length (s : List UInt8) (i : Int) : (lowAt s i).length = s.length := by simp only [lowAt, lower, List.length_append, List.length_map, List.length_take, List.length_drop]; omega
theorem lowAt_zero (s : List UInt8) : lowAt s 0 = s := by simp [lowAt, lower]
theorem lowAt_end {s : List UInt8} {i : Int} (h : ¬ i < (s.length : Int)) : lowAt s i = lower s := by
  unfold lowAt
  rw [List.take_of_length_le (by omega), List.drop_eq_nil_of_le (by omega), List.append_nil]
theorem lowAt_bt {s : List UInt8} {i : Int} (h0 : 0 ≤ i) (h : i < (s.length : Int)) : bt (lowAt s i) i = bt s i := by
  have hl : i.toNat < s.length := by omega
  unfold bt lowAt
  rw [List.getD_eq_getElem?_getD, List.getD_eq_getElem?_getD, List.getElem?_append_right (by simp [lower]; omega)]
  simp [lower, Nat.min_eq_left (Nat.le_of_lt hl)]
theorem lowAt_step {s : List UInt8} {i : Int} (h0 : 0 ≤ i) (h : i < (s.length : Int)) : lowAt s (i + 1) = (lowAt s i).set i.toNat (lowB (s.getD i.toNat 0)) := by
  obtain ⟨c, e1, e2, e3⟩ := bt_get h0 h
  have hl : i.toNat < s.length := by omega
  have hc : s.getD i.toNat 0 = c := by
    rw [List.getD_eq_getElem?_getD, List.getElem?_eq_getElem hl]
    have := List.drop_eq_getElem_cons hl
    rw [e1] at this
    injection this with h1 _
    exact h1.symm
  unfold lowAt
  rw [toNat_succ h0, e3, e1, hc, List.set_append_right _ _ (by simp [lower]; omega)]
  have hm : (lower (List.take i.toNat s)).length = i.toNat := by simp [lower]; omega
  rw [hm, Nat.sub_self]
  simp [lower]
theorem set_selfG {α : Type} {env : List α} {t : Nat} {v : α} (h : env[t]? = some v) : env.set t v = env := by
  apply List.ext_getElem?
  intro i
  rw [List.getElem?_set]
  split
  · rename_i e
    subst e
    split
    · exact h.symm
    · rename_i hn
      rw [List.getElem?_eq_none (Nat.le_of_not_lt hn)]
  · rfl
theorem lowAt_big {s : List UInt8} {i : Int} (h0 : 0 ≤ i) (h : i < (s.length : Int)) (h1 : 65 ≤ bt s i) (h2 : bt s i ≤ 90) : lowAt s (i + 1) = (lowAt s i).set i.toNat (UInt8.ofNat (bt s i + 32).toNat) := by
  rw [lowAt_step h0 h]
  congr 1
  unfold bt at h1 h2 ⊢
  unfold lowB
  rw [if_pos ⟨by omega, by omega⟩]
  congr 1
theorem lowAt_small {s : List UInt8} {i : Int} (h0 : 0 ≤ i) (h : i < (s.length : Int)) (h1 : ¬ (65 ≤ bt s i) ∨ ¬ (bt s i ≤ 90)) : lowAt s (i + 1) = lowAt s i := by
  rw [lowAt_step h0 h]
  have : lowB (s.getD i.toNat 0) = s.getD i.toNat 0 := by
    unfold bt at h1
    unfold lowB
    rw [if_neg (by omega)]
  rw [this]
  apply set_selfG
  have hl : i.toNat < s.length := by omega
  unfold lowAt
  rw [List.getElem?_append_right (by simp [lower]; omega), List.getD_eq_getElem?_getD]
  simp [lower, Nat.min_eq_left (Nat.le_of_lt hl), List.getElem?_eq_getElem hl]
theorem lowB_twice (c : UInt8) : lowB (lowB c) = lowB c := by
  unfold lowB
  split
  · rename_i h
    have : (UInt8.ofNat (c.toNat + 32)).toNat = c.toNat + 32 := UInt8.toNat_ofNat_of_lt' (by have := h.2; show c.toNat + 32 < 256; omega)
    rw [this, if_neg (by omega)]
  · rfl
theorem lower_twice (s : List UInt8) : lower (lower s) = lower s := by
  unfold lower
  rw [List.map_map]
  apply List.map_congr_left
  intro c _
  exact lowB_twice c
theorem low_loop {W : World} {s : List UInt8} (hs : s.length ≤ 140737488355328) (n : Nat) : ∀ (i : Int) (h : H) (p1 : Nat) (cur : List UInt8) (d4 d5 d11 d12 d13 d14 d15 d16 d17 d18 d19 d20 d21 d22 d23 d24 d25 d26 : V), n = ((s.length : Int) - i).toNat → (0 ≤ i) → (i ≤ (s.length : Int)) → (cur = lowAt s i) → (h.get p1 = some (.cells (bv cur) 5)) → (p1 < h.nx) → WpM Try.prog W prim14 ⟨.code x23_9, [.loop x23_9, .blk 0, .seq x23_22], (.str s :: U :: .str [] :: .slice (some (.new p1 0)) s.length s.length false :: d4 :: d5 :: .str s :: .slice (some (.new p1 0)) s.length s.length false :: .slice (some (.new p1 0)) s.length s.length false :: .int .i64 ((s.length : Int)) :: .int .i64 i :: d11 :: d12 :: d13 :: d14 :: d15 :: d16 :: d17 :: d18 :: d19 :: d20 :: d21 :: d22 :: d23 :: d24 :: d25 :: d26 :: U :: U :: []), [], h, none⟩ (retQ Try.prog W [.tmp 2] (fun v _ => v = .str (lower s))) := by
  induction n using Nat.strongRecOn with
  | _ n ih =>
    intro i h p1 cur d4 d5 d11 d12 d13 d14 d15 d16 d17 d18 d19 d20 d21 d22 d23 d24 d25 d26 hn h0 h1 hc g1 l1
    have hl : s.length = cur.length := by rw [hc, lowAt_length]
    have hl2 : (s.length : Int) = (cur.length : Int) := by omega
    have hb : 0 ≤ i → i < (s.length : Int) → bt cur i = bt s i := fun a b => by rw [hc, lowAt_bt a b]
    have hr := bt_range cur i
    refine WpM.run tab_ok 6 ⟨.code x23_12, [.seq x23_13, .loop x23_9, .blk 0, .seq x23_22], (.str s :: U :: .str [] :: .slice (some (.new p1 0)) s.length s.length false :: d4 :: d5 :: .str s :: .slice (some (.new p1 0)) s.length s.length false :: .slice (some (.new p1 0)) s.length s.length false :: .int .i64 ((s.length : Int)) :: .int .i64 i :: .bool (decide (i < ((s.length : Int)))) :: d12 :: d13 :: d14 :: d15 :: d16 :: d17 :: d18 :: d19 :: d20 :: d21 :: d22 :: d23 :: d24 :: d25 :: d26 :: U :: U :: []), [], h, none⟩ (by kernel_rfl) ?_
    refine WpM.cond (t := (decide (i < ((s.length : Int))))) (by kernel_rfl) (fun c101 => ?_) (fun c101 => ?_)
    · have c101p := dec_t c101
      refine WpM.run tab_ok 7 ⟨.ops (p23_16_1 :: o23_16.drop 2), [.seq x23_17, .blk 1, .seq x23_21, .loop x23_9, .blk 0, .seq x23_22], (.str s :: U :: .str [] :: .slice (some (.new p1 0)) s.length s.length false :: d4 :: d5 :: .str s :: .slice (some (.new p1 0)) s.length s.length false :: .slice (some (.new p1 0)) s.length s.length false :: .int .i64 ((s.length : Int)) :: .int .i64 i :: .bool (decide (i < ((s.length : Int)))) :: .int .i64 i :: d13 :: d14 :: d15 :: d16 :: d17 :: d18 :: d19 :: d20 :: d21 :: d22 :: d23 :: d24 :: d25 :: d26 :: U :: U :: []), [], h, none⟩ (by kernel_rfl) ?_
      refine WpM.op (.ptr (some (.new p1 (0 + i.toNat * 1)))) _ (by kernel_rfl) (indexAddr_sl (e := 5) (a := (.new p1 0)) (len := s.length) (lb := s.length) (ex := false) (z := 1) (k := .i64) (n := i) (by kernel_rfl) (by kernel_rfl) (by kernel_rfl) (by kernel_rfl) (by omega)) ?_
      refine WpM.run tab_ok 0 ⟨.ops (p23_16_2 :: o23_16.drop 3), [.seq x23_17, .blk 1, .seq x23_21, .loop x23_9, .blk 0, .seq x23_22], (.str s :: U :: .str [] :: .slice (some (.new p1 0)) s.length s.length false :: d4 :: d5 :: .str s :: .slice (some (.new p1 0)) s.length s.length false :: .slice (some (.new p1 0)) s.length s.length false :: .int .i64 ((s.length : Int)) :: .int .i64 i :: .bool (decide (i < ((s.length : Int)))) :: .int .i64 i :: .ptr (some (.new p1 (0 + i.toNat * 1))) :: d14 :: d15 :: d16 :: d17 :: d18 :: d19 :: d20 :: d21 :: d22 :: d23 :: d24 :: d25 :: d26 :: U :: U :: []), [], h, none⟩ (by kernel_rfl) ?_
      refine WpM.op (.int .u8 (bt cur i)) _ (by kernel_rfl) (load_new (o := (0 + i.toNat * 1)) (by kernel_rfl) g1 (bv_ld (i := i) (by kernel_rfl) (by omega) (by omega))) ?_
      refine WpM.run tab_ok 9 ⟨.ops (p23_18_3 :: o23_18.drop 4), [.seq x23_19, .blk 1, .seq x23_21, .loop x23_9, .blk 0, .seq x23_22], (.str s :: U :: .str [] :: .slice (some (.new p1 0)) s.length s.length false :: .int .i64 i :: .int .u8 (bt cur i) :: .str s :: .slice (some (.new p1 0)) s.length s.length false :: .slice (some (.new p1 0)) s.length s.length false :: .int .i64 ((s.length : Int)) :: .int .i64 i :: .bool (decide (i < ((s.length : Int)))) :: .int .i64 i :: .ptr (some (.new p1 (0 + i.toNat * 1))) :: .int .u8 (bt cur i) :: .int .u8 (bt cur i) :: .bool (decide ((65 : Int) ≤ (bt cur i))) :: .bool (decide ((65 : Int) ≤ (bt cur i))) :: d18 :: d19 :: d20 :: d21 :: d22 :: d23 :: d24 :: d25 :: d26 :: U :: U :: []), [], h, none⟩ (by kernel_rfl) ?_
      refine WpM.guard (b := (decide ((65 : Int) ≤ (bt cur i)))) (by kernel_rfl) (fun c102 => ?_) (fun c102 => ?_)
      · have c102p := dec_t c102
        refine WpM.run tab_ok 5 ⟨.code x23_19, [.blk 1, .seq x23_21, .loop x23_9, .blk 0, .seq x23_22], (.str s :: U :: .str [] :: .slice (some (.new p1 0)) s.length s.length false :: .int .i64 i :: .int .u8 (bt cur i) :: .str s :: .slice (some (.new p1 0)) s.length s.length false :: .slice (some (.new p1 0)) s.length s.length false :: .int .i64 ((s.length : Int)) :: .int .i64 i :: .bool (decide (i < ((s.length : Int)))) :: .int .i64 i :: .ptr (some (.new p1 (0 + i.toNat * 1))) :: .int .u8 (bt cur i) :: .int .u8 (bt cur i) :: .bool (decide ((65 : Int) ≤ (bt cur i))) :: .bool true :: .int .u8 (bt cur i) :: .bool (decide ((bt cur i) ≤ 90)) :: .bool (decide ((bt cur i) ≤ 90)) :: d21 :: d22 :: d23 :: d24 :: d25 :: d26 :: U :: U :: []), [], h, none⟩ (by kernel_rfl) ?_
        refine WpM.cond (t := (decide ((bt cur i) ≤ 90))) (by kernel_rfl) (fun c103 => ?_) (fun c103 => ?_)
        · have c103p := dec_t c103
          refine WpM.run tab_ok 4 ⟨.ops (p23_20_3 :: o23_20.drop 4), [.blk 1, .seq x23_21, .loop x23_9, .blk 0, .seq x23_22], (.str s :: U :: .str [] :: .slice (some (.new p1 0)) s.length s.length false :: .int .i64 i :: .int .u8 (bt cur i) :: .str s :: .slice (some (.new p1 0)) s.length s.length false :: .slice (some (.new p1 0)) s.length s.length false :: .int .i64 ((s.length : Int)) :: .int .i64 i :: .bool (decide (i < ((s.length : Int)))) :: .int .i64 i :: .ptr (some (.new p1 (0 + i.toNat * 1))) :: .int .u8 (bt cur i) :: .int .u8 (bt cur i) :: .bool (decide ((65 : Int) ≤ (bt cur i))) :: .bool true :: .int .u8 (bt cur i) :: .bool (decide ((bt cur i) ≤ 90)) :: .bool (decide ((bt cur i) ≤ 90)) :: .slice (some (.new p1 0)) s.length s.length false :: .int .i64 i :: .int .u8 (bt cur i) :: d24 :: d25 :: d26 :: U :: U :: []), [], h, none⟩ (by kernel_rfl) ?_
          refine WpM.op (.int .u8 ((bt cur i) + 32)) _ (by kernel_rfl) (arith_addU (by kernel_rfl) (by kernel_rfl) (by omega)) ?_
          refine WpM.run tab_ok 0 ⟨.ops (p23_20_4 :: o23_20.drop 5), [.blk 1, .seq x23_21, .loop x23_9, .blk 0, .seq x23_22], (.str s :: U :: .str [] :: .slice (some (.new p1 0)) s.length s.length false :: .int .i64 i :: .int .u8 (bt cur i) :: .str s :: .slice (some (.new p1 0)) s.length s.length false :: .slice (some (.new p1 0)) s.length s.length false :: .int .i64 ((s.length : Int)) :: .int .i64 i :: .bool (decide (i < ((s.length : Int)))) :: .int .i64 i :: .ptr (some (.new p1 (0 + i.toNat * 1))) :: .int .u8 (bt cur i) :: .int .u8 (bt cur i) :: .bool (decide ((65 : Int) ≤ (bt cur i))) :: .bool true :: .int .u8 (bt cur i) :: .bool (decide ((bt cur i) ≤ 90)) :: .bool (decide ((bt cur i) ≤ 90)) :: .slice (some (.new p1 0)) s.length s.length false :: .int .i64 i :: .int .u8 (bt cur i) :: .int .u8 ((bt cur i) + 32) :: d25 :: d26 :: U :: U :: []), [], h, none⟩ (by kernel_rfl) ?_
          refine WpM.op (.ptr (some (.new p1 (0 + i.toNat * 1)))) _ (by kernel_rfl) (indexAddr_sl (e := 5) (a := (.new p1 0)) (len := s.length) (lb := s.length) (ex := false) (z := 1) (k := .i64) (n := i) (by kernel_rfl) (by kernel_rfl) (by kernel_rfl) (by kernel_rfl) (by omega)) ?_
          refine WpM.run tab_ok 0 ⟨.ops (p23_20_5 :: o23_20.drop 6), [.blk 1, .seq x23_21, .loop x23_9, .blk 0, .seq x23_22], (.str s :: U :: .str [] :: .slice (some (.new p1 0)) s.length s.length false :: .int .i64 i :: .int .u8 (bt cur i) :: .str s :: .slice (some (.new p1 0)) s.length s.length false :: .slice (some (.new p1 0)) s.length s.length false :: .int .i64 ((s.length : Int)) :: .int .i64 i :: .bool (decide (i < ((s.length : Int)))) :: .int .i64 i :: .ptr (some (.new p1 (0 + i.toNat * 1))) :: .int .u8 (bt cur i) :: .int .u8 (bt cur i) :: .bool (decide ((65 : Int) ≤ (bt cur i))) :: .bool true :: .int .u8 (bt cur i) :: .bool (decide ((bt cur i) ≤ 90)) :: .bool (decide ((bt cur i) ≤ 90)) :: .slice (some (.new p1 0)) s.length s.length false :: .int .i64 i :: .int .u8 (bt cur i) :: .int .u8 ((bt cur i) + 32) :: .ptr (some (.new p1 (0 + i.toNat * 1))) :: d26 :: U :: U :: []), [], h, none⟩ (by kernel_rfl) ?_
          refine WpM.opS U p1 (some (.cells (bv (cur.set i.toNat (UInt8.ofNat ((bt cur i) + 32).toNat))) 5)) (by kernel_rfl) (store_new (o := (0 + i.toNat * 1)) (v := .int .u8 ((bt cur i) + 32)) (by kernel_rfl) (by kernel_rfl) g1 (bv_st (i := i) (by kernel_rfl) (by omega) (by omega) (by omega))) (fun h104 a105 => ?_)
          refine WpM.run tab_ok 4 ⟨.ops (p23_21_0 :: o23_21.drop 1), [.loop x23_9, .blk 0, .seq x23_22], (.str s :: U :: .str [] :: .slice (some (.new p1 0)) s.length s.length false :: .int .i64 i :: .int .u8 (bt cur i) :: .str s :: .slice (some (.new p1 0)) s.length s.length false :: .slice (some (.new p1 0)) s.length s.length false :: .int .i64 ((s.length : Int)) :: .int .i64 i :: .bool (decide (i < ((s.length : Int)))) :: .int .i64 i :: .ptr (some (.new p1 (0 + i.toNat * 1))) :: .int .u8 (bt cur i) :: .int .u8 (bt cur i) :: .bool (decide ((65 : Int) ≤ (bt cur i))) :: .bool true :: .int .u8 (bt cur i) :: .bool (decide ((bt cur i) ≤ 90)) :: .bool (decide ((bt cur i) ≤ 90)) :: .slice (some (.new p1 0)) s.length s.length false :: .int .i64 i :: .int .u8 (bt cur i) :: .int .u8 ((bt cur i) + 32) :: .ptr (some (.new p1 (0 + i.toNat * 1))) :: d26 :: U :: U :: []), [], h104, none⟩ (by kernel_rfl) ?_
          refine WpM.op (.int .i64 (i + 1)) _ (by kernel_rfl) (arith_add (by kernel_rfl) (by kernel_rfl) (by omega)) ?_
          refine WpM.run tab_ok 3 ⟨.code x23_9, [.loop x23_9, .blk 0, .seq x23_22], (.str s :: U :: .str [] :: .slice (some (.new p1 0)) s.length s.length false :: .int .i64 i :: .int .u8 (bt cur i) :: .str s :: .slice (some (.new p1 0)) s.length s.length false :: .slice (some (.new p1 0)) s.length s.length false :: .int .i64 ((s.length : Int)) :: .int .i64 (i + 1) :: .bool (decide (i < ((s.length : Int)))) :: .int .i64 i :: .ptr (some (.new p1 (0 + i.toNat * 1))) :: .int .u8 (bt cur i) :: .int .u8 (bt cur i) :: .bool (decide ((65 : Int) ≤ (bt cur i))) :: .bool true :: .int .u8 (bt cur i) :: .bool (decide ((bt cur i) ≤ 90)) :: .bool (decide ((bt cur i) ≤ 90)) :: .slice (some (.new p1 0)) s.length s.length false :: .int .i64 i :: .int .u8 (bt cur i) :: .int .u8 ((bt cur i) + 32) :: .ptr (some (.new p1 (0 + i.toNat * 1))) :: .int .i64 (i + 1) :: U :: U :: []), [], h104, none⟩ (by kernel_rfl) ?_
          refine ih _ ?_ _ h104 p1 (cur.set i.toNat (UInt8.ofNat ((bt cur i) + 32).toNat)) _ _ _ _ _ _ _ _ _ _ _ _ _ _ _ _ _ _ rfl ?_ ?_ ?_ ?_ ?_
          · omega
          · omega
          · omega
          · have hb2 := hb h0 (by omega)
            first
              | (rw [hc]; exact (lowAt_small h0 (by omega) (by first | (left; omega) | (right; omega))).symm)
              | (rw [lowAt_big h0 (by omega) (by omega) (by omega), ← hc, hb2])
          · first | exact a105.get
          · first | exact (a105.le l1)
        · have c103p := dec_f c103
          refine WpM.run tab_ok 4 ⟨.ops (p23_21_0 :: o23_21.drop 1), [.loop x23_9, .blk 0, .seq x23_22], (.str s :: U :: .str [] :: .slice (some (.new p1 0)) s.length s.length false :: .int .i64 i :: .int .u8 (bt cur i) :: .str s :: .slice (some (.new p1 0)) s.length s.length false :: .slice (some (.new p1 0)) s.length s.length false :: .int .i64 ((s.length : Int)) :: .int .i64 i :: .bool (decide (i < ((s.length : Int)))) :: .int .i64 i :: .ptr (some (.new p1 (0 + i.toNat * 1))) :: .int .u8 (bt cur i) :: .int .u8 (bt cur i) :: .bool (decide ((65 : Int) ≤ (bt cur i))) :: .bool true :: .int .u8 (bt cur i) :: .bool (decide ((bt cur i) ≤ 90)) :: .bool (decide ((bt cur i) ≤ 90)) :: d21 :: d22 :: d23 :: d24 :: d25 :: d26 :: U :: U :: []), [], h, none⟩ (by kernel_rfl) ?_
          refine WpM.op (.int .i64 (i + 1)) _ (by kernel_rfl) (arith_add (by kernel_rfl) (by kernel_rfl) (by omega)) ?_
          refine WpM.run tab_ok 3 ⟨.code x23_9, [.loop x23_9, .blk 0, .seq x23_22], (.str s :: U :: .str [] :: .slice (some (.new p1 0)) s.length s.length false :: .int .i64 i :: .int .u8 (bt cur i) :: .str s :: .slice (some (.new p1 0)) s.length s.length false :: .slice (some (.new p1 0)) s.length s.length false :: .int .i64 ((s.length : Int)) :: .int .i64 (i + 1) :: .bool (decide (i < ((s.length : Int)))) :: .int .i64 i :: .ptr (some (.new p1 (0 + i.toNat * 1))) :: .int .u8 (bt cur i) :: .int .u8 (bt cur i) :: .bool (decide ((65 : Int) ≤ (bt cur i))) :: .bool true :: .int .u8 (bt cur i) :: .bool (decide ((bt cur i) ≤ 90)) :: .bool (decide ((bt cur i) ≤ 90)) :: d21 :: d22 :: d23 :: d24 :: d25 :: .int .i64 (i + 1) :: U :: U :: []), [], h, none⟩ (by kernel_rfl) ?_
          refine ih _ ?_ _ h p1 (cur) _ _ _ _ _ _ _ _ _ _ _ _ _ _ _ _ _ _ rfl ?_ ?_ ?_ ?_ ?_
          · omega
          · omega
          · omega
          · have hb2 := hb h0 (by omega)
            first
              | (rw [hc]; exact (lowAt_small h0 (by omega) (by first | (left; omega) | (right; omega))).symm)
              | (rw [lowAt_big h0 (by omega) (by omega) (by omega), ← hc, hb2])
          · first | exact g1
          · first | exact l1
      · have c102p := dec_f c102
        refine WpM.run tab_ok 10 ⟨.ops (p23_21_0 :: o23_21.drop 1), [.loop x23_9, .blk 0, .seq x23_22], (.str s :: U :: .str [] :: .slice (some (.new p1 0)) s.length s.length false :: .int .i64 i :: .int .u8 (bt cur i) :: .str s :: .slice (some (.new p1 0)) s.length s.length false :: .slice (some (.new p1 0)) s.length s.length false :: .int .i64 ((s.length : Int)) :: .int .i64 i :: .bool (decide (i < ((s.length : Int)))) :: .int .i64 i :: .ptr (some (.new p1 (0 + i.toNat * 1))) :: .int .u8 (bt cur i) :: .int .u8 (bt cur i) :: .bool (decide ((65 : Int) ≤ (bt cur i))) :: .bool false :: U :: U :: .bool false :: d21 :: d22 :: d23 :: d24 :: d25 :: d26 :: U :: U :: []), [], h, none⟩ (by kernel_rfl) ?_
        refine WpM.op (.int .i64 (i + 1)) _ (by kernel_rfl) (arith_add (by kernel_rfl) (by kernel_rfl) (by omega)) ?_
        refine WpM.run tab_ok 3 ⟨.code x23_9, [.loop x23_9, .blk 0, .seq x23_22], (.str s :: U :: .str [] :: .slice (some (.new p1 0)) s.length s.length false :: .int .i64 i :: .int .u8 (bt cur i) :: .str s :: .slice (some (.new p1 0)) s.length s.length false :: .slice (some (.new p1 0)) s.length s.length false :: .int .i64 ((s.length : Int)) :: .int .i64 (i + 1) :: .bool (decide (i < ((s.length : Int)))) :: .int .i64 i :: .ptr (some (.new p1 (0 + i.toNat * 1))) :: .int .u8 (bt cur i) :: .int .u8 (bt cur i) :: .bool (decide ((65 : Int) ≤ (bt cur i))) :: .bool false :: U :: U :: .bool false :: d21 :: d22 :: d23 :: d24 :: d25 :: .int .i64 (i + 1) :: U :: U :: []), [], h, none⟩ (by kernel_rfl) ?_
        refine ih _ ?_ _ h p1 (cur) _ _ _ _ _ _ _ _ _ _ _ _ _ _ _ _ _ _ rfl ?_ ?_ ?_ ?_ ?_
        · omega
        · omega
        · omega
        · have hb2 := hb h0 (by omega)
          first
            | (rw [hc]; exact (lowAt_small h0 (by omega) (by first | (left; omega) | (right; omega))).symm)
            | (rw [lowAt_big h0 (by omega) (by omega) (by omega), ← hc, hb2])
        · first | exact g1
        · first | exact l1
    · have c101p := dec_f c101
      refine WpM.run tab_ok 8 ⟨.ops (p23_23_1 :: o23_23.drop 2), [.seq .ret], (.str s :: U :: .str [] :: .slice (some (.new p1 0)) s.length s.length false :: d4 :: d5 :: .str s :: .slice (some (.new p1 0)) s.length s.length false :: .slice (some (.new p1 0)) s.length s.length false :: .int .i64 ((s.length : Int)) :: .int .i64 i :: .bool (decide (i < ((s.length : Int)))) :: d12 :: d13 :: d14 :: d15 :: d16 :: d17 :: d18 :: d19 :: d20 :: d21 :: d22 :: d23 :: d24 :: d25 :: d26 :: .slice (some (.new p1 0)) s.length s.length false :: U :: []), [], h, none⟩ (by kernel_rfl) ?_
      refine WpM.op (.str cur) _ (by kernel_rfl) (conv_str (bs := cur) (e := 5) (i := p1) (len := s.length) (lb := s.length) (ex := false) (by kernel_rfl) (by kernel_rfl) (by kernel_rfl) (by kernel_rfl) g1 (by exact hl)) ?_
      refine WpM.run tab_ok 4 ⟨.done .ret, [], (.str s :: U :: .str cur :: .slice (some (.new p1 0)) s.length s.length false :: d4 :: d5 :: .str s :: .slice (some (.new p1 0)) s.length s.length false :: .slice (some (.new p1 0)) s.length s.length false :: .int .i64 ((s.length : Int)) :: .int .i64 i :: .bool (decide (i < ((s.length : Int)))) :: d12 :: d13 :: d14 :: d15 :: d16 :: d17 :: d18 :: d19 :: d20 :: d21 :: d22 :: d23 :: d24 :: d25 :: d26 :: .slice (some (.new p1 0)) s.length s.length false :: .str cur :: []), [], h, none⟩ (by kernel_rfl) ?_
      refine WpM.ret (.str cur) h (by kernel_rfl) (by kernel_rfl) ?_
      rw [hc, lowAt_end (by omega)]
theorem low_ok {W : World} {s : List UInt8} (hs : s.length ≤ 140737488355328) : WpF Try.prog W prim14 23 [.str s] H.empty (fun v _ => v = .str (lower s)) := by
  refine WpF.m tab_ok (by kernel_rfl) rfl ?_
  refine WpM.cfg (c' := ⟨.code x23_0, [], (.str s :: us 28), [], H.empty, none⟩) (by kernel_rfl) ?_
  refine WpM.run tab_ok 8 ⟨.ops (p23_3_1 :: o23_3.drop 2), [.seq x23_4], (.str s :: U :: .str [] :: U :: U :: U :: .str s :: us 22), [], H.empty, none⟩ (by kernel_rfl) ?_
  refine WpM.opA (fun p => .slice (some (.new p 0)) s.length s.length false) (.cells (bv s) 5) (by kernel_rfl) (by kernel_rfl) (fun p1 h2 a3 => ?_)
  refine WpM.run tab_ok 13 ⟨.code x23_9, [.loop x23_9, .blk 0, .seq x23_22], (.str s :: U :: .str [] :: .slice (some (.new p1 0)) s.length s.length false :: U :: U :: .str s :: .slice (some (.new p1 0)) s.length s.length false :: .slice (some (.new p1 0)) s.length s.length false :: .int .i64 ((s.length : Int)) :: .int .i64 0 :: us 18), [], h2, none⟩ (by kernel_rfl) ?_
  exact low_loop hs _ 0 _ _ s _ _ _ _ _ _ _ _ _ _ _ _ _ _ _ _ _ _ rfl (by omega) (by omega) (lowAt_zero s).symm a3.get a3.lt
def q23 (l : List V) : Option V :=
  match l with
  | [.str s] => if s.length ≤ 140737488355328 then some (.str (lower s)) else none
  | _ => none
def prim15 : FuncId → Option (List V → H → Option (V × H)) := setPrim prim14 23 q23
theorem prim15s (W : World) (hW : WOK W) : Prims Try.prog W prim15 := by
  refine Prims.add base (prim14s W hW) ⟨_, _, Try.func23, rfl⟩ ?_
  intro w _ args v h
  unfold q23 at h
  split at h
  · split at h
    · rename_i hc; injection h with h; subst h; exact ⟨by simp only [old_cons, old_nil, old_int, old_str, old_bool, old_agg, old_tup, old_nils, Bool.and_true, Bool.true_and, hc], by simp only [old_cons, old_nil, old_int, old_str, old_bool, old_agg, old_tup, old_nils, Bool.and_true, Bool.true_and, hc], low_ok hc⟩
    · cases h
  · cases h
theorem lowr_loop {W : World} {s : List UInt8} (hs : s.length ≤ 140737488355328) (n : Nat) : ∀ (i : Int) (h : H) (p1 : Nat) (cur : List UInt8) (d7 d8 d9 d10 d11 d12 d13 d14 d15 d16 d17 d18 d19 d20 d21 d22 d23 d24 d25 d26 d27 d28 d29 d30 : V), n = ((s.length : Int) - i).toNat → (0 ≤ i) → (i ≤ (s.length : Int)) → (cur = lowAt s i) → (h.get p1 = some (.cells (bv cur) 5)) → (p1 < h.nx) → WpM Try.prog W prim15 ⟨.code x24_9, [.loop x24_9, .blk 0, .seq x24_20], (.str s :: U :: .str [] :: .slice (some (.new p1 0)) s.length s.length false :: .int .i64 i :: .str s :: .slice (some (.new p1 0)) s.length s.length false :: d7 :: d8 :: d9 :: d10 :: d11 :: d12 :: d13 :: d14 :: d15 :: d16 :: d17 :: d18 :: d19 :: d20 :: d21 :: d22 :: d23 :: d24 :: d25 :: d26 :: d27 :: d28 :: d29 :: d30 :: U :: U :: []), [], h, none⟩ (retQ Try.prog W [.tmp 2] (fun v _ => v = .str (lower s))) := by
  induction n using Nat.strongRecOn with
  | _ n ih =>
    intro i h p1 cur d7 d8 d9 d10 d11 d12 d13 d14 d15 d16 d17 d18 d19 d20 d21 d22 d23 d24 d25 d26 d27 d28 d29 d30 hn h0 h1 hc g1 l1
    have hl : s.length = cur.length := by rw [hc, lowAt_length]
    have hl2 : (s.length : Int) = (cur.length : Int) := by omega
    have hb : 0 ≤ i → i < (s.length : Int) → bt cur i = bt s i := fun a b => by rw [hc, lowAt_bt a b]
    have hr := bt_range cur i
    refine WpM.run tab_ok 9 ⟨.code x24_12, [.seq x24_13, .loop x24_9, .blk 0, .seq x24_20], (.str s :: U :: .str [] :: .slice (some (.new p1 0)) s.length s.length false :: .int .i64 i :: .str s :: .slice (some (.new p1 0)) s.length s.length false :: .int .i64 i :: .slice (some (.new p1 0)) s.length s.length false :: .int .i64 ((s.length : Int)) :: .bool (decide (i < ((s.length : Int)))) :: d11 :: d12 :: d13 :: d14 :: d15 :: d16 :: d17 :: d18 :: d19 :: d20 :: d21 :: d22 :: d23 :: d24 :: d25 :: d26 :: d27 :: d28 :: d29 :: d30 :: U :: U :: []), [], h, none⟩ (by kernel_rfl) ?_
    refine WpM.cond (t := (decide (i < ((s.length : Int))))) (by kernel_rfl) (fun c101 => ?_) (fun c101 => ?_)
    · have c101p := dec_t c101
      refine WpM.run tab_ok 8 ⟨.ops (p24_16_2 :: o24_16.drop 3), [.seq x24_17, .blk 1, .seq x24_19, .loop x24_9, .blk 0, .seq x24_20], (.str s :: U :: .str [] :: .slice (some (.new p1 0)) s.length s.length false :: .int .i64 i :: .str s :: .slice (some (.new p1 0)) s.length s.length false :: .int .i64 i :: .slice (some (.new p1 0)) s.length s.length false :: .int .i64 ((s.length : Int)) :: .bool (decide (i < ((s.length : Int)))) :: d11 :: d12 :: .slice (some (.new p1 0)) s.length s.length false :: .int .i64 i :: d15 :: d16 :: d17 :: d18 :: d19 :: d20 :: d21 :: d22 :: d23 :: d24 :: d25 :: d26 :: d27 :: d28 :: d29 :: d30 :: U :: U :: []), [], h, none⟩ (by kernel_rfl) ?_
      refine WpM.op (.ptr (some (.new p1 (0 + i.toNat * 1)))) _ (by kernel_rfl) (indexAddr_sl (e := 5) (a := (.new p1 0)) (len := s.length) (lb := s.length) (ex := false) (z := 1) (k := .i64) (n := i) (by kernel_rfl) (by kernel_rfl) (by kernel_rfl) (by kernel_rfl) (by omega)) ?_
      refine WpM.run tab_ok 0 ⟨.ops (p24_16_3 :: o24_16.drop 4), [.seq x24_17, .blk 1, .seq x24_19, .loop x24_9, .blk 0, .seq x24_20], (.str s :: U :: .str [] :: .slice (some (.new p1 0)) s.length s.length false :: .int .i64 i :: .str s :: .slice (some (.new p1 0)) s.length s.length false :: .int .i64 i :: .slice (some (.new p1 0)) s.length s.length false :: .int .i64 ((s.length : Int)) :: .bool (decide (i < ((s.length : Int)))) :: d11 :: d12 :: .slice (some (.new p1 0)) s.length s.length false :: .int .i64 i :: .ptr (some (.new p1 (0 + i.toNat * 1))) :: d16 :: d17 :: d18 :: d19 :: d20 :: d21 :: d22 :: d23 :: d24 :: d25 :: d26 :: d27 :: d28 :: d29 :: d30 :: U :: U :: []), [], h, none⟩ (by kernel_rfl) ?_
      refine WpM.op (.int .u8 (bt cur i)) _ (by kernel_rfl) (load_new (o := (0 + i.toNat * 1)) (by kernel_rfl) g1 (bv_ld (i := i) (by kernel_rfl) (by omega) (by omega))) ?_
      refine WpM.run tab_ok 2 ⟨.ops (p24_16_6 :: o24_16.drop 7), [.seq x24_17, .blk 1, .seq x24_19, .loop x24_9, .blk 0, .seq x24_20], (.str s :: U :: .str [] :: .slice (some (.new p1 0)) s.length s.length false :: .int .i64 i :: .str s :: .slice (some (.new p1 0)) s.length s.length false :: .int .i64 i :: .slice (some (.new p1 0)) s.length s.length false :: .int .i64 ((s.length : Int)) :: .bool (decide (i < ((s.length : Int)))) :: d11 :: d12 :: .slice (some (.new p1 0)) s.length s.length false :: .int .i64 i :: .ptr (some (.new p1 (0 + i.toNat * 1))) :: .int .u8 (bt cur i) :: .bool (decide ((bt cur i) ≥ 65)) :: .bool (decide ((bt cur i) ≥ 65)) :: d19 :: d20 :: d21 :: d22 :: d23 :: d24 :: d25 :: d26 :: d27 :: d28 :: d29 :: d30 :: U :: U :: []), [], h, none⟩ (by kernel_rfl) ?_
      refine WpM.guard (b := (decide ((bt cur i) ≥ 65))) (by kernel_rfl) (fun c102 => ?_) (fun c102 => ?_)
      · have c102p := dec_t c102
        refine WpM.run tab_ok 2 ⟨.ops (p24_16_8 :: o24_16.drop 9), [.seq x24_17, .blk 1, .seq x24_19, .loop x24_9, .blk 0, .seq x24_20], (.str s :: U :: .str [] :: .slice (some (.new p1 0)) s.length s.length false :: .int .i64 i :: .str s :: .slice (some (.new p1 0)) s.length s.length false :: .int .i64 i :: .slice (some (.new p1 0)) s.length s.length false :: .int .i64 ((s.length : Int)) :: .bool (decide (i < ((s.length : Int)))) :: d11 :: d12 :: .slice (some (.new p1 0)) s.length s.length false :: .int .i64 i :: .ptr (some (.new p1 (0 + i.toNat * 1))) :: .int .u8 (bt cur i) :: .bool (decide ((bt cur i) ≥ 65)) :: .bool true :: .slice (some (.new p1 0)) s.length s.length false :: .int .i64 i :: d21 :: d22 :: d23 :: d24 :: d25 :: d26 :: d27 :: d28 :: d29 :: d30 :: U :: U :: []), [], h, none⟩ (by kernel_rfl) ?_
        refine WpM.op (.ptr (some (.new p1 (0 + i.toNat * 1)))) _ (by kernel_rfl) (indexAddr_sl (e := 5) (a := (.new p1 0)) (len := s.length) (lb := s.length) (ex := false) (z := 1) (k := .i64) (n := i) (by kernel_rfl) (by kernel_rfl) (by kernel_rfl) (by kernel_rfl) (by omega)) ?_
        refine WpM.run tab_ok 0 ⟨.ops (p24_16_9 :: o24_16.drop 10), [.seq x24_17, .blk 1, .seq x24_19, .loop x24_9, .blk 0, .seq x24_20], (.str s :: U :: .str [] :: .slice (some (.new p1 0)) s.length s.length false :: .int .i64 i :: .str s :: .slice (some (.new p1 0)) s.length s.length false :: .int .i64 i :: .slice (some (.new p1 0)) s.length s.length false :: .int .i64 ((s.length : Int)) :: .bool (decide (i < ((s.length : Int)))) :: d11 :: d12 :: .slice (some (.new p1 0)) s.length s.length false :: .int .i64 i :: .ptr (some (.new p1 (0 + i.toNat * 1))) :: .int .u8 (bt cur i) :: .bool (decide ((bt cur i) ≥ 65)) :: .bool true :: .slice (some (.new p1 0)) s.length s.length false :: .int .i64 i :: .ptr (some (.new p1 (0 + i.toNat * 1))) :: d22 :: d23 :: d24 :: d25 :: d26 :: d27 :: d28 :: d29 :: d30 :: U :: U :: []), [], h, none⟩ (by kernel_rfl) ?_
        refine WpM.op (.int .u8 (bt cur i)) _ (by kernel_rfl) (load_new (o := (0 + i.toNat * 1)) (by kernel_rfl) g1 (bv_ld (i := i) (by kernel_rfl) (by omega) (by omega))) ?_
        refine WpM.run tab_ok 4 ⟨.code x24_17, [.blk 1, .seq x24_19, .loop x24_9, .blk 0, .seq x24_20], (.str s :: U :: .str [] :: .slice (some (.new p1 0)) s.length s.length false :: .int .i64 i :: .str s :: .slice (some (.new p1 0)) s.length s.length false :: .int .i64 i :: .slice (some (.new p1 0)) s.length s.length false :: .int .i64 ((s.length : Int)) :: .bool (decide (i < ((s.length : Int)))) :: d11 :: d12 :: .slice (some (.new p1 0)) s.length s.length false :: .int .i64 i :: .ptr (some (.new p1 (0 + i.toNat * 1))) :: .int .u8 (bt cur i) :: .bool (decide ((bt cur i) ≥ 65)) :: .bool true :: .slice (some (.new p1 0)) s.length s.length false :: .int .i64 i :: .ptr (some (.new p1 (0 + i.toNat * 1))) :: .int .u8 (bt cur i) :: .bool (decide ((bt cur i) ≤ 90)) :: .bool (decide ((bt cur i) ≤ 90)) :: d25 :: d26 :: d27 :: d28 :: d29 :: d30 :: U :: U :: []), [], h, none⟩ (by kernel_rfl) ?_
        refine WpM.cond (t := (decide ((bt cur i) ≤ 90))) (by kernel_rfl) (fun c103 => ?_) (fun c103 => ?_)
        · have c103p := dec_t c103
          refine WpM.run tab_ok 3 ⟨.ops (p24_18_2 :: o24_18.drop 3), [.blk 1, .seq x24_19, .loop x24_9, .blk 0, .seq x24_20], (.str s :: U :: .str [] :: .slice (some (.new p1 0)) s.length s.length false :: .int .i64 i :: .str s :: .slice (some (.new p1 0)) s.length s.length false :: .int .i64 i :: .slice (some (.new p1 0)) s.length s.length false :: .int .i64 ((s.length : Int)) :: .bool (decide (i < ((s.length : Int)))) :: d11 :: d12 :: .slice (some (.new p1 0)) s.length s.length false :: .int .i64 i :: .ptr (some (.new p1 (0 + i.toNat * 1))) :: .int .u8 (bt cur i) :: .bool (decide ((bt cur i) ≥ 65)) :: .bool true :: .slice (some (.new p1 0)) s.length s.length false :: .int .i64 i :: .ptr (some (.new p1 (0 + i.toNat * 1))) :: .int .u8 (bt cur i) :: .bool (decide ((bt cur i) ≤ 90)) :: .bool (decide ((bt cur i) ≤ 90)) :: .slice (some (.new p1 0)) s.length s.length false :: .int .i64 i :: d27 :: d28 :: d29 :: d30 :: U :: U :: []), [], h, none⟩ (by kernel_rfl) ?_
          refine WpM.op (.ptr (some (.new p1 (0 + i.toNat * 1)))) _ (by kernel_rfl) (indexAddr_sl (e := 5) (a := (.new p1 0)) (len := s.length) (lb := s.length) (ex := false) (z := 1) (k := .i64) (n := i) (by kernel_rfl) (by kernel_rfl) (by kernel_rfl) (by kernel_rfl) (by omega)) ?_
          refine WpM.run tab_ok 0 ⟨.ops (p24_18_3 :: o24_18.drop 4), [.blk 1, .seq x24_19, .loop x24_9, .blk 0, .seq x24_20], (.str s :: U :: .str [] :: .slice (some (.new p1 0)) s.length s.length false :: .int .i64 i :: .str s :: .slice (some (.new p1 0)) s.length s.length false :: .int .i64 i :: .slice (some (.new p1 0)) s.length s.length false :: .int .i64 ((s.length : Int)) :: .bool (decide (i < ((s.length : Int)))) :: d11 :: d12 :: .slice (some (.new p1 0)) s.length s.length false :: .int .i64 i :: .ptr (some (.new p1 (0 + i.toNat * 1))) :: .int .u8 (bt cur i) :: .bool (decide ((bt cur i) ≥ 65)) :: .bool true :: .slice (some (.new p1 0)) s.length s.length false :: .int .i64 i :: .ptr (some (.new p1 (0 + i.toNat * 1))) :: .int .u8 (bt cur i) :: .bool (decide ((bt cur i) ≤ 90)) :: .bool (decide ((bt cur i) ≤ 90)) :: .slice (some (.new p1 0)) s.length s.length false :: .int .i64 i :: .ptr (some (.new p1 (0 + i.toNat * 1))) :: d28 :: d29 :: d30 :: U :: U :: []), [], h, none⟩ (by kernel_rfl) ?_
          refine WpM.op (.int .u8 (bt cur i)) _ (by kernel_rfl) (load_new (o := (0 + i.toNat * 1)) (by kernel_rfl) g1 (bv_ld (i := i) (by kernel_rfl) (by omega) (by omega))) ?_
          refine WpM.run tab_ok 0 ⟨.ops (p24_18_4 :: o24_18.drop 5), [.blk 1, .seq x24_19, .loop x24_9, .blk 0, .seq x24_20], (.str s :: U :: .str [] :: .slice (some (.new p1 0)) s.length s.length false :: .int .i64 i :: .str s :: .slice (some (.new p1 0)) s.length s.length false :: .int .i64 i :: .slice (some (.new p1 0)) s.length s.length false :: .int .i64 ((s.length : Int)) :: .bool (decide (i < ((s.length : Int)))) :: d11 :: d12 :: .slice (some (.new p1 0)) s.length s.length false :: .int .i64 i :: .ptr (some (.new p1 (0 + i.toNat * 1))) :: .int .u8 (bt cur i) :: .bool (decide ((bt cur i) ≥ 65)) :: .bool true :: .slice (some (.new p1 0)) s.length s.length false :: .int .i64 i :: .ptr (some (.new p1 (0 + i.toNat * 1))) :: .int .u8 (bt cur i) :: .bool (decide ((bt cur i) ≤ 90)) :: .bool (decide ((bt cur i) ≤ 90)) :: .slice (some (.new p1 0)) s.length s.length false :: .int .i64 i :: .ptr (some (.new p1 (0 + i.toNat * 1))) :: .int .u8 (bt cur i) :: d29 :: d30 :: U :: U :: []), [], h, none⟩ (by kernel_rfl) ?_
          refine WpM.op (.int .u8 ((bt cur i) + 32)) _ (by kernel_rfl) (arith_addU (by kernel_rfl) (by kernel_rfl) (by omega)) ?_
          refine WpM.run tab_ok 0 ⟨.ops (p24_18_5 :: o24_18.drop 6), [.blk 1, .seq x24_19, .loop x24_9, .blk 0, .seq x24_20], (.str s :: U :: .str [] :: .slice (some (.new p1 0)) s.length s.length false :: .int .i64 i :: .str s :: .slice (some (.new p1 0)) s.length s.length false :: .int .i64 i :: .slice (some (.new p1 0)) s.length s.length false :: .int .i64 ((s.length : Int)) :: .bool (decide (i < ((s.length : Int)))) :: d11 :: d12 :: .slice (some (.new p1 0)) s.length s.length false :: .int .i64 i :: .ptr (some (.new p1 (0 + i.toNat * 1))) :: .int .u8 (bt cur i) :: .bool (decide ((bt cur i) ≥ 65)) :: .bool true :: .slice (some (.new p1 0)) s.length s.length false :: .int .i64 i :: .ptr (some (.new p1 (0 + i.toNat * 1))) :: .int .u8 (bt cur i) :: .bool (decide ((bt cur i) ≤ 90)) :: .bool (decide ((bt cur i) ≤ 90)) :: .slice (some (.new p1 0)) s.length s.length false :: .int .i64 i :: .ptr (some (.new p1 (0 + i.toNat * 1))) :: .int .u8 (bt cur i) :: .int .u8 ((bt cur i) + 32) :: d30 :: U :: U :: []), [], h, none⟩ (by kernel_rfl) ?_
          refine WpM.op (.ptr (some (.new p1 (0 + i.toNat * 1)))) _ (by kernel_rfl) (indexAddr_sl (e := 5) (a := (.new p1 0)) (len := s.length) (lb := s.length) (ex := false) (z := 1) (k := .i64) (n := i) (by kernel_rfl) (by kernel_rfl) (by kernel_rfl) (by kernel_rfl) (by omega)) ?_
          refine WpM.run tab_ok 0 ⟨.ops (p24_18_6 :: o24_18.drop 7), [.blk 1, .seq x24_19, .loop x24_9, .blk 0, .seq x24_20], (.str s :: U :: .str [] :: .slice (some (.new p1 0)) s.length s.length false :: .int .i64 i :: .str s :: .slice (some (.new p1 0)) s.length s.length false :: .int .i64 i :: .slice (some (.new p1 0)) s.length s.length false :: .int .i64 ((s.length : Int)) :: .bool (decide (i < ((s.length : Int)))) :: d11 :: d12 :: .slice (some (.new p1 0)) s.length s.length false :: .int .i64 i :: .ptr (some (.new p1 (0 + i.toNat * 1))) :: .int .u8 (bt cur i) :: .bool (decide ((bt cur i) ≥ 65)) :: .bool true :: .slice (some (.new p1 0)) s.length s.length false :: .int .i64 i :: .ptr (some (.new p1 (0 + i.toNat * 1))) :: .int .u8 (bt cur i) :: .bool (decide ((bt cur i) ≤ 90)) :: .bool (decide ((bt cur i) ≤ 90)) :: .slice (some (.new p1 0)) s.length s.length false :: .int .i64 i :: .ptr (some (.new p1 (0 + i.toNat * 1))) :: .int .u8 (bt cur i) :: .int .u8 ((bt cur i) + 32) :: .ptr (some (.new p1 (0 + i.toNat * 1))) :: U :: U :: []), [], h, none⟩ (by kernel_rfl) ?_
          refine WpM.opS U p1 (some (.cells (bv (cur.set i.toNat (UInt8.ofNat ((bt cur i) + 32).toNat))) 5)) (by kernel_rfl) (store_new (o := (0 + i.toNat * 1)) (v := .int .u8 ((bt cur i) + 32)) (by kernel_rfl) (by kernel_rfl) g1 (bv_st (i := i) (by kernel_rfl) (by omega) (by omega) (by omega))) (fun h104 a105 => ?_)
          refine WpM.run tab_ok 5 ⟨.ops (p24_19_1 :: o24_19.drop 2), [.loop x24_9, .blk 0, .seq x24_20], (.str s :: U :: .str [] :: .slice (some (.new p1 0)) s.length s.length false :: .int .i64 i :: .str s :: .slice (some (.new p1 0)) s.length s.length false :: .int .i64 i :: .slice (some (.new p1 0)) s.length s.length false :: .int .i64 ((s.length : Int)) :: .bool (decide (i < ((s.length : Int)))) :: .int .i64 i :: d12 :: .slice (some (.new p1 0)) s.length s.length false :: .int .i64 i :: .ptr (some (.new p1 (0 + i.toNat * 1))) :: .int .u8 (bt cur i) :: .bool (decide ((bt cur i) ≥ 65)) :: .bool true :: .slice (some (.new p1 0)) s.length s.length false :: .int .i64 i :: .ptr (some (.new p1 (0 + i.toNat * 1))) :: .int .u8 (bt cur i) :: .bool (decide ((bt cur i) ≤ 90)) :: .bool (decide ((bt cur i) ≤ 90)) :: .slice (some (.new p1 0)) s.length s.length false :: .int .i64 i :: .ptr (some (.new p1 (0 + i.toNat * 1))) :: .int .u8 (bt cur i) :: .int .u8 ((bt cur i) + 32) :: .ptr (some (.new p1 (0 + i.toNat * 1))) :: U :: U :: []), [], h104, none⟩ (by kernel_rfl) ?_
          refine WpM.op (.int .i64 (i + 1)) _ (by kernel_rfl) (arith_add (by kernel_rfl) (by kernel_rfl) (by omega)) ?_
          refine WpM.run tab_ok 3 ⟨.code x24_9, [.loop x24_9, .blk 0, .seq x24_20], (.str s :: U :: .str [] :: .slice (some (.new p1 0)) s.length s.length false :: .int .i64 (i + 1) :: .str s :: .slice (some (.new p1 0)) s.length s.length false :: .int .i64 i :: .slice (some (.new p1 0)) s.length s.length false :: .int .i64 ((s.length : Int)) :: .bool (decide (i < ((s.length : Int)))) :: .int .i64 i :: .int .i64 (i + 1) :: .slice (some (.new p1 0)) s.length s.length false :: .int .i64 i :: .ptr (some (.new p1 (0 + i.toNat * 1))) :: .int .u8 (bt cur i) :: .bool (decide ((bt cur i) ≥ 65)) :: .bool true :: .slice (some (.new p1 0)) s.length s.length false :: .int .i64 i :: .ptr (some (.new p1 (0 + i.toNat * 1))) :: .int .u8 (bt cur i) :: .bool (decide ((bt cur i) ≤ 90)) :: .bool (decide ((bt cur i) ≤ 90)) :: .slice (some (.new p1 0)) s.length s.length false :: .int .i64 i :: .ptr (some (.new p1 (0 + i.toNat * 1))) :: .int .u8 (bt cur i) :: .int .u8 ((bt cur i) + 32) :: .ptr (some (.new p1 (0 + i.toNat * 1))) :: U :: U :: []), [], h104, none⟩ (by kernel_rfl) ?_
          refine ih _ ?_ _ h104 p1 (cur.set i.toNat (UInt8.ofNat ((bt cur i) + 32).toNat)) _ _ _ _ _ _ _ _ _ _ _ _ _ _ _ _ _ _ _ _ _ _ _ _ rfl ?_ ?_ ?_ ?_ ?_
          · omega
          · omega
          · omega
          · have hb2 := hb h0 (by omega)
            first
              | (rw [hc]; exact (lowAt_small h0 (by omega) (by first | (left; omega) | (right; omega))).symm)
              | (rw [lowAt_big h0 (by omega) (by omega) (by omega), ← hc, hb2])
          · first | exact a105.get
          · first | exact (a105.le l1)
        · have c103p := dec_f c103
          refine WpM.run tab_ok 5 ⟨.ops (p24_19_1 :: o24_19.drop 2), [.loop x24_9, .blk 0, .seq x24_20], (.str s :: U :: .str [] :: .slice (some (.new p1 0)) s.length s.length false :: .int .i64 i :: .str s :: .slice (some (.new p1 0)) s.length s.length false :: .int .i64 i :: .slice (some (.new p1 0)) s.length s.length false :: .int .i64 ((s.length : Int)) :: .bool (decide (i < ((s.length : Int)))) :: .int .i64 i :: d12 :: .slice (some (.new p1 0)) s.length s.length false :: .int .i64 i :: .ptr (some (.new p1 (0 + i.toNat * 1))) :: .int .u8 (bt cur i) :: .bool (decide ((bt cur i) ≥ 65)) :: .bool true :: .slice (some (.new p1 0)) s.length s.length false :: .int .i64 i :: .ptr (some (.new p1 (0 + i.toNat * 1))) :: .int .u8 (bt cur i) :: .bool (decide ((bt cur i) ≤ 90)) :: .bool (decide ((bt cur i) ≤ 90)) :: d25 :: d26 :: d27 :: d28 :: d29 :: d30 :: U :: U :: []), [], h, none⟩ (by kernel_rfl) ?_
          refine WpM.op (.int .i64 (i + 1)) _ (by kernel_rfl) (arith_add (by kernel_rfl) (by kernel_rfl) (by omega)) ?_
          refine WpM.run tab_ok 3 ⟨.code x24_9, [.loop x24_9, .blk 0, .seq x24_20], (.str s :: U :: .str [] :: .slice (some (.new p1 0)) s.length s.length false :: .int .i64 (i + 1) :: .str s :: .slice (some (.new p1 0)) s.length s.length false :: .int .i64 i :: .slice (some (.new p1 0)) s.length s.length false :: .int .i64 ((s.length : Int)) :: .bool (decide (i < ((s.length : Int)))) :: .int .i64 i :: .int .i64 (i + 1) :: .slice (some (.new p1 0)) s.length s.length false :: .int .i64 i :: .ptr (some (.new p1 (0 + i.toNat * 1))) :: .int .u8 (bt cur i) :: .bool (decide ((bt cur i) ≥ 65)) :: .bool true :: .slice (some (.new p1 0)) s.length s.length false :: .int .i64 i :: .ptr (some (.new p1 (0 + i.toNat * 1))) :: .int .u8 (bt cur i) :: .bool (decide ((bt cur i) ≤ 90)) :: .bool (decide ((bt cur i) ≤ 90)) :: d25 :: d26 :: d27 :: d28 :: d29 :: d30 :: U :: U :: []), [], h, none⟩ (by kernel_rfl) ?_
          refine ih _ ?_ _ h p1 (cur) _ _ _ _ _ _ _ _ _ _ _ _ _ _ _ _ _ _ _ _ _ _ _ _ rfl ?_ ?_ ?_ ?_ ?_
          · omega
          · omega
          · omega
          · have hb2 := hb h0 (by omega)
            first
              | (rw [hc]; exact (lowAt_small h0 (by omega) (by first | (left; omega) | (right; omega))).symm)
              | (rw [lowAt_big h0 (by omega) (by omega) (by omega), ← hc, hb2])
          · first | exact g1
          · first | exact l1
      · have c102p := dec_f c102
        refine WpM.run tab_ok 14 ⟨.ops (p24_19_1 :: o24_19.drop 2), [.loop x24_9, .blk 0, .seq x24_20], (.str s :: U :: .str [] :: .slice (some (.new p1 0)) s.length s.length false :: .int .i64 i :: .str s :: .slice (some (.new p1 0)) s.length s.length false :: .int .i64 i :: .slice (some (.new p1 0)) s.length s.length false :: .int .i64 ((s.length : Int)) :: .bool (decide (i < ((s.length : Int)))) :: .int .i64 i :: d12 :: .slice (some (.new p1 0)) s.length s.length false :: .int .i64 i :: .ptr (some (.new p1 (0 + i.toNat * 1))) :: .int .u8 (bt cur i) :: .bool (decide ((bt cur i) ≥ 65)) :: .bool false :: U :: U :: U :: U :: U :: .bool false :: d25 :: d26 :: d27 :: d28 :: d29 :: d30 :: U :: U :: []), [], h, none⟩ (by kernel_rfl) ?_
        refine WpM.op (.int .i64 (i + 1)) _ (by kernel_rfl) (arith_add (by kernel_rfl) (by kernel_rfl) (by omega)) ?_
        refine WpM.run tab_ok 3 ⟨.code x24_9, [.loop x24_9, .blk 0, .seq x24_20], (.str s :: U :: .str [] :: .slice (some (.new p1 0)) s.length s.length false :: .int .i64 (i + 1) :: .str s :: .slice (some (.new p1 0)) s.length s.length false :: .int .i64 i :: .slice (some (.new p1 0)) s.length s.length false :: .int .i64 ((s.length : Int)) :: .bool (decide (i < ((s.length : Int)))) :: .int .i64 i :: .int .i64 (i + 1) :: .slice (some (.new p1 0)) s.length s.length false :: .int .i64 i :: .ptr (some (.new p1 (0 + i.toNat * 1))) :: .int .u8 (bt cur i) :: .bool (decide ((bt cur i) ≥ 65)) :: .bool false :: U :: U :: U :: U :: U :: .bool false :: d25 :: d26 :: d27 :: d28 :: d29 :: d30 :: U :: U :: []), [], h, none⟩ (by kernel_rfl) ?_
        refine ih _ ?_ _ h p1 (cur) _ _ _ _ _ _ _ _ _ _ _ _ _ _ _ _ _ _ _ _ _ _ _ _ rfl ?_ ?_ ?_ ?_ ?_
        · omega
        · omega
        · omega
        · have hb2 := hb h0 (by omega)
          first
            | (rw [hc]; exact (lowAt_small h0 (by omega) (by first | (left; omega) | (right; omega))).symm)
            | (rw [lowAt_big h0 (by omega) (by omega) (by omega), ← hc, hb2])
        · first | exact g1
        · first | exact l1
    · have c101p := dec_f c101
      refine WpM.run tab_ok 8 ⟨.ops (p24_21_1 :: o24_21.drop 2), [.seq .ret], (.str s :: U :: .str [] :: .slice (some (.new p1 0)) s.length s.length false :: .int .i64 i :: .str s :: .slice (some (.new p1 0)) s.length s.length false :: .int .i64 i :: .slice (some (.new p1 0)) s.length s.length false :: .int .i64 ((s.length : Int)) :: .bool (decide (i < ((s.length : Int)))) :: d11 :: d12 :: d13 :: d14 :: d15 :: d16 :: d17 :: d18 :: d19 :: d20 :: d21 :: d22 :: d23 :: d24 :: d25 :: d26 :: d27 :: d28 :: d29 :: d30 :: .slice (some (.new p1 0)) s.length s.length false :: U :: []), [], h, none⟩ (by kernel_rfl) ?_
      refine WpM.op (.str cur) _ (by kernel_rfl) (conv_str (bs := cur) (e := 5) (i := p1) (len := s.length) (lb := s.length) (ex := false) (by kernel_rfl) (by kernel_rfl) (by kernel_rfl) (by kernel_rfl) g1 (by exact hl)) ?_
      refine WpM.run tab_ok 4 ⟨.done .ret, [], (.str s :: U :: .str cur :: .slice (some (.new p1 0)) s.length s.length false :: .int .i64 i :: .str s :: .slice (some (.new p1 0)) s.length s.length false :: .int .i64 i :: .slice (some (.new p1 0)) s.length s.length false :: .int .i64 ((s.length : Int)) :: .bool (decide (i < ((s.length : Int)))) :: d11 :: d12 :: d13 :: d14 :: d15 :: d16 :: d17 :: d18 :: d19 :: d20 :: d21 :: d22 :: d23 :: d24 :: d25 :: d26 :: d27 :: d28 :: d29 :: d30 :: .slice (some (.new p1 0)) s.length s.length false :: .str cur :: []), [], h, none⟩ (by kernel_rfl) ?_
      refine WpM.ret (.str cur) h (by kernel_rfl) (by kernel_rfl) ?_
      rw [hc, lowAt_end (by omega)]
theorem lowr_ok {W : World} {s : List UInt8} (hs : s.length ≤ 140737488355328) : WpF Try.prog W prim15 24 [.str s] H.empty (fun v _ => v = .str (lower s)) := by
  refine WpF.m tab_ok (by kernel_rfl) rfl ?_
  refine WpM.cfg (c' := ⟨.code x24_0, [], (.str s :: us 32), [], H.empty, none⟩) (by kernel_rfl) ?_
  refine WpM.run tab_ok 8 ⟨.ops (p24_3_1 :: o24_3.drop 2), [.seq x24_4], (.str s :: U :: .str [] :: U :: U :: .str s :: us 27), [], H.empty, none⟩ (by kernel_rfl) ?_
  refine WpM.opA (fun p => .slice (some (.new p 0)) s.length s.length false) (.cells (bv s) 5) (by kernel_rfl) (by kernel_rfl) (fun p1 h2 a3 => ?_)
  refine WpM.run tab_ok 11 ⟨.code x24_9, [.loop x24_9, .blk 0, .seq x24_20], (.str s :: U :: .str [] :: .slice (some (.new p1 0)) s.length s.length false :: .int .i64 0 :: .str s :: .slice (some (.new p1 0)) s.length s.length false :: us 26), [], h2, none⟩ (by kernel_rfl) ?_
  exact lowr_loop hs _ 0 _ _ s _ _ _ _ _ _ _ _ _ _ _ _ _ _ _ _ _ _ _ _ _ _ _ _ rfl (by omega) (by omega) (lowAt_zero s).symm a3.get a3.lt
def q24 (l : List V) : Option V :=
  match l with
  | [.str s] => if s.length ≤ 140737488355328 then some (.str (lower s)) else none
  | _ => none
def prim16 : FuncId → Option (List V → H → Option (V × H)) := setPrim prim15 24 q24
theorem prim16s (W : World) (hW : WOK W) : Prims Try.prog W prim16 := by
  refine Prims.add base (prim15s W hW) ⟨_, _, Try.func24, rfl⟩ ?_
  intro w _ args v h
  unfold q24 at h
  split at h
  · split at h
    · rename_i hc; injection h with h; subst h; exact ⟨by simp only [old_cons, old_nil, old_int, old_str, old_bool, old_agg, old_tup, old_nils, Bool.and_true, Bool.true_and, hc], by simp only [old_cons, old_nil, old_int, old_str, old_bool, old_agg, old_tup, old_nils, Bool.and_true, Bool.true_and, hc], lowr_ok hc⟩
    · cases h
  · cases h
theorem ae_k_areabasebrcolembedhrimgi_r (s : List UInt8) : among s k_areabasebrcolembedhrimgi' = among s k_areabasebrcolembedhrimgi := among_congr (by kernel_rfl)
theorem ae_k_abbigcodeemfontinobrssma_r (s : List UInt8) : among s k_abbigcodeemfontinobrssma' = among s k_abbigcodeemfontinobrssma := among_congr (by kernel_rfl)
theorem ae_k_dddtlioptgroupoptionprbr_r (s : List UInt8) : among s k_dddtlioptgroupoptionprbr' = among s k_dddtlioptgroupoptionprbr := among_congr (by kernel_rfl)
theorem ae_k_h1h2h3h4h5h6_r (s : List UInt8) : among s k_h1h2h3h4h5h6' = among s k_h1h2h3h4h5h6 := among_congr (by kernel_rfl)
theorem ae_k_addressarticleasideblock_r (s : List UInt8) : among s k_addressarticleasideblock' = among s k_addressarticleasideblock := among_congr (by kernel_rfl)
theorem ae_k_titletextarea_r (s : List UInt8) : among s k_titletextarea' = among s k_titletextarea := among_congr (by kernel_rfl)
theorem ae_k_stylescriptxmpiframenoem_r (s : List UInt8) : among s k_stylescriptxmpiframenoem' = among s k_stylescriptxmpiframenoem := among_congr (by kernel_rfl)
def textM (s : List UInt8) : Int := if s == k_plaintext then 3 else if among s k_titletextarea then 1 else if among s k_stylescriptxmpiframenoem then 2 else 0
theorem not_plain {s : List UInt8} (h : among s k_titletextarea = true ∨ among s k_stylescriptxmpiframenoem = true) : (s == k_plaintext) = false := by
  rcases h with h | h
  · have := among_all (p := fun w => !(w == k_plaintext)) h (by kernel_rfl); simpa using this
  · have := among_all (p := fun w => !(w == k_plaintext)) h (by kernel_rfl); simpa using this
theorem textof {W : World} {s : List UInt8} (hs : s.length ≤ 100000) : WpF Try.prog W prim16 19 [.str s] H.empty (fun v _ => v = .int .i64 (textM s)) := by
  refine WpF.m tab_ok (by kernel_rfl) rfl ?_
  refine WpM.cfg (c' := ⟨.code x19_0, [], (.str s :: us 11), [], H.empty, none⟩) (by kernel_rfl) ?_
  refine WpM.run tab_ok 14 ⟨.code x19_6, [.blk 0, .seq x19_19], (.str s :: U :: .int .i64 0 :: .bool (s == k_plaintext) :: .str s :: .bool (s == k_plaintext) :: us 6), [], H.empty, none⟩ (by kernel_rfl) ?_
  refine WpM.cond (t := (s == k_plaintext)) (by kernel_rfl) (fun c1 => ?_) (fun c1 => ?_)
  · have c1p := beq_t c1
    refine WpM.run tab_ok 8 ⟨.done .ret, [], (.str s :: U :: .int .i64 3 :: .bool (s == k_plaintext) :: .str s :: .bool (s == k_plaintext) :: us 6), [], H.empty, none⟩ (by kernel_rfl) ?_
    refine WpM.ret (.int .i64 3) H.empty (by kernel_rfl) (by kernel_rfl) ?_
    simp [textM, *]
  · have c1p := beq_f c1
    refine WpM.run tab_ok 3 ⟨.ops (p19_10_1 :: o19_10.drop 2), [.seq x19_11, .blk 0, .seq x19_19], (.str s :: U :: .int .i64 0 :: .bool (s == k_plaintext) :: .str s :: .bool (s == k_plaintext) :: U :: .str s :: us 4), [], H.empty, none⟩ (by kernel_rfl) ?_
    refine WpM.givenQ (f := 27) (args := [.str k_titletextarea, .str s]) (q := q27) (.bool (among s k_titletextarea)) (by kernel_rfl) (by kernel_rfl) (by kernel_rfl) (by simp only [q27]; rw [if_pos ⟨by kernel_rfl, by decide, by omega⟩]) ?_
    refine WpM.run tab_ok 3 ⟨.code x19_11, [.blk 0, .seq x19_19], (.str s :: U :: .int .i64 0 :: .bool (s == k_plaintext) :: .str s :: .bool (s == k_plaintext) :: .bool (among s k_titletextarea) :: .str s :: .bool (among s k_titletextarea) :: U :: U :: U :: []), [], H.empty, none⟩ (by kernel_rfl) ?_
    refine WpM.cond (t := (among s k_titletextarea)) (by kernel_rfl) (fun c2 => ?_) (fun c2 => ?_)
    · skip
      refine WpM.run tab_ok 8 ⟨.done .ret, [], (.str s :: U :: .int .i64 1 :: .bool (s == k_plaintext) :: .str s :: .bool (s == k_plaintext) :: .bool (among s k_titletextarea) :: .str s :: .bool (among s k_titletextarea) :: U :: U :: U :: []), [], H.empty, none⟩ (by kernel_rfl) ?_
      refine WpM.ret (.int .i64 1) H.empty (by kernel_rfl) (by kernel_rfl) ?_
      simp [textM, *]
    · skip
      refine WpM.run tab_ok 3 ⟨.ops (p19_15_1 :: o19_15.drop 2), [.seq x19_16, .blk 0, .seq x19_19], (.str s :: U :: .int .i64 0 :: .bool (s == k_plaintext) :: .str s :: .bool (s == k_plaintext) :: .bool (among s k_titletextarea) :: .str s :: .bool (among s k_titletextarea) :: U :: .str s :: U :: []), [], H.empty, none⟩ (by kernel_rfl) ?_
      refine WpM.givenQ (f := 27) (args := [.str k_stylescriptxmpiframenoem, .str s]) (q := q27) (.bool (among s k_stylescriptxmpiframenoem)) (by kernel_rfl) (by kernel_rfl) (by kernel_rfl) (by simp only [q27]; rw [if_pos ⟨by kernel_rfl, by decide, by omega⟩]) ?_
      refine WpM.run tab_ok 3 ⟨.code x19_16, [.blk 0, .seq x19_19], (.str s :: U :: .int .i64 0 :: .bool (s == k_plaintext) :: .str s :: .bool (s == k_plaintext) :: .bool (among s k_titletextarea) :: .str s :: .bool (among s k_titletextarea) :: .bool (among s k_stylescriptxmpiframenoem) :: .str s :: .bool (among s k_stylescriptxmpiframenoem) :: []), [], H.empty, none⟩ (by kernel_rfl) ?_
      refine WpM.cond (t := (among s k_stylescriptxmpiframenoem)) (by kernel_rfl) (fun c3 => ?_) (fun c3 => ?_)
      · skip
        refine WpM.run tab_ok 8 ⟨.done .ret, [], (.str s :: U :: .int .i64 2 :: .bool (s == k_plaintext) :: .str s :: .bool (s == k_plaintext) :: .bool (among s k_titletextarea) :: .str s :: .bool (among s k_titletextarea) :: .bool (among s k_stylescriptxmpiframenoem) :: .str s :: .bool (among s k_stylescriptxmpiframenoem) :: []), [], H.empty, none⟩ (by kernel_rfl) ?_
        refine WpM.ret (.int .i64 2) H.empty (by kernel_rfl) (by kernel_rfl) ?_
        simp [textM, *]
      · skip
        refine WpM.run tab_ok 9 ⟨.done .ret, [], (.str s :: U :: .int .i64 0 :: .bool (s == k_plaintext) :: .str s :: .bool (s == k_plaintext) :: .bool (among s k_titletextarea) :: .str s :: .bool (among s k_titletextarea) :: .bool (among s k_stylescriptxmpiframenoem) :: .str s :: .bool (among s k_stylescriptxmpiframenoem) :: []), [], H.empty, none⟩ (by kernel_rfl) ?_
        refine WpM.ret (.int .i64 0) H.empty (by kernel_rfl) (by kernel_rfl) ?_
        simp [textM, *]
def q19 (l : List V) : Option V :=
  match l with
  | [.str s] => if s.length ≤ 100000 then some (.int .i64 (textM s)) else none
  | _ => none
def prim17 : FuncId → Option (List V → H → Option (V × H)) := setPrim prim16 19 q19
theorem prim17s (W : World) (hW : WOK W) : Prims Try.prog W prim17 := by
  refine Prims.add base (prim16s W hW) ⟨_, _, Try.func19, rfl⟩ ?_
  intro w _ args v h
  unfold q19 at h
  split at h
  · split at h
    · rename_i hc; injection h with h; subst h; exact ⟨by simp only [old_cons, old_nil, old_int, old_str, old_bool, old_agg, old_tup, old_nils, Bool.and_true, Bool.true_and, hc], by simp only [old_cons, old_nil, old_int, old_str, old_bool, old_agg, old_tup, old_nils, Bool.and_true, Bool.true_and, hc], textof hc⟩
    · cases h
  · cases h
theorem textofr {W : World} {s : List UInt8} : WpF Try.prog W prim17 20 [.str s] H.empty (fun v _ => v = .int .i64 (textM s)) := by
  refine WpF.m tab_ok (by kernel_rfl) rfl ?_
  refine WpM.cfg (c' := ⟨.code x20_0, [], (.str s :: us 11), [], H.empty, none⟩) (by kernel_rfl) ?_
  refine WpM.run tab_ok 14 ⟨.code x20_6, [.blk 0, .seq x20_19], (.str s :: U :: .int .i64 0 :: .bool (among s k_titletextarea') :: .str s :: .bool (among s k_titletextarea') :: us 6), [], H.empty, none⟩ (by kernel_rfl) ?_
  refine WpM.cond (t := (among s k_titletextarea')) (by kernel_rfl) (fun c1 => ?_) (fun c1 => ?_)
  · skip
    refine WpM.run tab_ok 8 ⟨.done .ret, [], (.str s :: U :: .int .i64 1 :: .bool (among s k_titletextarea') :: .str s :: .bool (among s k_titletextarea') :: us 6), [], H.empty, none⟩ (by kernel_rfl) ?_
    refine WpM.ret (.int .i64 1) H.empty (by kernel_rfl) (by kernel_rfl) ?_
    (try simp only [ae_k_areabasebrcolembedhrimgi_r, ae_k_abbigcodeemfontinobrssma_r, ae_k_dddtlioptgroupoptionprbr_r, ae_k_h1h2h3h4h5h6_r, ae_k_addressarticleasideblock_r, ae_k_titletextarea_r, ae_k_stylescriptxmpiframenoem_r] at *); first | (simp [textM, not_plain (.inl ‹_›), *]; done) | (simp [textM, not_plain (.inr ‹_›), *]; done) | (simp [textM, *]; done)
  · skip
    refine WpM.run tab_ok 7 ⟨.code x20_11, [.blk 0, .seq x20_19], (.str s :: U :: .int .i64 0 :: .bool (among s k_titletextarea') :: .str s :: .bool (among s k_titletextarea') :: .bool (among s k_stylescriptxmpiframenoem') :: .str s :: .bool (among s k_stylescriptxmpiframenoem') :: U :: U :: U :: []), [], H.empty, none⟩ (by kernel_rfl) ?_
    refine WpM.cond (t := (among s k_stylescriptxmpiframenoem')) (by kernel_rfl) (fun c2 => ?_) (fun c2 => ?_)
    · skip
      refine WpM.run tab_ok 8 ⟨.done .ret, [], (.str s :: U :: .int .i64 2 :: .bool (among s k_titletextarea') :: .str s :: .bool (among s k_titletextarea') :: .bool (among s k_stylescriptxmpiframenoem') :: .str s :: .bool (among s k_stylescriptxmpiframenoem') :: U :: U :: U :: []), [], H.empty, none⟩ (by kernel_rfl) ?_
      refine WpM.ret (.int .i64 2) H.empty (by kernel_rfl) (by kernel_rfl) ?_
      (try simp only [ae_k_areabasebrcolembedhrimgi_r, ae_k_abbigcodeemfontinobrssma_r, ae_k_dddtlioptgroupoptionprbr_r, ae_k_h1h2h3h4h5h6_r, ae_k_addressarticleasideblock_r, ae_k_titletextarea_r, ae_k_stylescriptxmpiframenoem_r] at *); first | (simp [textM, not_plain (.inl ‹_›), *]; done) | (simp [textM, not_plain (.inr ‹_›), *]; done) | (simp [textM, *]; done)
    · skip
      refine WpM.run tab_ok 7 ⟨.code x20_16, [.blk 0, .seq x20_19], (.str s :: U :: .int .i64 0 :: .bool (among s k_titletextarea') :: .str s :: .bool (among s k_titletextarea') :: .bool (among s k_stylescriptxmpiframenoem') :: .str s :: .bool (among s k_stylescriptxmpiframenoem') :: .bool (s == k_plaintext) :: .str s :: .bool (s == k_plaintext) :: []), [], H.empty, none⟩ (by kernel_rfl) ?_
      refine WpM.cond (t := (s == k_plaintext)) (by kernel_rfl) (fun c3 => ?_) (fun c3 => ?_)
      · have c3p := beq_t c3
        refine WpM.run tab_ok 8 ⟨.done .ret, [], (.str s :: U :: .int .i64 3 :: .bool (among s k_titletextarea') :: .str s :: .bool (among s k_titletextarea') :: .bool (among s k_stylescriptxmpiframenoem') :: .str s :: .bool (among s k_stylescriptxmpiframenoem') :: .bool (s == k_plaintext) :: .str s :: .bool (s == k_plaintext) :: []), [], H.empty, none⟩ (by kernel_rfl) ?_
        refine WpM.ret (.int .i64 3) H.empty (by kernel_rfl) (by kernel_rfl) ?_
        (try simp only [ae_k_areabasebrcolembedhrimgi_r, ae_k_abbigcodeemfontinobrssma_r, ae_k_dddtlioptgroupoptionprbr_r, ae_k_h1h2h3h4h5h6_r, ae_k_addressarticleasideblock_r, ae_k_titletextarea_r, ae_k_stylescriptxmpiframenoem_r] at *); first | (simp [textM, not_plain (.inl ‹_›), *]; done) | (simp [textM, not_plain (.inr ‹_›), *]; done) | (simp [textM, *]; done)
      · have c3p := beq_f c3
        refine WpM.run tab_ok 9 ⟨.done .ret, [], (.str s :: U :: .int .i64 0 :: .bool (among s k_titletextarea') :: .str s :: .bool (among s k_titletextarea') :: .bool (among s k_stylescriptxmpiframenoem') :: .str s :: .bool (among s k_stylescriptxmpiframenoem') :: .bool (s == k_plaintext) :: .str s :: .bool (s == k_plaintext) :: []), [], H.empty, none⟩ (by kernel_rfl) ?_
        refine WpM.ret (.int .i64 0) H.empty (by kernel_rfl) (by kernel_rfl) ?_
        (try simp only [ae_k_areabasebrcolembedhrimgi_r, ae_k_abbigcodeemfontinobrssma_r, ae_k_dddtlioptgroupoptionprbr_r, ae_k_h1h2h3h4h5h6_r, ae_k_addressarticleasideblock_r, ae_k_titletextarea_r, ae_k_stylescriptxmpiframenoem_r] at *); first | (simp [textM, not_plain (.inl ‹_›), *]; done) | (simp [textM, not_plain (.inr ‹_›), *]; done) | (simp [textM, *]; done)
def q20 (l : List V) : Option V :=
  match l with
  | [.str s] => some (.int .i64 (textM s))
  | _ => none
def prim18 : FuncId → Option (List V → H → Option (V × H)) := setPrim prim17 20 q20
theorem prim18s (W : World) (hW : WOK W) : Prims Try.prog W prim18 := by
  refine Prims.add base (prim17s W hW) ⟨_, _, Try.func20, rfl⟩ ?_
  intro w _ args v h
  unfold q20 at h
  split at h
  · injection h with h; subst h; exact ⟨by simp only [old_cons, old_nil, old_int, old_str, old_bool, old_agg, old_tup, old_nils, Bool.and_true, Bool.true_and], by simp only [old_cons, old_nil, old_int, old_str, old_bool, old_agg, old_tup, old_nils, Bool.and_true, Bool.true_and], textofr⟩
  · cases h
theorem ae_k_appletbodybuttoncaptionc_r (s : List UInt8) : among s k_appletbodybuttoncaptionc' = among s k_appletbodybuttoncaptionc := among_congr (by kernel_rfl)
theorem ae_k_foreignObjectdesctitle_r (s : List UInt8) : among s k_foreignObjectdesctitle' = among s k_foreignObjectdesctitle := among_congr (by kernel_rfl)
theorem ae_k_mimomnmsmtext_r (s : List UInt8) : among s k_mimomnmsmtext' = among s k_mimomnmsmtext := among_congr (by kernel_rfl)
def specialM (p : Int) (s : List UInt8) : Bool :=
  if p == 0 then (among s k_areabasebrcolembedhrimgi || (among s k_addressarticleasideblock || (among s k_h1h2h3h4h5h6 || among s k_appletbodybuttoncaptionc))) else if p == 1 then among s k_foreignObjectdesctitle else if p == 2 then among s k_mimomnmsmtext else false
theorem special {W : World} {p : Int} {s : List UInt8} (hs : s.length ≤ 100000) : WpF Try.prog W prim18 21 [.int .i64 p, .str s] H.empty (fun v _ => v = .bool (specialM p s)) := by
  refine WpF.m tab_ok (by kernel_rfl) rfl ?_
  refine WpM.cfg (c' := ⟨.code x21_0, [], (.int .i64 p :: .str s :: us 32), [], H.empty, none⟩) (by kernel_rfl) ?_
  refine WpM.run tab_ok 8 ⟨.ops (p21_3_1 :: o21_3.drop 2), [.seq x21_4], (.int .i64 p :: .str s :: U :: U :: .bool false :: U :: .agg [.str k_appletbodybuttoncaptionc, .str k_foreignObjectdesctitle, .str k_mimomnmsmtext] :: us 27), [], H.empty, none⟩ (by kernel_rfl) ?_
  refine WpM.opA (fun p => .ptr (some (.new p 0))) (.cells [.str [], .str [], .str []] 29) (by kernel_rfl) (by kernel_rfl) (fun p1 h2 a3 => ?_)
  refine WpM.run tab_ok 0 ⟨.ops (p21_3_2 :: o21_3.drop 3), [.seq x21_4], (.int .i64 p :: .str s :: U :: U :: .bool false :: .ptr (some (.new p1 0)) :: .agg [.str k_appletbodybuttoncaptionc, .str k_foreignObjectdesctitle, .str k_mimomnmsmtext] :: us 27), [], h2, none⟩ (by kernel_rfl) ?_
  refine WpM.opS U p1 (some (.cells [.str k_appletbodybuttoncaptionc, .str k_foreignObjectdesctitle, .str k_mimomnmsmtext] 29)) (by kernel_rfl) (store_new (o := 0) (v := .agg [.str k_appletbodybuttoncaptionc, .str k_foreignObjectdesctitle, .str k_mimomnmsmtext]) (by kernel_rfl) (by kernel_rfl) a3.get (by kernel_rfl)) (fun h4 a5 => ?_)
  refine WpM.run tab_ok 9 ⟨.ops (p21_7_3 :: o21_7.drop 4), [.seq x21_8, .blk 0, .seq x21_16], (.int .i64 p :: .str s :: U :: U :: .bool false :: .ptr (some (.new p1 0)) :: .agg [.str k_appletbodybuttoncaptionc, .str k_foreignObjectdesctitle, .str k_mimomnmsmtext] :: U :: .int .i64 p :: .bool (decide (p < 0)) :: .bool (decide (p < 0)) :: us 23), [], h4, none⟩ (by kernel_rfl) ?_
  refine WpM.guard (b := (decide (p < 0))) (by kernel_rfl) (fun c6 => ?_) (fun c6 => ?_)
  · have c6p := dec_t c6
    refine WpM.run tab_ok 15 ⟨.done .ret, [], (.int .i64 p :: .str s :: U :: U :: .bool false :: .ptr (some (.new p1 0)) :: .agg [.str k_appletbodybuttoncaptionc, .str k_foreignObjectdesctitle, .str k_mimomnmsmtext] :: .bool true :: .int .i64 p :: .bool (decide (p < 0)) :: .bool true :: U :: U :: .bool true :: us 20), [], h4, none⟩ (by kernel_rfl) ?_
    refine WpM.ret (.bool false) h4 (by kernel_rfl) (by kernel_rfl) ?_
    first | (simp [specialM, *]; done) | (exfalso; simp_all; done) | (unfold specialM; rw [beq_false_of_ne (by omega), beq_false_of_ne (by omega), beq_false_of_ne (by omega)]; rfl)
  · have c6p := dec_f c6
    refine WpM.run tab_ok 6 ⟨.code x21_8, [.blk 0, .seq x21_16], (.int .i64 p :: .str s :: U :: U :: .bool false :: .ptr (some (.new p1 0)) :: .agg [.str k_appletbodybuttoncaptionc, .str k_foreignObjectdesctitle, .str k_mimomnmsmtext] :: .bool (decide (p ≥ 3)) :: .int .i64 p :: .bool (decide (p < 0)) :: .bool false :: .int .i64 p :: .bool (decide (p ≥ 3)) :: .bool (decide (p ≥ 3)) :: us 20), [], h4, none⟩ (by kernel_rfl) ?_
    refine WpM.cond (t := (decide (p ≥ 3))) (by kernel_rfl) (fun c7 => ?_) (fun c7 => ?_)
    · have c7p := dec_t c7
      refine WpM.run tab_ok 8 ⟨.done .ret, [], (.int .i64 p :: .str s :: U :: U :: .bool false :: .ptr (some (.new p1 0)) :: .agg [.str k_appletbodybuttoncaptionc, .str k_foreignObjectdesctitle, .str k_mimomnmsmtext] :: .bool (decide (p ≥ 3)) :: .int .i64 p :: .bool (decide (p < 0)) :: .bool false :: .int .i64 p :: .bool (decide (p ≥ 3)) :: .bool (decide (p ≥ 3)) :: us 20), [], h4, none⟩ (by kernel_rfl) ?_
      refine WpM.ret (.bool false) h4 (by kernel_rfl) (by kernel_rfl) ?_
      first | (simp [specialM, *]; done) | (exfalso; simp_all; done) | (unfold specialM; rw [beq_false_of_ne (by omega), beq_false_of_ne (by omega), beq_false_of_ne (by omega)]; rfl)
    · have c7p := dec_f c7
      refine WpM.run tab_ok 5 ⟨.ops (p21_12_3 :: o21_12.drop 4), [.seq x21_13, .blk 0, .seq x21_16], (.int .i64 p :: .str s :: U :: U :: .bool false :: .ptr (some (.new p1 0)) :: .agg [.str k_appletbodybuttoncaptionc, .str k_foreignObjectdesctitle, .str k_mimomnmsmtext] :: .bool (decide (p ≥ 3)) :: .int .i64 p :: .bool (decide (p < 0)) :: .bool false :: .int .i64 p :: .bool (decide (p ≥ 3)) :: .bool (decide (p ≥ 3)) :: U :: .int .i64 p :: .bool (p == 0) :: .bool (p == 0) :: us 16), [], h4, none⟩ (by kernel_rfl) ?_
      refine WpM.guard (b := (p == 0)) (by kernel_rfl) (fun c8 => ?_) (fun c8 => ?_)
      · have c8p := beq_t c8
        subst c8p
        refine WpM.run tab_ok 1 ⟨.ops (p21_12_4 :: o21_12.drop 5), [.seq x21_13, .blk 0, .seq x21_16], (.int .i64 0 :: .str s :: U :: U :: .bool false :: .ptr (some (.new p1 0)) :: .agg [.str k_appletbodybuttoncaptionc, .str k_foreignObjectdesctitle, .str k_mimomnmsmtext] :: .bool (decide ((0 : Int) ≥ 3)) :: .int .i64 0 :: .bool (decide ((0 : Int) < 0)) :: .bool false :: .int .i64 0 :: .bool (decide ((0 : Int) ≥ 3)) :: .bool (decide ((0 : Int) ≥ 3)) :: U :: .int .i64 0 :: .bool true :: .bool true :: .str s :: us 15), [], h4, none⟩ (by kernel_rfl) ?_
        refine WpM.givenQ (f := 9) (args := [.str s]) (q := q9) (.bool (among s k_areabasebrcolembedhrimgi)) (by kernel_rfl) (by kernel_rfl) (by kernel_rfl) (by simp only [q9]; rw [if_pos (by omega)]) ?_
        refine WpM.run tab_ok 1 ⟨.ops (p21_12_6 :: o21_12.drop 7), [.seq x21_13, .blk 0, .seq x21_16], (.int .i64 0 :: .str s :: U :: U :: .bool false :: .ptr (some (.new p1 0)) :: .agg [.str k_appletbodybuttoncaptionc, .str k_foreignObjectdesctitle, .str k_mimomnmsmtext] :: .bool (decide ((0 : Int) ≥ 3)) :: .int .i64 0 :: .bool (decide ((0 : Int) < 0)) :: .bool false :: .int .i64 0 :: .bool (decide ((0 : Int) ≥ 3)) :: .bool (decide ((0 : Int) ≥ 3)) :: U :: .int .i64 0 :: .bool true :: .bool true :: .str s :: .bool (among s k_areabasebrcolembedhrimgi) :: .bool (among s k_areabasebrcolembedhrimgi) :: us 13), [], h4, none⟩ (by kernel_rfl) ?_
        refine WpM.guard (b := (among s k_areabasebrcolembedhrimgi)) (by kernel_rfl) (fun c9 => ?_) (fun c9 => ?_)
        · skip
          refine WpM.run tab_ok 20 ⟨.done .ret, [], (.int .i64 0 :: .str s :: U :: U :: .bool true :: .ptr (some (.new p1 0)) :: .agg [.str k_appletbodybuttoncaptionc, .str k_foreignObjectdesctitle, .str k_mimomnmsmtext] :: .bool (decide ((0 : Int) ≥ 3)) :: .int .i64 0 :: .bool (decide ((0 : Int) < 0)) :: .bool false :: .int .i64 0 :: .bool (decide ((0 : Int) ≥ 3)) :: .bool (decide ((0 : Int) ≥ 3)) :: .bool true :: .int .i64 0 :: .bool true :: .bool true :: .str s :: .bool (among s k_areabasebrcolembedhrimgi) :: .bool true :: U :: U :: .bool true :: .bool true :: U :: U :: .bool true :: .bool true :: us 5), [], h4, none⟩ (by kernel_rfl) ?_
          refine WpM.ret (.bool true) h4 (by kernel_rfl) (by kernel_rfl) ?_
          first | (simp [specialM, *]; done) | (exfalso; simp_all; done) | (unfold specialM; rw [beq_false_of_ne (by omega), beq_false_of_ne (by omega), beq_false_of_ne (by omega)]; rfl)
        · skip
          refine WpM.run tab_ok 1 ⟨.ops (p21_12_7 :: o21_12.drop 8), [.seq x21_13, .blk 0, .seq x21_16], (.int .i64 0 :: .str s :: U :: U :: .bool false :: .ptr (some (.new p1 0)) :: .agg [.str k_appletbodybuttoncaptionc, .str k_foreignObjectdesctitle, .str k_mimomnmsmtext] :: .bool (decide ((0 : Int) ≥ 3)) :: .int .i64 0 :: .bool (decide ((0 : Int) < 0)) :: .bool false :: .int .i64 0 :: .bool (decide ((0 : Int) ≥ 3)) :: .bool (decide ((0 : Int) ≥ 3)) :: U :: .int .i64 0 :: .bool true :: .bool true :: .str s :: .bool (among s k_areabasebrcolembedhrimgi) :: .bool false :: .str s :: us 12), [], h4, none⟩ (by kernel_rfl) ?_
          refine WpM.givenQ (f := 17) (args := [.str s]) (q := q17) (.bool (among s k_addressarticleasideblock)) (by kernel_rfl) (by kernel_rfl) (by kernel_rfl) (by simp only [q17]; rw [if_pos (by omega)]) ?_
          refine WpM.run tab_ok 2 ⟨.ops (p21_12_10 :: o21_12.drop 11), [.seq x21_13, .blk 0, .seq x21_16], (.int .i64 0 :: .str s :: U :: U :: .bool false :: .ptr (some (.new p1 0)) :: .agg [.str k_appletbodybuttoncaptionc, .str k_foreignObjectdesctitle, .str k_mimomnmsmtext] :: .bool (decide ((0 : Int) ≥ 3)) :: .int .i64 0 :: .bool (decide ((0 : Int) < 0)) :: .bool false :: .int .i64 0 :: .bool (decide ((0 : Int) ≥ 3)) :: .bool (decide ((0 : Int) ≥ 3)) :: U :: .int .i64 0 :: .bool true :: .bool true :: .str s :: .bool (among s k_areabasebrcolembedhrimgi) :: .bool false :: .str s :: .bool (among s k_addressarticleasideblock) :: .bool (among s k_addressarticleasideblock) :: .bool (among s k_addressarticleasideblock) :: us 9), [], h4, none⟩ (by kernel_rfl) ?_
          refine WpM.guard (b := (among s k_addressarticleasideblock)) (by kernel_rfl) (fun c10 => ?_) (fun c10 => ?_)
          · skip
            refine WpM.run tab_ok 16 ⟨.done .ret, [], (.int .i64 0 :: .str s :: U :: U :: .bool true :: .ptr (some (.new p1 0)) :: .agg [.str k_appletbodybuttoncaptionc, .str k_foreignObjectdesctitle, .str k_mimomnmsmtext] :: .bool (decide ((0 : Int) ≥ 3)) :: .int .i64 0 :: .bool (decide ((0 : Int) < 0)) :: .bool false :: .int .i64 0 :: .bool (decide ((0 : Int) ≥ 3)) :: .bool (decide ((0 : Int) ≥ 3)) :: .bool true :: .int .i64 0 :: .bool true :: .bool true :: .str s :: .bool (among s k_areabasebrcolembedhrimgi) :: .bool false :: .str s :: .bool (among s k_addressarticleasideblock) :: .bool (among s k_addressarticleasideblock) :: .bool true :: U :: U :: .bool true :: .bool true :: us 5), [], h4, none⟩ (by kernel_rfl) ?_
            refine WpM.ret (.bool true) h4 (by kernel_rfl) (by kernel_rfl) ?_
            first | (simp [specialM, *]; done) | (exfalso; simp_all; done) | (unfold specialM; rw [beq_false_of_ne (by omega), beq_false_of_ne (by omega), beq_false_of_ne (by omega)]; rfl)
          · skip
            refine WpM.run tab_ok 1 ⟨.ops (p21_12_11 :: o21_12.drop 12), [.seq x21_13, .blk 0, .seq x21_16], (.int .i64 0 :: .str s :: U :: U :: .bool false :: .ptr (some (.new p1 0)) :: .agg [.str k_appletbodybuttoncaptionc, .str k_foreignObjectdesctitle, .str k_mimomnmsmtext] :: .bool (decide ((0 : Int) ≥ 3)) :: .int .i64 0 :: .bool (decide ((0 : Int) < 0)) :: .bool false :: .int .i64 0 :: .bool (decide ((0 : Int) ≥ 3)) :: .bool (decide ((0 : Int) ≥ 3)) :: U :: .int .i64 0 :: .bool true :: .bool true :: .str s :: .bool (among s k_areabasebrcolembedhrimgi) :: .bool false :: .str s :: .bool (among s k_addressarticleasideblock) :: .bool (among s k_addressarticleasideblock) :: .bool false :: .str s :: us 8), [], h4, none⟩ (by kernel_rfl) ?_
            refine WpM.givenQ (f := 15) (args := [.str s]) (q := q15) (.bool (among s k_h1h2h3h4h5h6)) (by kernel_rfl) (by kernel_rfl) (by kernel_rfl) (by simp only [q15]; rw [if_pos (by omega)]) ?_
            refine WpM.run tab_ok 5 ⟨.code x21_13, [.blk 0, .seq x21_16], (.int .i64 0 :: .str s :: U :: U :: .bool false :: .ptr (some (.new p1 0)) :: .agg [.str k_appletbodybuttoncaptionc, .str k_foreignObjectdesctitle, .str k_mimomnmsmtext] :: .bool (decide ((0 : Int) ≥ 3)) :: .int .i64 0 :: .bool (decide ((0 : Int) < 0)) :: .bool false :: .int .i64 0 :: .bool (decide ((0 : Int) ≥ 3)) :: .bool (decide ((0 : Int) ≥ 3)) :: .bool (among s k_h1h2h3h4h5h6) :: .int .i64 0 :: .bool true :: .bool true :: .str s :: .bool (among s k_areabasebrcolembedhrimgi) :: .bool false :: .str s :: .bool (among s k_addressarticleasideblock) :: .bool (among s k_addressarticleasideblock) :: .bool false :: .str s :: .bool (among s k_h1h2h3h4h5h6) :: .bool (among s k_h1h2h3h4h5h6) :: .bool (among s k_h1h2h3h4h5h6) :: us 5), [], h4, none⟩ (by kernel_rfl) ?_
            refine WpM.cond (t := (among s k_h1h2h3h4h5h6)) (by kernel_rfl) (fun c11 => ?_) (fun c11 => ?_)
            · skip
              refine WpM.run tab_ok 8 ⟨.done .ret, [], (.int .i64 0 :: .str s :: U :: U :: .bool true :: .ptr (some (.new p1 0)) :: .agg [.str k_appletbodybuttoncaptionc, .str k_foreignObjectdesctitle, .str k_mimomnmsmtext] :: .bool (decide ((0 : Int) ≥ 3)) :: .int .i64 0 :: .bool (decide ((0 : Int) < 0)) :: .bool false :: .int .i64 0 :: .bool (decide ((0 : Int) ≥ 3)) :: .bool (decide ((0 : Int) ≥ 3)) :: .bool (among s k_h1h2h3h4h5h6) :: .int .i64 0 :: .bool true :: .bool true :: .str s :: .bool (among s k_areabasebrcolembedhrimgi) :: .bool false :: .str s :: .bool (among s k_addressarticleasideblock) :: .bool (among s k_addressarticleasideblock) :: .bool false :: .str s :: .bool (among s k_h1h2h3h4h5h6) :: .bool (among s k_h1h2h3h4h5h6) :: .bool (among s k_h1h2h3h4h5h6) :: us 5), [], h4, none⟩ (by kernel_rfl) ?_
              refine WpM.ret (.bool true) h4 (by kernel_rfl) (by kernel_rfl) ?_
              first | (simp [specialM, *]; done) | (exfalso; simp_all; done) | (unfold specialM; rw [beq_false_of_ne (by omega), beq_false_of_ne (by omega), beq_false_of_ne (by omega)]; rfl)
            · skip
              refine WpM.run tab_ok 7 ⟨.ops (p21_17_2 :: o21_17.drop 3), [.seq .ret], (.int .i64 0 :: .str s :: U :: U :: .bool false :: .ptr (some (.new p1 0)) :: .agg [.str k_appletbodybuttoncaptionc, .str k_foreignObjectdesctitle, .str k_mimomnmsmtext] :: .bool (decide ((0 : Int) ≥ 3)) :: .int .i64 0 :: .bool (decide ((0 : Int) < 0)) :: .bool false :: .int .i64 0 :: .bool (decide ((0 : Int) ≥ 3)) :: .bool (decide ((0 : Int) ≥ 3)) :: .bool (among s k_h1h2h3h4h5h6) :: .int .i64 0 :: .bool true :: .bool true :: .str s :: .bool (among s k_areabasebrcolembedhrimgi) :: .bool false :: .str s :: .bool (among s k_addressarticleasideblock) :: .bool (among s k_addressarticleasideblock) :: .bool false :: .str s :: .bool (among s k_h1h2h3h4h5h6) :: .bool (among s k_h1h2h3h4h5h6) :: .bool (among s k_h1h2h3h4h5h6) :: .int .i64 0 :: .ptr (some (.new p1 0)) :: U :: U :: U :: []), [], h4, none⟩ (by kernel_rfl) ?_
              refine WpM.op (.str k_appletbodybuttoncaptionc) _ (by kernel_rfl) (load_new (o := 0) (by kernel_rfl) a5.get (by kernel_rfl)) ?_
              refine WpM.run tab_ok 1 ⟨.ops (p21_17_4 :: o21_17.drop 5), [.seq .ret], (.int .i64 0 :: .str s :: U :: U :: .bool false :: .ptr (some (.new p1 0)) :: .agg [.str k_appletbodybuttoncaptionc, .str k_foreignObjectdesctitle, .str k_mimomnmsmtext] :: .bool (decide ((0 : Int) ≥ 3)) :: .int .i64 0 :: .bool (decide ((0 : Int) < 0)) :: .bool false :: .int .i64 0 :: .bool (decide ((0 : Int) ≥ 3)) :: .bool (decide ((0 : Int) ≥ 3)) :: .bool (among s k_h1h2h3h4h5h6) :: .int .i64 0 :: .bool true :: .bool true :: .str s :: .bool (among s k_areabasebrcolembedhrimgi) :: .bool false :: .str s :: .bool (among s k_addressarticleasideblock) :: .bool (among s k_addressarticleasideblock) :: .bool false :: .str s :: .bool (among s k_h1h2h3h4h5h6) :: .bool (among s k_h1h2h3h4h5h6) :: .bool (among s k_h1h2h3h4h5h6) :: .int .i64 0 :: .ptr (some (.new p1 0)) :: .str k_appletbodybuttoncaptionc :: .str s :: U :: []), [], h4, none⟩ (by kernel_rfl) ?_
              refine WpM.givenQ (f := 27) (args := [.str k_appletbodybuttoncaptionc, .str s]) (q := q27) (.bool (among s k_appletbodybuttoncaptionc)) (by kernel_rfl) (by kernel_rfl) (by kernel_rfl) (by simp only [q27]; rw [if_pos ⟨by kernel_rfl, by decide, by omega⟩]) ?_
              refine WpM.run tab_ok 4 ⟨.done .ret, [], (.int .i64 0 :: .str s :: U :: U :: .bool (among s k_appletbodybuttoncaptionc) :: .ptr (some (.new p1 0)) :: .agg [.str k_appletbodybuttoncaptionc, .str k_foreignObjectdesctitle, .str k_mimomnmsmtext] :: .bool (decide ((0 : Int) ≥ 3)) :: .int .i64 0 :: .bool (decide ((0 : Int) < 0)) :: .bool false :: .int .i64 0 :: .bool (decide ((0 : Int) ≥ 3)) :: .bool (decide ((0 : Int) ≥ 3)) :: .bool (among s k_h1h2h3h4h5h6) :: .int .i64 0 :: .bool true :: .bool true :: .str s :: .bool (among s k_areabasebrcolembedhrimgi) :: .bool false :: .str s :: .bool (among s k_addressarticleasideblock) :: .bool (among s k_addressarticleasideblock) :: .bool false :: .str s :: .bool (among s k_h1h2h3h4h5h6) :: .bool (among s k_h1h2h3h4h5h6) :: .bool (among s k_h1h2h3h4h5h6) :: .int .i64 0 :: .ptr (some (.new p1 0)) :: .str k_appletbodybuttoncaptionc :: .str s :: .bool (among s k_appletbodybuttoncaptionc) :: []), [], h4, none⟩ (by kernel_rfl) ?_
              refine WpM.ret (.bool (among s k_appletbodybuttoncaptionc)) h4 (by kernel_rfl) (by kernel_rfl) ?_
              first | (simp [specialM, *]; done) | (exfalso; simp_all; done) | (unfold specialM; rw [beq_false_of_ne (by omega), beq_false_of_ne (by omega), beq_false_of_ne (by omega)]; rfl)
      · have c8p := beq_f c8
        refine WpM.run tab_ok 21 ⟨.ops (p21_17_1 :: o21_17.drop 2), [.seq .ret], (.int .i64 p :: .str s :: U :: U :: .bool false :: .ptr (some (.new p1 0)) :: .agg [.str k_appletbodybuttoncaptionc, .str k_foreignObjectdesctitle, .str k_mimomnmsmtext] :: .bool (decide (p ≥ 3)) :: .int .i64 p :: .bool (decide (p < 0)) :: .bool false :: .int .i64 p :: .bool (decide (p ≥ 3)) :: .bool (decide (p ≥ 3)) :: .bool false :: .int .i64 p :: .bool (p == 0) :: .bool false :: U :: U :: U :: U :: U :: U :: U :: U :: U :: U :: .bool false :: .int .i64 p :: us 4), [], h4, none⟩ (by kernel_rfl) ?_
        rcases (show p = 0 ∨ p = 1 ∨ p = 2 by omega) with e12 | e12 | e12
        · subst e12
          refine WpM.run tab_ok 1 ⟨.ops (p21_17_2 :: o21_17.drop 3), [.seq .ret], (.int .i64 0 :: .str s :: U :: U :: .bool false :: .ptr (some (.new p1 0)) :: .agg [.str k_appletbodybuttoncaptionc, .str k_foreignObjectdesctitle, .str k_mimomnmsmtext] :: .bool (decide ((0 : Int) ≥ 3)) :: .int .i64 0 :: .bool (decide ((0 : Int) < 0)) :: .bool false :: .int .i64 0 :: .bool (decide ((0 : Int) ≥ 3)) :: .bool (decide ((0 : Int) ≥ 3)) :: .bool false :: .int .i64 0 :: .bool true :: .bool false :: U :: U :: U :: U :: U :: U :: U :: U :: U :: U :: .bool false :: .int .i64 0 :: .ptr (some (.new p1 0)) :: U :: U :: U :: []), [], h4, none⟩ (by kernel_rfl) ?_
          refine WpM.op (.str k_appletbodybuttoncaptionc) _ (by kernel_rfl) (load_new (o := 0) (by kernel_rfl) a5.get (by kernel_rfl)) ?_
          refine WpM.run tab_ok 1 ⟨.ops (p21_17_4 :: o21_17.drop 5), [.seq .ret], (.int .i64 0 :: .str s :: U :: U :: .bool false :: .ptr (some (.new p1 0)) :: .agg [.str k_appletbodybuttoncaptionc, .str k_foreignObjectdesctitle, .str k_mimomnmsmtext] :: .bool (decide ((0 : Int) ≥ 3)) :: .int .i64 0 :: .bool (decide ((0 : Int) < 0)) :: .bool false :: .int .i64 0 :: .bool (decide ((0 : Int) ≥ 3)) :: .bool (decide ((0 : Int) ≥ 3)) :: .bool false :: .int .i64 0 :: .bool true :: .bool false :: U :: U :: U :: U :: U :: U :: U :: U :: U :: U :: .bool false :: .int .i64 0 :: .ptr (some (.new p1 0)) :: .str k_appletbodybuttoncaptionc :: .str s :: U :: []), [], h4, none⟩ (by kernel_rfl) ?_
          refine WpM.givenQ (f := 27) (args := [.str k_appletbodybuttoncaptionc, .str s]) (q := q27) (.bool (among s k_appletbodybuttoncaptionc)) (by kernel_rfl) (by kernel_rfl) (by kernel_rfl) (by simp only [q27]; rw [if_pos ⟨by kernel_rfl, by decide, by omega⟩]) ?_
          refine WpM.run tab_ok 4 ⟨.done .ret, [], (.int .i64 0 :: .str s :: U :: U :: .bool (among s k_appletbodybuttoncaptionc) :: .ptr (some (.new p1 0)) :: .agg [.str k_appletbodybuttoncaptionc, .str k_foreignObjectdesctitle, .str k_mimomnmsmtext] :: .bool (decide ((0 : Int) ≥ 3)) :: .int .i64 0 :: .bool (decide ((0 : Int) < 0)) :: .bool false :: .int .i64 0 :: .bool (decide ((0 : Int) ≥ 3)) :: .bool (decide ((0 : Int) ≥ 3)) :: .bool false :: .int .i64 0 :: .bool true :: .bool false :: U :: U :: U :: U :: U :: U :: U :: U :: U :: U :: .bool false :: .int .i64 0 :: .ptr (some (.new p1 0)) :: .str k_appletbodybuttoncaptionc :: .str s :: .bool (among s k_appletbodybuttoncaptionc) :: []), [], h4, none⟩ (by kernel_rfl) ?_
          refine WpM.ret (.bool (among s k_appletbodybuttoncaptionc)) h4 (by kernel_rfl) (by kernel_rfl) ?_
          first | (simp [specialM, *]; done) | (exfalso; simp_all; done) | (unfold specialM; rw [beq_false_of_ne (by omega), beq_false_of_ne (by omega), beq_false_of_ne (by omega)]; rfl)
        · subst e12
          refine WpM.run tab_ok 1 ⟨.ops (p21_17_2 :: o21_17.drop 3), [.seq .ret], (.int .i64 1 :: .str s :: U :: U :: .bool false :: .ptr (some (.new p1 0)) :: .agg [.str k_appletbodybuttoncaptionc, .str k_foreignObjectdesctitle, .str k_mimomnmsmtext] :: .bool (decide ((1 : Int) ≥ 3)) :: .int .i64 1 :: .bool (decide ((1 : Int) < 0)) :: .bool false :: .int .i64 1 :: .bool (decide ((1 : Int) ≥ 3)) :: .bool (decide ((1 : Int) ≥ 3)) :: .bool false :: .int .i64 1 :: .bool false :: .bool false :: U :: U :: U :: U :: U :: U :: U :: U :: U :: U :: .bool false :: .int .i64 1 :: .ptr (some (.new p1 1)) :: U :: U :: U :: []), [], h4, none⟩ (by kernel_rfl) ?_
          refine WpM.op (.str k_foreignObjectdesctitle) _ (by kernel_rfl) (load_new (o := 1) (by kernel_rfl) a5.get (by kernel_rfl)) ?_
          refine WpM.run tab_ok 1 ⟨.ops (p21_17_4 :: o21_17.drop 5), [.seq .ret], (.int .i64 1 :: .str s :: U :: U :: .bool false :: .ptr (some (.new p1 0)) :: .agg [.str k_appletbodybuttoncaptionc, .str k_foreignObjectdesctitle, .str k_mimomnmsmtext] :: .bool (decide ((1 : Int) ≥ 3)) :: .int .i64 1 :: .bool (decide ((1 : Int) < 0)) :: .bool false :: .int .i64 1 :: .bool (decide ((1 : Int) ≥ 3)) :: .bool (decide ((1 : Int) ≥ 3)) :: .bool false :: .int .i64 1 :: .bool false :: .bool false :: U :: U :: U :: U :: U :: U :: U :: U :: U :: U :: .bool false :: .int .i64 1 :: .ptr (some (.new p1 1)) :: .str k_foreignObjectdesctitle :: .str s :: U :: []), [], h4, none⟩ (by kernel_rfl) ?_
          refine WpM.givenQ (f := 27) (args := [.str k_foreignObjectdesctitle, .str s]) (q := q27) (.bool (among s k_foreignObjectdesctitle)) (by kernel_rfl) (by kernel_rfl) (by kernel_rfl) (by simp only [q27]; rw [if_pos ⟨by kernel_rfl, by decide, by omega⟩]) ?_
          refine WpM.run tab_ok 4 ⟨.done .ret, [], (.int .i64 1 :: .str s :: U :: U :: .bool (among s k_foreignObjectdesctitle) :: .ptr (some (.new p1 0)) :: .agg [.str k_appletbodybuttoncaptionc, .str k_foreignObjectdesctitle, .str k_mimomnmsmtext] :: .bool (decide ((1 : Int) ≥ 3)) :: .int .i64 1 :: .bool (decide ((1 : Int) < 0)) :: .bool false :: .int .i64 1 :: .bool (decide ((1 : Int) ≥ 3)) :: .bool (decide ((1 : Int) ≥ 3)) :: .bool false :: .int .i64 1 :: .bool false :: .bool false :: U :: U :: U :: U :: U :: U :: U :: U :: U :: U :: .bool false :: .int .i64 1 :: .ptr (some (.new p1 1)) :: .str k_foreignObjectdesctitle :: .str s :: .bool (among s k_foreignObjectdesctitle) :: []), [], h4, none⟩ (by kernel_rfl) ?_
          refine WpM.ret (.bool (among s k_foreignObjectdesctitle)) h4 (by kernel_rfl) (by kernel_rfl) ?_
          first | (simp [specialM, *]; done) | (exfalso; simp_all; done) | (unfold specialM; rw [beq_false_of_ne (by omega), beq_false_of_ne (by omega), beq_false_of_ne (by omega)]; rfl)
        · subst e12
          refine WpM.run tab_ok 1 ⟨.ops (p21_17_2 :: o21_17.drop 3), [.seq .ret], (.int .i64 2 :: .str s :: U :: U :: .bool false :: .ptr (some (.new p1 0)) :: .agg [.str k_appletbodybuttoncaptionc, .str k_foreignObjectdesctitle, .str k_mimomnmsmtext] :: .bool (decide ((2 : Int) ≥ 3)) :: .int .i64 2 :: .bool (decide ((2 : Int) < 0)) :: .bool false :: .int .i64 2 :: .bool (decide ((2 : Int) ≥ 3)) :: .bool (decide ((2 : Int) ≥ 3)) :: .bool false :: .int .i64 2 :: .bool false :: .bool false :: U :: U :: U :: U :: U :: U :: U :: U :: U :: U :: .bool false :: .int .i64 2 :: .ptr (some (.new p1 2)) :: U :: U :: U :: []), [], h4, none⟩ (by kernel_rfl) ?_
          refine WpM.op (.str k_mimomnmsmtext) _ (by kernel_rfl) (load_new (o := 2) (by kernel_rfl) a5.get (by kernel_rfl)) ?_
          refine WpM.run tab_ok 1 ⟨.ops (p21_17_4 :: o21_17.drop 5), [.seq .ret], (.int .i64 2 :: .str s :: U :: U :: .bool false :: .ptr (some (.new p1 0)) :: .agg [.str k_appletbodybuttoncaptionc, .str k_foreignObjectdesctitle, .str k_mimomnmsmtext] :: .bool (decide ((2 : Int) ≥ 3)) :: .int .i64 2 :: .bool (decide ((2 : Int) < 0)) :: .bool false :: .int .i64 2 :: .bool (decide ((2 : Int) ≥ 3)) :: .bool (decide ((2 : Int) ≥ 3)) :: .bool false :: .int .i64 2 :: .bool false :: .bool false :: U :: U :: U :: U :: U :: U :: U :: U :: U :: U :: .bool false :: .int .i64 2 :: .ptr (some (.new p1 2)) :: .str k_mimomnmsmtext :: .str s :: U :: []), [], h4, none⟩ (by kernel_rfl) ?_
          refine WpM.givenQ (f := 27) (args := [.str k_mimomnmsmtext, .str s]) (q := q27) (.bool (among s k_mimomnmsmtext)) (by kernel_rfl) (by kernel_rfl) (by kernel_rfl) (by simp only [q27]; rw [if_pos ⟨by kernel_rfl, by decide, by omega⟩]) ?_
          refine WpM.run tab_ok 4 ⟨.done .ret, [], (.int .i64 2 :: .str s :: U :: U :: .bool (among s k_mimomnmsmtext) :: .ptr (some (.new p1 0)) :: .agg [.str k_appletbodybuttoncaptionc, .str k_foreignObjectdesctitle, .str k_mimomnmsmtext] :: .bool (decide ((2 : Int) ≥ 3)) :: .int .i64 2 :: .bool (decide ((2 : Int) < 0)) :: .bool false :: .int .i64 2 :: .bool (decide ((2 : Int) ≥ 3)) :: .bool (decide ((2 : Int) ≥ 3)) :: .bool false :: .int .i64 2 :: .bool false :: .bool false :: U :: U :: U :: U :: U :: U :: U :: U :: U :: U :: .bool false :: .int .i64 2 :: .ptr (some (.new p1 2)) :: .str k_mimomnmsmtext :: .str s :: .bool (among s k_mimomnmsmtext) :: []), [], h4, none⟩ (by kernel_rfl) ?_
          refine WpM.ret (.bool (among s k_mimomnmsmtext)) h4 (by kernel_rfl) (by kernel_rfl) ?_
          first | (simp [specialM, *]; done) | (exfalso; simp_all; done) | (unfold specialM; rw [beq_false_of_ne (by omega), beq_false_of_ne (by omega), beq_false_of_ne (by omega)]; rfl)
def q21 (l : List V) : Option V :=
  match l with
  | [.int .i64 p, .str s] => if s.length ≤ 100000 then some (.bool (specialM p s)) else none
  | _ => none
def prim19 : FuncId → Option (List V → H → Option (V × H)) := setPrim prim18 21 q21
theorem prim19s (W : World) (hW : WOK W) : Prims Try.prog W prim19 := by
  refine Prims.add base (prim18s W hW) ⟨_, _, Try.func21, rfl⟩ ?_
  intro w _ args v h
  unfold q21 at h
  split at h
  · split at h
    · rename_i hc; injection h with h; subst h; exact ⟨by simp only [old_cons, old_nil, old_int, old_str, old_bool, old_agg, old_tup, old_nils, Bool.and_true, Bool.true_and, hc], by simp only [old_cons, old_nil, old_int, old_str, old_bool, old_agg, old_tup, old_nils, Bool.and_true, Bool.true_and, hc], special hc⟩
    · cases h
  · cases h
theorem specialr {W : World} {p : Int} {s : List UInt8} : WpF Try.prog W prim19 22 [.int .i64 p, .str s] H.empty (fun v _ => v = .bool (specialM p s)) := by
  refine WpF.m tab_ok (by kernel_rfl) rfl ?_
  refine WpM.cfg (c' := ⟨.code x22_0, [], (.int .i64 p :: .str s :: us 28), [], H.empty, none⟩) (by kernel_rfl) ?_
  refine WpM.run tab_ok 18 ⟨.code x22_8, [.blk 0, .seq x22_21], (.int .i64 p :: .str s :: U :: U :: .bool false :: .int .i64 p :: .bool (p == 0) :: .bool (p == 0) :: us 22), [], H.empty, none⟩ (by kernel_rfl) ?_
  refine WpM.cond (t := (p == 0)) (by kernel_rfl) (fun c1 => ?_) (fun c1 => ?_)
  · have c1p := beq_t c1
    subst c1p
    refine WpM.run tab_ok 5 ⟨.ops (p22_10_3 :: o22_10.drop 4), [.seq .ret, .blk 0, .seq x22_21], (.int .i64 0 :: .str s :: U :: U :: .bool false :: .int .i64 0 :: .bool true :: .bool true :: .str s :: .bool (among s k_areabasebrcolembedhrimgi') :: .bool (among s k_areabasebrcolembedhrimgi') :: us 19), [], H.empty, none⟩ (by kernel_rfl) ?_
    refine WpM.guard (b := (among s k_areabasebrcolembedhrimgi')) (by kernel_rfl) (fun c2 => ?_) (fun c2 => ?_)
    · skip
      refine WpM.run tab_ok 17 ⟨.done .ret, [], (.int .i64 0 :: .str s :: U :: U :: .bool true :: .int .i64 0 :: .bool true :: .bool true :: .str s :: .bool (among s k_areabasebrcolembedhrimgi') :: .bool true :: U :: U :: .bool true :: .bool true :: U :: U :: .bool true :: .bool true :: U :: U :: .bool true :: us 8), [], H.empty, none⟩ (by kernel_rfl) ?_
      refine WpM.ret (.bool true) H.empty (by kernel_rfl) (by kernel_rfl) ?_
      (try simp only [ae_k_areabasebrcolembedhrimgi_r, ae_k_abbigcodeemfontinobrssma_r, ae_k_dddtlioptgroupoptionprbr_r, ae_k_h1h2h3h4h5h6_r, ae_k_addressarticleasideblock_r, ae_k_titletextarea_r, ae_k_stylescriptxmpiframenoem_r, ae_k_appletbodybuttoncaptionc_r, ae_k_foreignObjectdesctitle_r, ae_k_mimomnmsmtext_r] at *); simp [specialM, *]
    · skip
      refine WpM.run tab_ok 4 ⟨.ops (p22_10_7 :: o22_10.drop 8), [.seq .ret, .blk 0, .seq x22_21], (.int .i64 0 :: .str s :: U :: U :: .bool false :: .int .i64 0 :: .bool true :: .bool true :: .str s :: .bool (among s k_areabasebrcolembedhrimgi') :: .bool false :: .str s :: .bool (among s k_addressarticleasideblock') :: .bool (among s k_addressarticleasideblock') :: .bool (among s k_addressarticleasideblock') :: us 15), [], H.empty, none⟩ (by kernel_rfl) ?_
      refine WpM.guard (b := (among s k_addressarticleasideblock')) (by kernel_rfl) (fun c3 => ?_) (fun c3 => ?_)
      · skip
        refine WpM.run tab_ok 13 ⟨.done .ret, [], (.int .i64 0 :: .str s :: U :: U :: .bool true :: .int .i64 0 :: .bool true :: .bool true :: .str s :: .bool (among s k_areabasebrcolembedhrimgi') :: .bool false :: .str s :: .bool (among s k_addressarticleasideblock') :: .bool (among s k_addressarticleasideblock') :: .bool true :: U :: U :: .bool true :: .bool true :: U :: U :: .bool true :: us 8), [], H.empty, none⟩ (by kernel_rfl) ?_
        refine WpM.ret (.bool true) H.empty (by kernel_rfl) (by kernel_rfl) ?_
        (try simp only [ae_k_areabasebrcolembedhrimgi_r, ae_k_abbigcodeemfontinobrssma_r, ae_k_dddtlioptgroupoptionprbr_r, ae_k_h1h2h3h4h5h6_r, ae_k_addressarticleasideblock_r, ae_k_titletextarea_r, ae_k_stylescriptxmpiframenoem_r, ae_k_appletbodybuttoncaptionc_r, ae_k_foreignObjectdesctitle_r, ae_k_mimomnmsmtext_r] at *); simp [specialM, *]
      · skip
        refine WpM.run tab_ok 4 ⟨.ops (p22_10_11 :: o22_10.drop 12), [.seq .ret, .blk 0, .seq x22_21], (.int .i64 0 :: .str s :: U :: U :: .bool false :: .int .i64 0 :: .bool true :: .bool true :: .str s :: .bool (among s k_areabasebrcolembedhrimgi') :: .bool false :: .str s :: .bool (among s k_addressarticleasideblock') :: .bool (among s k_addressarticleasideblock') :: .bool false :: .str s :: .bool (among s k_h1h2h3h4h5h6') :: .bool (among s k_h1h2h3h4h5h6') :: .bool (among s k_h1h2h3h4h5h6') :: us 11), [], H.empty, none⟩ (by kernel_rfl) ?_
        refine WpM.guard (b := (among s k_h1h2h3h4h5h6')) (by kernel_rfl) (fun c4 => ?_) (fun c4 => ?_)
        · skip
          refine WpM.run tab_ok 9 ⟨.done .ret, [], (.int .i64 0 :: .str s :: U :: U :: .bool true :: .int .i64 0 :: .bool true :: .bool true :: .str s :: .bool (among s k_areabasebrcolembedhrimgi') :: .bool false :: .str s :: .bool (among s k_addressarticleasideblock') :: .bool (among s k_addressarticleasideblock') :: .bool false :: .str s :: .bool (among s k_h1h2h3h4h5h6') :: .bool (among s k_h1h2h3h4h5h6') :: .bool true :: U :: U :: .bool true :: us 8), [], H.empty, none⟩ (by kernel_rfl) ?_
          refine WpM.ret (.bool true) H.empty (by kernel_rfl) (by kernel_rfl) ?_
          (try simp only [ae_k_areabasebrcolembedhrimgi_r, ae_k_abbigcodeemfontinobrssma_r, ae_k_dddtlioptgroupoptionprbr_r, ae_k_h1h2h3h4h5h6_r, ae_k_addressarticleasideblock_r, ae_k_titletextarea_r, ae_k_stylescriptxmpiframenoem_r, ae_k_appletbodybuttoncaptionc_r, ae_k_foreignObjectdesctitle_r, ae_k_mimomnmsmtext_r] at *); simp [specialM, *]
        · skip
          refine WpM.run tab_ok 9 ⟨.done .ret, [], (.int .i64 0 :: .str s :: U :: U :: .bool (among s k_appletbodybuttoncaptionc') :: .int .i64 0 :: .bool true :: .bool true :: .str s :: .bool (among s k_areabasebrcolembedhrimgi') :: .bool false :: .str s :: .bool (among s k_addressarticleasideblock') :: .bool (among s k_addressarticleasideblock') :: .bool false :: .str s :: .bool (among s k_h1h2h3h4h5h6') :: .bool (among s k_h1h2h3h4h5h6') :: .bool false :: .str s :: .bool (among s k_appletbodybuttoncaptionc') :: .bool (among s k_appletbodybuttoncaptionc') :: us 8), [], H.empty, none⟩ (by kernel_rfl) ?_
          refine WpM.ret (.bool (among s k_appletbodybuttoncaptionc')) H.empty (by kernel_rfl) (by kernel_rfl) ?_
          (try simp only [ae_k_areabasebrcolembedhrimgi_r, ae_k_abbigcodeemfontinobrssma_r, ae_k_dddtlioptgroupoptionprbr_r, ae_k_h1h2h3h4h5h6_r, ae_k_addressarticleasideblock_r, ae_k_titletextarea_r, ae_k_stylescriptxmpiframenoem_r, ae_k_appletbodybuttoncaptionc_r, ae_k_foreignObjectdesctitle_r, ae_k_mimomnmsmtext_r] at *); simp [specialM, *]
  · have c1p := beq_f c1
    refine WpM.run tab_ok 6 ⟨.code x22_13, [.blk 0, .seq x22_21], (.int .i64 p :: .str s :: U :: U :: .bool false :: .int .i64 p :: .bool (p == 0) :: .bool (p == 0) :: U :: U :: U :: U :: U :: U :: U :: U :: U :: U :: U :: U :: U :: U :: .bool (p == 1) :: .bool (p == 1) :: us 6), [], H.empty, none⟩ (by kernel_rfl) ?_
    refine WpM.cond (t := (p == 1)) (by kernel_rfl) (fun c5 => ?_) (fun c5 => ?_)
    · have c5p := beq_t c5
      subst c5p
      refine WpM.run tab_ok 10 ⟨.done .ret, [], (.int .i64 1 :: .str s :: U :: U :: .bool (among s k_foreignObjectdesctitle') :: .int .i64 1 :: .bool false :: .bool false :: U :: U :: U :: U :: U :: U :: U :: U :: U :: U :: U :: U :: U :: U :: .bool true :: .bool true :: .str s :: .bool (among s k_foreignObjectdesctitle') :: us 4), [], H.empty, none⟩ (by kernel_rfl) ?_
      refine WpM.ret (.bool (among s k_foreignObjectdesctitle')) H.empty (by kernel_rfl) (by kernel_rfl) ?_
      (try simp only [ae_k_areabasebrcolembedhrimgi_r, ae_k_abbigcodeemfontinobrssma_r, ae_k_dddtlioptgroupoptionprbr_r, ae_k_h1h2h3h4h5h6_r, ae_k_addressarticleasideblock_r, ae_k_titletextarea_r, ae_k_stylescriptxmpiframenoem_r, ae_k_appletbodybuttoncaptionc_r, ae_k_foreignObjectdesctitle_r, ae_k_mimomnmsmtext_r] at *); simp [specialM, *]
    · have c5p := beq_f c5
      refine WpM.run tab_ok 6 ⟨.code x22_18, [.blk 0, .seq x22_21], (.int .i64 p :: .str s :: U :: U :: .bool false :: .int .i64 p :: .bool (p == 0) :: .bool (p == 0) :: U :: U :: U :: U :: U :: U :: U :: U :: U :: U :: U :: U :: U :: U :: .bool (p == 1) :: .bool (p == 1) :: U :: U :: .bool (p == 2) :: .bool (p == 2) :: U :: U :: []), [], H.empty, none⟩ (by kernel_rfl) ?_
      refine WpM.cond (t := (p == 2)) (by kernel_rfl) (fun c6 => ?_) (fun c6 => ?_)
      · have c6p := beq_t c6
        subst c6p
        refine WpM.run tab_ok 10 ⟨.done .ret, [], (.int .i64 2 :: .str s :: U :: U :: .bool (among s k_mimomnmsmtext') :: .int .i64 2 :: .bool false :: .bool false :: U :: U :: U :: U :: U :: U :: U :: U :: U :: U :: U :: U :: U :: U :: .bool false :: .bool false :: U :: U :: .bool true :: .bool true :: .str s :: .bool (among s k_mimomnmsmtext') :: []), [], H.empty, none⟩ (by kernel_rfl) ?_
        refine WpM.ret (.bool (among s k_mimomnmsmtext')) H.empty (by kernel_rfl) (by kernel_rfl) ?_
        (try simp only [ae_k_areabasebrcolembedhrimgi_r, ae_k_abbigcodeemfontinobrssma_r, ae_k_dddtlioptgroupoptionprbr_r, ae_k_h1h2h3h4h5h6_r, ae_k_addressarticleasideblock_r, ae_k_titletextarea_r, ae_k_stylescriptxmpiframenoem_r, ae_k_appletbodybuttoncaptionc_r, ae_k_foreignObjectdesctitle_r, ae_k_mimomnmsmtext_r] at *); simp [specialM, *]
      · have c6p := beq_f c6
        refine WpM.run tab_ok 9 ⟨.done .ret, [], (.int .i64 p :: .str s :: U :: U :: .bool false :: .int .i64 p :: .bool (p == 0) :: .bool (p == 0) :: U :: U :: U :: U :: U :: U :: U :: U :: U :: U :: U :: U :: U :: U :: .bool (p == 1) :: .bool (p == 1) :: U :: U :: .bool (p == 2) :: .bool (p == 2) :: U :: U :: []), [], H.empty, none⟩ (by kernel_rfl) ?_
        refine WpM.ret (.bool false) H.empty (by kernel_rfl) (by kernel_rfl) ?_
        (try simp only [ae_k_areabasebrcolembedhrimgi_r, ae_k_abbigcodeemfontinobrssma_r, ae_k_dddtlioptgroupoptionprbr_r, ae_k_h1h2h3h4h5h6_r, ae_k_addressarticleasideblock_r, ae_k_titletextarea_r, ae_k_stylescriptxmpiframenoem_r, ae_k_appletbodybuttoncaptionc_r, ae_k_foreignObjectdesctitle_r, ae_k_mimomnmsmtext_r] at *); simp [specialM, *]
def q22 (l : List V) : Option V :=
  match l with
  | [.int .i64 p, .str s] => some (.bool (specialM p s))
  | _ => none
def prim20 : FuncId → Option (List V → H → Option (V × H)) := setPrim prim19 22 q22
theorem prim20s (W : World) (hW : WOK W) : Prims Try.prog W prim20 := by
  refine Prims.add base (prim19s W hW) ⟨_, _, Try.func22, rfl⟩ ?_
  intro w _ args v h
  unfold q22 at h
  split at h
  · injection h with h; subst h; exact ⟨by simp only [old_cons, old_nil, old_int, old_str, old_bool, old_agg, old_tup, old_nils, Bool.and_true, Bool.true_and], by simp only [old_cons, old_nil, old_int, old_str, old_bool, old_agg, old_tup, old_nils, Bool.and_true, Bool.true_and], specialr⟩
  · cases h
def blankM (r : Int) : Bool := r == 32 || (r == 9 || (r == 10 || r == 12))
theorem blank {W : World} {r : Int} : WpF Try.prog W prim20 25 [.int .i64 r] H.empty (fun v _ => v = .bool (blankM r)) := by
  refine WpF.m tab_ok (by kernel_rfl) rfl ?_
  refine WpM.cfg (c' := ⟨.code x25_0, [], [.int .i64 r, U, U, U, U, U, U, U, U], [], H.empty, none⟩) (by kernel_rfl) ?_
  refine WpM.run tab_ok 19 ⟨.code x25_9, [.seq x25_17, .blk 0, .seq x25_20], [.int .i64 r, U, .bool false, .int .i64 r, .bool (r == 32), .bool (r == 32), U, U, U], [], H.empty, none⟩ (by kernel_rfl) ?_
  refine WpM.cond (t := (r == 32)) (by kernel_rfl) (fun c1 => ?_) (fun c1 => ?_)
  · have c1p := beq_t c1
    refine WpM.run tab_ok 2 ⟨.code x25_17, [.blk 0, .seq x25_20], [.int .i64 r, U, .bool false, .int .i64 r, .bool (r == 32), .bool (r == 32), U, U, U], [], H.empty, none⟩ (by kernel_rfl) ?_
    refine WpM.cond (t := (r == 32)) (by kernel_rfl) (fun e => ?_) (fun e => absurd (e.symm.trans c1) (by decide))
    refine WpM.run tab_ok 8 ⟨.done .ret, [], [.int .i64 r, U, .bool true, .int .i64 r, .bool (r == 32), .bool (r == 32), U, U, U], [], H.empty, none⟩ (by kernel_rfl) ?_
    refine WpM.ret (.bool true) H.empty (by kernel_rfl) (by kernel_rfl) ?_
    first | rfl | (simp [blankM, *]; done) | (simp only [blankM, beq_self_eq_true, Bool.or_true, Bool.true_or]; done) | (rw [Bool.eq_iff_iff]; simp [blankM]; omega)
  · have c1p := beq_f c1
    refine WpM.run tab_ok 6 ⟨.code x25_12, [.seq x25_17, .blk 0, .seq x25_20], [.int .i64 r, U, .bool false, .int .i64 r, .bool (r == 9), .bool (r == 32), .bool (r == 9), U, U], [], H.empty, none⟩ (by kernel_rfl) ?_
    refine WpM.cond (t := (r == 9)) (by kernel_rfl) (fun c2 => ?_) (fun c2 => ?_)
    · have c2p := beq_t c2
      refine WpM.run tab_ok 2 ⟨.code x25_17, [.blk 0, .seq x25_20], [.int .i64 r, U, .bool false, .int .i64 r, .bool (r == 9), .bool (r == 32), .bool (r == 9), U, U], [], H.empty, none⟩ (by kernel_rfl) ?_
      refine WpM.cond (t := (r == 9)) (by kernel_rfl) (fun e => ?_) (fun e => absurd (e.symm.trans c2) (by decide))
      refine WpM.run tab_ok 8 ⟨.done .ret, [], [.int .i64 r, U, .bool true, .int .i64 r, .bool (r == 9), .bool (r == 32), .bool (r == 9), U, U], [], H.empty, none⟩ (by kernel_rfl) ?_
      refine WpM.ret (.bool true) H.empty (by kernel_rfl) (by kernel_rfl) ?_
      first | rfl | (simp [blankM, *]; done) | (simp only [blankM, beq_self_eq_true, Bool.or_true, Bool.true_or]; done) | (rw [Bool.eq_iff_iff]; simp [blankM]; omega)
    · have c2p := beq_f c2
      refine WpM.run tab_ok 6 ⟨.code x25_15, [.seq x25_17, .blk 0, .seq x25_20], [.int .i64 r, U, .bool false, .int .i64 r, .bool (r == 10), .bool (r == 32), .bool (r == 9), .bool (r == 10), U], [], H.empty, none⟩ (by kernel_rfl) ?_
      refine WpM.cond (t := (r == 10)) (by kernel_rfl) (fun c3 => ?_) (fun c3 => ?_)
      · have c3p := beq_t c3
        refine WpM.run tab_ok 2 ⟨.code x25_17, [.blk 0, .seq x25_20], [.int .i64 r, U, .bool false, .int .i64 r, .bool (r == 10), .bool (r == 32), .bool (r == 9), .bool (r == 10), U], [], H.empty, none⟩ (by kernel_rfl) ?_
        refine WpM.cond (t := (r == 10)) (by kernel_rfl) (fun e => ?_) (fun e => absurd (e.symm.trans c3) (by decide))
        refine WpM.run tab_ok 8 ⟨.done .ret, [], [.int .i64 r, U, .bool true, .int .i64 r, .bool (r == 10), .bool (r == 32), .bool (r == 9), .bool (r == 10), U], [], H.empty, none⟩ (by kernel_rfl) ?_
        refine WpM.ret (.bool true) H.empty (by kernel_rfl) (by kernel_rfl) ?_
        first | rfl | (simp [blankM, *]; done) | (simp only [blankM, beq_self_eq_true, Bool.or_true, Bool.true_or]; done) | (rw [Bool.eq_iff_iff]; simp [blankM]; omega)
      · have c3p := beq_f c3
        refine WpM.run tab_ok 5 ⟨.code x25_17, [.blk 0, .seq x25_20], [.int .i64 r, U, .bool false, .int .i64 r, .bool (r == 12), .bool (r == 32), .bool (r == 9), .bool (r == 10), .bool (r == 12)], [], H.empty, none⟩ (by kernel_rfl) ?_
        refine WpM.cond (t := (r == 12)) (by kernel_rfl) (fun c4 => ?_) (fun c4 => ?_)
        · have c4p := beq_t c4
          refine WpM.run tab_ok 8 ⟨.done .ret, [], [.int .i64 r, U, .bool true, .int .i64 r, .bool (r == 12), .bool (r == 32), .bool (r == 9), .bool (r == 10), .bool (r == 12)], [], H.empty, none⟩ (by kernel_rfl) ?_
          refine WpM.ret (.bool true) H.empty (by kernel_rfl) (by kernel_rfl) ?_
          first | rfl | (simp [blankM, *]; done) | (simp only [blankM, beq_self_eq_true, Bool.or_true, Bool.true_or]; done) | (rw [Bool.eq_iff_iff]; simp [blankM]; omega)
        · have c4p := beq_f c4
          refine WpM.run tab_ok 9 ⟨.done .ret, [], [.int .i64 r, U, .bool false, .int .i64 r, .bool (r == 12), .bool (r == 32), .bool (r == 9), .bool (r == 10), .bool (r == 12)], [], H.empty, none⟩ (by kernel_rfl) ?_
          refine WpM.ret (.bool false) H.empty (by kernel_rfl) (by kernel_rfl) ?_
          first | rfl | (simp [blankM, *]; done) | (simp only [blankM, beq_self_eq_true, Bool.or_true, Bool.true_or]; done) | (rw [Bool.eq_iff_iff]; simp [blankM]; omega)
def q25 (l : List V) : Option V :=
  match l with
  | [.int .i64 r] => some (.bool (blankM r))
  | _ => none
def prim21 : FuncId → Option (List V → H → Option (V × H)) := setPrim prim20 25 q25
theorem prim21s (W : World) (hW : WOK W) : Prims Try.prog W prim21 := by
  refine Prims.add base (prim20s W hW) ⟨_, _, Try.func25, rfl⟩ ?_
  intro w _ args v h
  unfold q25 at h
  split at h
  · injection h with h; subst h; exact ⟨by simp only [old_cons, old_nil, old_int, old_str, old_bool, old_agg, old_tup, old_nils, Bool.and_true, Bool.true_and], by simp only [old_cons, old_nil, old_int, old_str, old_bool, old_agg, old_tup, old_nils, Bool.and_true, Bool.true_and], blank⟩
  · cases h
theorem blankr {W : World} {r : Int} : WpF Try.prog W prim21 26 [.int .i64 r] H.empty (fun v _ => v = .bool (blankM r)) := by
  refine WpF.m tab_ok (by kernel_rfl) rfl ?_
  refine WpM.cfg (c' := ⟨.code x26_0, [], (.int .i64 r :: us 16), [], H.empty, none⟩) (by kernel_rfl) ?_
  refine WpM.run tab_ok 10 ⟨.ops (p26_3_3 :: o26_3.drop 4), [.seq .ret], (.int .i64 r :: U :: .bool false :: .int .i64 r :: .bool (r == 9) :: .bool (r == 9) :: us 11), [], H.empty, none⟩ (by kernel_rfl) ?_
  refine WpM.guard (b := (r == 9)) (by kernel_rfl) (fun c1 => ?_) (fun c1 => ?_)
  · have c1p := beq_t c1
    refine WpM.run tab_ok 15 ⟨.done .ret, [], (.int .i64 r :: U :: .bool true :: .int .i64 r :: .bool (r == 9) :: .bool true :: U :: U :: .bool true :: .bool true :: U :: U :: .bool true :: .bool true :: U :: U :: .bool true :: []), [], H.empty, none⟩ (by kernel_rfl) ?_
    refine WpM.ret (.bool true) H.empty (by kernel_rfl) (by kernel_rfl) ?_
    first | rfl | (simp [blankM, *]; done) | (simp only [blankM, beq_self_eq_true, Bool.or_true, Bool.true_or]; done) | (rw [Bool.eq_iff_iff]; simp [blankM]; omega)
  · have c1p := beq_f c1
    refine WpM.run tab_ok 4 ⟨.ops (p26_3_7 :: o26_3.drop 8), [.seq .ret], (.int .i64 r :: U :: .bool false :: .int .i64 r :: .bool (r == 9) :: .bool false :: .int .i64 r :: .bool (r == 10) :: .bool (r == 10) :: .bool (r == 10) :: us 7), [], H.empty, none⟩ (by kernel_rfl) ?_
    refine WpM.guard (b := (r == 10)) (by kernel_rfl) (fun c2 => ?_) (fun c2 => ?_)
    · have c2p := beq_t c2
      refine WpM.run tab_ok 11 ⟨.done .ret, [], (.int .i64 r :: U :: .bool true :: .int .i64 r :: .bool (r == 9) :: .bool false :: .int .i64 r :: .bool (r == 10) :: .bool (r == 10) :: .bool true :: U :: U :: .bool true :: .bool true :: U :: U :: .bool true :: []), [], H.empty, none⟩ (by kernel_rfl) ?_
      refine WpM.ret (.bool true) H.empty (by kernel_rfl) (by kernel_rfl) ?_
      first | rfl | (simp [blankM, *]; done) | (simp only [blankM, beq_self_eq_true, Bool.or_true, Bool.true_or]; done) | (rw [Bool.eq_iff_iff]; simp [blankM]; omega)
    · have c2p := beq_f c2
      refine WpM.run tab_ok 4 ⟨.ops (p26_3_11 :: o26_3.drop 12), [.seq .ret], (.int .i64 r :: U :: .bool false :: .int .i64 r :: .bool (r == 9) :: .bool false :: .int .i64 r :: .bool (r == 10) :: .bool (r == 10) :: .bool false :: .int .i64 r :: .bool (r == 12) :: .bool (r == 12) :: .bool (r == 12) :: U :: U :: U :: []), [], H.empty, none⟩ (by kernel_rfl) ?_
      refine WpM.guard (b := (r == 12)) (by kernel_rfl) (fun c3 => ?_) (fun c3 => ?_)
      · have c3p := beq_t c3
        refine WpM.run tab_ok 7 ⟨.done .ret, [], (.int .i64 r :: U :: .bool true :: .int .i64 r :: .bool (r == 9) :: .bool false :: .int .i64 r :: .bool (r == 10) :: .bool (r == 10) :: .bool false :: .int .i64 r :: .bool (r == 12) :: .bool (r == 12) :: .bool true :: U :: U :: .bool true :: []), [], H.empty, none⟩ (by kernel_rfl) ?_
        refine WpM.ret (.bool true) H.empty (by kernel_rfl) (by kernel_rfl) ?_
        first | rfl | (simp [blankM, *]; done) | (simp only [blankM, beq_self_eq_true, Bool.or_true, Bool.true_or]; done) | (rw [Bool.eq_iff_iff]; simp [blankM]; omega)
      · have c3p := beq_f c3
        refine WpM.run tab_ok 7 ⟨.done .ret, [], (.int .i64 r :: U :: .bool (r == 32) :: .int .i64 r :: .bool (r == 9) :: .bool false :: .int .i64 r :: .bool (r == 10) :: .bool (r == 10) :: .bool false :: .int .i64 r :: .bool (r == 12) :: .bool (r == 12) :: .bool false :: .int .i64 r :: .bool (r == 32) :: .bool (r == 32) :: []), [], H.empty, none⟩ (by kernel_rfl) ?_
        refine WpM.ret (.bool (r == 32)) H.empty (by kernel_rfl) (by kernel_rfl) ?_
        first | rfl | (simp [blankM, *]; done) | (simp only [blankM, beq_self_eq_true, Bool.or_true, Bool.true_or]; done) | (rw [Bool.eq_iff_iff]; simp [blankM]; omega)
def q26 (l : List V) : Option V :=
  match l with
  | [.int .i64 r] => some (.bool (blankM r))
  | _ => none
def prim22 : FuncId → Option (List V → H → Option (V × H)) := setPrim prim21 26 q26
theorem prim22s (W : World) (hW : WOK W) : Prims Try.prog W prim22 := by
  refine Prims.add base (prim21s W hW) ⟨_, _, Try.func26, rfl⟩ ?_
  intro w _ args v h
  unfold q26 at h
  split at h
  · injection h with h; subst h; exact ⟨by simp only [old_cons, old_nil, old_int, old_str, old_bool, old_agg, old_tup, old_nils, Bool.and_true, Bool.true_and], by simp only [old_cons, old_nil, old_int, old_str, old_bool, old_agg, old_tup, old_nils, Bool.and_true, Bool.true_and], blankr⟩
  · cases h
end Go.Proofs.Ytoofmfakmbdffaa.Dg
