/-
  The code of chapter 18 that the law of fosters reaches.
-/
import Derived.Test.YtcjmklbfaoionaaChecked
import Derived.Test.YtcjmklbfaoionaaShelf
import Derived.Test.YtcjmklbfaoionaaInsShelf
import Derived.Test.YtcjmklbfaoionaaDgS34
set_option linter.unusedVariables false
set_option linter.unusedSimpArgs false
namespace Go.Proofs.Ytcjmklbfaoionaa.Dg
open Go Go.RowKit
set_option maxRecDepth 20000
def k_tabletbodytfoottheadtr : List UInt8 := [116, 97, 98, 108, 101, 32, 116, 98, 111, 100, 121, 32, 116, 102, 111, 111, 116, 32, 116, 104, 101, 97, 100, 32, 116, 114]
def k_table : List UInt8 := [116, 97, 98, 108, 101]
def k_tbody : List UInt8 := [116, 98, 111, 100, 121]
def k_tfoot : List UInt8 := [116, 102, 111, 111, 116]
def k_thead : List UInt8 := [116, 104, 101, 97, 100]
def k_tr : List UInt8 := [116, 114]
def p3_1_0 : RO := ⟨none, some 2, .assign (.const (.bool false))⟩
def o3_1 : List RO := [p3_1_0]
def x3_1 : RC := .ops o3_1
def p3_4_0 : RO := ⟨none, some 3, .move (.tmp 0)⟩
def p3_4_1 : RO := ⟨none, some 4, .call ⟨.builtin .len, #[(.tmp 3)], #[9]⟩⟩
def p3_4_2 : RO := ⟨none, some 5, .binOp .gtr 3 (.tmp 4) (.const (.int .i64 (10000))) 3⟩
def o3_4 : List RO := [p3_4_0, p3_4_1, p3_4_2]
def x3_4 : RC := .ops o3_4
def p3_7_0 : RO := ⟨none, some 6, .call ⟨.value (.func 6), #[], #[]⟩⟩
def p3_7_1 : RO := ⟨none, some 2, .assign (.tmp 6)⟩
def o3_7 : List RO := [p3_7_0, p3_7_1]
def x3_7 : RC := .ops o3_7
def x3_6 : RC := .seq x3_7 .ret
def x3_5 : RC := .cond (.tmp 5) x3_6 .skip
def x3_3 : RC := .seq x3_4 x3_5
def p3_9_0 : RO := ⟨none, some 7, .move (.tmp 0)⟩
def p3_9_1 : RO := ⟨none, some 8, .call ⟨.value (.func 7), #[(.tmp 7)], #[9]⟩⟩
def p3_9_2 : RO := ⟨none, some 9, .move (.tmp 0)⟩
def p3_9_3 : RO := ⟨none, some 10, .call ⟨.value (.func 8), #[(.tmp 9)], #[9]⟩⟩
def p3_9_4 : RO := ⟨none, some 11, .binOp .eql 4 (.tmp 8) (.tmp 10) 4⟩
def p3_9_5 : RO := ⟨none, some 12, .move (.tmp 11)⟩
def p3_9_6 : RO := ⟨some (some 12, true), some 13, .call ⟨.value (.func 6), #[], #[]⟩⟩
def p3_9_7 : RO := ⟨none, some 14, .pick (.tmp 12) (.tmp 13) (.const (.bool false))⟩
def p3_9_8 : RO := ⟨none, some 2, .assign (.tmp 14)⟩
def o3_9 : List RO := [p3_9_0, p3_9_1, p3_9_2, p3_9_3, p3_9_4, p3_9_5, p3_9_6, p3_9_7, p3_9_8]
def x3_9 : RC := .ops o3_9
def x3_8 : RC := .seq x3_9 .ret
def x3_2 : RC := .seq x3_3 x3_8
def x3_0 : RC := .seq x3_1 x3_2
theorem x3_eq : Try.f3.body.map rc = some x3_0 := by kernel_rfl
def p7_1_0 : RO := ⟨none, some 2, .assign (.const (.bool false))⟩
def o7_1 : List RO := [p7_1_0]
def x7_1 : RC := .ops o7_1
def p7_4_0 : RO := ⟨none, some 3, .move (.tmp 0)⟩
def o7_4 : List RO := [p7_4_0]
def x7_4 : RC := .ops o7_4
def p7_8_0 : RO := ⟨none, some 5, .binOp .eql 9 (.tmp 3) (.const (.string ⟨#[116, 97, 98, 108, 101]⟩)) 9⟩
def p7_8_1 : RO := ⟨none, some 4, .assign (.tmp 5)⟩
def o7_8 : List RO := [p7_8_0, p7_8_1]
def x7_8 : RC := .ops o7_8
def p7_11_0 : RO := ⟨none, some 6, .binOp .eql 9 (.tmp 3) (.const (.string ⟨#[116, 98, 111, 100, 121]⟩)) 9⟩
def p7_11_1 : RO := ⟨none, some 4, .assign (.tmp 6)⟩
def o7_11 : List RO := [p7_11_0, p7_11_1]
def x7_11 : RC := .ops o7_11
def p7_14_0 : RO := ⟨none, some 7, .binOp .eql 9 (.tmp 3) (.const (.string ⟨#[116, 102, 111, 111, 116]⟩)) 9⟩
def p7_14_1 : RO := ⟨none, some 4, .assign (.tmp 7)⟩
def o7_14 : List RO := [p7_14_0, p7_14_1]
def x7_14 : RC := .ops o7_14
def p7_17_0 : RO := ⟨none, some 8, .binOp .eql 9 (.tmp 3) (.const (.string ⟨#[116, 104, 101, 97, 100]⟩)) 9⟩
def p7_17_1 : RO := ⟨none, some 4, .assign (.tmp 8)⟩
def o7_17 : List RO := [p7_17_0, p7_17_1]
def x7_17 : RC := .ops o7_17
def p7_19_0 : RO := ⟨none, some 9, .binOp .eql 9 (.tmp 3) (.const (.string ⟨#[116, 114]⟩)) 9⟩
def p7_19_1 : RO := ⟨none, some 4, .assign (.tmp 9)⟩
def o7_19 : List RO := [p7_19_0, p7_19_1]
def x7_19 : RC := .ops o7_19
def x7_18 : RC := .cond (.tmp 4) .skip x7_19
def x7_16 : RC := .seq x7_17 x7_18
def x7_15 : RC := .cond (.tmp 4) .skip x7_16
def x7_13 : RC := .seq x7_14 x7_15
def x7_12 : RC := .cond (.tmp 4) .skip x7_13
def x7_10 : RC := .seq x7_11 x7_12
def x7_9 : RC := .cond (.tmp 4) .skip x7_10
def x7_7 : RC := .seq x7_8 x7_9
def p7_22_0 : RO := ⟨none, some 2, .assign (.const (.bool true))⟩
def o7_22 : List RO := [p7_22_0]
def x7_22 : RC := .ops o7_22
def x7_21 : RC := .seq x7_22 .ret
def x7_20 : RC := .cond (.tmp 4) x7_21 .skip
def x7_6 : RC := .seq x7_7 x7_20
def x7_5 : RC := .block 0 x7_6
def x7_3 : RC := .seq x7_4 x7_5
def p7_24_0 : RO := ⟨none, some 2, .assign (.const (.bool false))⟩
def o7_24 : List RO := [p7_24_0]
def x7_24 : RC := .ops o7_24
def x7_23 : RC := .seq x7_24 .ret
def x7_2 : RC := .seq x7_3 x7_23
def x7_0 : RC := .seq x7_1 x7_2
theorem x7_eq : Try.f7.body.map rc = some x7_0 := by kernel_rfl
def p8_1_0 : RO := ⟨none, some 2, .assign (.const (.bool false))⟩
def o8_1 : List RO := [p8_1_0]
def x8_1 : RC := .ops o8_1
def p8_3_0 : RO := ⟨none, some 3, .move (.tmp 0)⟩
def p8_3_1 : RO := ⟨none, some 4, .call ⟨.value (.func 16), #[(.tmp 3), (.const (.string ⟨#[116, 97, 98, 108, 101, 32, 116, 98, 111, 100, 121, 32, 116, 102, 111, 111, 116, 32, 116, 104, 101, 97, 100, 32, 116, 114]⟩))], #[9, 9]⟩⟩
def p8_3_2 : RO := ⟨none, some 2, .assign (.tmp 4)⟩
def o8_3 : List RO := [p8_3_0, p8_3_1, p8_3_2]
def x8_3 : RC := .ops o8_3
def x8_2 : RC := .seq x8_3 .ret
def x8_0 : RC := .seq x8_1 x8_2
theorem x8_eq : Try.f8.body.map rc = some x8_0 := by kernel_rfl
def p16_1_0 : RO := ⟨none, some 4, .assign (.const (.bool false))⟩
def o16_1 : List RO := [p16_1_0]
def x16_1 : RC := .ops o16_1
def p16_3_0 : RO := ⟨none, some 5, .assign (.const (.int .i64 (0)))⟩
def o16_3 : List RO := [p16_3_0]
def x16_3 : RC := .ops o16_3
def p16_6_0 : RO := ⟨none, some 6, .assign (.const (.int .i64 (0)))⟩
def o16_6 : List RO := [p16_6_0]
def x16_6 : RC := .ops o16_6
def p16_11_0 : RO := ⟨none, some 7, .move (.tmp 6)⟩
def p16_11_1 : RO := ⟨none, some 8, .move (.tmp 1)⟩
def p16_11_2 : RO := ⟨none, some 9, .call ⟨.builtin .len, #[(.tmp 8)], #[9]⟩⟩
def p16_11_3 : RO := ⟨none, some 10, .binOp .leq 3 (.tmp 7) (.tmp 9) 3⟩
def o16_11 : List RO := [p16_11_0, p16_11_1, p16_11_2, p16_11_3]
def x16_11 : RC := .ops o16_11
def x16_12 : RC := .cond (.tmp 10) .skip (.exit 0)
def x16_10 : RC := .seq x16_11 x16_12
def p16_16_0 : RO := ⟨none, some 13, .move (.tmp 6)⟩
def p16_16_1 : RO := ⟨none, some 14, .move (.tmp 1)⟩
def p16_16_2 : RO := ⟨none, some 15, .call ⟨.builtin .len, #[(.tmp 14)], #[9]⟩⟩
def p16_16_3 : RO := ⟨none, some 16, .binOp .eql 3 (.tmp 13) (.tmp 15) 3⟩
def p16_16_4 : RO := ⟨none, some 17, .move (.tmp 16)⟩
def p16_16_5 : RO := ⟨some (some 17, false), some 18, .move (.tmp 1)⟩
def p16_16_6 : RO := ⟨some (some 17, false), some 19, .move (.tmp 6)⟩
def p16_16_7 : RO := ⟨some (some 17, false), some 20, .index 9 (.tmp 18) (.tmp 19)⟩
def p16_16_8 : RO := ⟨some (some 17, false), some 21, .binOp .eql 5 (.tmp 20) (.const (.int .u8 (32))) 5⟩
def p16_16_9 : RO := ⟨none, some 22, .pick (.tmp 17) (.const (.bool true)) (.tmp 21)⟩
def o16_16 : List RO := [p16_16_0, p16_16_1, p16_16_2, p16_16_3, p16_16_4, p16_16_5, p16_16_6, p16_16_7, p16_16_8, p16_16_9]
def x16_16 : RC := .ops o16_16
def p16_20_0 : RO := ⟨none, some 23, .move (.tmp 1)⟩
def p16_20_1 : RO := ⟨none, some 24, .move (.tmp 5)⟩
def p16_20_2 : RO := ⟨none, some 25, .move (.tmp 6)⟩
def p16_20_3 : RO := ⟨none, some 26, .slice 9 (.tmp 23) (some (.tmp 24)) (some (.tmp 25)) none⟩
def p16_20_4 : RO := ⟨none, some 27, .move (.tmp 0)⟩
def p16_20_5 : RO := ⟨none, some 28, .binOp .eql 9 (.tmp 26) (.tmp 27) 9⟩
def p16_20_6 : RO := ⟨none, some 29, .move (.tmp 28)⟩
def p16_20_7 : RO := ⟨some (some 29, true), some 30, .move (.tmp 6)⟩
def p16_20_8 : RO := ⟨some (some 29, true), some 31, .move (.tmp 5)⟩
def p16_20_9 : RO := ⟨some (some 29, true), some 32, .binOp .gtr 3 (.tmp 30) (.tmp 31) 3⟩
def p16_20_10 : RO := ⟨none, some 33, .pick (.tmp 29) (.tmp 32) (.const (.bool false))⟩
def o16_20 : List RO := [p16_20_0, p16_20_1, p16_20_2, p16_20_3, p16_20_4, p16_20_5, p16_20_6, p16_20_7, p16_20_8, p16_20_9, p16_20_10]
def x16_20 : RC := .ops o16_20
def p16_23_0 : RO := ⟨none, some 4, .assign (.const (.bool true))⟩
def o16_23 : List RO := [p16_23_0]
def x16_23 : RC := .ops o16_23
def x16_22 : RC := .seq x16_23 .ret
def x16_21 : RC := .cond (.tmp 33) x16_22 .skip
def x16_19 : RC := .seq x16_20 x16_21
def p16_24_0 : RO := ⟨none, some 34, .move (.tmp 6)⟩
def p16_24_1 : RO := ⟨none, some 35, .binOp .add 3 (.tmp 34) (.const (.int .i64 (1))) 3⟩
def p16_24_2 : RO := ⟨none, some 5, .assign (.tmp 35)⟩
def o16_24 : List RO := [p16_24_0, p16_24_1, p16_24_2]
def x16_24 : RC := .ops o16_24
def x16_18 : RC := .seq x16_19 x16_24
def x16_17 : RC := .cond (.tmp 22) x16_18 .skip
def x16_15 : RC := .seq x16_16 x16_17
def x16_14 : RC := .block 1 x16_15
def p16_25_0 : RO := ⟨none, some 11, .move (.tmp 6)⟩
def p16_25_1 : RO := ⟨none, some 12, .binOp .add 3 (.tmp 11) (.const (.int .i64 (1))) 3⟩
def p16_25_2 : RO := ⟨none, some 6, .assign (.tmp 12)⟩
def o16_25 : List RO := [p16_25_0, p16_25_1, p16_25_2]
def x16_25 : RC := .ops o16_25
def x16_13 : RC := .seq x16_14 x16_25
def x16_9 : RC := .seq x16_10 x16_13
def x16_8 : RC := .loop x16_9
def x16_7 : RC := .block 0 x16_8
def x16_5 : RC := .seq x16_6 x16_7
def p16_27_0 : RO := ⟨none, some 4, .assign (.const (.bool false))⟩
def o16_27 : List RO := [p16_27_0]
def x16_27 : RC := .ops o16_27
def x16_26 : RC := .seq x16_27 .ret
def x16_4 : RC := .seq x16_5 x16_26
def x16_2 : RC := .seq x16_3 x16_4
def x16_0 : RC := .seq x16_1 x16_2
theorem x16_eq : Try.f16.body.map rc = some x16_0 := by kernel_rfl
def tab : FuncId → Option (RC × List ResultVar × Nat)
  | 3 => some (x3_0, [.tmp 2], 15)
  | 7 => some (x7_0, [.tmp 2], 10)
  | 8 => some (x8_0, [.tmp 2], 5)
  | 16 => some (x16_0, [.tmp 4], 36)
  | _ => none
theorem tab_ok : TabOK Try.prog tab := by
  intro f x rs n h
  unfold tab at h
  split at h
  · injection h with h; injection h with h1 h; injection h with h2 h3; subst h1; subst h2; subst h3; exact ⟨_, Try.func3, rfl, rfl, x3_eq⟩
  · injection h with h; injection h with h1 h; injection h with h2 h3; subst h1; subst h2; subst h3; exact ⟨_, Try.func7, rfl, rfl, x7_eq⟩
  · injection h with h; injection h with h1 h; injection h with h2 h3; subst h1; subst h2; subst h3; exact ⟨_, Try.func8, rfl, rfl, x8_eq⟩
  · injection h with h; injection h with h1 h; injection h with h2 h3; subst h1; subst h2; subst h3; exact ⟨_, Try.func16, rfl, rfl, x16_eq⟩
  · cases h
def WOK (W : World) : Prop := True
theorem wok_of {W : World} (h : W.ShapedOpen Try.prog) : WOK W := trivial
theorem base : Base Try.prog := ⟨by kernel_rfl, by kernel_rfl⟩
def prim0 : FuncId → Option (List V → H → Option (V × H)) := fun _ => none
theorem prim0s (W : World) (hW : WOK W) : Prims Try.prog W prim0 := fun _ _ => PrimOK.none
theorem among_loop {W : World} {s t : List UInt8} (ht : t.length ≤ 140737488355328) {ans : Bool} (n : Nat) : ∀ (f : Int) (i : Int) (d4 d7 d8 d9 d10 d11 d12 d13 d14 d15 d16 d17 d18 d19 d20 d21 d22 d23 d24 d25 d26 d27 d28 d29 d30 d31 d32 d33 d34 d35 : V), n = ((t.length : Int) + 1 - i).toNat → (0 ≤ f) → (f ≤ i) → (i ≤ (t.length : Int) + 1) → (i = (t.length : Int) + 1 → f = i) → (ans = amongAt s t f i) → WpM Try.prog W prim0 ⟨.code x16_9, [.loop x16_9, .blk 0, .seq x16_26], (.str s :: .str t :: U :: U :: d4 :: .int .i64 f :: .int .i64 i :: d7 :: d8 :: d9 :: d10 :: d11 :: d12 :: d13 :: d14 :: d15 :: d16 :: d17 :: d18 :: d19 :: d20 :: d21 :: d22 :: d23 :: d24 :: d25 :: d26 :: d27 :: d28 :: d29 :: d30 :: d31 :: d32 :: d33 :: d34 :: d35 :: []), [], H.empty, none⟩ (retQ Try.prog W [.tmp 4] (fun v _ => v = .bool ans)) := by
  induction n using Nat.strongRecOn with
  | _ n ih =>
    intro f i  d4 d7 d8 d9 d10 d11 d12 d13 d14 d15 d16 d17 d18 d19 d20 d21 d22 d23 d24 d25 d26 d27 d28 d29 d30 d31 d32 d33 d34 d35 hn h0 h1 h2 h3 hA
    refine WpM.run tab_ok 9 ⟨.code x16_12, [.seq x16_13, .loop x16_9, .blk 0, .seq x16_26], (.str s :: .str t :: U :: U :: d4 :: .int .i64 f :: .int .i64 i :: .int .i64 i :: .str t :: .int .i64 ((t.length : Int)) :: .bool (decide (i ≤ ((t.length : Int)))) :: d11 :: d12 :: d13 :: d14 :: d15 :: d16 :: d17 :: d18 :: d19 :: d20 :: d21 :: d22 :: d23 :: d24 :: d25 :: d26 :: d27 :: d28 :: d29 :: d30 :: d31 :: d32 :: d33 :: d34 :: d35 :: []), [], H.empty, none⟩ (by kernel_rfl) ?_
    refine WpM.cond (t := (decide (i ≤ ((t.length : Int))))) (by kernel_rfl) (fun c101 => ?_) (fun c101 => ?_)
    · have c101p := dec_t c101
      refine WpM.run tab_ok 11 ⟨.ops (p16_16_5 :: o16_16.drop 6), [.seq x16_17, .blk 1, .seq x16_25, .loop x16_9, .blk 0, .seq x16_26], (.str s :: .str t :: U :: U :: d4 :: .int .i64 f :: .int .i64 i :: .int .i64 i :: .str t :: .int .i64 ((t.length : Int)) :: .bool (decide (i ≤ ((t.length : Int)))) :: d11 :: d12 :: .int .i64 i :: .str t :: .int .i64 ((t.length : Int)) :: .bool (i == ((t.length : Int))) :: .bool (i == ((t.length : Int))) :: d18 :: d19 :: d20 :: d21 :: d22 :: d23 :: d24 :: d25 :: d26 :: d27 :: d28 :: d29 :: d30 :: d31 :: d32 :: d33 :: d34 :: d35 :: []), [], H.empty, none⟩ (by kernel_rfl) ?_
      refine WpM.guard (b := (i == ((t.length : Int)))) (by kernel_rfl) (fun c102 => ?_) (fun c102 => ?_)
      · have c102p := beq_t c102
        refine WpM.run tab_ok 14 ⟨.ops (p16_20_3 :: o16_20.drop 4), [.seq x16_21, .seq x16_24, .blk 1, .seq x16_25, .loop x16_9, .blk 0, .seq x16_26], (.str s :: .str t :: U :: U :: d4 :: .int .i64 f :: .int .i64 i :: .int .i64 i :: .str t :: .int .i64 ((t.length : Int)) :: .bool (decide (i ≤ ((t.length : Int)))) :: d11 :: d12 :: .int .i64 i :: .str t :: .int .i64 ((t.length : Int)) :: .bool (i == ((t.length : Int))) :: .bool true :: U :: U :: U :: U :: .bool true :: .str t :: .int .i64 f :: .int .i64 i :: d26 :: d27 :: d28 :: d29 :: d30 :: d31 :: d32 :: d33 :: d34 :: d35 :: []), [], H.empty, none⟩ (by kernel_rfl) ?_
        refine WpM.op (.str ((t.take (i.toNat)).drop (f.toNat))) _ (by kernel_rfl) (slice_str (by kernel_rfl) (by kernel_rfl) (by kernel_rfl) (by kernel_rfl) (optNat_some (k := .i64) (n := f) (by omega)) (optNat_some (k := .i64) (n := i) (by omega)) (by simp only [Option.getD_some, Option.getD_none]; omega)) ?_
        refine WpM.run tab_ok 3 ⟨.ops (p16_20_7 :: o16_20.drop 8), [.seq x16_21, .seq x16_24, .blk 1, .seq x16_25, .loop x16_9, .blk 0, .seq x16_26], (.str s :: .str t :: U :: U :: d4 :: .int .i64 f :: .int .i64 i :: .int .i64 i :: .str t :: .int .i64 ((t.length : Int)) :: .bool (decide (i ≤ ((t.length : Int)))) :: d11 :: d12 :: .int .i64 i :: .str t :: .int .i64 ((t.length : Int)) :: .bool (i == ((t.length : Int))) :: .bool true :: U :: U :: U :: U :: .bool true :: .str t :: .int .i64 f :: .int .i64 i :: .str ((t.take (i.toNat)).drop (f.toNat)) :: .str s :: .bool (((t.take (i.toNat)).drop (f.toNat)) == s) :: .bool (((t.take (i.toNat)).drop (f.toNat)) == s) :: d30 :: d31 :: d32 :: d33 :: d34 :: d35 :: []), [], H.empty, none⟩ (by kernel_rfl) ?_
        refine WpM.guard (b := (((t.take (i.toNat)).drop (f.toNat)) == s)) (by kernel_rfl) (fun c103 => ?_) (fun c103 => ?_)
        · have c103p := beq_t c103
          refine WpM.run tab_ok 6 ⟨.code x16_21, [.seq x16_24, .blk 1, .seq x16_25, .loop x16_9, .blk 0, .seq x16_26], (.str s :: .str t :: U :: U :: d4 :: .int .i64 f :: .int .i64 i :: .int .i64 i :: .str t :: .int .i64 ((t.length : Int)) :: .bool (decide (i ≤ ((t.length : Int)))) :: d11 :: d12 :: .int .i64 i :: .str t :: .int .i64 ((t.length : Int)) :: .bool (i == ((t.length : Int))) :: .bool true :: U :: U :: U :: U :: .bool true :: .str t :: .int .i64 f :: .int .i64 i :: .str ((t.take (i.toNat)).drop (f.toNat)) :: .str s :: .bool (((t.take (i.toNat)).drop (f.toNat)) == s) :: .bool true :: .int .i64 i :: .int .i64 f :: .bool (decide (i > f)) :: .bool (decide (i > f)) :: d34 :: d35 :: []), [], H.empty, none⟩ (by kernel_rfl) ?_
          refine WpM.cond (t := (decide (i > f))) (by kernel_rfl) (fun c104 => ?_) (fun c104 => ?_)
          · have c104p := dec_t c104
            refine WpM.run tab_ok 12 ⟨.done .ret, [], (.str s :: .str t :: U :: U :: .bool true :: .int .i64 f :: .int .i64 i :: .int .i64 i :: .str t :: .int .i64 ((t.length : Int)) :: .bool (decide (i ≤ ((t.length : Int)))) :: d11 :: d12 :: .int .i64 i :: .str t :: .int .i64 ((t.length : Int)) :: .bool (i == ((t.length : Int))) :: .bool true :: U :: U :: U :: U :: .bool true :: .str t :: .int .i64 f :: .int .i64 i :: .str ((t.take (i.toNat)).drop (f.toNat)) :: .str s :: .bool (((t.take (i.toNat)).drop (f.toNat)) == s) :: .bool true :: .int .i64 i :: .int .i64 f :: .bool (decide (i > f)) :: .bool (decide (i > f)) :: d34 :: d35 :: []), [], H.empty, none⟩ (by kernel_rfl) ?_
            refine WpM.ret (.bool true) H.empty (by kernel_rfl) (by kernel_rfl) ?_
            first
              | (rw [hA, among_end h0 h1 (by assumption)]; simp only [c101, c102, c103, c104, Bool.true_and, Bool.false_and, Bool.and_true, Bool.and_false, Bool.or_false, Bool.false_or, Bool.true_or, Bool.or_true]; done)
              | (rw [hA, among_blank h0 h1 (by omega) (by assumption)]; simp only [c101, c102, c103, c104, Bool.true_and, Bool.false_and, Bool.and_true, Bool.and_false, Bool.or_false, Bool.false_or, Bool.true_or, Bool.or_true]; done)
              | (rw [hA, h3 (by omega), among_past (by omega)])
          · have c104p := dec_f c104
            refine WpM.run tab_ok 4 ⟨.ops (p16_24_1 :: o16_24.drop 2), [.blk 1, .seq x16_25, .loop x16_9, .blk 0, .seq x16_26], (.str s :: .str t :: U :: U :: d4 :: .int .i64 f :: .int .i64 i :: .int .i64 i :: .str t :: .int .i64 ((t.length : Int)) :: .bool (decide (i ≤ ((t.length : Int)))) :: d11 :: d12 :: .int .i64 i :: .str t :: .int .i64 ((t.length : Int)) :: .bool (i == ((t.length : Int))) :: .bool true :: U :: U :: U :: U :: .bool true :: .str t :: .int .i64 f :: .int .i64 i :: .str ((t.take (i.toNat)).drop (f.toNat)) :: .str s :: .bool (((t.take (i.toNat)).drop (f.toNat)) == s) :: .bool true :: .int .i64 i :: .int .i64 f :: .bool (decide (i > f)) :: .bool (decide (i > f)) :: .int .i64 i :: d35 :: []), [], H.empty, none⟩ (by kernel_rfl) ?_
            refine WpM.op (.int .i64 (i + 1)) _ (by kernel_rfl) (arith_add (by kernel_rfl) (by kernel_rfl) (by omega)) ?_
            refine WpM.run tab_ok 6 ⟨.ops (p16_25_1 :: o16_25.drop 2), [.loop x16_9, .blk 0, .seq x16_26], (.str s :: .str t :: U :: U :: d4 :: .int .i64 (i + 1) :: .int .i64 i :: .int .i64 i :: .str t :: .int .i64 ((t.length : Int)) :: .bool (decide (i ≤ ((t.length : Int)))) :: .int .i64 i :: d12 :: .int .i64 i :: .str t :: .int .i64 ((t.length : Int)) :: .bool (i == ((t.length : Int))) :: .bool true :: U :: U :: U :: U :: .bool true :: .str t :: .int .i64 f :: .int .i64 i :: .str ((t.take (i.toNat)).drop (f.toNat)) :: .str s :: .bool (((t.take (i.toNat)).drop (f.toNat)) == s) :: .bool true :: .int .i64 i :: .int .i64 f :: .bool (decide (i > f)) :: .bool (decide (i > f)) :: .int .i64 i :: .int .i64 (i + 1) :: []), [], H.empty, none⟩ (by kernel_rfl) ?_
            refine WpM.op (.int .i64 (i + 1)) _ (by kernel_rfl) (arith_add (by kernel_rfl) (by kernel_rfl) (by omega)) ?_
            refine WpM.run tab_ok 3 ⟨.code x16_9, [.loop x16_9, .blk 0, .seq x16_26], (.str s :: .str t :: U :: U :: d4 :: .int .i64 (i + 1) :: .int .i64 (i + 1) :: .int .i64 i :: .str t :: .int .i64 ((t.length : Int)) :: .bool (decide (i ≤ ((t.length : Int)))) :: .int .i64 i :: .int .i64 (i + 1) :: .int .i64 i :: .str t :: .int .i64 ((t.length : Int)) :: .bool (i == ((t.length : Int))) :: .bool true :: U :: U :: U :: U :: .bool true :: .str t :: .int .i64 f :: .int .i64 i :: .str ((t.take (i.toNat)).drop (f.toNat)) :: .str s :: .bool (((t.take (i.toNat)).drop (f.toNat)) == s) :: .bool true :: .int .i64 i :: .int .i64 f :: .bool (decide (i > f)) :: .bool (decide (i > f)) :: .int .i64 i :: .int .i64 (i + 1) :: []), [], H.empty, none⟩ (by kernel_rfl) ?_
            refine ih _ ?_ _ _  _ _ _ _ _ _ _ _ _ _ _ _ _ _ _ _ _ _ _ _ _ _ _ _ _ _ _ _ _ _ rfl ?_ ?_ ?_ ?_ ?_
            · omega
            · omega
            · omega
            · omega
            · omega
            · first
              | (rw [hA]; exact among_step h0 h1 (by omega) (by assumption))
              | (rw [hA, among_blank h0 h1 (by omega) (by assumption)]; simp only [c101, c102, c103, c104, Bool.true_and, Bool.false_and, Bool.and_true, Bool.and_false, Bool.or_false, Bool.false_or, Bool.true_or, Bool.or_true]; done)
              | (rw [hA, among_end h0 h1 (by assumption), among_past (by omega)]; simp only [c101, c102, c103, c104, Bool.true_and, Bool.false_and, Bool.and_true, Bool.and_false, Bool.or_false, Bool.false_or, Bool.true_or, Bool.or_true]; done)
        · have c103p := beq_f c103
          refine WpM.run tab_ok 11 ⟨.ops (p16_24_1 :: o16_24.drop 2), [.blk 1, .seq x16_25, .loop x16_9, .blk 0, .seq x16_26], (.str s :: .str t :: U :: U :: d4 :: .int .i64 f :: .int .i64 i :: .int .i64 i :: .str t :: .int .i64 ((t.length : Int)) :: .bool (decide (i ≤ ((t.length : Int)))) :: d11 :: d12 :: .int .i64 i :: .str t :: .int .i64 ((t.length : Int)) :: .bool (i == ((t.length : Int))) :: .bool true :: U :: U :: U :: U :: .bool true :: .str t :: .int .i64 f :: .int .i64 i :: .str ((t.take (i.toNat)).drop (f.toNat)) :: .str s :: .bool (((t.take (i.toNat)).drop (f.toNat)) == s) :: .bool false :: U :: U :: U :: .bool false :: .int .i64 i :: d35 :: []), [], H.empty, none⟩ (by kernel_rfl) ?_
          refine WpM.op (.int .i64 (i + 1)) _ (by kernel_rfl) (arith_add (by kernel_rfl) (by kernel_rfl) (by omega)) ?_
          refine WpM.run tab_ok 6 ⟨.ops (p16_25_1 :: o16_25.drop 2), [.loop x16_9, .blk 0, .seq x16_26], (.str s :: .str t :: U :: U :: d4 :: .int .i64 (i + 1) :: .int .i64 i :: .int .i64 i :: .str t :: .int .i64 ((t.length : Int)) :: .bool (decide (i ≤ ((t.length : Int)))) :: .int .i64 i :: d12 :: .int .i64 i :: .str t :: .int .i64 ((t.length : Int)) :: .bool (i == ((t.length : Int))) :: .bool true :: U :: U :: U :: U :: .bool true :: .str t :: .int .i64 f :: .int .i64 i :: .str ((t.take (i.toNat)).drop (f.toNat)) :: .str s :: .bool (((t.take (i.toNat)).drop (f.toNat)) == s) :: .bool false :: U :: U :: U :: .bool false :: .int .i64 i :: .int .i64 (i + 1) :: []), [], H.empty, none⟩ (by kernel_rfl) ?_
          refine WpM.op (.int .i64 (i + 1)) _ (by kernel_rfl) (arith_add (by kernel_rfl) (by kernel_rfl) (by omega)) ?_
          refine WpM.run tab_ok 3 ⟨.code x16_9, [.loop x16_9, .blk 0, .seq x16_26], (.str s :: .str t :: U :: U :: d4 :: .int .i64 (i + 1) :: .int .i64 (i + 1) :: .int .i64 i :: .str t :: .int .i64 ((t.length : Int)) :: .bool (decide (i ≤ ((t.length : Int)))) :: .int .i64 i :: .int .i64 (i + 1) :: .int .i64 i :: .str t :: .int .i64 ((t.length : Int)) :: .bool (i == ((t.length : Int))) :: .bool true :: U :: U :: U :: U :: .bool true :: .str t :: .int .i64 f :: .int .i64 i :: .str ((t.take (i.toNat)).drop (f.toNat)) :: .str s :: .bool (((t.take (i.toNat)).drop (f.toNat)) == s) :: .bool false :: U :: U :: U :: .bool false :: .int .i64 i :: .int .i64 (i + 1) :: []), [], H.empty, none⟩ (by kernel_rfl) ?_
          refine ih _ ?_ _ _  _ _ _ _ _ _ _ _ _ _ _ _ _ _ _ _ _ _ _ _ _ _ _ _ _ _ _ _ _ _ rfl ?_ ?_ ?_ ?_ ?_
          · omega
          · omega
          · omega
          · omega
          · omega
          · first
            | (rw [hA]; exact among_step h0 h1 (by omega) (by assumption))
            | (rw [hA, among_blank h0 h1 (by omega) (by assumption)]; simp only [c101, c102, c103, Bool.true_and, Bool.false_and, Bool.and_true, Bool.and_false, Bool.or_false, Bool.false_or, Bool.true_or, Bool.or_true]; done)
            | (rw [hA, among_end h0 h1 (by assumption), among_past (by omega)]; simp only [c101, c102, c103, Bool.true_and, Bool.false_and, Bool.and_true, Bool.and_false, Bool.or_false, Bool.false_or, Bool.true_or, Bool.or_true]; done)
      · have c102p := beq_f c102
        refine WpM.run tab_ok 2 ⟨.ops (p16_16_7 :: o16_16.drop 8), [.seq x16_17, .blk 1, .seq x16_25, .loop x16_9, .blk 0, .seq x16_26], (.str s :: .str t :: U :: U :: d4 :: .int .i64 f :: .int .i64 i :: .int .i64 i :: .str t :: .int .i64 ((t.length : Int)) :: .bool (decide (i ≤ ((t.length : Int)))) :: d11 :: d12 :: .int .i64 i :: .str t :: .int .i64 ((t.length : Int)) :: .bool (i == ((t.length : Int))) :: .bool false :: .str t :: .int .i64 i :: d20 :: d21 :: d22 :: d23 :: d24 :: d25 :: d26 :: d27 :: d28 :: d29 :: d30 :: d31 :: d32 :: d33 :: d34 :: d35 :: []), [], H.empty, none⟩ (by kernel_rfl) ?_
        refine WpM.op (.int .u8 (bt t i)) _ (by kernel_rfl) (index_str (k := .i64) (by kernel_rfl) (by kernel_rfl) (by kernel_rfl) (by omega)) ?_
        refine WpM.run tab_ok 4 ⟨.code x16_17, [.blk 1, .seq x16_25, .loop x16_9, .blk 0, .seq x16_26], (.str s :: .str t :: U :: U :: d4 :: .int .i64 f :: .int .i64 i :: .int .i64 i :: .str t :: .int .i64 ((t.length : Int)) :: .bool (decide (i ≤ ((t.length : Int)))) :: d11 :: d12 :: .int .i64 i :: .str t :: .int .i64 ((t.length : Int)) :: .bool (i == ((t.length : Int))) :: .bool false :: .str t :: .int .i64 i :: .int .u8 (bt t i) :: .bool ((bt t i) == 32) :: .bool ((bt t i) == 32) :: d23 :: d24 :: d25 :: d26 :: d27 :: d28 :: d29 :: d30 :: d31 :: d32 :: d33 :: d34 :: d35 :: []), [], H.empty, none⟩ (by kernel_rfl) ?_
        refine WpM.cond (t := ((bt t i) == 32)) (by kernel_rfl) (fun c105 => ?_) (fun c105 => ?_)
        · have c105p := beq_t c105
          refine WpM.run tab_ok 6 ⟨.ops (p16_20_3 :: o16_20.drop 4), [.seq x16_21, .seq x16_24, .blk 1, .seq x16_25, .loop x16_9, .blk 0, .seq x16_26], (.str s :: .str t :: U :: U :: d4 :: .int .i64 f :: .int .i64 i :: .int .i64 i :: .str t :: .int .i64 ((t.length : Int)) :: .bool (decide (i ≤ ((t.length : Int)))) :: d11 :: d12 :: .int .i64 i :: .str t :: .int .i64 ((t.length : Int)) :: .bool (i == ((t.length : Int))) :: .bool false :: .str t :: .int .i64 i :: .int .u8 (bt t i) :: .bool ((bt t i) == 32) :: .bool ((bt t i) == 32) :: .str t :: .int .i64 f :: .int .i64 i :: d26 :: d27 :: d28 :: d29 :: d30 :: d31 :: d32 :: d33 :: d34 :: d35 :: []), [], H.empty, none⟩ (by kernel_rfl) ?_
          refine WpM.op (.str ((t.take (i.toNat)).drop (f.toNat))) _ (by kernel_rfl) (slice_str (by kernel_rfl) (by kernel_rfl) (by kernel_rfl) (by kernel_rfl) (optNat_some (k := .i64) (n := f) (by omega)) (optNat_some (k := .i64) (n := i) (by omega)) (by simp only [Option.getD_some, Option.getD_none]; omega)) ?_
          refine WpM.run tab_ok 3 ⟨.ops (p16_20_7 :: o16_20.drop 8), [.seq x16_21, .seq x16_24, .blk 1, .seq x16_25, .loop x16_9, .blk 0, .seq x16_26], (.str s :: .str t :: U :: U :: d4 :: .int .i64 f :: .int .i64 i :: .int .i64 i :: .str t :: .int .i64 ((t.length : Int)) :: .bool (decide (i ≤ ((t.length : Int)))) :: d11 :: d12 :: .int .i64 i :: .str t :: .int .i64 ((t.length : Int)) :: .bool (i == ((t.length : Int))) :: .bool false :: .str t :: .int .i64 i :: .int .u8 (bt t i) :: .bool ((bt t i) == 32) :: .bool ((bt t i) == 32) :: .str t :: .int .i64 f :: .int .i64 i :: .str ((t.take (i.toNat)).drop (f.toNat)) :: .str s :: .bool (((t.take (i.toNat)).drop (f.toNat)) == s) :: .bool (((t.take (i.toNat)).drop (f.toNat)) == s) :: d30 :: d31 :: d32 :: d33 :: d34 :: d35 :: []), [], H.empty, none⟩ (by kernel_rfl) ?_
          refine WpM.guard (b := (((t.take (i.toNat)).drop (f.toNat)) == s)) (by kernel_rfl) (fun c106 => ?_) (fun c106 => ?_)
          · have c106p := beq_t c106
            refine WpM.run tab_ok 6 ⟨.code x16_21, [.seq x16_24, .blk 1, .seq x16_25, .loop x16_9, .blk 0, .seq x16_26], (.str s :: .str t :: U :: U :: d4 :: .int .i64 f :: .int .i64 i :: .int .i64 i :: .str t :: .int .i64 ((t.length : Int)) :: .bool (decide (i ≤ ((t.length : Int)))) :: d11 :: d12 :: .int .i64 i :: .str t :: .int .i64 ((t.length : Int)) :: .bool (i == ((t.length : Int))) :: .bool false :: .str t :: .int .i64 i :: .int .u8 (bt t i) :: .bool ((bt t i) == 32) :: .bool ((bt t i) == 32) :: .str t :: .int .i64 f :: .int .i64 i :: .str ((t.take (i.toNat)).drop (f.toNat)) :: .str s :: .bool (((t.take (i.toNat)).drop (f.toNat)) == s) :: .bool true :: .int .i64 i :: .int .i64 f :: .bool (decide (i > f)) :: .bool (decide (i > f)) :: d34 :: d35 :: []), [], H.empty, none⟩ (by kernel_rfl) ?_
            refine WpM.cond (t := (decide (i > f))) (by kernel_rfl) (fun c107 => ?_) (fun c107 => ?_)
            · have c107p := dec_t c107
              refine WpM.run tab_ok 12 ⟨.done .ret, [], (.str s :: .str t :: U :: U :: .bool true :: .int .i64 f :: .int .i64 i :: .int .i64 i :: .str t :: .int .i64 ((t.length : Int)) :: .bool (decide (i ≤ ((t.length : Int)))) :: d11 :: d12 :: .int .i64 i :: .str t :: .int .i64 ((t.length : Int)) :: .bool (i == ((t.length : Int))) :: .bool false :: .str t :: .int .i64 i :: .int .u8 (bt t i) :: .bool ((bt t i) == 32) :: .bool ((bt t i) == 32) :: .str t :: .int .i64 f :: .int .i64 i :: .str ((t.take (i.toNat)).drop (f.toNat)) :: .str s :: .bool (((t.take (i.toNat)).drop (f.toNat)) == s) :: .bool true :: .int .i64 i :: .int .i64 f :: .bool (decide (i > f)) :: .bool (decide (i > f)) :: d34 :: d35 :: []), [], H.empty, none⟩ (by kernel_rfl) ?_
              refine WpM.ret (.bool true) H.empty (by kernel_rfl) (by kernel_rfl) ?_
              first
                | (rw [hA, among_end h0 h1 (by assumption)]; simp only [c101, c102, c105, c106, c107, Bool.true_and, Bool.false_and, Bool.and_true, Bool.and_false, Bool.or_false, Bool.false_or, Bool.true_or, Bool.or_true]; done)
                | (rw [hA, among_blank h0 h1 (by omega) (by assumption)]; simp only [c101, c102, c105, c106, c107, Bool.true_and, Bool.false_and, Bool.and_true, Bool.and_false, Bool.or_false, Bool.false_or, Bool.true_or, Bool.or_true]; done)
                | (rw [hA, h3 (by omega), among_past (by omega)])
            · have c107p := dec_f c107
              refine WpM.run tab_ok 4 ⟨.ops (p16_24_1 :: o16_24.drop 2), [.blk 1, .seq x16_25, .loop x16_9, .blk 0, .seq x16_26], (.str s :: .str t :: U :: U :: d4 :: .int .i64 f :: .int .i64 i :: .int .i64 i :: .str t :: .int .i64 ((t.length : Int)) :: .bool (decide (i ≤ ((t.length : Int)))) :: d11 :: d12 :: .int .i64 i :: .str t :: .int .i64 ((t.length : Int)) :: .bool (i == ((t.length : Int))) :: .bool false :: .str t :: .int .i64 i :: .int .u8 (bt t i) :: .bool ((bt t i) == 32) :: .bool ((bt t i) == 32) :: .str t :: .int .i64 f :: .int .i64 i :: .str ((t.take (i.toNat)).drop (f.toNat)) :: .str s :: .bool (((t.take (i.toNat)).drop (f.toNat)) == s) :: .bool true :: .int .i64 i :: .int .i64 f :: .bool (decide (i > f)) :: .bool (decide (i > f)) :: .int .i64 i :: d35 :: []), [], H.empty, none⟩ (by kernel_rfl) ?_
              refine WpM.op (.int .i64 (i + 1)) _ (by kernel_rfl) (arith_add (by kernel_rfl) (by kernel_rfl) (by omega)) ?_
              refine WpM.run tab_ok 6 ⟨.ops (p16_25_1 :: o16_25.drop 2), [.loop x16_9, .blk 0, .seq x16_26], (.str s :: .str t :: U :: U :: d4 :: .int .i64 (i + 1) :: .int .i64 i :: .int .i64 i :: .str t :: .int .i64 ((t.length : Int)) :: .bool (decide (i ≤ ((t.length : Int)))) :: .int .i64 i :: d12 :: .int .i64 i :: .str t :: .int .i64 ((t.length : Int)) :: .bool (i == ((t.length : Int))) :: .bool false :: .str t :: .int .i64 i :: .int .u8 (bt t i) :: .bool ((bt t i) == 32) :: .bool ((bt t i) == 32) :: .str t :: .int .i64 f :: .int .i64 i :: .str ((t.take (i.toNat)).drop (f.toNat)) :: .str s :: .bool (((t.take (i.toNat)).drop (f.toNat)) == s) :: .bool true :: .int .i64 i :: .int .i64 f :: .bool (decide (i > f)) :: .bool (decide (i > f)) :: .int .i64 i :: .int .i64 (i + 1) :: []), [], H.empty, none⟩ (by kernel_rfl) ?_
              refine WpM.op (.int .i64 (i + 1)) _ (by kernel_rfl) (arith_add (by kernel_rfl) (by kernel_rfl) (by omega)) ?_
              refine WpM.run tab_ok 3 ⟨.code x16_9, [.loop x16_9, .blk 0, .seq x16_26], (.str s :: .str t :: U :: U :: d4 :: .int .i64 (i + 1) :: .int .i64 (i + 1) :: .int .i64 i :: .str t :: .int .i64 ((t.length : Int)) :: .bool (decide (i ≤ ((t.length : Int)))) :: .int .i64 i :: .int .i64 (i + 1) :: .int .i64 i :: .str t :: .int .i64 ((t.length : Int)) :: .bool (i == ((t.length : Int))) :: .bool false :: .str t :: .int .i64 i :: .int .u8 (bt t i) :: .bool ((bt t i) == 32) :: .bool ((bt t i) == 32) :: .str t :: .int .i64 f :: .int .i64 i :: .str ((t.take (i.toNat)).drop (f.toNat)) :: .str s :: .bool (((t.take (i.toNat)).drop (f.toNat)) == s) :: .bool true :: .int .i64 i :: .int .i64 f :: .bool (decide (i > f)) :: .bool (decide (i > f)) :: .int .i64 i :: .int .i64 (i + 1) :: []), [], H.empty, none⟩ (by kernel_rfl) ?_
              refine ih _ ?_ _ _  _ _ _ _ _ _ _ _ _ _ _ _ _ _ _ _ _ _ _ _ _ _ _ _ _ _ _ _ _ _ rfl ?_ ?_ ?_ ?_ ?_
              · omega
              · omega
              · omega
              · omega
              · omega
              · first
                | (rw [hA]; exact among_step h0 h1 (by omega) (by assumption))
                | (rw [hA, among_blank h0 h1 (by omega) (by assumption)]; simp only [c101, c102, c105, c106, c107, Bool.true_and, Bool.false_and, Bool.and_true, Bool.and_false, Bool.or_false, Bool.false_or, Bool.true_or, Bool.or_true]; done)
                | (rw [hA, among_end h0 h1 (by assumption), among_past (by omega)]; simp only [c101, c102, c105, c106, c107, Bool.true_and, Bool.false_and, Bool.and_true, Bool.and_false, Bool.or_false, Bool.false_or, Bool.true_or, Bool.or_true]; done)
          · have c106p := beq_f c106
            refine WpM.run tab_ok 11 ⟨.ops (p16_24_1 :: o16_24.drop 2), [.blk 1, .seq x16_25, .loop x16_9, .blk 0, .seq x16_26], (.str s :: .str t :: U :: U :: d4 :: .int .i64 f :: .int .i64 i :: .int .i64 i :: .str t :: .int .i64 ((t.length : Int)) :: .bool (decide (i ≤ ((t.length : Int)))) :: d11 :: d12 :: .int .i64 i :: .str t :: .int .i64 ((t.length : Int)) :: .bool (i == ((t.length : Int))) :: .bool false :: .str t :: .int .i64 i :: .int .u8 (bt t i) :: .bool ((bt t i) == 32) :: .bool ((bt t i) == 32) :: .str t :: .int .i64 f :: .int .i64 i :: .str ((t.take (i.toNat)).drop (f.toNat)) :: .str s :: .bool (((t.take (i.toNat)).drop (f.toNat)) == s) :: .bool false :: U :: U :: U :: .bool false :: .int .i64 i :: d35 :: []), [], H.empty, none⟩ (by kernel_rfl) ?_
            refine WpM.op (.int .i64 (i + 1)) _ (by kernel_rfl) (arith_add (by kernel_rfl) (by kernel_rfl) (by omega)) ?_
            refine WpM.run tab_ok 6 ⟨.ops (p16_25_1 :: o16_25.drop 2), [.loop x16_9, .blk 0, .seq x16_26], (.str s :: .str t :: U :: U :: d4 :: .int .i64 (i + 1) :: .int .i64 i :: .int .i64 i :: .str t :: .int .i64 ((t.length : Int)) :: .bool (decide (i ≤ ((t.length : Int)))) :: .int .i64 i :: d12 :: .int .i64 i :: .str t :: .int .i64 ((t.length : Int)) :: .bool (i == ((t.length : Int))) :: .bool false :: .str t :: .int .i64 i :: .int .u8 (bt t i) :: .bool ((bt t i) == 32) :: .bool ((bt t i) == 32) :: .str t :: .int .i64 f :: .int .i64 i :: .str ((t.take (i.toNat)).drop (f.toNat)) :: .str s :: .bool (((t.take (i.toNat)).drop (f.toNat)) == s) :: .bool false :: U :: U :: U :: .bool false :: .int .i64 i :: .int .i64 (i + 1) :: []), [], H.empty, none⟩ (by kernel_rfl) ?_
            refine WpM.op (.int .i64 (i + 1)) _ (by kernel_rfl) (arith_add (by kernel_rfl) (by kernel_rfl) (by omega)) ?_
            refine WpM.run tab_ok 3 ⟨.code x16_9, [.loop x16_9, .blk 0, .seq x16_26], (.str s :: .str t :: U :: U :: d4 :: .int .i64 (i + 1) :: .int .i64 (i + 1) :: .int .i64 i :: .str t :: .int .i64 ((t.length : Int)) :: .bool (decide (i ≤ ((t.length : Int)))) :: .int .i64 i :: .int .i64 (i + 1) :: .int .i64 i :: .str t :: .int .i64 ((t.length : Int)) :: .bool (i == ((t.length : Int))) :: .bool false :: .str t :: .int .i64 i :: .int .u8 (bt t i) :: .bool ((bt t i) == 32) :: .bool ((bt t i) == 32) :: .str t :: .int .i64 f :: .int .i64 i :: .str ((t.take (i.toNat)).drop (f.toNat)) :: .str s :: .bool (((t.take (i.toNat)).drop (f.toNat)) == s) :: .bool false :: U :: U :: U :: .bool false :: .int .i64 i :: .int .i64 (i + 1) :: []), [], H.empty, none⟩ (by kernel_rfl) ?_
            refine ih _ ?_ _ _  _ _ _ _ _ _ _ _ _ _ _ _ _ _ _ _ _ _ _ _ _ _ _ _ _ _ _ _ _ _ rfl ?_ ?_ ?_ ?_ ?_
            · omega
            · omega
            · omega
            · omega
            · omega
            · first
              | (rw [hA]; exact among_step h0 h1 (by omega) (by assumption))
              | (rw [hA, among_blank h0 h1 (by omega) (by assumption)]; simp only [c101, c102, c105, c106, Bool.true_and, Bool.false_and, Bool.and_true, Bool.and_false, Bool.or_false, Bool.false_or, Bool.true_or, Bool.or_true]; done)
              | (rw [hA, among_end h0 h1 (by assumption), among_past (by omega)]; simp only [c101, c102, c105, c106, Bool.true_and, Bool.false_and, Bool.and_true, Bool.and_false, Bool.or_false, Bool.false_or, Bool.true_or, Bool.or_true]; done)
        · have c105p := beq_f c105
          refine WpM.run tab_ok 5 ⟨.ops (p16_25_1 :: o16_25.drop 2), [.loop x16_9, .blk 0, .seq x16_26], (.str s :: .str t :: U :: U :: d4 :: .int .i64 f :: .int .i64 i :: .int .i64 i :: .str t :: .int .i64 ((t.length : Int)) :: .bool (decide (i ≤ ((t.length : Int)))) :: .int .i64 i :: d12 :: .int .i64 i :: .str t :: .int .i64 ((t.length : Int)) :: .bool (i == ((t.length : Int))) :: .bool false :: .str t :: .int .i64 i :: .int .u8 (bt t i) :: .bool ((bt t i) == 32) :: .bool ((bt t i) == 32) :: d23 :: d24 :: d25 :: d26 :: d27 :: d28 :: d29 :: d30 :: d31 :: d32 :: d33 :: d34 :: d35 :: []), [], H.empty, none⟩ (by kernel_rfl) ?_
          refine WpM.op (.int .i64 (i + 1)) _ (by kernel_rfl) (arith_add (by kernel_rfl) (by kernel_rfl) (by omega)) ?_
          refine WpM.run tab_ok 3 ⟨.code x16_9, [.loop x16_9, .blk 0, .seq x16_26], (.str s :: .str t :: U :: U :: d4 :: .int .i64 f :: .int .i64 (i + 1) :: .int .i64 i :: .str t :: .int .i64 ((t.length : Int)) :: .bool (decide (i ≤ ((t.length : Int)))) :: .int .i64 i :: .int .i64 (i + 1) :: .int .i64 i :: .str t :: .int .i64 ((t.length : Int)) :: .bool (i == ((t.length : Int))) :: .bool false :: .str t :: .int .i64 i :: .int .u8 (bt t i) :: .bool ((bt t i) == 32) :: .bool ((bt t i) == 32) :: d23 :: d24 :: d25 :: d26 :: d27 :: d28 :: d29 :: d30 :: d31 :: d32 :: d33 :: d34 :: d35 :: []), [], H.empty, none⟩ (by kernel_rfl) ?_
          refine ih _ ?_ _ _  _ _ _ _ _ _ _ _ _ _ _ _ _ _ _ _ _ _ _ _ _ _ _ _ _ _ _ _ _ _ rfl ?_ ?_ ?_ ?_ ?_
          · omega
          · omega
          · omega
          · omega
          · omega
          · first
            | (rw [hA]; exact among_step h0 h1 (by omega) (by assumption))
            | (rw [hA, among_blank h0 h1 (by omega) (by assumption)]; simp only [c101, c102, c105, Bool.true_and, Bool.false_and, Bool.and_true, Bool.and_false, Bool.or_false, Bool.false_or, Bool.true_or, Bool.or_true]; done)
            | (rw [hA, among_end h0 h1 (by assumption), among_past (by omega)]; simp only [c101, c102, c105, Bool.true_and, Bool.false_and, Bool.and_true, Bool.and_false, Bool.or_false, Bool.false_or, Bool.true_or, Bool.or_true]; done)
    · have c101p := dec_f c101
      refine WpM.run tab_ok 11 ⟨.done .ret, [], (.str s :: .str t :: U :: U :: .bool false :: .int .i64 f :: .int .i64 i :: .int .i64 i :: .str t :: .int .i64 ((t.length : Int)) :: .bool (decide (i ≤ ((t.length : Int)))) :: d11 :: d12 :: d13 :: d14 :: d15 :: d16 :: d17 :: d18 :: d19 :: d20 :: d21 :: d22 :: d23 :: d24 :: d25 :: d26 :: d27 :: d28 :: d29 :: d30 :: d31 :: d32 :: d33 :: d34 :: d35 :: []), [], H.empty, none⟩ (by kernel_rfl) ?_
      refine WpM.ret (.bool false) H.empty (by kernel_rfl) (by kernel_rfl) ?_
      first
        | (rw [hA, among_end h0 h1 (by assumption)]; simp only [c101, Bool.true_and, Bool.false_and, Bool.and_true, Bool.and_false, Bool.or_false, Bool.false_or, Bool.true_or, Bool.or_true]; done)
        | (rw [hA, among_blank h0 h1 (by omega) (by assumption)]; simp only [c101, Bool.true_and, Bool.false_and, Bool.and_true, Bool.and_false, Bool.or_false, Bool.false_or, Bool.true_or, Bool.or_true]; done)
        | (rw [hA, h3 (by omega), among_past (by omega)])
theorem among_ok {W : World} {s t : List UInt8} (ht : t.length ≤ 140737488355328) : WpF Try.prog W prim0 16 [.str s, .str t] H.empty (fun v _ => v = .bool (among s t)) := by
  refine WpF.m tab_ok (by kernel_rfl) rfl ?_
  refine WpM.cfg (c' := ⟨.code x16_0, [], (.str s :: .str t :: us 34), [], H.empty, none⟩) (by kernel_rfl) ?_
  refine WpM.run tab_ok 18 ⟨.code x16_9, [.loop x16_9, .blk 0, .seq x16_26], (.str s :: .str t :: U :: U :: .bool false :: .int .i64 0 :: .int .i64 0 :: us 29), [], H.empty, none⟩ (by kernel_rfl) ?_
  exact among_loop ht _ 0 0 _ _ _ _ _ _ _ _ _ _ _ _ _ _ _ _ _ _ _ _ _ _ _ _ _ _ _ _ _ _ rfl (by omega) (by omega) (by omega) (by omega) (by rw [amongAt_start])
def q16 (l : List V) : Option V :=
  match l with
  | [.str s, .str t] => if t.length ≤ 140737488355328 then some (.bool (among s t)) else none
  | _ => none
def prim1 : FuncId → Option (List V → H → Option (V × H)) := setPrim prim0 16 q16
theorem prim1s (W : World) (hW : WOK W) : Prims Try.prog W prim1 := by
  refine Prims.add base (prim0s W hW) ⟨_, _, Try.func16, rfl⟩ ?_
  intro w _ args v h
  unfold q16 at h
  split at h
  · split at h
    · rename_i hc; injection h with h; subst h; exact ⟨by simp only [old_cons, old_nil, old_int, old_str, old_bool, old_agg, old_tup, old_nils, Bool.and_true, Bool.true_and, hc], by simp only [old_cons, old_nil, old_int, old_str, old_bool, old_agg, old_tup, old_nils, Bool.and_true, Bool.true_and, hc], among_ok hc⟩
    · cases h
  · cases h
def prim2 : FuncId → Option (List V → H → Option (V × H)) := setPrimH prim1 22 (insAns 3)
theorem prim2s (W : World) (hW : WOK W) : Prims Try.prog W prim2 :=
  Prims.addH (prim1s W hW) ⟨_, _, Try.func22, rfl⟩ (fun _ _ _ _ h => insAns_nx h) (fun W0 w μ h _ hr args v h' hs args' hA => ins_spec (ρ := insRen) Try.insLays hr hs hA)
def q6 (l : List V) : Option V :=
  match l with
  | [] => some (.bool true)
  | _ => none
def prim3 : FuncId → Option (List V → H → Option (V × H)) := setPrim prim2 6 q6
theorem prim3s (W : World) (hW : WOK W) : Prims Try.prog W prim3 := by
  refine Prims.add base (prim2s W hW) ⟨_, _, Try.func6, rfl⟩ ?_
  intro w _ args v h
  unfold q6 at h
  split at h
  · injection h with h; subst h; exact ⟨by simp only [old_cons, old_nil, old_int, old_str, old_bool, old_agg, old_tup, old_nils, Bool.and_true, Bool.true_and], by simp only [old_cons, old_nil, old_int, old_str, old_bool, old_agg, old_tup, old_nils, Bool.and_true, Bool.true_and], WpF.found (n := 120) (by kernel_rfl)⟩
  · cases h
theorem am_k_tabletbodytfoottheadtr (s : List UInt8) : among s k_tabletbodytfoottheadtr = (s == k_table || (s == k_tbody || (s == k_tfoot || (s == k_thead || s == k_tr)))) := by
  unfold among
  rw [show words k_tabletbodytfoottheadtr = [k_table, k_tbody, k_tfoot, k_thead, k_tr] from by kernel_rfl]
  simp only [List.any_cons, List.any_nil, Bool.or_false]
end Go.Proofs.Ytcjmklbfaoionaa.Dg
