/-
  Names and modes: what a token ends, as the code tells it.
-/
import Derived.Test.YtanjaiaofcjcgaaChecked
import Derived.Test.YtanjaiaofcjcgaaDgS26
set_option linter.unusedVariables false
set_option linter.unusedSimpArgs false
namespace Go.Proofs.Ytanjaiaofcjcgaa.Dg
open Go Go.RowKit
set_option maxRecDepth 10000
theorem base : Base Try.prog := ⟨by kernel_rfl, by kernel_rfl⟩
theorem sz3 : sizeOf Try.prog 3 = some 1 := by kernel_rfl
theorem ag3 : isAgg Try.prog 3 = some false := by kernel_rfl
theorem sz4 : sizeOf Try.prog 4 = some 1 := by kernel_rfl
theorem ag4 : isAgg Try.prog 4 = some false := by kernel_rfl
theorem sz9 : sizeOf Try.prog 9 = some 1 := by kernel_rfl
theorem ag9 : isAgg Try.prog 9 = some false := by kernel_rfl
theorem sz30 : sizeOf Try.prog 30 = some 8 := by kernel_rfl
theorem ag30 : isAgg Try.prog 30 = some true := by kernel_rfl
/-- taffrail/taffraillaw21.ModesNested -/
def x6 : RC :=
  (.seq (.ops [⟨none, some 1, .box 30 (.tmp 0)⟩,
    ⟨none, some 2, .assign (.const (.bool false))⟩])
  (.seq (.seq (.ops [⟨none, some 7, .fieldAddr 30 (.tmp 1) 2⟩,
    ⟨none, some 8, .load 9 (.tmp 7)⟩,
    ⟨none, some 9, .call ⟨.builtin .len, #[.tmp 8], #[9]⟩⟩,
    ⟨none, some 10, .binOp .gtr 3 (.tmp 9) (.const (.int .i64 (5000))) 3⟩])
  (.cond (.tmp 10)
    (.seq (.ops [⟨none, some 11, .call ⟨.value (.func 7), #[], #[]⟩⟩,
      ⟨none, some 2, .assign (.tmp 11)⟩])
    .ret)
    .skip))
  (.seq (.draw [(0, ⟨none, some 12, .load 30 (.tmp 1)⟩),
    (1, ⟨none, some 13, .call ⟨.value (.func 10), #[.const (.int .i64 (11)), .tmp 12], #[3, 30]⟩⟩),
    (2, ⟨none, some 14, .load 30 (.tmp 1)⟩),
    (3, ⟨none, some 15, .call ⟨.value (.func 10), #[.const (.int .i64 (12)), .tmp 14], #[3, 30]⟩⟩),
    (4, ⟨none, some 16, .load 30 (.tmp 1)⟩),
    (5, ⟨none, some 17, .call ⟨.value (.func 10), #[.const (.int .i64 (13)), .tmp 16], #[3, 30]⟩⟩),
    (6, ⟨none, some 18, .load 30 (.tmp 1)⟩),
    (7, ⟨none, some 19, .call ⟨.value (.func 10), #[.const (.int .i64 (9)), .tmp 18], #[3, 30]⟩⟩),
    (8, ⟨none, some 3, .assign (.tmp 13)⟩),
    (9, ⟨none, some 4, .assign (.tmp 15)⟩),
    (10, ⟨none, some 5, .assign (.tmp 17)⟩),
    (11, ⟨none, some 6, .assign (.tmp 19)⟩)]
    [0, 1, 0, 7, 0, 31, 0, 127, 255, 511, 1023, 2047])
  (.seq (.ops [⟨none, some 20, .move (.tmp 3)⟩,
    ⟨none, some 21, .unOp .not 4 (.tmp 20)⟩,
    ⟨none, some 22, .move (.tmp 21)⟩,
    ⟨some (some 22, false), some 23, .move (.tmp 4)⟩,
    ⟨none, some 24, .pick (.tmp 22) (.const (.bool true)) (.tmp 23)⟩,
    ⟨none, some 25, .move (.tmp 24)⟩,
    ⟨some (some 25, true), some 26, .move (.tmp 4)⟩,
    ⟨some (some 25, true), some 27, .unOp .not 4 (.tmp 26)⟩,
    ⟨some (some 25, true), some 28, .move (.tmp 27)⟩,
    ⟨some (some 28, false), some 29, .move (.tmp 5)⟩,
    ⟨some (some 25, true), some 30, .pick (.tmp 28) (.const (.bool true)) (.tmp 29)⟩,
    ⟨none, some 31, .pick (.tmp 25) (.tmp 30) (.const (.bool false))⟩,
    ⟨none, some 32, .move (.tmp 31)⟩,
    ⟨some (some 32, true), some 33, .move (.tmp 6)⟩,
    ⟨some (some 32, true), some 34, .unOp .not 4 (.tmp 33)⟩,
    ⟨some (some 32, true), some 35, .move (.tmp 34)⟩,
    ⟨some (some 35, false), some 36, .move (.tmp 5)⟩,
    ⟨some (some 32, true), some 37, .pick (.tmp 35) (.const (.bool true)) (.tmp 36)⟩,
    ⟨none, some 38, .pick (.tmp 32) (.tmp 37) (.const (.bool false))⟩,
    ⟨none, some 39, .move (.tmp 38)⟩,
    ⟨some (some 39, true), some 40, .move (.tmp 4)⟩,
    ⟨some (some 39, true), some 41, .unOp .not 4 (.tmp 40)⟩,
    ⟨some (some 39, true), some 42, .move (.tmp 41)⟩,
    ⟨some (some 42, false), some 43, .move (.tmp 6)⟩,
    ⟨some (some 39, true), some 44, .pick (.tmp 42) (.const (.bool true)) (.tmp 43)⟩,
    ⟨none, some 45, .pick (.tmp 39) (.tmp 44) (.const (.bool false))⟩,
    ⟨none, some 46, .move (.tmp 45)⟩,
    ⟨some (some 46, true), some 47, .call ⟨.value (.func 7), #[], #[]⟩⟩,
    ⟨none, some 48, .pick (.tmp 46) (.tmp 47) (.const (.bool false))⟩,
    ⟨none, some 2, .assign (.tmp 48)⟩])
  .ret))))
 theorem x6_eq : Try.f6.body.map rc = some x6 := by kernel_rfl
 theorem w6 {W : World} {prim : FuncId → Option (List V → H → Option (V × H))} {args : List V} {h : H} {K : V → H → Prop} (hp : prim 6 = none) (w : WpX Try.prog W prim none x6 (retQ Try.prog W [.tmp 2] K) ⟨args ++ List.replicate (49 - args.length) .undef, [], h⟩) : WpF Try.prog W prim 6 args h K :=
  WpF.x hp Try.func6 rfl rfl x6_eq w

/-- taffrail/modes.Closes -/
def x10 : RC :=
  (.seq (.ops [⟨none, some 3, .box 30 (.tmp 1)⟩,
    ⟨none, some 4, .assign (.const (.bool false))⟩])
  (.seq (.draw [(0, ⟨none, some 8, .fieldAddr 30 (.tmp 3) 0⟩),
    (1, ⟨none, some 9, .load 3 (.tmp 8)⟩),
    (2, ⟨none, some 10, .binOp .eql 3 (.tmp 9) (.const (.int .i64 (2))) 3⟩),
    (3, ⟨none, some 11, .fieldAddr 30 (.tmp 3) 0⟩),
    (4, ⟨none, some 12, .load 3 (.tmp 11)⟩),
    (5, ⟨none, some 13, .binOp .eql 3 (.tmp 12) (.const (.int .i64 (3))) 3⟩),
    (6, ⟨none, some 5, .assign (.tmp 10)⟩),
    (7, ⟨none, some 6, .assign (.tmp 13)⟩)]
    [0, 1, 3, 0, 8, 24, 7, 127])
  (.seq (.ops [⟨none, some 14, .move (.tmp 5)⟩,
    ⟨none, some 15, .move (.tmp 14)⟩,
    ⟨some (some 15, true), some 16, .fieldAddr 30 (.tmp 3) 2⟩,
    ⟨some (some 15, true), some 17, .load 9 (.tmp 16)⟩,
    ⟨some (some 15, true), some 18, .binOp .eql 9 (.tmp 17) (.const (.string ⟨#[99, 97, 112, 116, 105, 111, 110]⟩)) 9⟩,
    ⟨some (some 15, true), some 19, .move (.tmp 18)⟩,
    ⟨some (some 19, false), some 20, .fieldAddr 30 (.tmp 3) 2⟩,
    ⟨some (some 19, false), some 21, .load 9 (.tmp 20)⟩,
    ⟨some (some 19, false), some 22, .binOp .eql 9 (.tmp 21) (.const (.string ⟨#[99, 111, 108]⟩)) 9⟩,
    ⟨some (some 15, true), some 23, .pick (.tmp 19) (.const (.bool true)) (.tmp 22)⟩,
    ⟨some (some 15, true), some 24, .move (.tmp 23)⟩,
    ⟨some (some 24, false), some 25, .fieldAddr 30 (.tmp 3) 2⟩,
    ⟨some (some 24, false), some 26, .load 9 (.tmp 25)⟩,
    ⟨some (some 24, false), some 27, .binOp .eql 9 (.tmp 26) (.const (.string ⟨#[99, 111, 108, 103, 114, 111, 117, 112]⟩)) 9⟩,
    ⟨some (some 15, true), some 28, .pick (.tmp 24) (.const (.bool true)) (.tmp 27)⟩,
    ⟨some (some 15, true), some 29, .move (.tmp 28)⟩,
    ⟨some (some 29, false), some 30, .fieldAddr 30 (.tmp 3) 2⟩,
    ⟨some (some 29, false), some 31, .load 9 (.tmp 30)⟩,
    ⟨some (some 29, false), some 32, .call ⟨.value (.func 14), #[.tmp 31], #[9]⟩⟩,
    ⟨some (some 15, true), some 33, .pick (.tmp 29) (.const (.bool true)) (.tmp 32)⟩,
    ⟨none, some 34, .pick (.tmp 15) (.tmp 33) (.const (.bool false))⟩,
    ⟨none, some 35, .move (.tmp 34)⟩,
    ⟨some (some 35, false), some 36, .move (.tmp 6)⟩,
    ⟨some (some 35, false), some 37, .move (.tmp 36)⟩,
    ⟨some (some 37, true), some 38, .fieldAddr 30 (.tmp 3) 2⟩,
    ⟨some (some 37, true), some 39, .load 9 (.tmp 38)⟩,
    ⟨some (some 37, true), some 40, .binOp .eql 9 (.tmp 39) (.const (.string ⟨#[116, 97, 98, 108, 101]⟩)) 9⟩,
    ⟨some (some 35, false), some 41, .pick (.tmp 37) (.tmp 40) (.const (.bool false))⟩,
    ⟨none, some 42, .pick (.tmp 35) (.const (.bool true)) (.tmp 41)⟩,
    ⟨none, some 7, .assign (.tmp 42)⟩])
  (.seq (.seq (.ops [⟨none, some 43, .move (.tmp 0)⟩])
  (.block 0
    (.seq (.block 4
      (.seq (.block 3
        (.seq (.block 2
          (.seq (.block 1
            (.seq (.seq (.seq (.ops [⟨none, some 45, .binOp .eql 3 (.tmp 43) (.const (.int .i64 (13))) 3⟩,
              ⟨none, some 44, .assign (.tmp 45)⟩])
            (.cond (.tmp 44)
              (.exit 1)
              .skip))
            (.seq (.seq (.ops [⟨none, some 47, .binOp .eql 3 (.tmp 43) (.const (.int .i64 (9))) 3⟩,
              ⟨none, some 46, .assign (.tmp 47)⟩])
            (.cond (.tmp 46)
              (.exit 2)
              .skip))
            (.seq (.seq (.ops [⟨none, some 49, .binOp .eql 3 (.tmp 43) (.const (.int .i64 (12))) 3⟩,
              ⟨none, some 48, .assign (.tmp 49)⟩])
            (.cond (.tmp 48)
              (.exit 3)
              .skip))
            (.seq (.ops [⟨none, some 51, .binOp .eql 3 (.tmp 43) (.const (.int .i64 (11))) 3⟩,
              ⟨none, some 50, .assign (.tmp 51)⟩])
            (.cond (.tmp 50)
              (.exit 4)
              .skip)))))
            (.exit 0)))
          (.seq (.ops [⟨none, some 52, .move (.tmp 6)⟩,
            ⟨none, some 53, .move (.tmp 52)⟩,
            ⟨some (some 53, true), some 54, .fieldAddr 30 (.tmp 3) 2⟩,
            ⟨some (some 53, true), some 55, .load 9 (.tmp 54)⟩,
            ⟨some (some 53, true), some 56, .call ⟨.value (.func 14), #[.tmp 55], #[9]⟩⟩,
            ⟨some (some 53, true), some 57, .move (.tmp 56)⟩,
            ⟨some (some 57, false), some 58, .fieldAddr 30 (.tmp 3) 2⟩,
            ⟨some (some 57, false), some 59, .load 9 (.tmp 58)⟩,
            ⟨some (some 57, false), some 60, .binOp .eql 9 (.tmp 59) (.const (.string ⟨#[116, 114]⟩)) 9⟩,
            ⟨some (some 53, true), some 61, .pick (.tmp 57) (.const (.bool true)) (.tmp 60)⟩,
            ⟨none, some 62, .pick (.tmp 53) (.tmp 61) (.const (.bool false))⟩])
          (.cond (.tmp 62)
            (.seq (.ops [⟨none, some 4, .assign (.const (.bool true))⟩])
            .ret)
            .skip))))
        (.seq (.ops [⟨none, some 63, .move (.tmp 5)⟩,
          ⟨none, some 64, .move (.tmp 63)⟩,
          ⟨some (some 64, true), some 65, .fieldAddr 30 (.tmp 3) 2⟩,
          ⟨some (some 64, true), some 66, .load 9 (.tmp 65)⟩,
          ⟨some (some 64, true), some 67, .call ⟨.value (.func 12), #[.tmp 66], #[9]⟩⟩,
          ⟨none, some 68, .pick (.tmp 64) (.tmp 67) (.const (.bool false))⟩])
        (.cond (.tmp 68)
          (.seq (.ops [⟨none, some 4, .assign (.const (.bool true))⟩])
          .ret)
          .skip))))
      (.seq (.ops [⟨none, some 69, .move (.tmp 5)⟩,
        ⟨none, some 70, .move (.tmp 69)⟩,
        ⟨some (some 70, true), some 71, .fieldAddr 30 (.tmp 3) 2⟩,
        ⟨some (some 70, true), some 72, .load 9 (.tmp 71)⟩,
        ⟨some (some 70, true), some 73, .binOp .eql 9 (.tmp 72) (.const (.string ⟨#[116, 114]⟩)) 9⟩,
        ⟨none, some 74, .pick (.tmp 70) (.tmp 73) (.const (.bool false))⟩])
      (.cond (.tmp 74)
        (.seq (.ops [⟨none, some 4, .assign (.const (.bool true))⟩])
        .ret)
        .skip))))
    (.seq (.seq (.ops [⟨none, some 75, .move (.tmp 7)⟩,
      ⟨none, some 4, .assign (.tmp 75)⟩])
    .ret)
    (.exit 0)))))
  (.seq (.ops [⟨none, some 4, .assign (.const (.bool false))⟩])
  .ret)))))
 theorem x10_eq : Try.f10.body.map rc = some x10 := by kernel_rfl
 theorem w10 {W : World} {prim : FuncId → Option (List V → H → Option (V × H))} {args : List V} {h : H} {K : V → H → Prop} (hp : prim 10 = none) (w : WpX Try.prog W prim none x10 (retQ Try.prog W [.tmp 4] K) ⟨args ++ List.replicate (76 - args.length) .undef, [], h⟩) : WpF Try.prog W prim 10 args h K :=
  WpF.x hp Try.func10 rfl rfl x10_eq w

/-- taffrail/modes.Cell -/
def x12 : RC :=
  (.seq (.ops [⟨none, some 2, .assign (.const (.bool false))⟩])
  (.seq (.ops [⟨none, some 3, .move (.tmp 0)⟩,
    ⟨none, some 4, .binOp .eql 9 (.tmp 3) (.const (.string ⟨#[116, 100]⟩)) 9⟩,
    ⟨none, some 5, .move (.tmp 4)⟩,
    ⟨some (some 5, false), some 6, .move (.tmp 0)⟩,
    ⟨some (some 5, false), some 7, .binOp .eql 9 (.tmp 6) (.const (.string ⟨#[116, 104]⟩)) 9⟩,
    ⟨none, some 8, .pick (.tmp 5) (.const (.bool true)) (.tmp 7)⟩,
    ⟨none, some 2, .assign (.tmp 8)⟩])
  .ret))
 theorem x12_eq : Try.f12.body.map rc = some x12 := by kernel_rfl
 theorem w12 {W : World} {prim : FuncId → Option (List V → H → Option (V × H))} {args : List V} {h : H} {K : V → H → Prop} (hp : prim 12 = none) (w : WpX Try.prog W prim none x12 (retQ Try.prog W [.tmp 2] K) ⟨args ++ List.replicate (9 - args.length) .undef, [], h⟩) : WpF Try.prog W prim 12 args h K :=
  WpF.x hp Try.func12 rfl rfl x12_eq w

/-- taffrail/modes.Rows -/
def x14 : RC :=
  (.seq (.ops [⟨none, some 2, .assign (.const (.bool false))⟩])
  (.seq (.ops [⟨none, some 3, .move (.tmp 0)⟩,
    ⟨none, some 4, .binOp .eql 9 (.tmp 3) (.const (.string ⟨#[116, 98, 111, 100, 121]⟩)) 9⟩,
    ⟨none, some 5, .move (.tmp 4)⟩,
    ⟨some (some 5, false), some 6, .move (.tmp 0)⟩,
    ⟨some (some 5, false), some 7, .binOp .eql 9 (.tmp 6) (.const (.string ⟨#[116, 104, 101, 97, 100]⟩)) 9⟩,
    ⟨none, some 8, .pick (.tmp 5) (.const (.bool true)) (.tmp 7)⟩,
    ⟨none, some 9, .move (.tmp 8)⟩,
    ⟨some (some 9, false), some 10, .move (.tmp 0)⟩,
    ⟨some (some 9, false), some 11, .binOp .eql 9 (.tmp 10) (.const (.string ⟨#[116, 102, 111, 111, 116]⟩)) 9⟩,
    ⟨none, some 12, .pick (.tmp 9) (.const (.bool true)) (.tmp 11)⟩,
    ⟨none, some 2, .assign (.tmp 12)⟩])
  .ret))
 theorem x14_eq : Try.f14.body.map rc = some x14 := by kernel_rfl
 theorem w14 {W : World} {prim : FuncId → Option (List V → H → Option (V × H))} {args : List V} {h : H} {K : V → H → Prop} (hp : prim 14 = none) (w : WpX Try.prog W prim none x14 (retQ Try.prog W [.tmp 2] K) ⟨args ++ List.replicate (13 - args.length) .undef, [], h⟩) : WpF Try.prog W prim 14 args h K :=
  WpF.x hp Try.func14 rfl rfl x14_eq w


def cellM (s : List UInt8) : Bool := s == [116, 100] || s == [116, 104]
def rowsM (s : List UInt8) : Bool := s == [116, 98, 111, 100, 121] || (s == [116, 104, 101, 97, 100] || s == [116, 102, 111, 111, 116])
theorem ok12 {W : World} {s : List UInt8} {h : H} {prim : FuncId → Option (List V → H → Option (V × H))} (hp : prim 12 = none) : WpF Try.prog W prim 12 [.str s] h (fun v _ => v = .bool (cellM s)) := by
  refine w12 (by first | exact hp | rfl) ?_
  simp only [List.length_cons, List.length_nil, List.replicate, List.cons_append, List.nil_append, x12]
  repeat' first
    | intro hg
    | with_reducible apply WpX.seq
    | with_reducible apply WpX.block
    | with_reducible apply WpX.ops
    | with_reducible apply WpX.draw
    | with_reducible apply WpRs.done
    | with_reducible apply WpDs.done
    | with_reducible apply thenQ_norm
    | with_reducible apply thenQ_ret
    | with_reducible apply thenQ_exit
    | with_reducible apply blockQ_here
    | with_reducible apply blockQ_ret
    | with_reducible apply blockQ_norm
    | ((with_reducible apply blockQ_on); (focus rfl))
    | with_reducible apply WpX.ret
    | ((with_reducible apply retQ_ret); (focus rfl); (focus rfl))
    | with_reducible apply WpX.exit
    | with_reducible apply WpX.skip
    | ((with_reducible apply WpRs.set); (focus (simp only [rg, opStep, ev, evL, evO, evP, lift, lift1, liftL, Res.pure, Res.of, Res.unit, Dg.binOp, Dg.strOp, Dg.intOp, Dg.unOp, Dg.eqOp, builtinOp, List.getD_cons_zero, List.getD_cons_succ, List.getElem?_cons_zero, List.getElem?_cons_succ, List.set_cons_zero, List.set_cons_succ, Bool.false_eq_true, if_true, if_false, cells_agg, cells_int, cells_bool, cells_str, cells_ptr, cells_slice, cells_map, V.undef, List.all_cons, List.all_nil, one_int, one_bool, one_str, one_ptr, one_slice, one_map, one_fn, one_nilfn, Bool.and_true, Bool.true_and, Bool.not_true, Bool.not_false, beq_self_eq_true, bTF, bFT, bFF, bTT, get_alloc, get_put, nx_empty, H.nx_alloc, H.nx_put, ldVar, ldCells, Ad.add, List.drop_zero, List.drop_succ_cons, List.take_succ_cons, List.take_zero, List.length_cons, List.length_nil, List.getElem?_toArray, Nat.add_zero, Nat.zero_add, Nat.reduceAdd, Nat.reduceMul, Nat.reduceLeDiff, Nat.reduceSub, Nat.reduceEqDiff, Nat.reduceLT, Nat.succ_ne_zero, reduceCtorEq, Try.underlying3, Try.underlying4, Try.underlying9, Try.underlying30, sz3, sz4, sz9, sz30, ag3, ag4, ag9, ag30, *]; done)); (focus (simp only [rg, opStep, ev, evL, evO, evP, lift, lift1, liftL, Res.pure, Res.of, Res.unit, Dg.binOp, Dg.strOp, Dg.intOp, Dg.unOp, Dg.eqOp, builtinOp, List.getD_cons_zero, List.getD_cons_succ, List.getElem?_cons_zero, List.getElem?_cons_succ, List.set_cons_zero, List.set_cons_succ, Bool.false_eq_true, if_true, if_false, cells_agg, cells_int, cells_bool, cells_str, cells_ptr, cells_slice, cells_map, V.undef, List.all_cons, List.all_nil, one_int, one_bool, one_str, one_ptr, one_slice, one_map, one_fn, one_nilfn, Bool.and_true, Bool.true_and, Bool.not_true, Bool.not_false, beq_self_eq_true, bTF, bFT, bFF, bTT, get_alloc, get_put, nx_empty, H.nx_alloc, H.nx_put, ldVar, ldCells, Ad.add, List.drop_zero, List.drop_succ_cons, List.take_succ_cons, List.take_zero, List.length_cons, List.length_nil, List.getElem?_toArray, Nat.add_zero, Nat.zero_add, Nat.reduceAdd, Nat.reduceMul, Nat.reduceLeDiff, Nat.reduceSub, Nat.reduceEqDiff, Nat.reduceLT, Nat.succ_ne_zero, reduceCtorEq, Try.underlying3, Try.underlying4, Try.underlying9, Try.underlying30, sz3, sz4, sz9, sz30, ag3, ag4, ag9, ag30, *]; first | done | with_reducible rfl)); (focus (simp only [List.set_cons_zero, List.set_cons_succ]; first | done | with_reducible rfl)))
    | ((with_reducible apply WpRs.off); (focus (simp only [rg, opStep, ev, evL, evO, evP, lift, lift1, liftL, Res.pure, Res.of, Res.unit, Dg.binOp, Dg.strOp, Dg.intOp, Dg.unOp, Dg.eqOp, builtinOp, List.getD_cons_zero, List.getD_cons_succ, List.getElem?_cons_zero, List.getElem?_cons_succ, List.set_cons_zero, List.set_cons_succ, Bool.false_eq_true, if_true, if_false, cells_agg, cells_int, cells_bool, cells_str, cells_ptr, cells_slice, cells_map, V.undef, List.all_cons, List.all_nil, one_int, one_bool, one_str, one_ptr, one_slice, one_map, one_fn, one_nilfn, Bool.and_true, Bool.true_and, Bool.not_true, Bool.not_false, beq_self_eq_true, bTF, bFT, bFF, bTT, get_alloc, get_put, nx_empty, H.nx_alloc, H.nx_put, ldVar, ldCells, Ad.add, List.drop_zero, List.drop_succ_cons, List.take_succ_cons, List.take_zero, List.length_cons, List.length_nil, List.getElem?_toArray, Nat.add_zero, Nat.zero_add, Nat.reduceAdd, Nat.reduceMul, Nat.reduceLeDiff, Nat.reduceSub, Nat.reduceEqDiff, Nat.reduceLT, Nat.succ_ne_zero, reduceCtorEq, Try.underlying3, Try.underlying4, Try.underlying9, Try.underlying30, sz3, sz4, sz9, sz30, ag3, ag4, ag9, ag30, *]; done)); (focus (simp only [List.set_cons_zero, List.set_cons_succ]; first | done | with_reducible rfl)))
    | ((with_reducible apply WpRs.callSet); (focus (simp only [rg, opStep, ev, evL, evO, evP, lift, lift1, liftL, Res.pure, Res.of, Res.unit, Dg.binOp, Dg.strOp, Dg.intOp, Dg.unOp, Dg.eqOp, builtinOp, List.getD_cons_zero, List.getD_cons_succ, List.getElem?_cons_zero, List.getElem?_cons_succ, List.set_cons_zero, List.set_cons_succ, Bool.false_eq_true, if_true, if_false, cells_agg, cells_int, cells_bool, cells_str, cells_ptr, cells_slice, cells_map, V.undef, List.all_cons, List.all_nil, one_int, one_bool, one_str, one_ptr, one_slice, one_map, one_fn, one_nilfn, Bool.and_true, Bool.true_and, Bool.not_true, Bool.not_false, beq_self_eq_true, bTF, bFT, bFF, bTT, get_alloc, get_put, nx_empty, H.nx_alloc, H.nx_put, ldVar, ldCells, Ad.add, List.drop_zero, List.drop_succ_cons, List.take_succ_cons, List.take_zero, List.length_cons, List.length_nil, List.getElem?_toArray, Nat.add_zero, Nat.zero_add, Nat.reduceAdd, Nat.reduceMul, Nat.reduceLeDiff, Nat.reduceSub, Nat.reduceEqDiff, Nat.reduceLT, Nat.succ_ne_zero, reduceCtorEq, Try.underlying3, Try.underlying4, Try.underlying9, Try.underlying30, sz3, sz4, sz9, sz30, ag3, ag4, ag9, ag30, *]; done)); (focus (simp only [rg, opStep, ev, evL, evO, evP, lift, lift1, liftL, Res.pure, Res.of, Res.unit, Dg.binOp, Dg.strOp, Dg.intOp, Dg.unOp, Dg.eqOp, builtinOp, List.getD_cons_zero, List.getD_cons_succ, List.getElem?_cons_zero, List.getElem?_cons_succ, List.set_cons_zero, List.set_cons_succ, Bool.false_eq_true, if_true, if_false, cells_agg, cells_int, cells_bool, cells_str, cells_ptr, cells_slice, cells_map, V.undef, List.all_cons, List.all_nil, one_int, one_bool, one_str, one_ptr, one_slice, one_map, one_fn, one_nilfn, Bool.and_true, Bool.true_and, Bool.not_true, Bool.not_false, beq_self_eq_true, bTF, bFT, bFF, bTT, get_alloc, get_put, nx_empty, H.nx_alloc, H.nx_put, ldVar, ldCells, Ad.add, List.drop_zero, List.drop_succ_cons, List.take_succ_cons, List.take_zero, List.length_cons, List.length_nil, List.getElem?_toArray, Nat.add_zero, Nat.zero_add, Nat.reduceAdd, Nat.reduceMul, Nat.reduceLeDiff, Nat.reduceSub, Nat.reduceEqDiff, Nat.reduceLT, Nat.succ_ne_zero, reduceCtorEq, Try.underlying3, Try.underlying4, Try.underlying9, Try.underlying30, sz3, sz4, sz9, sz30, ag3, ag4, ag9, ag30, *]; first | done | with_reducible rfl)); (with_reducible apply WpF.given); (focus rfl); (focus rfl); (with_reducible apply WpRs.env); (focus (simp only [List.set_cons_zero, List.set_cons_succ]; first | done | with_reducible rfl)))
    | ((with_reducible apply WpDs.set); (focus (simp only [rg, opStep, ev, evL, evO, evP, lift, lift1, liftL, Res.pure, Res.of, Res.unit, Dg.binOp, Dg.strOp, Dg.intOp, Dg.unOp, Dg.eqOp, builtinOp, List.getD_cons_zero, List.getD_cons_succ, List.getElem?_cons_zero, List.getElem?_cons_succ, List.set_cons_zero, List.set_cons_succ, Bool.false_eq_true, if_true, if_false, cells_agg, cells_int, cells_bool, cells_str, cells_ptr, cells_slice, cells_map, V.undef, List.all_cons, List.all_nil, one_int, one_bool, one_str, one_ptr, one_slice, one_map, one_fn, one_nilfn, Bool.and_true, Bool.true_and, Bool.not_true, Bool.not_false, beq_self_eq_true, bTF, bFT, bFF, bTT, get_alloc, get_put, nx_empty, H.nx_alloc, H.nx_put, ldVar, ldCells, Ad.add, List.drop_zero, List.drop_succ_cons, List.take_succ_cons, List.take_zero, List.length_cons, List.length_nil, List.getElem?_toArray, Nat.add_zero, Nat.zero_add, Nat.reduceAdd, Nat.reduceMul, Nat.reduceLeDiff, Nat.reduceSub, Nat.reduceEqDiff, Nat.reduceLT, Nat.succ_ne_zero, reduceCtorEq, Try.underlying3, Try.underlying4, Try.underlying9, Try.underlying30, sz3, sz4, sz9, sz30, ag3, ag4, ag9, ag30, *]; done)); (focus rfl); (focus (simp only [rg, opStep, ev, evL, evO, evP, lift, lift1, liftL, Res.pure, Res.of, Res.unit, Dg.binOp, Dg.strOp, Dg.intOp, Dg.unOp, Dg.eqOp, builtinOp, List.getD_cons_zero, List.getD_cons_succ, List.getElem?_cons_zero, List.getElem?_cons_succ, List.set_cons_zero, List.set_cons_succ, Bool.false_eq_true, if_true, if_false, cells_agg, cells_int, cells_bool, cells_str, cells_ptr, cells_slice, cells_map, V.undef, List.all_cons, List.all_nil, one_int, one_bool, one_str, one_ptr, one_slice, one_map, one_fn, one_nilfn, Bool.and_true, Bool.true_and, Bool.not_true, Bool.not_false, beq_self_eq_true, bTF, bFT, bFF, bTT, get_alloc, get_put, nx_empty, H.nx_alloc, H.nx_put, ldVar, ldCells, Ad.add, List.drop_zero, List.drop_succ_cons, List.take_succ_cons, List.take_zero, List.length_cons, List.length_nil, List.getElem?_toArray, Nat.add_zero, Nat.zero_add, Nat.reduceAdd, Nat.reduceMul, Nat.reduceLeDiff, Nat.reduceSub, Nat.reduceEqDiff, Nat.reduceLT, Nat.succ_ne_zero, reduceCtorEq, Try.underlying3, Try.underlying4, Try.underlying9, Try.underlying30, sz3, sz4, sz9, sz30, ag3, ag4, ag9, ag30, *]; first | done | with_reducible rfl)); (focus (simp only [sameAt, reads, sameGo, bit, cls, V.beq_refl, Bool.or_true, Bool.true_or, rg, opStep, ev, evL, evO, evP, lift, lift1, liftL, Res.pure, Res.of, Res.unit, Dg.binOp, Dg.strOp, Dg.intOp, Dg.unOp, Dg.eqOp, builtinOp, List.getD_cons_zero, List.getD_cons_succ, List.getElem?_cons_zero, List.getElem?_cons_succ, List.set_cons_zero, List.set_cons_succ, Bool.false_eq_true, if_true, if_false, cells_agg, cells_int, cells_bool, cells_str, cells_ptr, cells_slice, cells_map, V.undef, List.all_cons, List.all_nil, one_int, one_bool, one_str, one_ptr, one_slice, one_map, one_fn, one_nilfn, Bool.and_true, Bool.true_and, Bool.not_true, Bool.not_false, beq_self_eq_true, bTF, bFT, bFF, bTT, get_alloc, get_put, nx_empty, H.nx_alloc, H.nx_put, ldVar, ldCells, Ad.add, List.drop_zero, List.drop_succ_cons, List.take_succ_cons, List.take_zero, List.length_cons, List.length_nil, List.getElem?_toArray, Nat.add_zero, Nat.zero_add, Nat.reduceAdd, Nat.reduceMul, Nat.reduceLeDiff, Nat.reduceSub, Nat.reduceEqDiff, Nat.reduceLT, Nat.succ_ne_zero, reduceCtorEq, Try.underlying3, Try.underlying4, Try.underlying9, Try.underlying30, sz3, sz4, sz9, sz30, ag3, ag4, ag9, ag30, *]; done)); (focus (simp only [List.set_cons_zero, List.set_cons_succ]; first | done | with_reducible rfl)))
    | ((with_reducible apply WpDs.off); (focus (simp only [rg, opStep, ev, evL, evO, evP, lift, lift1, liftL, Res.pure, Res.of, Res.unit, Dg.binOp, Dg.strOp, Dg.intOp, Dg.unOp, Dg.eqOp, builtinOp, List.getD_cons_zero, List.getD_cons_succ, List.getElem?_cons_zero, List.getElem?_cons_succ, List.set_cons_zero, List.set_cons_succ, Bool.false_eq_true, if_true, if_false, cells_agg, cells_int, cells_bool, cells_str, cells_ptr, cells_slice, cells_map, V.undef, List.all_cons, List.all_nil, one_int, one_bool, one_str, one_ptr, one_slice, one_map, one_fn, one_nilfn, Bool.and_true, Bool.true_and, Bool.not_true, Bool.not_false, beq_self_eq_true, bTF, bFT, bFF, bTT, get_alloc, get_put, nx_empty, H.nx_alloc, H.nx_put, ldVar, ldCells, Ad.add, List.drop_zero, List.drop_succ_cons, List.take_succ_cons, List.take_zero, List.length_cons, List.length_nil, List.getElem?_toArray, Nat.add_zero, Nat.zero_add, Nat.reduceAdd, Nat.reduceMul, Nat.reduceLeDiff, Nat.reduceSub, Nat.reduceEqDiff, Nat.reduceLT, Nat.succ_ne_zero, reduceCtorEq, Try.underlying3, Try.underlying4, Try.underlying9, Try.underlying30, sz3, sz4, sz9, sz30, ag3, ag4, ag9, ag30, *]; done)); (focus (simp only [List.set_cons_zero, List.set_cons_succ]; first | done | with_reducible rfl)))
    | ((with_reducible apply WpDs.callSet); (focus (simp only [rg, opStep, ev, evL, evO, evP, lift, lift1, liftL, Res.pure, Res.of, Res.unit, Dg.binOp, Dg.strOp, Dg.intOp, Dg.unOp, Dg.eqOp, builtinOp, List.getD_cons_zero, List.getD_cons_succ, List.getElem?_cons_zero, List.getElem?_cons_succ, List.set_cons_zero, List.set_cons_succ, Bool.false_eq_true, if_true, if_false, cells_agg, cells_int, cells_bool, cells_str, cells_ptr, cells_slice, cells_map, V.undef, List.all_cons, List.all_nil, one_int, one_bool, one_str, one_ptr, one_slice, one_map, one_fn, one_nilfn, Bool.and_true, Bool.true_and, Bool.not_true, Bool.not_false, beq_self_eq_true, bTF, bFT, bFF, bTT, get_alloc, get_put, nx_empty, H.nx_alloc, H.nx_put, ldVar, ldCells, Ad.add, List.drop_zero, List.drop_succ_cons, List.take_succ_cons, List.take_zero, List.length_cons, List.length_nil, List.getElem?_toArray, Nat.add_zero, Nat.zero_add, Nat.reduceAdd, Nat.reduceMul, Nat.reduceLeDiff, Nat.reduceSub, Nat.reduceEqDiff, Nat.reduceLT, Nat.succ_ne_zero, reduceCtorEq, Try.underlying3, Try.underlying4, Try.underlying9, Try.underlying30, sz3, sz4, sz9, sz30, ag3, ag4, ag9, ag30, *]; done)); (focus rfl); (focus (simp only [rg, opStep, ev, evL, evO, evP, lift, lift1, liftL, Res.pure, Res.of, Res.unit, Dg.binOp, Dg.strOp, Dg.intOp, Dg.unOp, Dg.eqOp, builtinOp, List.getD_cons_zero, List.getD_cons_succ, List.getElem?_cons_zero, List.getElem?_cons_succ, List.set_cons_zero, List.set_cons_succ, Bool.false_eq_true, if_true, if_false, cells_agg, cells_int, cells_bool, cells_str, cells_ptr, cells_slice, cells_map, V.undef, List.all_cons, List.all_nil, one_int, one_bool, one_str, one_ptr, one_slice, one_map, one_fn, one_nilfn, Bool.and_true, Bool.true_and, Bool.not_true, Bool.not_false, beq_self_eq_true, bTF, bFT, bFF, bTT, get_alloc, get_put, nx_empty, H.nx_alloc, H.nx_put, ldVar, ldCells, Ad.add, List.drop_zero, List.drop_succ_cons, List.take_succ_cons, List.take_zero, List.length_cons, List.length_nil, List.getElem?_toArray, Nat.add_zero, Nat.zero_add, Nat.reduceAdd, Nat.reduceMul, Nat.reduceLeDiff, Nat.reduceSub, Nat.reduceEqDiff, Nat.reduceLT, Nat.succ_ne_zero, reduceCtorEq, Try.underlying3, Try.underlying4, Try.underlying9, Try.underlying30, sz3, sz4, sz9, sz30, ag3, ag4, ag9, ag30, *]; first | done | with_reducible rfl)); (with_reducible apply WpF.given); (focus rfl); (focus rfl); (with_reducible apply WpDs.env); (focus (simp only [List.set_cons_zero, List.set_cons_succ]; first | done | with_reducible rfl)))
    | ((with_reducible apply WpX.cond_true); (focus (simp only [rg, opStep, ev, evL, evO, evP, lift, lift1, liftL, Res.pure, Res.of, Res.unit, Dg.binOp, Dg.strOp, Dg.intOp, Dg.unOp, Dg.eqOp, builtinOp, List.getD_cons_zero, List.getD_cons_succ, List.getElem?_cons_zero, List.getElem?_cons_succ, List.set_cons_zero, List.set_cons_succ, Bool.false_eq_true, if_true, if_false, cells_agg, cells_int, cells_bool, cells_str, cells_ptr, cells_slice, cells_map, V.undef, List.all_cons, List.all_nil, one_int, one_bool, one_str, one_ptr, one_slice, one_map, one_fn, one_nilfn, Bool.and_true, Bool.true_and, Bool.not_true, Bool.not_false, beq_self_eq_true, bTF, bFT, bFF, bTT, get_alloc, get_put, nx_empty, H.nx_alloc, H.nx_put, ldVar, ldCells, Ad.add, List.drop_zero, List.drop_succ_cons, List.take_succ_cons, List.take_zero, List.length_cons, List.length_nil, List.getElem?_toArray, Nat.add_zero, Nat.zero_add, Nat.reduceAdd, Nat.reduceMul, Nat.reduceLeDiff, Nat.reduceSub, Nat.reduceEqDiff, Nat.reduceLT, Nat.succ_ne_zero, reduceCtorEq, Try.underlying3, Try.underlying4, Try.underlying9, Try.underlying30, sz3, sz4, sz9, sz30, ag3, ag4, ag9, ag30, *]; done)))
    | ((with_reducible apply WpX.cond_false); (focus (simp only [rg, opStep, ev, evL, evO, evP, lift, lift1, liftL, Res.pure, Res.of, Res.unit, Dg.binOp, Dg.strOp, Dg.intOp, Dg.unOp, Dg.eqOp, builtinOp, List.getD_cons_zero, List.getD_cons_succ, List.getElem?_cons_zero, List.getElem?_cons_succ, List.set_cons_zero, List.set_cons_succ, Bool.false_eq_true, if_true, if_false, cells_agg, cells_int, cells_bool, cells_str, cells_ptr, cells_slice, cells_map, V.undef, List.all_cons, List.all_nil, one_int, one_bool, one_str, one_ptr, one_slice, one_map, one_fn, one_nilfn, Bool.and_true, Bool.true_and, Bool.not_true, Bool.not_false, beq_self_eq_true, bTF, bFT, bFF, bTT, get_alloc, get_put, nx_empty, H.nx_alloc, H.nx_put, ldVar, ldCells, Ad.add, List.drop_zero, List.drop_succ_cons, List.take_succ_cons, List.take_zero, List.length_cons, List.length_nil, List.getElem?_toArray, Nat.add_zero, Nat.zero_add, Nat.reduceAdd, Nat.reduceMul, Nat.reduceLeDiff, Nat.reduceSub, Nat.reduceEqDiff, Nat.reduceLT, Nat.succ_ne_zero, reduceCtorEq, Try.underlying3, Try.underlying4, Try.underlying9, Try.underlying30, sz3, sz4, sz9, sz30, ag3, ag4, ag9, ag30, *]; done)))
    | ((with_reducible apply WpX.cond); (focus (simp only [rg, opStep, ev, evL, evO, evP, lift, lift1, liftL, Res.pure, Res.of, Res.unit, Dg.binOp, Dg.strOp, Dg.intOp, Dg.unOp, Dg.eqOp, builtinOp, List.getD_cons_zero, List.getD_cons_succ, List.getElem?_cons_zero, List.getElem?_cons_succ, List.set_cons_zero, List.set_cons_succ, Bool.false_eq_true, if_true, if_false, cells_agg, cells_int, cells_bool, cells_str, cells_ptr, cells_slice, cells_map, V.undef, List.all_cons, List.all_nil, one_int, one_bool, one_str, one_ptr, one_slice, one_map, one_fn, one_nilfn, Bool.and_true, Bool.true_and, Bool.not_true, Bool.not_false, beq_self_eq_true, bTF, bFT, bFF, bTT, get_alloc, get_put, nx_empty, H.nx_alloc, H.nx_put, ldVar, ldCells, Ad.add, List.drop_zero, List.drop_succ_cons, List.take_succ_cons, List.take_zero, List.length_cons, List.length_nil, List.getElem?_toArray, Nat.add_zero, Nat.zero_add, Nat.reduceAdd, Nat.reduceMul, Nat.reduceLeDiff, Nat.reduceSub, Nat.reduceEqDiff, Nat.reduceLT, Nat.succ_ne_zero, reduceCtorEq, Try.underlying3, Try.underlying4, Try.underlying9, Try.underlying30, sz3, sz4, sz9, sz30, ag3, ag4, ag9, ag30, *]; first | done | with_reducible rfl)))
    | ((with_reducible apply WpRs.fork); (focus (simp only [rg, opStep, ev, evL, evO, evP, lift, lift1, liftL, Res.pure, Res.of, Res.unit, Dg.binOp, Dg.strOp, Dg.intOp, Dg.unOp, Dg.eqOp, builtinOp, List.getD_cons_zero, List.getD_cons_succ, List.getElem?_cons_zero, List.getElem?_cons_succ, List.set_cons_zero, List.set_cons_succ, Bool.false_eq_true, if_true, if_false, cells_agg, cells_int, cells_bool, cells_str, cells_ptr, cells_slice, cells_map, V.undef, List.all_cons, List.all_nil, one_int, one_bool, one_str, one_ptr, one_slice, one_map, one_fn, one_nilfn, Bool.and_true, Bool.true_and, Bool.not_true, Bool.not_false, beq_self_eq_true, bTF, bFT, bFF, bTT, get_alloc, get_put, nx_empty, H.nx_alloc, H.nx_put, ldVar, ldCells, Ad.add, List.drop_zero, List.drop_succ_cons, List.take_succ_cons, List.take_zero, List.length_cons, List.length_nil, List.getElem?_toArray, Nat.add_zero, Nat.zero_add, Nat.reduceAdd, Nat.reduceMul, Nat.reduceLeDiff, Nat.reduceSub, Nat.reduceEqDiff, Nat.reduceLT, Nat.succ_ne_zero, reduceCtorEq, Try.underlying3, Try.underlying4, Try.underlying9, Try.underlying30, sz3, sz4, sz9, sz30, ag3, ag4, ag9, ag30, *]; first | done | with_reducible rfl)))
    | ((with_reducible apply WpDs.fork); (focus (simp only [rg, opStep, ev, evL, evO, evP, lift, lift1, liftL, Res.pure, Res.of, Res.unit, Dg.binOp, Dg.strOp, Dg.intOp, Dg.unOp, Dg.eqOp, builtinOp, List.getD_cons_zero, List.getD_cons_succ, List.getElem?_cons_zero, List.getElem?_cons_succ, List.set_cons_zero, List.set_cons_succ, Bool.false_eq_true, if_true, if_false, cells_agg, cells_int, cells_bool, cells_str, cells_ptr, cells_slice, cells_map, V.undef, List.all_cons, List.all_nil, one_int, one_bool, one_str, one_ptr, one_slice, one_map, one_fn, one_nilfn, Bool.and_true, Bool.true_and, Bool.not_true, Bool.not_false, beq_self_eq_true, bTF, bFT, bFF, bTT, get_alloc, get_put, nx_empty, H.nx_alloc, H.nx_put, ldVar, ldCells, Ad.add, List.drop_zero, List.drop_succ_cons, List.take_succ_cons, List.take_zero, List.length_cons, List.length_nil, List.getElem?_toArray, Nat.add_zero, Nat.zero_add, Nat.reduceAdd, Nat.reduceMul, Nat.reduceLeDiff, Nat.reduceSub, Nat.reduceEqDiff, Nat.reduceLT, Nat.succ_ne_zero, reduceCtorEq, Try.underlying3, Try.underlying4, Try.underlying9, Try.underlying30, sz3, sz4, sz9, sz30, ag3, ag4, ag9, ag30, *]; first | done | with_reducible rfl)))
  all_goals
    simp [cellM, *]
theorem ok14 {W : World} {s : List UInt8} {h : H} {prim : FuncId → Option (List V → H → Option (V × H))} (hp : prim 14 = none) : WpF Try.prog W prim 14 [.str s] h (fun v _ => v = .bool (rowsM s)) := by
  refine w14 (by first | exact hp | rfl) ?_
  simp only [List.length_cons, List.length_nil, List.replicate, List.cons_append, List.nil_append, x14]
  repeat' first
    | intro hg
    | with_reducible apply WpX.seq
    | with_reducible apply WpX.block
    | with_reducible apply WpX.ops
    | with_reducible apply WpX.draw
    | with_reducible apply WpRs.done
    | with_reducible apply WpDs.done
    | with_reducible apply thenQ_norm
    | with_reducible apply thenQ_ret
    | with_reducible apply thenQ_exit
    | with_reducible apply blockQ_here
    | with_reducible apply blockQ_ret
    | with_reducible apply blockQ_norm
    | ((with_reducible apply blockQ_on); (focus rfl))
    | with_reducible apply WpX.ret
    | ((with_reducible apply retQ_ret); (focus rfl); (focus rfl))
    | with_reducible apply WpX.exit
    | with_reducible apply WpX.skip
    | ((with_reducible apply WpRs.set); (focus (simp only [rg, opStep, ev, evL, evO, evP, lift, lift1, liftL, Res.pure, Res.of, Res.unit, Dg.binOp, Dg.strOp, Dg.intOp, Dg.unOp, Dg.eqOp, builtinOp, List.getD_cons_zero, List.getD_cons_succ, List.getElem?_cons_zero, List.getElem?_cons_succ, List.set_cons_zero, List.set_cons_succ, Bool.false_eq_true, if_true, if_false, cells_agg, cells_int, cells_bool, cells_str, cells_ptr, cells_slice, cells_map, V.undef, List.all_cons, List.all_nil, one_int, one_bool, one_str, one_ptr, one_slice, one_map, one_fn, one_nilfn, Bool.and_true, Bool.true_and, Bool.not_true, Bool.not_false, beq_self_eq_true, bTF, bFT, bFF, bTT, get_alloc, get_put, nx_empty, H.nx_alloc, H.nx_put, ldVar, ldCells, Ad.add, List.drop_zero, List.drop_succ_cons, List.take_succ_cons, List.take_zero, List.length_cons, List.length_nil, List.getElem?_toArray, Nat.add_zero, Nat.zero_add, Nat.reduceAdd, Nat.reduceMul, Nat.reduceLeDiff, Nat.reduceSub, Nat.reduceEqDiff, Nat.reduceLT, Nat.succ_ne_zero, reduceCtorEq, Try.underlying3, Try.underlying4, Try.underlying9, Try.underlying30, sz3, sz4, sz9, sz30, ag3, ag4, ag9, ag30, *]; done)); (focus (simp only [rg, opStep, ev, evL, evO, evP, lift, lift1, liftL, Res.pure, Res.of, Res.unit, Dg.binOp, Dg.strOp, Dg.intOp, Dg.unOp, Dg.eqOp, builtinOp, List.getD_cons_zero, List.getD_cons_succ, List.getElem?_cons_zero, List.getElem?_cons_succ, List.set_cons_zero, List.set_cons_succ, Bool.false_eq_true, if_true, if_false, cells_agg, cells_int, cells_bool, cells_str, cells_ptr, cells_slice, cells_map, V.undef, List.all_cons, List.all_nil, one_int, one_bool, one_str, one_ptr, one_slice, one_map, one_fn, one_nilfn, Bool.and_true, Bool.true_and, Bool.not_true, Bool.not_false, beq_self_eq_true, bTF, bFT, bFF, bTT, get_alloc, get_put, nx_empty, H.nx_alloc, H.nx_put, ldVar, ldCells, Ad.add, List.drop_zero, List.drop_succ_cons, List.take_succ_cons, List.take_zero, List.length_cons, List.length_nil, List.getElem?_toArray, Nat.add_zero, Nat.zero_add, Nat.reduceAdd, Nat.reduceMul, Nat.reduceLeDiff, Nat.reduceSub, Nat.reduceEqDiff, Nat.reduceLT, Nat.succ_ne_zero, reduceCtorEq, Try.underlying3, Try.underlying4, Try.underlying9, Try.underlying30, sz3, sz4, sz9, sz30, ag3, ag4, ag9, ag30, *]; first | done | with_reducible rfl)); (focus (simp only [List.set_cons_zero, List.set_cons_succ]; first | done | with_reducible rfl)))
    | ((with_reducible apply WpRs.off); (focus (simp only [rg, opStep, ev, evL, evO, evP, lift, lift1, liftL, Res.pure, Res.of, Res.unit, Dg.binOp, Dg.strOp, Dg.intOp, Dg.unOp, Dg.eqOp, builtinOp, List.getD_cons_zero, List.getD_cons_succ, List.getElem?_cons_zero, List.getElem?_cons_succ, List.set_cons_zero, List.set_cons_succ, Bool.false_eq_true, if_true, if_false, cells_agg, cells_int, cells_bool, cells_str, cells_ptr, cells_slice, cells_map, V.undef, List.all_cons, List.all_nil, one_int, one_bool, one_str, one_ptr, one_slice, one_map, one_fn, one_nilfn, Bool.and_true, Bool.true_and, Bool.not_true, Bool.not_false, beq_self_eq_true, bTF, bFT, bFF, bTT, get_alloc, get_put, nx_empty, H.nx_alloc, H.nx_put, ldVar, ldCells, Ad.add, List.drop_zero, List.drop_succ_cons, List.take_succ_cons, List.take_zero, List.length_cons, List.length_nil, List.getElem?_toArray, Nat.add_zero, Nat.zero_add, Nat.reduceAdd, Nat.reduceMul, Nat.reduceLeDiff, Nat.reduceSub, Nat.reduceEqDiff, Nat.reduceLT, Nat.succ_ne_zero, reduceCtorEq, Try.underlying3, Try.underlying4, Try.underlying9, Try.underlying30, sz3, sz4, sz9, sz30, ag3, ag4, ag9, ag30, *]; done)); (focus (simp only [List.set_cons_zero, List.set_cons_succ]; first | done | with_reducible rfl)))
    | ((with_reducible apply WpRs.callSet); (focus (simp only [rg, opStep, ev, evL, evO, evP, lift, lift1, liftL, Res.pure, Res.of, Res.unit, Dg.binOp, Dg.strOp, Dg.intOp, Dg.unOp, Dg.eqOp, builtinOp, List.getD_cons_zero, List.getD_cons_succ, List.getElem?_cons_zero, List.getElem?_cons_succ, List.set_cons_zero, List.set_cons_succ, Bool.false_eq_true, if_true, if_false, cells_agg, cells_int, cells_bool, cells_str, cells_ptr, cells_slice, cells_map, V.undef, List.all_cons, List.all_nil, one_int, one_bool, one_str, one_ptr, one_slice, one_map, one_fn, one_nilfn, Bool.and_true, Bool.true_and, Bool.not_true, Bool.not_false, beq_self_eq_true, bTF, bFT, bFF, bTT, get_alloc, get_put, nx_empty, H.nx_alloc, H.nx_put, ldVar, ldCells, Ad.add, List.drop_zero, List.drop_succ_cons, List.take_succ_cons, List.take_zero, List.length_cons, List.length_nil, List.getElem?_toArray, Nat.add_zero, Nat.zero_add, Nat.reduceAdd, Nat.reduceMul, Nat.reduceLeDiff, Nat.reduceSub, Nat.reduceEqDiff, Nat.reduceLT, Nat.succ_ne_zero, reduceCtorEq, Try.underlying3, Try.underlying4, Try.underlying9, Try.underlying30, sz3, sz4, sz9, sz30, ag3, ag4, ag9, ag30, *]; done)); (focus (simp only [rg, opStep, ev, evL, evO, evP, lift, lift1, liftL, Res.pure, Res.of, Res.unit, Dg.binOp, Dg.strOp, Dg.intOp, Dg.unOp, Dg.eqOp, builtinOp, List.getD_cons_zero, List.getD_cons_succ, List.getElem?_cons_zero, List.getElem?_cons_succ, List.set_cons_zero, List.set_cons_succ, Bool.false_eq_true, if_true, if_false, cells_agg, cells_int, cells_bool, cells_str, cells_ptr, cells_slice, cells_map, V.undef, List.all_cons, List.all_nil, one_int, one_bool, one_str, one_ptr, one_slice, one_map, one_fn, one_nilfn, Bool.and_true, Bool.true_and, Bool.not_true, Bool.not_false, beq_self_eq_true, bTF, bFT, bFF, bTT, get_alloc, get_put, nx_empty, H.nx_alloc, H.nx_put, ldVar, ldCells, Ad.add, List.drop_zero, List.drop_succ_cons, List.take_succ_cons, List.take_zero, List.length_cons, List.length_nil, List.getElem?_toArray, Nat.add_zero, Nat.zero_add, Nat.reduceAdd, Nat.reduceMul, Nat.reduceLeDiff, Nat.reduceSub, Nat.reduceEqDiff, Nat.reduceLT, Nat.succ_ne_zero, reduceCtorEq, Try.underlying3, Try.underlying4, Try.underlying9, Try.underlying30, sz3, sz4, sz9, sz30, ag3, ag4, ag9, ag30, *]; first | done | with_reducible rfl)); (with_reducible apply WpF.given); (focus rfl); (focus rfl); (with_reducible apply WpRs.env); (focus (simp only [List.set_cons_zero, List.set_cons_succ]; first | done | with_reducible rfl)))
    | ((with_reducible apply WpDs.set); (focus (simp only [rg, opStep, ev, evL, evO, evP, lift, lift1, liftL, Res.pure, Res.of, Res.unit, Dg.binOp, Dg.strOp, Dg.intOp, Dg.unOp, Dg.eqOp, builtinOp, List.getD_cons_zero, List.getD_cons_succ, List.getElem?_cons_zero, List.getElem?_cons_succ, List.set_cons_zero, List.set_cons_succ, Bool.false_eq_true, if_true, if_false, cells_agg, cells_int, cells_bool, cells_str, cells_ptr, cells_slice, cells_map, V.undef, List.all_cons, List.all_nil, one_int, one_bool, one_str, one_ptr, one_slice, one_map, one_fn, one_nilfn, Bool.and_true, Bool.true_and, Bool.not_true, Bool.not_false, beq_self_eq_true, bTF, bFT, bFF, bTT, get_alloc, get_put, nx_empty, H.nx_alloc, H.nx_put, ldVar, ldCells, Ad.add, List.drop_zero, List.drop_succ_cons, List.take_succ_cons, List.take_zero, List.length_cons, List.length_nil, List.getElem?_toArray, Nat.add_zero, Nat.zero_add, Nat.reduceAdd, Nat.reduceMul, Nat.reduceLeDiff, Nat.reduceSub, Nat.reduceEqDiff, Nat.reduceLT, Nat.succ_ne_zero, reduceCtorEq, Try.underlying3, Try.underlying4, Try.underlying9, Try.underlying30, sz3, sz4, sz9, sz30, ag3, ag4, ag9, ag30, *]; done)); (focus rfl); (focus (simp only [rg, opStep, ev, evL, evO, evP, lift, lift1, liftL, Res.pure, Res.of, Res.unit, Dg.binOp, Dg.strOp, Dg.intOp, Dg.unOp, Dg.eqOp, builtinOp, List.getD_cons_zero, List.getD_cons_succ, List.getElem?_cons_zero, List.getElem?_cons_succ, List.set_cons_zero, List.set_cons_succ, Bool.false_eq_true, if_true, if_false, cells_agg, cells_int, cells_bool, cells_str, cells_ptr, cells_slice, cells_map, V.undef, List.all_cons, List.all_nil, one_int, one_bool, one_str, one_ptr, one_slice, one_map, one_fn, one_nilfn, Bool.and_true, Bool.true_and, Bool.not_true, Bool.not_false, beq_self_eq_true, bTF, bFT, bFF, bTT, get_alloc, get_put, nx_empty, H.nx_alloc, H.nx_put, ldVar, ldCells, Ad.add, List.drop_zero, List.drop_succ_cons, List.take_succ_cons, List.take_zero, List.length_cons, List.length_nil, List.getElem?_toArray, Nat.add_zero, Nat.zero_add, Nat.reduceAdd, Nat.reduceMul, Nat.reduceLeDiff, Nat.reduceSub, Nat.reduceEqDiff, Nat.reduceLT, Nat.succ_ne_zero, reduceCtorEq, Try.underlying3, Try.underlying4, Try.underlying9, Try.underlying30, sz3, sz4, sz9, sz30, ag3, ag4, ag9, ag30, *]; first | done | with_reducible rfl)); (focus (simp only [sameAt, reads, sameGo, bit, cls, V.beq_refl, Bool.or_true, Bool.true_or, rg, opStep, ev, evL, evO, evP, lift, lift1, liftL, Res.pure, Res.of, Res.unit, Dg.binOp, Dg.strOp, Dg.intOp, Dg.unOp, Dg.eqOp, builtinOp, List.getD_cons_zero, List.getD_cons_succ, List.getElem?_cons_zero, List.getElem?_cons_succ, List.set_cons_zero, List.set_cons_succ, Bool.false_eq_true, if_true, if_false, cells_agg, cells_int, cells_bool, cells_str, cells_ptr, cells_slice, cells_map, V.undef, List.all_cons, List.all_nil, one_int, one_bool, one_str, one_ptr, one_slice, one_map, one_fn, one_nilfn, Bool.and_true, Bool.true_and, Bool.not_true, Bool.not_false, beq_self_eq_true, bTF, bFT, bFF, bTT, get_alloc, get_put, nx_empty, H.nx_alloc, H.nx_put, ldVar, ldCells, Ad.add, List.drop_zero, List.drop_succ_cons, List.take_succ_cons, List.take_zero, List.length_cons, List.length_nil, List.getElem?_toArray, Nat.add_zero, Nat.zero_add, Nat.reduceAdd, Nat.reduceMul, Nat.reduceLeDiff, Nat.reduceSub, Nat.reduceEqDiff, Nat.reduceLT, Nat.succ_ne_zero, reduceCtorEq, Try.underlying3, Try.underlying4, Try.underlying9, Try.underlying30, sz3, sz4, sz9, sz30, ag3, ag4, ag9, ag30, *]; done)); (focus (simp only [List.set_cons_zero, List.set_cons_succ]; first | done | with_reducible rfl)))
    | ((with_reducible apply WpDs.off); (focus (simp only [rg, opStep, ev, evL, evO, evP, lift, lift1, liftL, Res.pure, Res.of, Res.unit, Dg.binOp, Dg.strOp, Dg.intOp, Dg.unOp, Dg.eqOp, builtinOp, List.getD_cons_zero, List.getD_cons_succ, List.getElem?_cons_zero, List.getElem?_cons_succ, List.set_cons_zero, List.set_cons_succ, Bool.false_eq_true, if_true, if_false, cells_agg, cells_int, cells_bool, cells_str, cells_ptr, cells_slice, cells_map, V.undef, List.all_cons, List.all_nil, one_int, one_bool, one_str, one_ptr, one_slice, one_map, one_fn, one_nilfn, Bool.and_true, Bool.true_and, Bool.not_true, Bool.not_false, beq_self_eq_true, bTF, bFT, bFF, bTT, get_alloc, get_put, nx_empty, H.nx_alloc, H.nx_put, ldVar, ldCells, Ad.add, List.drop_zero, List.drop_succ_cons, List.take_succ_cons, List.take_zero, List.length_cons, List.length_nil, List.getElem?_toArray, Nat.add_zero, Nat.zero_add, Nat.reduceAdd, Nat.reduceMul, Nat.reduceLeDiff, Nat.reduceSub, Nat.reduceEqDiff, Nat.reduceLT, Nat.succ_ne_zero, reduceCtorEq, Try.underlying3, Try.underlying4, Try.underlying9, Try.underlying30, sz3, sz4, sz9, sz30, ag3, ag4, ag9, ag30, *]; done)); (focus (simp only [List.set_cons_zero, List.set_cons_succ]; first | done | with_reducible rfl)))
    | ((with_reducible apply WpDs.callSet); (focus (simp only [rg, opStep, ev, evL, evO, evP, lift, lift1, liftL, Res.pure, Res.of, Res.unit, Dg.binOp, Dg.strOp, Dg.intOp, Dg.unOp, Dg.eqOp, builtinOp, List.getD_cons_zero, List.getD_cons_succ, List.getElem?_cons_zero, List.getElem?_cons_succ, List.set_cons_zero, List.set_cons_succ, Bool.false_eq_true, if_true, if_false, cells_agg, cells_int, cells_bool, cells_str, cells_ptr, cells_slice, cells_map, V.undef, List.all_cons, List.all_nil, one_int, one_bool, one_str, one_ptr, one_slice, one_map, one_fn, one_nilfn, Bool.and_true, Bool.true_and, Bool.not_true, Bool.not_false, beq_self_eq_true, bTF, bFT, bFF, bTT, get_alloc, get_put, nx_empty, H.nx_alloc, H.nx_put, ldVar, ldCells, Ad.add, List.drop_zero, List.drop_succ_cons, List.take_succ_cons, List.take_zero, List.length_cons, List.length_nil, List.getElem?_toArray, Nat.add_zero, Nat.zero_add, Nat.reduceAdd, Nat.reduceMul, Nat.reduceLeDiff, Nat.reduceSub, Nat.reduceEqDiff, Nat.reduceLT, Nat.succ_ne_zero, reduceCtorEq, Try.underlying3, Try.underlying4, Try.underlying9, Try.underlying30, sz3, sz4, sz9, sz30, ag3, ag4, ag9, ag30, *]; done)); (focus rfl); (focus (simp only [rg, opStep, ev, evL, evO, evP, lift, lift1, liftL, Res.pure, Res.of, Res.unit, Dg.binOp, Dg.strOp, Dg.intOp, Dg.unOp, Dg.eqOp, builtinOp, List.getD_cons_zero, List.getD_cons_succ, List.getElem?_cons_zero, List.getElem?_cons_succ, List.set_cons_zero, List.set_cons_succ, Bool.false_eq_true, if_true, if_false, cells_agg, cells_int, cells_bool, cells_str, cells_ptr, cells_slice, cells_map, V.undef, List.all_cons, List.all_nil, one_int, one_bool, one_str, one_ptr, one_slice, one_map, one_fn, one_nilfn, Bool.and_true, Bool.true_and, Bool.not_true, Bool.not_false, beq_self_eq_true, bTF, bFT, bFF, bTT, get_alloc, get_put, nx_empty, H.nx_alloc, H.nx_put, ldVar, ldCells, Ad.add, List.drop_zero, List.drop_succ_cons, List.take_succ_cons, List.take_zero, List.length_cons, List.length_nil, List.getElem?_toArray, Nat.add_zero, Nat.zero_add, Nat.reduceAdd, Nat.reduceMul, Nat.reduceLeDiff, Nat.reduceSub, Nat.reduceEqDiff, Nat.reduceLT, Nat.succ_ne_zero, reduceCtorEq, Try.underlying3, Try.underlying4, Try.underlying9, Try.underlying30, sz3, sz4, sz9, sz30, ag3, ag4, ag9, ag30, *]; first | done | with_reducible rfl)); (with_reducible apply WpF.given); (focus rfl); (focus rfl); (with_reducible apply WpDs.env); (focus (simp only [List.set_cons_zero, List.set_cons_succ]; first | done | with_reducible rfl)))
    | ((with_reducible apply WpX.cond_true); (focus (simp only [rg, opStep, ev, evL, evO, evP, lift, lift1, liftL, Res.pure, Res.of, Res.unit, Dg.binOp, Dg.strOp, Dg.intOp, Dg.unOp, Dg.eqOp, builtinOp, List.getD_cons_zero, List.getD_cons_succ, List.getElem?_cons_zero, List.getElem?_cons_succ, List.set_cons_zero, List.set_cons_succ, Bool.false_eq_true, if_true, if_false, cells_agg, cells_int, cells_bool, cells_str, cells_ptr, cells_slice, cells_map, V.undef, List.all_cons, List.all_nil, one_int, one_bool, one_str, one_ptr, one_slice, one_map, one_fn, one_nilfn, Bool.and_true, Bool.true_and, Bool.not_true, Bool.not_false, beq_self_eq_true, bTF, bFT, bFF, bTT, get_alloc, get_put, nx_empty, H.nx_alloc, H.nx_put, ldVar, ldCells, Ad.add, List.drop_zero, List.drop_succ_cons, List.take_succ_cons, List.take_zero, List.length_cons, List.length_nil, List.getElem?_toArray, Nat.add_zero, Nat.zero_add, Nat.reduceAdd, Nat.reduceMul, Nat.reduceLeDiff, Nat.reduceSub, Nat.reduceEqDiff, Nat.reduceLT, Nat.succ_ne_zero, reduceCtorEq, Try.underlying3, Try.underlying4, Try.underlying9, Try.underlying30, sz3, sz4, sz9, sz30, ag3, ag4, ag9, ag30, *]; done)))
    | ((with_reducible apply WpX.cond_false); (focus (simp only [rg, opStep, ev, evL, evO, evP, lift, lift1, liftL, Res.pure, Res.of, Res.unit, Dg.binOp, Dg.strOp, Dg.intOp, Dg.unOp, Dg.eqOp, builtinOp, List.getD_cons_zero, List.getD_cons_succ, List.getElem?_cons_zero, List.getElem?_cons_succ, List.set_cons_zero, List.set_cons_succ, Bool.false_eq_true, if_true, if_false, cells_agg, cells_int, cells_bool, cells_str, cells_ptr, cells_slice, cells_map, V.undef, List.all_cons, List.all_nil, one_int, one_bool, one_str, one_ptr, one_slice, one_map, one_fn, one_nilfn, Bool.and_true, Bool.true_and, Bool.not_true, Bool.not_false, beq_self_eq_true, bTF, bFT, bFF, bTT, get_alloc, get_put, nx_empty, H.nx_alloc, H.nx_put, ldVar, ldCells, Ad.add, List.drop_zero, List.drop_succ_cons, List.take_succ_cons, List.take_zero, List.length_cons, List.length_nil, List.getElem?_toArray, Nat.add_zero, Nat.zero_add, Nat.reduceAdd, Nat.reduceMul, Nat.reduceLeDiff, Nat.reduceSub, Nat.reduceEqDiff, Nat.reduceLT, Nat.succ_ne_zero, reduceCtorEq, Try.underlying3, Try.underlying4, Try.underlying9, Try.underlying30, sz3, sz4, sz9, sz30, ag3, ag4, ag9, ag30, *]; done)))
    | ((with_reducible apply WpX.cond); (focus (simp only [rg, opStep, ev, evL, evO, evP, lift, lift1, liftL, Res.pure, Res.of, Res.unit, Dg.binOp, Dg.strOp, Dg.intOp, Dg.unOp, Dg.eqOp, builtinOp, List.getD_cons_zero, List.getD_cons_succ, List.getElem?_cons_zero, List.getElem?_cons_succ, List.set_cons_zero, List.set_cons_succ, Bool.false_eq_true, if_true, if_false, cells_agg, cells_int, cells_bool, cells_str, cells_ptr, cells_slice, cells_map, V.undef, List.all_cons, List.all_nil, one_int, one_bool, one_str, one_ptr, one_slice, one_map, one_fn, one_nilfn, Bool.and_true, Bool.true_and, Bool.not_true, Bool.not_false, beq_self_eq_true, bTF, bFT, bFF, bTT, get_alloc, get_put, nx_empty, H.nx_alloc, H.nx_put, ldVar, ldCells, Ad.add, List.drop_zero, List.drop_succ_cons, List.take_succ_cons, List.take_zero, List.length_cons, List.length_nil, List.getElem?_toArray, Nat.add_zero, Nat.zero_add, Nat.reduceAdd, Nat.reduceMul, Nat.reduceLeDiff, Nat.reduceSub, Nat.reduceEqDiff, Nat.reduceLT, Nat.succ_ne_zero, reduceCtorEq, Try.underlying3, Try.underlying4, Try.underlying9, Try.underlying30, sz3, sz4, sz9, sz30, ag3, ag4, ag9, ag30, *]; first | done | with_reducible rfl)))
    | ((with_reducible apply WpRs.fork); (focus (simp only [rg, opStep, ev, evL, evO, evP, lift, lift1, liftL, Res.pure, Res.of, Res.unit, Dg.binOp, Dg.strOp, Dg.intOp, Dg.unOp, Dg.eqOp, builtinOp, List.getD_cons_zero, List.getD_cons_succ, List.getElem?_cons_zero, List.getElem?_cons_succ, List.set_cons_zero, List.set_cons_succ, Bool.false_eq_true, if_true, if_false, cells_agg, cells_int, cells_bool, cells_str, cells_ptr, cells_slice, cells_map, V.undef, List.all_cons, List.all_nil, one_int, one_bool, one_str, one_ptr, one_slice, one_map, one_fn, one_nilfn, Bool.and_true, Bool.true_and, Bool.not_true, Bool.not_false, beq_self_eq_true, bTF, bFT, bFF, bTT, get_alloc, get_put, nx_empty, H.nx_alloc, H.nx_put, ldVar, ldCells, Ad.add, List.drop_zero, List.drop_succ_cons, List.take_succ_cons, List.take_zero, List.length_cons, List.length_nil, List.getElem?_toArray, Nat.add_zero, Nat.zero_add, Nat.reduceAdd, Nat.reduceMul, Nat.reduceLeDiff, Nat.reduceSub, Nat.reduceEqDiff, Nat.reduceLT, Nat.succ_ne_zero, reduceCtorEq, Try.underlying3, Try.underlying4, Try.underlying9, Try.underlying30, sz3, sz4, sz9, sz30, ag3, ag4, ag9, ag30, *]; first | done | with_reducible rfl)))
    | ((with_reducible apply WpDs.fork); (focus (simp only [rg, opStep, ev, evL, evO, evP, lift, lift1, liftL, Res.pure, Res.of, Res.unit, Dg.binOp, Dg.strOp, Dg.intOp, Dg.unOp, Dg.eqOp, builtinOp, List.getD_cons_zero, List.getD_cons_succ, List.getElem?_cons_zero, List.getElem?_cons_succ, List.set_cons_zero, List.set_cons_succ, Bool.false_eq_true, if_true, if_false, cells_agg, cells_int, cells_bool, cells_str, cells_ptr, cells_slice, cells_map, V.undef, List.all_cons, List.all_nil, one_int, one_bool, one_str, one_ptr, one_slice, one_map, one_fn, one_nilfn, Bool.and_true, Bool.true_and, Bool.not_true, Bool.not_false, beq_self_eq_true, bTF, bFT, bFF, bTT, get_alloc, get_put, nx_empty, H.nx_alloc, H.nx_put, ldVar, ldCells, Ad.add, List.drop_zero, List.drop_succ_cons, List.take_succ_cons, List.take_zero, List.length_cons, List.length_nil, List.getElem?_toArray, Nat.add_zero, Nat.zero_add, Nat.reduceAdd, Nat.reduceMul, Nat.reduceLeDiff, Nat.reduceSub, Nat.reduceEqDiff, Nat.reduceLT, Nat.succ_ne_zero, reduceCtorEq, Try.underlying3, Try.underlying4, Try.underlying9, Try.underlying30, sz3, sz4, sz9, sz30, ag3, ag4, ag9, ag30, *]; first | done | with_reducible rfl)))
  all_goals
    simp [rowsM, *]

def p12 (args : List V) : Option V := match args with | [.str s] => some (.bool (cellM s)) | _ => none
def p14 (args : List V) : Option V := match args with | [.str s] => some (.bool (rowsM s)) | _ => none
def prim1 : FuncId → Option (List V → H → Option (V × H)) := setPrim (setPrim (fun _ => none) 12 p12) 14 p14
theorem prims1 (W : World) : Prims Try.prog W prim1 := by
  refine Prims.add base (Prims.add base Prims.none ⟨_, _, Try.func12, rfl⟩ ?_) ⟨_, _, Try.func14, rfl⟩ ?_
  · intro w _ args v h
    unfold p12 at h
    split at h
    · injection h with h; subst h
      exact ⟨rfl, rfl, ok12 rfl⟩
    · cases h
  · intro w hb args v h
    unfold p14 at h
    split at h
    · injection h with h; subst h
      exact ⟨rfl, rfl, ok14 rfl⟩
    · cases h

def closesM (m k : Int) (s : List UInt8) : Bool :=
  if (m == 13 && k == 3 && (rowsM s || s == [116, 114])) then true
  else if ((m == 13 || m == 9) && (k == 2 && cellM s)) then true
  else if ((m == 13 || m == 9 || m == 12) && (k == 2 && s == [116, 114])) then true
  else if (m == 13 || m == 9 || m == 12 || m == 11) then (k == 2 && (s == [99, 97, 112, 116, 105, 111, 110] || (s == [99, 111, 108] || (s == [99, 111, 108, 103, 114, 111, 117, 112] || rowsM s)))) || (k == 3 && s == [116, 97, 98, 108, 101]) else false
set_option maxHeartbeats 4000000 in
theorem ok10 {W : World} {h : H} {m k r a b : Int} {s u : List UInt8} {at' : V} {sf : Bool} (hone : at'.one = true) : WpF Try.prog W prim1 10 [.int .i64 m, .agg [.int .i64 k, .int .i64 r, .str s, .str u, at', .bool sf, .int .i64 a, .int .i64 b]] h (fun v _ => v = .bool (closesM m k s)) := by
  refine w10 (by first | exact hp | rfl) ?_
  simp only [List.length_cons, List.length_nil, List.replicate, List.cons_append, List.nil_append, x10]
  repeat' first
    | intro hg
    | with_reducible apply WpX.seq
    | with_reducible apply WpX.block
    | with_reducible apply WpX.ops
    | with_reducible apply WpX.draw
    | with_reducible apply WpRs.done
    | with_reducible apply WpDs.done
    | with_reducible apply thenQ_norm
    | with_reducible apply thenQ_ret
    | with_reducible apply thenQ_exit
    | with_reducible apply blockQ_here
    | with_reducible apply blockQ_ret
    | with_reducible apply blockQ_norm
    | ((with_reducible apply blockQ_on); (focus rfl))
    | with_reducible apply WpX.ret
    | ((with_reducible apply retQ_ret); (focus rfl); (focus rfl))
    | with_reducible apply WpX.exit
    | with_reducible apply WpX.skip
    | ((with_reducible apply WpRs.set); (focus (simp only [rg, opStep, ev, evL, evO, evP, lift, lift1, liftL, Res.pure, Res.of, Res.unit, Dg.binOp, Dg.strOp, Dg.intOp, Dg.unOp, Dg.eqOp, builtinOp, List.getD_cons_zero, List.getD_cons_succ, List.getElem?_cons_zero, List.getElem?_cons_succ, List.set_cons_zero, List.set_cons_succ, Bool.false_eq_true, if_true, if_false, cells_agg, cells_int, cells_bool, cells_str, cells_ptr, cells_slice, cells_map, V.undef, List.all_cons, List.all_nil, one_int, one_bool, one_str, one_ptr, one_slice, one_map, one_fn, one_nilfn, Bool.and_true, Bool.true_and, Bool.not_true, Bool.not_false, beq_self_eq_true, bTF, bFT, bFF, bTT, get_alloc, get_put, nx_empty, H.nx_alloc, H.nx_put, ldVar, ldCells, Ad.add, List.drop_zero, List.drop_succ_cons, List.take_succ_cons, List.take_zero, List.length_cons, List.length_nil, List.getElem?_toArray, Nat.add_zero, Nat.zero_add, Nat.reduceAdd, Nat.reduceMul, Nat.reduceLeDiff, Nat.reduceSub, Nat.reduceEqDiff, Nat.reduceLT, Nat.succ_ne_zero, reduceCtorEq, Try.underlying3, Try.underlying4, Try.underlying9, Try.underlying30, sz3, sz4, sz9, sz30, ag3, ag4, ag9, ag30, *]; done)); (focus (simp only [rg, opStep, ev, evL, evO, evP, lift, lift1, liftL, Res.pure, Res.of, Res.unit, Dg.binOp, Dg.strOp, Dg.intOp, Dg.unOp, Dg.eqOp, builtinOp, List.getD_cons_zero, List.getD_cons_succ, List.getElem?_cons_zero, List.getElem?_cons_succ, List.set_cons_zero, List.set_cons_succ, Bool.false_eq_true, if_true, if_false, cells_agg, cells_int, cells_bool, cells_str, cells_ptr, cells_slice, cells_map, V.undef, List.all_cons, List.all_nil, one_int, one_bool, one_str, one_ptr, one_slice, one_map, one_fn, one_nilfn, Bool.and_true, Bool.true_and, Bool.not_true, Bool.not_false, beq_self_eq_true, bTF, bFT, bFF, bTT, get_alloc, get_put, nx_empty, H.nx_alloc, H.nx_put, ldVar, ldCells, Ad.add, List.drop_zero, List.drop_succ_cons, List.take_succ_cons, List.take_zero, List.length_cons, List.length_nil, List.getElem?_toArray, Nat.add_zero, Nat.zero_add, Nat.reduceAdd, Nat.reduceMul, Nat.reduceLeDiff, Nat.reduceSub, Nat.reduceEqDiff, Nat.reduceLT, Nat.succ_ne_zero, reduceCtorEq, Try.underlying3, Try.underlying4, Try.underlying9, Try.underlying30, sz3, sz4, sz9, sz30, ag3, ag4, ag9, ag30, *]; first | done | with_reducible rfl)); (focus (simp only [List.set_cons_zero, List.set_cons_succ]; first | done | with_reducible rfl)))
    | ((with_reducible apply WpRs.off); (focus (simp only [rg, opStep, ev, evL, evO, evP, lift, lift1, liftL, Res.pure, Res.of, Res.unit, Dg.binOp, Dg.strOp, Dg.intOp, Dg.unOp, Dg.eqOp, builtinOp, List.getD_cons_zero, List.getD_cons_succ, List.getElem?_cons_zero, List.getElem?_cons_succ, List.set_cons_zero, List.set_cons_succ, Bool.false_eq_true, if_true, if_false, cells_agg, cells_int, cells_bool, cells_str, cells_ptr, cells_slice, cells_map, V.undef, List.all_cons, List.all_nil, one_int, one_bool, one_str, one_ptr, one_slice, one_map, one_fn, one_nilfn, Bool.and_true, Bool.true_and, Bool.not_true, Bool.not_false, beq_self_eq_true, bTF, bFT, bFF, bTT, get_alloc, get_put, nx_empty, H.nx_alloc, H.nx_put, ldVar, ldCells, Ad.add, List.drop_zero, List.drop_succ_cons, List.take_succ_cons, List.take_zero, List.length_cons, List.length_nil, List.getElem?_toArray, Nat.add_zero, Nat.zero_add, Nat.reduceAdd, Nat.reduceMul, Nat.reduceLeDiff, Nat.reduceSub, Nat.reduceEqDiff, Nat.reduceLT, Nat.succ_ne_zero, reduceCtorEq, Try.underlying3, Try.underlying4, Try.underlying9, Try.underlying30, sz3, sz4, sz9, sz30, ag3, ag4, ag9, ag30, *]; done)); (focus (simp only [List.set_cons_zero, List.set_cons_succ]; first | done | with_reducible rfl)))
    | ((with_reducible apply WpRs.callSet); (focus (simp only [rg, opStep, ev, evL, evO, evP, lift, lift1, liftL, Res.pure, Res.of, Res.unit, Dg.binOp, Dg.strOp, Dg.intOp, Dg.unOp, Dg.eqOp, builtinOp, List.getD_cons_zero, List.getD_cons_succ, List.getElem?_cons_zero, List.getElem?_cons_succ, List.set_cons_zero, List.set_cons_succ, Bool.false_eq_true, if_true, if_false, cells_agg, cells_int, cells_bool, cells_str, cells_ptr, cells_slice, cells_map, V.undef, List.all_cons, List.all_nil, one_int, one_bool, one_str, one_ptr, one_slice, one_map, one_fn, one_nilfn, Bool.and_true, Bool.true_and, Bool.not_true, Bool.not_false, beq_self_eq_true, bTF, bFT, bFF, bTT, get_alloc, get_put, nx_empty, H.nx_alloc, H.nx_put, ldVar, ldCells, Ad.add, List.drop_zero, List.drop_succ_cons, List.take_succ_cons, List.take_zero, List.length_cons, List.length_nil, List.getElem?_toArray, Nat.add_zero, Nat.zero_add, Nat.reduceAdd, Nat.reduceMul, Nat.reduceLeDiff, Nat.reduceSub, Nat.reduceEqDiff, Nat.reduceLT, Nat.succ_ne_zero, reduceCtorEq, Try.underlying3, Try.underlying4, Try.underlying9, Try.underlying30, sz3, sz4, sz9, sz30, ag3, ag4, ag9, ag30, *]; done)); (focus (simp only [rg, opStep, ev, evL, evO, evP, lift, lift1, liftL, Res.pure, Res.of, Res.unit, Dg.binOp, Dg.strOp, Dg.intOp, Dg.unOp, Dg.eqOp, builtinOp, List.getD_cons_zero, List.getD_cons_succ, List.getElem?_cons_zero, List.getElem?_cons_succ, List.set_cons_zero, List.set_cons_succ, Bool.false_eq_true, if_true, if_false, cells_agg, cells_int, cells_bool, cells_str, cells_ptr, cells_slice, cells_map, V.undef, List.all_cons, List.all_nil, one_int, one_bool, one_str, one_ptr, one_slice, one_map, one_fn, one_nilfn, Bool.and_true, Bool.true_and, Bool.not_true, Bool.not_false, beq_self_eq_true, bTF, bFT, bFF, bTT, get_alloc, get_put, nx_empty, H.nx_alloc, H.nx_put, ldVar, ldCells, Ad.add, List.drop_zero, List.drop_succ_cons, List.take_succ_cons, List.take_zero, List.length_cons, List.length_nil, List.getElem?_toArray, Nat.add_zero, Nat.zero_add, Nat.reduceAdd, Nat.reduceMul, Nat.reduceLeDiff, Nat.reduceSub, Nat.reduceEqDiff, Nat.reduceLT, Nat.succ_ne_zero, reduceCtorEq, Try.underlying3, Try.underlying4, Try.underlying9, Try.underlying30, sz3, sz4, sz9, sz30, ag3, ag4, ag9, ag30, *]; first | done | with_reducible rfl)); (with_reducible apply WpF.given); (focus rfl); (focus rfl); (with_reducible apply WpRs.env); (focus (simp only [List.set_cons_zero, List.set_cons_succ]; first | done | with_reducible rfl)))
    | ((with_reducible apply WpDs.set); (focus (simp only [rg, opStep, ev, evL, evO, evP, lift, lift1, liftL, Res.pure, Res.of, Res.unit, Dg.binOp, Dg.strOp, Dg.intOp, Dg.unOp, Dg.eqOp, builtinOp, List.getD_cons_zero, List.getD_cons_succ, List.getElem?_cons_zero, List.getElem?_cons_succ, List.set_cons_zero, List.set_cons_succ, Bool.false_eq_true, if_true, if_false, cells_agg, cells_int, cells_bool, cells_str, cells_ptr, cells_slice, cells_map, V.undef, List.all_cons, List.all_nil, one_int, one_bool, one_str, one_ptr, one_slice, one_map, one_fn, one_nilfn, Bool.and_true, Bool.true_and, Bool.not_true, Bool.not_false, beq_self_eq_true, bTF, bFT, bFF, bTT, get_alloc, get_put, nx_empty, H.nx_alloc, H.nx_put, ldVar, ldCells, Ad.add, List.drop_zero, List.drop_succ_cons, List.take_succ_cons, List.take_zero, List.length_cons, List.length_nil, List.getElem?_toArray, Nat.add_zero, Nat.zero_add, Nat.reduceAdd, Nat.reduceMul, Nat.reduceLeDiff, Nat.reduceSub, Nat.reduceEqDiff, Nat.reduceLT, Nat.succ_ne_zero, reduceCtorEq, Try.underlying3, Try.underlying4, Try.underlying9, Try.underlying30, sz3, sz4, sz9, sz30, ag3, ag4, ag9, ag30, *]; done)); (focus rfl); (focus (simp only [rg, opStep, ev, evL, evO, evP, lift, lift1, liftL, Res.pure, Res.of, Res.unit, Dg.binOp, Dg.strOp, Dg.intOp, Dg.unOp, Dg.eqOp, builtinOp, List.getD_cons_zero, List.getD_cons_succ, List.getElem?_cons_zero, List.getElem?_cons_succ, List.set_cons_zero, List.set_cons_succ, Bool.false_eq_true, if_true, if_false, cells_agg, cells_int, cells_bool, cells_str, cells_ptr, cells_slice, cells_map, V.undef, List.all_cons, List.all_nil, one_int, one_bool, one_str, one_ptr, one_slice, one_map, one_fn, one_nilfn, Bool.and_true, Bool.true_and, Bool.not_true, Bool.not_false, beq_self_eq_true, bTF, bFT, bFF, bTT, get_alloc, get_put, nx_empty, H.nx_alloc, H.nx_put, ldVar, ldCells, Ad.add, List.drop_zero, List.drop_succ_cons, List.take_succ_cons, List.take_zero, List.length_cons, List.length_nil, List.getElem?_toArray, Nat.add_zero, Nat.zero_add, Nat.reduceAdd, Nat.reduceMul, Nat.reduceLeDiff, Nat.reduceSub, Nat.reduceEqDiff, Nat.reduceLT, Nat.succ_ne_zero, reduceCtorEq, Try.underlying3, Try.underlying4, Try.underlying9, Try.underlying30, sz3, sz4, sz9, sz30, ag3, ag4, ag9, ag30, *]; first | done | with_reducible rfl)); (focus (simp only [sameAt, reads, sameGo, bit, cls, V.beq_refl, Bool.or_true, Bool.true_or, rg, opStep, ev, evL, evO, evP, lift, lift1, liftL, Res.pure, Res.of, Res.unit, Dg.binOp, Dg.strOp, Dg.intOp, Dg.unOp, Dg.eqOp, builtinOp, List.getD_cons_zero, List.getD_cons_succ, List.getElem?_cons_zero, List.getElem?_cons_succ, List.set_cons_zero, List.set_cons_succ, Bool.false_eq_true, if_true, if_false, cells_agg, cells_int, cells_bool, cells_str, cells_ptr, cells_slice, cells_map, V.undef, List.all_cons, List.all_nil, one_int, one_bool, one_str, one_ptr, one_slice, one_map, one_fn, one_nilfn, Bool.and_true, Bool.true_and, Bool.not_true, Bool.not_false, beq_self_eq_true, bTF, bFT, bFF, bTT, get_alloc, get_put, nx_empty, H.nx_alloc, H.nx_put, ldVar, ldCells, Ad.add, List.drop_zero, List.drop_succ_cons, List.take_succ_cons, List.take_zero, List.length_cons, List.length_nil, List.getElem?_toArray, Nat.add_zero, Nat.zero_add, Nat.reduceAdd, Nat.reduceMul, Nat.reduceLeDiff, Nat.reduceSub, Nat.reduceEqDiff, Nat.reduceLT, Nat.succ_ne_zero, reduceCtorEq, Try.underlying3, Try.underlying4, Try.underlying9, Try.underlying30, sz3, sz4, sz9, sz30, ag3, ag4, ag9, ag30, *]; done)); (focus (simp only [List.set_cons_zero, List.set_cons_succ]; first | done | with_reducible rfl)))
    | ((with_reducible apply WpDs.off); (focus (simp only [rg, opStep, ev, evL, evO, evP, lift, lift1, liftL, Res.pure, Res.of, Res.unit, Dg.binOp, Dg.strOp, Dg.intOp, Dg.unOp, Dg.eqOp, builtinOp, List.getD_cons_zero, List.getD_cons_succ, List.getElem?_cons_zero, List.getElem?_cons_succ, List.set_cons_zero, List.set_cons_succ, Bool.false_eq_true, if_true, if_false, cells_agg, cells_int, cells_bool, cells_str, cells_ptr, cells_slice, cells_map, V.undef, List.all_cons, List.all_nil, one_int, one_bool, one_str, one_ptr, one_slice, one_map, one_fn, one_nilfn, Bool.and_true, Bool.true_and, Bool.not_true, Bool.not_false, beq_self_eq_true, bTF, bFT, bFF, bTT, get_alloc, get_put, nx_empty, H.nx_alloc, H.nx_put, ldVar, ldCells, Ad.add, List.drop_zero, List.drop_succ_cons, List.take_succ_cons, List.take_zero, List.length_cons, List.length_nil, List.getElem?_toArray, Nat.add_zero, Nat.zero_add, Nat.reduceAdd, Nat.reduceMul, Nat.reduceLeDiff, Nat.reduceSub, Nat.reduceEqDiff, Nat.reduceLT, Nat.succ_ne_zero, reduceCtorEq, Try.underlying3, Try.underlying4, Try.underlying9, Try.underlying30, sz3, sz4, sz9, sz30, ag3, ag4, ag9, ag30, *]; done)); (focus (simp only [List.set_cons_zero, List.set_cons_succ]; first | done | with_reducible rfl)))
    | ((with_reducible apply WpDs.callSet); (focus (simp only [rg, opStep, ev, evL, evO, evP, lift, lift1, liftL, Res.pure, Res.of, Res.unit, Dg.binOp, Dg.strOp, Dg.intOp, Dg.unOp, Dg.eqOp, builtinOp, List.getD_cons_zero, List.getD_cons_succ, List.getElem?_cons_zero, List.getElem?_cons_succ, List.set_cons_zero, List.set_cons_succ, Bool.false_eq_true, if_true, if_false, cells_agg, cells_int, cells_bool, cells_str, cells_ptr, cells_slice, cells_map, V.undef, List.all_cons, List.all_nil, one_int, one_bool, one_str, one_ptr, one_slice, one_map, one_fn, one_nilfn, Bool.and_true, Bool.true_and, Bool.not_true, Bool.not_false, beq_self_eq_true, bTF, bFT, bFF, bTT, get_alloc, get_put, nx_empty, H.nx_alloc, H.nx_put, ldVar, ldCells, Ad.add, List.drop_zero, List.drop_succ_cons, List.take_succ_cons, List.take_zero, List.length_cons, List.length_nil, List.getElem?_toArray, Nat.add_zero, Nat.zero_add, Nat.reduceAdd, Nat.reduceMul, Nat.reduceLeDiff, Nat.reduceSub, Nat.reduceEqDiff, Nat.reduceLT, Nat.succ_ne_zero, reduceCtorEq, Try.underlying3, Try.underlying4, Try.underlying9, Try.underlying30, sz3, sz4, sz9, sz30, ag3, ag4, ag9, ag30, *]; done)); (focus rfl); (focus (simp only [rg, opStep, ev, evL, evO, evP, lift, lift1, liftL, Res.pure, Res.of, Res.unit, Dg.binOp, Dg.strOp, Dg.intOp, Dg.unOp, Dg.eqOp, builtinOp, List.getD_cons_zero, List.getD_cons_succ, List.getElem?_cons_zero, List.getElem?_cons_succ, List.set_cons_zero, List.set_cons_succ, Bool.false_eq_true, if_true, if_false, cells_agg, cells_int, cells_bool, cells_str, cells_ptr, cells_slice, cells_map, V.undef, List.all_cons, List.all_nil, one_int, one_bool, one_str, one_ptr, one_slice, one_map, one_fn, one_nilfn, Bool.and_true, Bool.true_and, Bool.not_true, Bool.not_false, beq_self_eq_true, bTF, bFT, bFF, bTT, get_alloc, get_put, nx_empty, H.nx_alloc, H.nx_put, ldVar, ldCells, Ad.add, List.drop_zero, List.drop_succ_cons, List.take_succ_cons, List.take_zero, List.length_cons, List.length_nil, List.getElem?_toArray, Nat.add_zero, Nat.zero_add, Nat.reduceAdd, Nat.reduceMul, Nat.reduceLeDiff, Nat.reduceSub, Nat.reduceEqDiff, Nat.reduceLT, Nat.succ_ne_zero, reduceCtorEq, Try.underlying3, Try.underlying4, Try.underlying9, Try.underlying30, sz3, sz4, sz9, sz30, ag3, ag4, ag9, ag30, *]; first | done | with_reducible rfl)); (with_reducible apply WpF.given); (focus rfl); (focus rfl); (with_reducible apply WpDs.env); (focus (simp only [List.set_cons_zero, List.set_cons_succ]; first | done | with_reducible rfl)))
    | ((with_reducible apply WpX.cond_true); (focus (simp only [rg, opStep, ev, evL, evO, evP, lift, lift1, liftL, Res.pure, Res.of, Res.unit, Dg.binOp, Dg.strOp, Dg.intOp, Dg.unOp, Dg.eqOp, builtinOp, List.getD_cons_zero, List.getD_cons_succ, List.getElem?_cons_zero, List.getElem?_cons_succ, List.set_cons_zero, List.set_cons_succ, Bool.false_eq_true, if_true, if_false, cells_agg, cells_int, cells_bool, cells_str, cells_ptr, cells_slice, cells_map, V.undef, List.all_cons, List.all_nil, one_int, one_bool, one_str, one_ptr, one_slice, one_map, one_fn, one_nilfn, Bool.and_true, Bool.true_and, Bool.not_true, Bool.not_false, beq_self_eq_true, bTF, bFT, bFF, bTT, get_alloc, get_put, nx_empty, H.nx_alloc, H.nx_put, ldVar, ldCells, Ad.add, List.drop_zero, List.drop_succ_cons, List.take_succ_cons, List.take_zero, List.length_cons, List.length_nil, List.getElem?_toArray, Nat.add_zero, Nat.zero_add, Nat.reduceAdd, Nat.reduceMul, Nat.reduceLeDiff, Nat.reduceSub, Nat.reduceEqDiff, Nat.reduceLT, Nat.succ_ne_zero, reduceCtorEq, Try.underlying3, Try.underlying4, Try.underlying9, Try.underlying30, sz3, sz4, sz9, sz30, ag3, ag4, ag9, ag30, *]; done)))
    | ((with_reducible apply WpX.cond_false); (focus (simp only [rg, opStep, ev, evL, evO, evP, lift, lift1, liftL, Res.pure, Res.of, Res.unit, Dg.binOp, Dg.strOp, Dg.intOp, Dg.unOp, Dg.eqOp, builtinOp, List.getD_cons_zero, List.getD_cons_succ, List.getElem?_cons_zero, List.getElem?_cons_succ, List.set_cons_zero, List.set_cons_succ, Bool.false_eq_true, if_true, if_false, cells_agg, cells_int, cells_bool, cells_str, cells_ptr, cells_slice, cells_map, V.undef, List.all_cons, List.all_nil, one_int, one_bool, one_str, one_ptr, one_slice, one_map, one_fn, one_nilfn, Bool.and_true, Bool.true_and, Bool.not_true, Bool.not_false, beq_self_eq_true, bTF, bFT, bFF, bTT, get_alloc, get_put, nx_empty, H.nx_alloc, H.nx_put, ldVar, ldCells, Ad.add, List.drop_zero, List.drop_succ_cons, List.take_succ_cons, List.take_zero, List.length_cons, List.length_nil, List.getElem?_toArray, Nat.add_zero, Nat.zero_add, Nat.reduceAdd, Nat.reduceMul, Nat.reduceLeDiff, Nat.reduceSub, Nat.reduceEqDiff, Nat.reduceLT, Nat.succ_ne_zero, reduceCtorEq, Try.underlying3, Try.underlying4, Try.underlying9, Try.underlying30, sz3, sz4, sz9, sz30, ag3, ag4, ag9, ag30, *]; done)))
    | ((with_reducible apply WpX.cond); (focus (simp only [rg, opStep, ev, evL, evO, evP, lift, lift1, liftL, Res.pure, Res.of, Res.unit, Dg.binOp, Dg.strOp, Dg.intOp, Dg.unOp, Dg.eqOp, builtinOp, List.getD_cons_zero, List.getD_cons_succ, List.getElem?_cons_zero, List.getElem?_cons_succ, List.set_cons_zero, List.set_cons_succ, Bool.false_eq_true, if_true, if_false, cells_agg, cells_int, cells_bool, cells_str, cells_ptr, cells_slice, cells_map, V.undef, List.all_cons, List.all_nil, one_int, one_bool, one_str, one_ptr, one_slice, one_map, one_fn, one_nilfn, Bool.and_true, Bool.true_and, Bool.not_true, Bool.not_false, beq_self_eq_true, bTF, bFT, bFF, bTT, get_alloc, get_put, nx_empty, H.nx_alloc, H.nx_put, ldVar, ldCells, Ad.add, List.drop_zero, List.drop_succ_cons, List.take_succ_cons, List.take_zero, List.length_cons, List.length_nil, List.getElem?_toArray, Nat.add_zero, Nat.zero_add, Nat.reduceAdd, Nat.reduceMul, Nat.reduceLeDiff, Nat.reduceSub, Nat.reduceEqDiff, Nat.reduceLT, Nat.succ_ne_zero, reduceCtorEq, Try.underlying3, Try.underlying4, Try.underlying9, Try.underlying30, sz3, sz4, sz9, sz30, ag3, ag4, ag9, ag30, *]; first | done | with_reducible rfl)))
    | ((with_reducible apply WpRs.fork); (focus (simp only [rg, opStep, ev, evL, evO, evP, lift, lift1, liftL, Res.pure, Res.of, Res.unit, Dg.binOp, Dg.strOp, Dg.intOp, Dg.unOp, Dg.eqOp, builtinOp, List.getD_cons_zero, List.getD_cons_succ, List.getElem?_cons_zero, List.getElem?_cons_succ, List.set_cons_zero, List.set_cons_succ, Bool.false_eq_true, if_true, if_false, cells_agg, cells_int, cells_bool, cells_str, cells_ptr, cells_slice, cells_map, V.undef, List.all_cons, List.all_nil, one_int, one_bool, one_str, one_ptr, one_slice, one_map, one_fn, one_nilfn, Bool.and_true, Bool.true_and, Bool.not_true, Bool.not_false, beq_self_eq_true, bTF, bFT, bFF, bTT, get_alloc, get_put, nx_empty, H.nx_alloc, H.nx_put, ldVar, ldCells, Ad.add, List.drop_zero, List.drop_succ_cons, List.take_succ_cons, List.take_zero, List.length_cons, List.length_nil, List.getElem?_toArray, Nat.add_zero, Nat.zero_add, Nat.reduceAdd, Nat.reduceMul, Nat.reduceLeDiff, Nat.reduceSub, Nat.reduceEqDiff, Nat.reduceLT, Nat.succ_ne_zero, reduceCtorEq, Try.underlying3, Try.underlying4, Try.underlying9, Try.underlying30, sz3, sz4, sz9, sz30, ag3, ag4, ag9, ag30, *]; first | done | with_reducible rfl)))
    | ((with_reducible apply WpDs.fork); (focus (simp only [rg, opStep, ev, evL, evO, evP, lift, lift1, liftL, Res.pure, Res.of, Res.unit, Dg.binOp, Dg.strOp, Dg.intOp, Dg.unOp, Dg.eqOp, builtinOp, List.getD_cons_zero, List.getD_cons_succ, List.getElem?_cons_zero, List.getElem?_cons_succ, List.set_cons_zero, List.set_cons_succ, Bool.false_eq_true, if_true, if_false, cells_agg, cells_int, cells_bool, cells_str, cells_ptr, cells_slice, cells_map, V.undef, List.all_cons, List.all_nil, one_int, one_bool, one_str, one_ptr, one_slice, one_map, one_fn, one_nilfn, Bool.and_true, Bool.true_and, Bool.not_true, Bool.not_false, beq_self_eq_true, bTF, bFT, bFF, bTT, get_alloc, get_put, nx_empty, H.nx_alloc, H.nx_put, ldVar, ldCells, Ad.add, List.drop_zero, List.drop_succ_cons, List.take_succ_cons, List.take_zero, List.length_cons, List.length_nil, List.getElem?_toArray, Nat.add_zero, Nat.zero_add, Nat.reduceAdd, Nat.reduceMul, Nat.reduceLeDiff, Nat.reduceSub, Nat.reduceEqDiff, Nat.reduceLT, Nat.succ_ne_zero, reduceCtorEq, Try.underlying3, Try.underlying4, Try.underlying9, Try.underlying30, sz3, sz4, sz9, sz30, ag3, ag4, ag9, ag30, *]; first | done | with_reducible rfl)))
  all_goals
    simp [closesM, *]

def p10 (args : List V) : Option V := match args with
  | [.int .i64 m, .agg [.int .i64 k, .int .i64 _, .str s, .str _, at', .bool _, .int .i64 _, .int .i64 _]] => if at'.one && at'.isOld then some (.bool (closesM m k s)) else none
  | _ => none
def prim2 : FuncId → Option (List V → H → Option (V × H)) := setPrim prim1 10 p10
theorem prims2 (W : World) : Prims Try.prog W prim2 := by
  refine Prims.add base (prims1 W) ⟨_, _, Try.func10, rfl⟩ ?_
  intro w _ args v h
  unfold p10 at h
  split at h
  · split at h
    · rename_i hc
      simp only [Bool.and_eq_true] at hc
      injection h with h; subst h
      exact ⟨by simp [V.isOldL, V.isOld, hc.2], rfl, ok10 hc.1⟩
    · cases h
  · cases h

theorem awake_ok (w : World) : WpF Try.prog w prim2 7 [] H.empty (fun x _ => x = .bool true) := WpF.found (n := 40) (by kernel_rfl)
def p7 (args : List V) : Option V := match args with | [] => some (.bool true) | _ => none
def prim3 : FuncId → Option (List V → H → Option (V × H)) := setPrim prim2 7 p7
theorem prims3 (W : World) : Prims Try.prog W prim3 := by
  refine Prims.add base (prims2 W) ⟨_, _, Try.func7, rfl⟩ ?_
  intro w _ args v h
  unfold p7 at h
  split at h
  · injection h with h; subst h
    exact ⟨rfl, rfl, awake_ok w⟩
  · cases h
end Go.Proofs.Ytanjaiaofcjcgaa.Dg
