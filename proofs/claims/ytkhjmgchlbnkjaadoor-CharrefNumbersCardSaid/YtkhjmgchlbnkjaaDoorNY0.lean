/-
  CharrefNumbers: the walk.
-/
import Derived.Test.YtkhjmgchlbnkjaaDoorD0
set_option linter.unusedVariables false
set_option linter.unusedSimpArgs false
namespace Go.Proofs.YtkhjmgchlbnkjaaDoor.Dg
open Go Go.RowKit
set_option maxRecDepth 20000
theorem numbers_ok {W : World} {n : Int} (_ : -9223372036854775808 ≤ n ∧ n ≤ 9223372036854775807) : WpF Tryd.prog W prim2 3 [.int .i64 n] H.empty (fun v _ => v = .bool true) := by
  refine WpF.m tab_ok (by kernel_rfl) rfl ?_
  refine WpM.cfg (c' := ⟨.code x3_0, [], (.int .i64 n :: us 27), [], H.empty, none⟩) (by kernel_rfl) ?_
  refine WpM.run tab_ok 8 ⟨.ops (p3_3_1 :: o3_3.drop 2), [.seq x3_4], (.int .i64 n :: U :: .bool false :: U :: U :: U :: U :: U :: .int .i64 n :: us 19), [], H.empty, none⟩ (by kernel_rfl) ?_
  refine WpM.call 8 [.int .i64 n] (by kernel_rfl) (by kernel_rfl) ?_
  refine WpF.mono (num_ok (n := n) _) ?_
  rintro _ h1 ⟨a2, rfl⟩
  refine WpM.run tab_ok 10 ⟨.ops (p3_5_1 :: o3_5.drop 2), [.seq x3_6], (.int .i64 n :: U :: .bool false :: .int .i64 (numV n) :: .int .i64 (numF n) :: U :: U :: .tup [.int .i64 (numV n), .int .i64 (numF n)] :: .int .i64 n :: .tup [.int .i64 (numV n), .int .i64 (numF n)] :: .int .i64 (numV n) :: .int .i64 (numF n) :: U :: .int .i64 n :: us 14), [], h1, none⟩ (by kernel_rfl) ?_
  refine WpM.call 9 [.int .i64 n] (by kernel_rfl) (by kernel_rfl) ?_
  refine WpF.mono (rnum_ok (n := n) _) ?_
  rintro _ h3 ⟨a4, rfl⟩
  refine WpM.run tab_ok 13 ⟨.ops (p3_7_4 :: o3_7.drop 5), [.seq .ret], (.int .i64 n :: U :: .bool false :: .int .i64 (numV n) :: .int .i64 (numF n) :: .int .i64 (numV n) :: .int .i64 (numF n) :: .tup [.int .i64 (numV n), .int .i64 (numF n)] :: .int .i64 n :: .tup [.int .i64 (numV n), .int .i64 (numF n)] :: .int .i64 (numV n) :: .int .i64 (numF n) :: .tup [.int .i64 (numV n), .int .i64 (numF n)] :: .int .i64 n :: .tup [.int .i64 (numV n), .int .i64 (numF n)] :: .int .i64 (numV n) :: .int .i64 (numF n) :: .int .i64 (numV n) :: .int .i64 (numV n) :: .bool ((numV n) == (numV n)) :: .bool ((numV n) == (numV n)) :: us 7), [], h3, none⟩ (by kernel_rfl) ?_
  refine WpM.guard (b := ((numV n) == (numV n))) (by kernel_rfl) (fun c5 => ?_) (fun c5 => ?_)
  · have c5p := beq_t c5
    refine WpM.run tab_ok 5 ⟨.ops (p3_7_9 :: o3_7.drop 10), [.seq .ret], (.int .i64 n :: U :: .bool false :: .int .i64 (numV n) :: .int .i64 (numF n) :: .int .i64 (numV n) :: .int .i64 (numF n) :: .tup [.int .i64 (numV n), .int .i64 (numF n)] :: .int .i64 n :: .tup [.int .i64 (numV n), .int .i64 (numF n)] :: .int .i64 (numV n) :: .int .i64 (numF n) :: .tup [.int .i64 (numV n), .int .i64 (numF n)] :: .int .i64 n :: .tup [.int .i64 (numV n), .int .i64 (numF n)] :: .int .i64 (numV n) :: .int .i64 (numF n) :: .int .i64 (numV n) :: .int .i64 (numV n) :: .bool ((numV n) == (numV n)) :: .bool true :: .int .i64 (numF n) :: .int .i64 (numF n) :: .bool ((numF n) == (numF n)) :: .bool ((numF n) == (numF n)) :: .bool ((numF n) == (numF n)) :: U :: U :: []), [], h3, none⟩ (by kernel_rfl) ?_
    refine WpM.guard (b := ((numF n) == (numF n))) (by kernel_rfl) (fun c6 => ?_) (fun c6 => ?_)
    · have c6p := beq_t c6
      refine WpM.run tab_ok 0 ⟨.ops (p3_7_9 :: o3_7.drop 10), [.seq .ret], (.int .i64 n :: U :: .bool false :: .int .i64 (numV n) :: .int .i64 (numF n) :: .int .i64 (numV n) :: .int .i64 (numF n) :: .tup [.int .i64 (numV n), .int .i64 (numF n)] :: .int .i64 n :: .tup [.int .i64 (numV n), .int .i64 (numF n)] :: .int .i64 (numV n) :: .int .i64 (numF n) :: .tup [.int .i64 (numV n), .int .i64 (numF n)] :: .int .i64 n :: .tup [.int .i64 (numV n), .int .i64 (numF n)] :: .int .i64 (numV n) :: .int .i64 (numF n) :: .int .i64 (numV n) :: .int .i64 (numV n) :: .bool ((numV n) == (numV n)) :: .bool true :: .int .i64 (numF n) :: .int .i64 (numF n) :: .bool ((numF n) == (numF n)) :: .bool ((numF n) == (numF n)) :: .bool true :: U :: U :: []), [], h3, none⟩ (by kernel_rfl) ?_
      refine WpM.call 10 [] (by kernel_rfl) (by kernel_rfl) ?_
      refine WpF.mono (awake_ok _) ?_
      rintro _ h7 ⟨a8, rfl⟩
      refine WpM.run tab_ok 5 ⟨.done .ret, [], (.int .i64 n :: U :: .bool true :: .int .i64 (numV n) :: .int .i64 (numF n) :: .int .i64 (numV n) :: .int .i64 (numF n) :: .tup [.int .i64 (numV n), .int .i64 (numF n)] :: .int .i64 n :: .tup [.int .i64 (numV n), .int .i64 (numF n)] :: .int .i64 (numV n) :: .int .i64 (numF n) :: .tup [.int .i64 (numV n), .int .i64 (numF n)] :: .int .i64 n :: .tup [.int .i64 (numV n), .int .i64 (numF n)] :: .int .i64 (numV n) :: .int .i64 (numF n) :: .int .i64 (numV n) :: .int .i64 (numV n) :: .bool ((numV n) == (numV n)) :: .bool true :: .int .i64 (numF n) :: .int .i64 (numF n) :: .bool ((numF n) == (numF n)) :: .bool ((numF n) == (numF n)) :: .bool true :: .bool true :: .bool true :: []), [], h7, none⟩ (by kernel_rfl) ?_
      refine WpM.ret (.bool true) h7 (by kernel_rfl) (by kernel_rfl) ?_
      first | rfl | (exfalso; simp_all; done)
    · have c6p := beq_f c6
      exfalso; simp at c6
  · have c5p := beq_f c5
    exfalso; simp at c5
end Go.Proofs.YtkhjmgchlbnkjaaDoor.Dg
