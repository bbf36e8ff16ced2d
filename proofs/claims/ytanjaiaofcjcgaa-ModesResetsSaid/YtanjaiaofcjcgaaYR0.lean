/-
  ModesResets: the walk.
-/
import Derived.Test.YtanjaiaofcjcgaaX3
set_option linter.unusedVariables false
set_option linter.unusedSimpArgs false
namespace Go.Proofs.Ytanjaiaofcjcgaa.Dg
open Go Go.RowKit
set_option maxRecDepth 20000
theorem mr_ok {W : World} {l : SlV T34} {hd : Bool} (hl : l.ok W 4 T34.cells (T34.ok W)) (_ : True) : WpF Try.prog W prim8 3 [.slice l.a l.l.length l.cap true, .bool hd] H.empty (fun v _ => v = .bool true) := by
  have hS : ∀ h, LdA Try.prog W T34.cells 34 4 l.a l.l h := fun h => arr_all hl.arr (by kernel_rfl) (by kernel_rfl) (by decide) (fun _ => rfl) h
  refine WpF.m tab_ok (by kernel_rfl) rfl ?_
  refine WpM.cfg (c' := ⟨.code x3_0, [], (.slice l.a l.l.length l.cap true :: .bool hd :: us 17), [], H.empty, none⟩) (by kernel_rfl) ?_
  refine WpM.run tab_ok 13 ⟨.code x3_5, [.seq x3_8], (.slice l.a l.l.length l.cap true :: .bool hd :: U :: U :: .bool false :: .slice l.a l.l.length l.cap true :: .int .i64 ((l.l.length : Int)) :: .bool (decide (((l.l.length : Int)) > 500)) :: us 11), [], H.empty, none⟩ (by kernel_rfl) ?_
  refine WpM.cond (t := (decide (((l.l.length : Int)) > 500))) (by kernel_rfl) (fun c1 => ?_) (fun c1 => ?_)
  · have c1p := dec_t c1
    refine WpM.run tab_ok 8 ⟨.done .ret, [], (.slice l.a l.l.length l.cap true :: .bool hd :: U :: U :: .bool true :: .slice l.a l.l.length l.cap true :: .int .i64 ((l.l.length : Int)) :: .bool (decide (((l.l.length : Int)) > 500)) :: .bool true :: us 10), [], H.empty, none⟩ (by kernel_rfl) ?_
    refine WpM.ret (.bool true) H.empty (by kernel_rfl) (by kernel_rfl) ?_
    first | rfl | (exfalso; simp_all; done)
  · have c1p := dec_f c1
    refine WpM.run tab_ok 6 ⟨.ops (p3_9_2 :: o3_9.drop 3), [.seq .ret], (.slice l.a l.l.length l.cap true :: .bool hd :: U :: U :: .bool false :: .slice l.a l.l.length l.cap true :: .int .i64 ((l.l.length : Int)) :: .bool (decide (((l.l.length : Int)) > 500)) :: U :: .slice l.a l.l.length l.cap true :: .bool hd :: us 8), [], H.empty, none⟩ (by kernel_rfl) ?_
    refine WpM.call 8 [.slice l.a l.l.length l.cap true, .bool hd] (by kernel_rfl) (by kernel_rfl) ?_
    refine WpF.mono (reset_ok (la := l.a) (l := l.l) (cap := l.cap) (ex := true) (by omega) (fun h _ => hS h) rfl) ?_
    rintro _ h2 ⟨a3, rfl⟩
    refine WpM.run tab_ok 2 ⟨.ops (p3_9_5 :: o3_9.drop 6), [.seq .ret], (.slice l.a l.l.length l.cap true :: .bool hd :: U :: U :: .bool false :: .slice l.a l.l.length l.cap true :: .int .i64 ((l.l.length : Int)) :: .bool (decide (((l.l.length : Int)) > 500)) :: U :: .slice l.a l.l.length l.cap true :: .bool hd :: .int .i64 (resetM l.l hd) :: .slice l.a l.l.length l.cap true :: .bool hd :: us 5), [], h2, none⟩ (by kernel_rfl) ?_
    refine WpM.call 9 [.slice l.a l.l.length l.cap true, .bool hd] (by kernel_rfl) (by kernel_rfl) ?_
    refine WpF.mono (resetr_ok (la := l.a) (l := l.l) (cap := l.cap) (ex := true) (by omega) (fun h _ => hS h) rfl) ?_
    rintro _ h4 ⟨a5, rfl⟩
    refine WpM.run tab_ok 2 ⟨.ops (p3_9_8 :: o3_9.drop 9), [.seq .ret], (.slice l.a l.l.length l.cap true :: .bool hd :: U :: U :: .bool false :: .slice l.a l.l.length l.cap true :: .int .i64 ((l.l.length : Int)) :: .bool (decide (((l.l.length : Int)) > 500)) :: U :: .slice l.a l.l.length l.cap true :: .bool hd :: .int .i64 (resetM l.l hd) :: .slice l.a l.l.length l.cap true :: .bool hd :: .int .i64 (resetM l.l hd) :: .bool ((resetM l.l hd) == (resetM l.l hd)) :: .bool ((resetM l.l hd) == (resetM l.l hd)) :: U :: U :: []), [], h4, none⟩ (by kernel_rfl) ?_
    refine WpM.guard (b := ((resetM l.l hd) == (resetM l.l hd))) (by kernel_rfl) (fun c6 => ?_) (fun c6 => ?_)
    · have c6p := beq_t c6
      refine WpM.run tab_ok 6 ⟨.done .ret, [], (.slice l.a l.l.length l.cap true :: .bool hd :: U :: U :: .bool true :: .slice l.a l.l.length l.cap true :: .int .i64 ((l.l.length : Int)) :: .bool (decide (((l.l.length : Int)) > 500)) :: U :: .slice l.a l.l.length l.cap true :: .bool hd :: .int .i64 (resetM l.l hd) :: .slice l.a l.l.length l.cap true :: .bool hd :: .int .i64 (resetM l.l hd) :: .bool ((resetM l.l hd) == (resetM l.l hd)) :: .bool true :: .bool true :: .bool true :: []), [], h4, none⟩ (by kernel_rfl) ?_
      refine WpM.ret (.bool true) h4 (by kernel_rfl) (by kernel_rfl) ?_
      first | rfl | (exfalso; simp_all; done)
    · have c6p := beq_f c6
      refine WpM.run tab_ok 6 ⟨.done .ret, [], (.slice l.a l.l.length l.cap true :: .bool hd :: U :: U :: .bool false :: .slice l.a l.l.length l.cap true :: .int .i64 ((l.l.length : Int)) :: .bool (decide (((l.l.length : Int)) > 500)) :: U :: .slice l.a l.l.length l.cap true :: .bool hd :: .int .i64 (resetM l.l hd) :: .slice l.a l.l.length l.cap true :: .bool hd :: .int .i64 (resetM l.l hd) :: .bool ((resetM l.l hd) == (resetM l.l hd)) :: .bool false :: U :: .bool false :: []), [], h4, none⟩ (by kernel_rfl) ?_
      refine WpM.ret (.bool false) h4 (by kernel_rfl) (by kernel_rfl) ?_
      first | rfl | (exfalso; simp_all; done)
end Go.Proofs.Ytanjaiaofcjcgaa.Dg
