/-
  ForeignLower: the walk.
-/
import Derived.Test.YtjfnoiknjeklhaaX1
set_option linter.unusedVariables false
set_option linter.unusedSimpArgs false
namespace Go.Proofs.Ytjfnoiknjeklhaa.Dg
open Go Go.RowKit
set_option maxRecDepth 20000
theorem tag_len {p : Int} {s : List UInt8} (h : s.length ≤ 5000) : (tagM p s).length ≤ 5000 := by
  unfold tagM
  split
  · simp only [capM]; split; · decide
    split; · decide
    split; · decide
    split; · decide
    split; · decide
    split; · decide
    exact h
  · exact h
theorem tag_lower {p : Int} {s : List UInt8} : lower (tagM p s) = lower s := by
  unfold tagM
  split
  · simp only [capM]
    split; · rename_i h; rw [← eq_of_beq h]; kernel_rfl
    split; · rename_i h; rw [← eq_of_beq h]; kernel_rfl
    split; · rename_i h; rw [← eq_of_beq h]; kernel_rfl
    split; · rename_i h; rw [← eq_of_beq h]; kernel_rfl
    split; · rename_i h; rw [← eq_of_beq h]; kernel_rfl
    split; · rename_i h; rw [← eq_of_beq h]; kernel_rfl
    rfl
  · rfl
theorem tag_twice {p : Int} {s : List UInt8} : tagM p (tagM p s) = tagM p s := by
  unfold tagM
  split
  · simp only [capM]
    split; · decide
    split; · decide
    split; · decide
    split; · decide
    split; · decide
    split; · decide
    simp only [*, Bool.false_eq_true, if_false]
  · rfl
theorem tag_other {p : Int} {s : List UInt8} (h : (p == 1) = false) : tagM p s = s := by
  unfold tagM; rw [h]; rfl
theorem ForeignLower_ok {W : World} {p : Int} {s : List UInt8} (_ : -9223372036854775808 ≤ p ∧ p ≤ 9223372036854775807) (_ : s.length ≤ 9223372036854775807) : WpF Try.prog W prim12 6 [.int .i64 p, .str s] H.empty (fun v _ => v = .bool true) := by
  refine WpF.m tab_ok (by kernel_rfl) rfl ?_
  refine WpM.cfg (c' := ⟨.code x6_0, [], (.int .i64 p :: .str s :: us 35), [], H.empty, none⟩) (by kernel_rfl) ?_
  refine WpM.run tab_ok 13 ⟨.code x6_5, [.seq x6_8], (.int .i64 p :: .str s :: U :: U :: .bool false :: U :: .str s :: .int .i64 ((s.length : Int)) :: .bool (decide (((s.length : Int)) > 5000)) :: us 28), [], H.empty, none⟩ (by kernel_rfl) ?_
  refine WpM.cond (t := (decide (((s.length : Int)) > 5000))) (by kernel_rfl) (fun c1 => ?_) (fun c1 => ?_)
  · have c1p := dec_t c1
    refine WpM.run tab_ok 8 ⟨.done .ret, [], (.int .i64 p :: .str s :: U :: U :: .bool true :: U :: .str s :: .int .i64 ((s.length : Int)) :: .bool (decide (((s.length : Int)) > 5000)) :: .bool true :: us 27), [], H.empty, none⟩ (by kernel_rfl) ?_
    refine WpM.ret (.bool true) H.empty (by kernel_rfl) (by kernel_rfl) ?_
    first | rfl | (exfalso; simp_all; done) | (exfalso; simp_all [tag_lower, tag_twice, tag_other]; done)
  · have c1p := dec_f c1
    refine WpM.run tab_ok 6 ⟨.ops (p6_9_2 :: o6_9.drop 3), [.seq x6_10], (.int .i64 p :: .str s :: U :: U :: .bool false :: U :: .str s :: .int .i64 ((s.length : Int)) :: .bool (decide (((s.length : Int)) > 5000)) :: U :: .int .i64 p :: .str s :: us 25), [], H.empty, none⟩ (by kernel_rfl) ?_
    refine WpM.givenQ (f := 8) (args := [.int .i64 p, .str s]) (q := q8) (.str (tagM p s)) (by kernel_rfl) (by kernel_rfl) (by kernel_rfl) (by simp only [q8]; rw [if_pos (by first | omega | (have := tag_len (p := p) (s := s) (by omega); omega))]) ?_
    refine WpM.run tab_ok 6 ⟨.ops (p6_11_1 :: o6_11.drop 2), [.seq .ret], (.int .i64 p :: .str s :: U :: U :: .bool false :: .str (tagM p s) :: .str s :: .int .i64 ((s.length : Int)) :: .bool (decide (((s.length : Int)) > 5000)) :: U :: .int .i64 p :: .str s :: .str (tagM p s) :: .str (tagM p s) :: us 23), [], H.empty, none⟩ (by kernel_rfl) ?_
    refine WpM.givenQ (f := 21) (args := [.str (tagM p s)]) (q := q21) (.str (lower (tagM p s))) (by kernel_rfl) (by kernel_rfl) (by kernel_rfl) (by simp only [q21]; rw [if_pos (by first | omega | (have := tag_len (p := p) (s := s) (by omega); omega))]) ?_
    refine WpM.run tab_ok 1 ⟨.ops (p6_11_3 :: o6_11.drop 4), [.seq .ret], (.int .i64 p :: .str s :: U :: U :: .bool false :: .str (tagM p s) :: .str s :: .int .i64 ((s.length : Int)) :: .bool (decide (((s.length : Int)) > 5000)) :: U :: .int .i64 p :: .str s :: .str (tagM p s) :: .str (tagM p s) :: .str (lower (tagM p s)) :: .str s :: us 21), [], H.empty, none⟩ (by kernel_rfl) ?_
    refine WpM.givenQ (f := 21) (args := [.str s]) (q := q21) (.str (lower s)) (by kernel_rfl) (by kernel_rfl) (by kernel_rfl) (by simp only [q21]; rw [if_pos (by first | omega | (have := tag_len (p := p) (s := s) (by omega); omega))]) ?_
    refine WpM.run tab_ok 2 ⟨.ops (p6_11_6 :: o6_11.drop 7), [.seq .ret], (.int .i64 p :: .str s :: U :: U :: .bool false :: .str (tagM p s) :: .str s :: .int .i64 ((s.length : Int)) :: .bool (decide (((s.length : Int)) > 5000)) :: U :: .int .i64 p :: .str s :: .str (tagM p s) :: .str (tagM p s) :: .str (lower (tagM p s)) :: .str s :: .str (lower s) :: .bool ((lower (tagM p s)) == (lower s)) :: .bool ((lower (tagM p s)) == (lower s)) :: us 18), [], H.empty, none⟩ (by kernel_rfl) ?_
    refine WpM.guard (b := ((lower (tagM p s)) == (lower s))) (by kernel_rfl) (fun c2 => ?_) (fun c2 => ?_)
    · have c2p := beq_t c2
      refine WpM.run tab_ok 2 ⟨.ops (p6_11_8 :: o6_11.drop 9), [.seq .ret], (.int .i64 p :: .str s :: U :: U :: .bool false :: .str (tagM p s) :: .str s :: .int .i64 ((s.length : Int)) :: .bool (decide (((s.length : Int)) > 5000)) :: U :: .int .i64 p :: .str s :: .str (tagM p s) :: .str (tagM p s) :: .str (lower (tagM p s)) :: .str s :: .str (lower s) :: .bool ((lower (tagM p s)) == (lower s)) :: .bool true :: .int .i64 p :: .str (tagM p s) :: us 16), [], H.empty, none⟩ (by kernel_rfl) ?_
      refine WpM.givenQ (f := 8) (args := [.int .i64 p, .str (tagM p s)]) (q := q8) (.str (tagM p (tagM p s))) (by kernel_rfl) (by kernel_rfl) (by kernel_rfl) (by simp only [q8]; rw [if_pos (by first | omega | (have := tag_len (p := p) (s := s) (by omega); omega))]) ?_
      refine WpM.run tab_ok 4 ⟨.ops (p6_11_13 :: o6_11.drop 14), [.seq .ret], (.int .i64 p :: .str s :: U :: U :: .bool false :: .str (tagM p s) :: .str s :: .int .i64 ((s.length : Int)) :: .bool (decide (((s.length : Int)) > 5000)) :: U :: .int .i64 p :: .str s :: .str (tagM p s) :: .str (tagM p s) :: .str (lower (tagM p s)) :: .str s :: .str (lower s) :: .bool ((lower (tagM p s)) == (lower s)) :: .bool true :: .int .i64 p :: .str (tagM p s) :: .str (tagM p (tagM p s)) :: .str (tagM p s) :: .bool ((tagM p (tagM p s)) == (tagM p s)) :: .bool ((tagM p (tagM p s)) == (tagM p s)) :: .bool ((tagM p (tagM p s)) == (tagM p s)) :: us 11), [], H.empty, none⟩ (by kernel_rfl) ?_
      refine WpM.guard (b := ((tagM p (tagM p s)) == (tagM p s))) (by kernel_rfl) (fun c3 => ?_) (fun c3 => ?_)
      · have c3p := beq_t c3
        refine WpM.run tab_ok 3 ⟨.ops (p6_11_16 :: o6_11.drop 17), [.seq .ret], (.int .i64 p :: .str s :: U :: U :: .bool false :: .str (tagM p s) :: .str s :: .int .i64 ((s.length : Int)) :: .bool (decide (((s.length : Int)) > 5000)) :: U :: .int .i64 p :: .str s :: .str (tagM p s) :: .str (tagM p s) :: .str (lower (tagM p s)) :: .str s :: .str (lower s) :: .bool ((lower (tagM p s)) == (lower s)) :: .bool true :: .int .i64 p :: .str (tagM p s) :: .str (tagM p (tagM p s)) :: .str (tagM p s) :: .bool ((tagM p (tagM p s)) == (tagM p s)) :: .bool ((tagM p (tagM p s)) == (tagM p s)) :: .bool true :: .int .i64 p :: .bool (p == 1) :: .bool (p == 1) :: us 8), [], H.empty, none⟩ (by kernel_rfl) ?_
        refine WpM.guard (b := (p == 1)) (by kernel_rfl) (fun c4 => ?_) (fun c4 => ?_)
        · have c4p := beq_t c4
          refine WpM.run tab_ok 12 ⟨.done .ret, [], (.int .i64 p :: .str s :: U :: U :: .bool true :: .str (tagM p s) :: .str s :: .int .i64 ((s.length : Int)) :: .bool (decide (((s.length : Int)) > 5000)) :: U :: .int .i64 p :: .str s :: .str (tagM p s) :: .str (tagM p s) :: .str (lower (tagM p s)) :: .str s :: .str (lower s) :: .bool ((lower (tagM p s)) == (lower s)) :: .bool true :: .int .i64 p :: .str (tagM p s) :: .str (tagM p (tagM p s)) :: .str (tagM p s) :: .bool ((tagM p (tagM p s)) == (tagM p s)) :: .bool ((tagM p (tagM p s)) == (tagM p s)) :: .bool true :: .int .i64 p :: .bool (p == 1) :: .bool true :: U :: U :: U :: .bool true :: .bool true :: .bool true :: .bool true :: .bool true :: []), [], H.empty, none⟩ (by kernel_rfl) ?_
          refine WpM.ret (.bool true) H.empty (by kernel_rfl) (by kernel_rfl) ?_
          first | rfl | (exfalso; simp_all; done) | (exfalso; simp_all [tag_lower, tag_twice, tag_other]; done)
        · have c4p := beq_f c4
          refine WpM.run tab_ok 6 ⟨.ops (p6_11_22 :: o6_11.drop 23), [.seq .ret], (.int .i64 p :: .str s :: U :: U :: .bool false :: .str (tagM p s) :: .str s :: .int .i64 ((s.length : Int)) :: .bool (decide (((s.length : Int)) > 5000)) :: U :: .int .i64 p :: .str s :: .str (tagM p s) :: .str (tagM p s) :: .str (lower (tagM p s)) :: .str s :: .str (lower s) :: .bool ((lower (tagM p s)) == (lower s)) :: .bool true :: .int .i64 p :: .str (tagM p s) :: .str (tagM p (tagM p s)) :: .str (tagM p s) :: .bool ((tagM p (tagM p s)) == (tagM p s)) :: .bool ((tagM p (tagM p s)) == (tagM p s)) :: .bool true :: .int .i64 p :: .bool (p == 1) :: .bool false :: .str (tagM p s) :: .str s :: .bool ((tagM p s) == s) :: .bool ((tagM p s) == s) :: .bool ((tagM p s) == s) :: .bool ((tagM p s) == s) :: U :: U :: []), [], H.empty, none⟩ (by kernel_rfl) ?_
          refine WpM.guard (b := ((tagM p s) == s)) (by kernel_rfl) (fun c5 => ?_) (fun c5 => ?_)
          · have c5p := beq_t c5
            refine WpM.run tab_ok 6 ⟨.done .ret, [], (.int .i64 p :: .str s :: U :: U :: .bool true :: .str (tagM p s) :: .str s :: .int .i64 ((s.length : Int)) :: .bool (decide (((s.length : Int)) > 5000)) :: U :: .int .i64 p :: .str s :: .str (tagM p s) :: .str (tagM p s) :: .str (lower (tagM p s)) :: .str s :: .str (lower s) :: .bool ((lower (tagM p s)) == (lower s)) :: .bool true :: .int .i64 p :: .str (tagM p s) :: .str (tagM p (tagM p s)) :: .str (tagM p s) :: .bool ((tagM p (tagM p s)) == (tagM p s)) :: .bool ((tagM p (tagM p s)) == (tagM p s)) :: .bool true :: .int .i64 p :: .bool (p == 1) :: .bool false :: .str (tagM p s) :: .str s :: .bool ((tagM p s) == s) :: .bool ((tagM p s) == s) :: .bool ((tagM p s) == s) :: .bool true :: .bool true :: .bool true :: []), [], H.empty, none⟩ (by kernel_rfl) ?_
            refine WpM.ret (.bool true) H.empty (by kernel_rfl) (by kernel_rfl) ?_
            first | rfl | (exfalso; simp_all; done) | (exfalso; simp_all [tag_lower, tag_twice, tag_other]; done)
          · have c5p := beq_f c5
            refine WpM.run tab_ok 6 ⟨.done .ret, [], (.int .i64 p :: .str s :: U :: U :: .bool false :: .str (tagM p s) :: .str s :: .int .i64 ((s.length : Int)) :: .bool (decide (((s.length : Int)) > 5000)) :: U :: .int .i64 p :: .str s :: .str (tagM p s) :: .str (tagM p s) :: .str (lower (tagM p s)) :: .str s :: .str (lower s) :: .bool ((lower (tagM p s)) == (lower s)) :: .bool true :: .int .i64 p :: .str (tagM p s) :: .str (tagM p (tagM p s)) :: .str (tagM p s) :: .bool ((tagM p (tagM p s)) == (tagM p s)) :: .bool ((tagM p (tagM p s)) == (tagM p s)) :: .bool true :: .int .i64 p :: .bool (p == 1) :: .bool false :: .str (tagM p s) :: .str s :: .bool ((tagM p s) == s) :: .bool ((tagM p s) == s) :: .bool ((tagM p s) == s) :: .bool false :: U :: .bool false :: []), [], H.empty, none⟩ (by kernel_rfl) ?_
            refine WpM.ret (.bool false) H.empty (by kernel_rfl) (by kernel_rfl) ?_
            first | rfl | (exfalso; simp_all; done) | (exfalso; simp_all [tag_lower, tag_twice, tag_other]; done)
      · have c3p := beq_f c3
        refine WpM.run tab_ok 15 ⟨.done .ret, [], (.int .i64 p :: .str s :: U :: U :: .bool false :: .str (tagM p s) :: .str s :: .int .i64 ((s.length : Int)) :: .bool (decide (((s.length : Int)) > 5000)) :: U :: .int .i64 p :: .str s :: .str (tagM p s) :: .str (tagM p s) :: .str (lower (tagM p s)) :: .str s :: .str (lower s) :: .bool ((lower (tagM p s)) == (lower s)) :: .bool true :: .int .i64 p :: .str (tagM p s) :: .str (tagM p (tagM p s)) :: .str (tagM p s) :: .bool ((tagM p (tagM p s)) == (tagM p s)) :: .bool ((tagM p (tagM p s)) == (tagM p s)) :: .bool false :: U :: U :: U :: U :: U :: U :: U :: .bool false :: .bool false :: U :: .bool false :: []), [], H.empty, none⟩ (by kernel_rfl) ?_
        refine WpM.ret (.bool false) H.empty (by kernel_rfl) (by kernel_rfl) ?_
        first | rfl | (exfalso; simp_all; done) | (exfalso; simp_all [tag_lower, tag_twice, tag_other]; done)
    · have c2p := beq_f c2
      refine WpM.run tab_ok 22 ⟨.done .ret, [], (.int .i64 p :: .str s :: U :: U :: .bool false :: .str (tagM p s) :: .str s :: .int .i64 ((s.length : Int)) :: .bool (decide (((s.length : Int)) > 5000)) :: U :: .int .i64 p :: .str s :: .str (tagM p s) :: .str (tagM p s) :: .str (lower (tagM p s)) :: .str s :: .str (lower s) :: .bool ((lower (tagM p s)) == (lower s)) :: .bool false :: U :: U :: U :: U :: U :: .bool false :: .bool false :: U :: U :: U :: U :: U :: U :: U :: .bool false :: .bool false :: U :: .bool false :: []), [], H.empty, none⟩ (by kernel_rfl) ?_
      refine WpM.ret (.bool false) H.empty (by kernel_rfl) (by kernel_rfl) ?_
      first | rfl | (exfalso; simp_all; done) | (exfalso; simp_all [tag_lower, tag_twice, tag_other]; done)
end Go.Proofs.Ytjfnoiknjeklhaa.Dg
