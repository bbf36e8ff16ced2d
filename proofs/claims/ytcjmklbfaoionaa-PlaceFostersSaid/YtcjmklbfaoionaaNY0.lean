/-
  PlaceFosters: the walk.
-/
import Derived.Test.YtcjmklbfaoionaaN0
set_option linter.unusedVariables false
set_option linter.unusedSimpArgs false
namespace Go.Proofs.Ytcjmklbfaoionaa.Dg
open Go Go.RowKit
set_option maxRecDepth 20000
theorem fosters_ok {W : World} {s : List UInt8} (_ : s.length ≤ 9223372036854775807) : WpF Try.prog W prim3 3 [.str s] H.empty (fun v _ => v = .bool true) := by
  refine WpF.m tab_ok (by kernel_rfl) rfl ?_
  refine WpM.cfg (c' := ⟨.code x3_0, [], (.str s :: us 14), [], H.empty, none⟩) (by kernel_rfl) ?_
  refine WpM.run tab_ok 13 ⟨.code x3_5, [.seq x3_8], (.str s :: U :: .bool false :: .str s :: .int .i64 ((s.length : Int)) :: .bool (decide (((s.length : Int)) > 10000)) :: us 9), [], H.empty, none⟩ (by kernel_rfl) ?_
  refine WpM.cond (t := (decide (((s.length : Int)) > 10000))) (by kernel_rfl) (fun c1 => ?_) (fun c1 => ?_)
  · have c1p := dec_t c1
    refine WpM.run tab_ok 8 ⟨.done .ret, [], (.str s :: U :: .bool true :: .str s :: .int .i64 ((s.length : Int)) :: .bool (decide (((s.length : Int)) > 10000)) :: .bool true :: us 8), [], H.empty, none⟩ (by kernel_rfl) ?_
    refine WpM.ret (.bool true) H.empty (by kernel_rfl) (by kernel_rfl) ?_
    first | rfl | (simp [am_k_tabletbodytfoottheadtr, *]; done) | (exfalso; simp_all [am_k_tabletbodytfoottheadtr]; done)
  · have c1p := dec_f c1
    refine WpM.run tab_ok 25 ⟨.code x7_9, [.seq x7_20, .blk 0, .seq x7_23, .call [.tmp 2] (some 8) (o3_9.drop 2) (.str s :: U :: .bool false :: .str s :: .int .i64 ((s.length : Int)) :: .bool (decide (((s.length : Int)) > 10000)) :: U :: .str s :: us 7) [] none, .seq .ret], [.str s, U, .bool false, .str s, .bool (s == k_table), .bool (s == k_table), U, U, U, U], [], H.empty, none⟩ (by kernel_rfl) ?_
    refine WpM.cond (t := (s == k_table)) (by kernel_rfl) (fun c2 => ?_) (fun c2 => ?_)
    · have c2p := beq_t c2
      refine WpM.run tab_ok 2 ⟨.code x7_20, [.blk 0, .seq x7_23, .call [.tmp 2] (some 8) (o3_9.drop 2) (.str s :: U :: .bool false :: .str s :: .int .i64 ((s.length : Int)) :: .bool (decide (((s.length : Int)) > 10000)) :: U :: .str s :: us 7) [] none, .seq .ret], [.str s, U, .bool false, .str s, .bool (s == k_table), .bool (s == k_table), U, U, U, U], [], H.empty, none⟩ (by kernel_rfl) ?_
      refine WpM.cond (t := (s == k_table)) (by kernel_rfl) (fun e_ => ?_) (fun e_ => absurd (e_.symm.trans c2) (by decide))
      refine WpM.run tab_ok 27 ⟨.ops (p3_9_6 :: o3_9.drop 7), [.seq .ret], (.str s :: U :: .bool false :: .str s :: .int .i64 ((s.length : Int)) :: .bool (decide (((s.length : Int)) > 10000)) :: U :: .str s :: .bool true :: .str s :: .bool (among s k_tabletbodytfoottheadtr) :: .bool (true == (among s k_tabletbodytfoottheadtr)) :: .bool (true == (among s k_tabletbodytfoottheadtr)) :: U :: U :: []), [], H.empty, none⟩ (by kernel_rfl) ?_
      refine WpM.guard (b := (true == (among s k_tabletbodytfoottheadtr))) (by kernel_rfl) (fun c3 => ?_) (fun c3 => ?_)
      · have c3p := beq_t c3
        refine WpM.run tab_ok 6 ⟨.done .ret, [], (.str s :: U :: .bool true :: .str s :: .int .i64 ((s.length : Int)) :: .bool (decide (((s.length : Int)) > 10000)) :: U :: .str s :: .bool true :: .str s :: .bool (among s k_tabletbodytfoottheadtr) :: .bool (true == (among s k_tabletbodytfoottheadtr)) :: .bool true :: .bool true :: .bool true :: []), [], H.empty, none⟩ (by kernel_rfl) ?_
        refine WpM.ret (.bool true) H.empty (by kernel_rfl) (by kernel_rfl) ?_
        first | rfl | (simp [am_k_tabletbodytfoottheadtr, *]; done) | (exfalso; simp_all [am_k_tabletbodytfoottheadtr]; done)
      · have c3p := beq_f c3
        refine WpM.run tab_ok 6 ⟨.done .ret, [], (.str s :: U :: .bool false :: .str s :: .int .i64 ((s.length : Int)) :: .bool (decide (((s.length : Int)) > 10000)) :: U :: .str s :: .bool true :: .str s :: .bool (among s k_tabletbodytfoottheadtr) :: .bool (true == (among s k_tabletbodytfoottheadtr)) :: .bool false :: U :: .bool false :: []), [], H.empty, none⟩ (by kernel_rfl) ?_
        refine WpM.ret (.bool false) H.empty (by kernel_rfl) (by kernel_rfl) ?_
        first | rfl | (simp [am_k_tabletbodytfoottheadtr, *]; done) | (exfalso; simp_all [am_k_tabletbodytfoottheadtr]; done)
    · have c2p := beq_f c2
      refine WpM.run tab_ok 6 ⟨.code x7_12, [.seq x7_20, .blk 0, .seq x7_23, .call [.tmp 2] (some 8) (o3_9.drop 2) (.str s :: U :: .bool false :: .str s :: .int .i64 ((s.length : Int)) :: .bool (decide (((s.length : Int)) > 10000)) :: U :: .str s :: us 7) [] none, .seq .ret], [.str s, U, .bool false, .str s, .bool (s == k_tbody), .bool (s == k_table), .bool (s == k_tbody), U, U, U], [], H.empty, none⟩ (by kernel_rfl) ?_
      refine WpM.cond (t := (s == k_tbody)) (by kernel_rfl) (fun c4 => ?_) (fun c4 => ?_)
      · have c4p := beq_t c4
        refine WpM.run tab_ok 2 ⟨.code x7_20, [.blk 0, .seq x7_23, .call [.tmp 2] (some 8) (o3_9.drop 2) (.str s :: U :: .bool false :: .str s :: .int .i64 ((s.length : Int)) :: .bool (decide (((s.length : Int)) > 10000)) :: U :: .str s :: us 7) [] none, .seq .ret], [.str s, U, .bool false, .str s, .bool (s == k_tbody), .bool (s == k_table), .bool (s == k_tbody), U, U, U], [], H.empty, none⟩ (by kernel_rfl) ?_
        refine WpM.cond (t := (s == k_tbody)) (by kernel_rfl) (fun e_ => ?_) (fun e_ => absurd (e_.symm.trans c4) (by decide))
        refine WpM.run tab_ok 27 ⟨.ops (p3_9_6 :: o3_9.drop 7), [.seq .ret], (.str s :: U :: .bool false :: .str s :: .int .i64 ((s.length : Int)) :: .bool (decide (((s.length : Int)) > 10000)) :: U :: .str s :: .bool true :: .str s :: .bool (among s k_tabletbodytfoottheadtr) :: .bool (true == (among s k_tabletbodytfoottheadtr)) :: .bool (true == (among s k_tabletbodytfoottheadtr)) :: U :: U :: []), [], H.empty, none⟩ (by kernel_rfl) ?_
        refine WpM.guard (b := (true == (among s k_tabletbodytfoottheadtr))) (by kernel_rfl) (fun c5 => ?_) (fun c5 => ?_)
        · have c5p := beq_t c5
          refine WpM.run tab_ok 6 ⟨.done .ret, [], (.str s :: U :: .bool true :: .str s :: .int .i64 ((s.length : Int)) :: .bool (decide (((s.length : Int)) > 10000)) :: U :: .str s :: .bool true :: .str s :: .bool (among s k_tabletbodytfoottheadtr) :: .bool (true == (among s k_tabletbodytfoottheadtr)) :: .bool true :: .bool true :: .bool true :: []), [], H.empty, none⟩ (by kernel_rfl) ?_
          refine WpM.ret (.bool true) H.empty (by kernel_rfl) (by kernel_rfl) ?_
          first | rfl | (simp [am_k_tabletbodytfoottheadtr, *]; done) | (exfalso; simp_all [am_k_tabletbodytfoottheadtr]; done)
        · have c5p := beq_f c5
          refine WpM.run tab_ok 6 ⟨.done .ret, [], (.str s :: U :: .bool false :: .str s :: .int .i64 ((s.length : Int)) :: .bool (decide (((s.length : Int)) > 10000)) :: U :: .str s :: .bool true :: .str s :: .bool (among s k_tabletbodytfoottheadtr) :: .bool (true == (among s k_tabletbodytfoottheadtr)) :: .bool false :: U :: .bool false :: []), [], H.empty, none⟩ (by kernel_rfl) ?_
          refine WpM.ret (.bool false) H.empty (by kernel_rfl) (by kernel_rfl) ?_
          first | rfl | (simp [am_k_tabletbodytfoottheadtr, *]; done) | (exfalso; simp_all [am_k_tabletbodytfoottheadtr]; done)
      · have c4p := beq_f c4
        refine WpM.run tab_ok 6 ⟨.code x7_15, [.seq x7_20, .blk 0, .seq x7_23, .call [.tmp 2] (some 8) (o3_9.drop 2) (.str s :: U :: .bool false :: .str s :: .int .i64 ((s.length : Int)) :: .bool (decide (((s.length : Int)) > 10000)) :: U :: .str s :: us 7) [] none, .seq .ret], [.str s, U, .bool false, .str s, .bool (s == k_tfoot), .bool (s == k_table), .bool (s == k_tbody), .bool (s == k_tfoot), U, U], [], H.empty, none⟩ (by kernel_rfl) ?_
        refine WpM.cond (t := (s == k_tfoot)) (by kernel_rfl) (fun c6 => ?_) (fun c6 => ?_)
        · have c6p := beq_t c6
          refine WpM.run tab_ok 2 ⟨.code x7_20, [.blk 0, .seq x7_23, .call [.tmp 2] (some 8) (o3_9.drop 2) (.str s :: U :: .bool false :: .str s :: .int .i64 ((s.length : Int)) :: .bool (decide (((s.length : Int)) > 10000)) :: U :: .str s :: us 7) [] none, .seq .ret], [.str s, U, .bool false, .str s, .bool (s == k_tfoot), .bool (s == k_table), .bool (s == k_tbody), .bool (s == k_tfoot), U, U], [], H.empty, none⟩ (by kernel_rfl) ?_
          refine WpM.cond (t := (s == k_tfoot)) (by kernel_rfl) (fun e_ => ?_) (fun e_ => absurd (e_.symm.trans c6) (by decide))
          refine WpM.run tab_ok 27 ⟨.ops (p3_9_6 :: o3_9.drop 7), [.seq .ret], (.str s :: U :: .bool false :: .str s :: .int .i64 ((s.length : Int)) :: .bool (decide (((s.length : Int)) > 10000)) :: U :: .str s :: .bool true :: .str s :: .bool (among s k_tabletbodytfoottheadtr) :: .bool (true == (among s k_tabletbodytfoottheadtr)) :: .bool (true == (among s k_tabletbodytfoottheadtr)) :: U :: U :: []), [], H.empty, none⟩ (by kernel_rfl) ?_
          refine WpM.guard (b := (true == (among s k_tabletbodytfoottheadtr))) (by kernel_rfl) (fun c7 => ?_) (fun c7 => ?_)
          · have c7p := beq_t c7
            refine WpM.run tab_ok 6 ⟨.done .ret, [], (.str s :: U :: .bool true :: .str s :: .int .i64 ((s.length : Int)) :: .bool (decide (((s.length : Int)) > 10000)) :: U :: .str s :: .bool true :: .str s :: .bool (among s k_tabletbodytfoottheadtr) :: .bool (true == (among s k_tabletbodytfoottheadtr)) :: .bool true :: .bool true :: .bool true :: []), [], H.empty, none⟩ (by kernel_rfl) ?_
            refine WpM.ret (.bool true) H.empty (by kernel_rfl) (by kernel_rfl) ?_
            first | rfl | (simp [am_k_tabletbodytfoottheadtr, *]; done) | (exfalso; simp_all [am_k_tabletbodytfoottheadtr]; done)
          · have c7p := beq_f c7
            refine WpM.run tab_ok 6 ⟨.done .ret, [], (.str s :: U :: .bool false :: .str s :: .int .i64 ((s.length : Int)) :: .bool (decide (((s.length : Int)) > 10000)) :: U :: .str s :: .bool true :: .str s :: .bool (among s k_tabletbodytfoottheadtr) :: .bool (true == (among s k_tabletbodytfoottheadtr)) :: .bool false :: U :: .bool false :: []), [], H.empty, none⟩ (by kernel_rfl) ?_
            refine WpM.ret (.bool false) H.empty (by kernel_rfl) (by kernel_rfl) ?_
            first | rfl | (simp [am_k_tabletbodytfoottheadtr, *]; done) | (exfalso; simp_all [am_k_tabletbodytfoottheadtr]; done)
        · have c6p := beq_f c6
          refine WpM.run tab_ok 6 ⟨.code x7_18, [.seq x7_20, .blk 0, .seq x7_23, .call [.tmp 2] (some 8) (o3_9.drop 2) (.str s :: U :: .bool false :: .str s :: .int .i64 ((s.length : Int)) :: .bool (decide (((s.length : Int)) > 10000)) :: U :: .str s :: us 7) [] none, .seq .ret], [.str s, U, .bool false, .str s, .bool (s == k_thead), .bool (s == k_table), .bool (s == k_tbody), .bool (s == k_tfoot), .bool (s == k_thead), U], [], H.empty, none⟩ (by kernel_rfl) ?_
          refine WpM.cond (t := (s == k_thead)) (by kernel_rfl) (fun c8 => ?_) (fun c8 => ?_)
          · have c8p := beq_t c8
            refine WpM.run tab_ok 2 ⟨.code x7_20, [.blk 0, .seq x7_23, .call [.tmp 2] (some 8) (o3_9.drop 2) (.str s :: U :: .bool false :: .str s :: .int .i64 ((s.length : Int)) :: .bool (decide (((s.length : Int)) > 10000)) :: U :: .str s :: us 7) [] none, .seq .ret], [.str s, U, .bool false, .str s, .bool (s == k_thead), .bool (s == k_table), .bool (s == k_tbody), .bool (s == k_tfoot), .bool (s == k_thead), U], [], H.empty, none⟩ (by kernel_rfl) ?_
            refine WpM.cond (t := (s == k_thead)) (by kernel_rfl) (fun e_ => ?_) (fun e_ => absurd (e_.symm.trans c8) (by decide))
            refine WpM.run tab_ok 27 ⟨.ops (p3_9_6 :: o3_9.drop 7), [.seq .ret], (.str s :: U :: .bool false :: .str s :: .int .i64 ((s.length : Int)) :: .bool (decide (((s.length : Int)) > 10000)) :: U :: .str s :: .bool true :: .str s :: .bool (among s k_tabletbodytfoottheadtr) :: .bool (true == (among s k_tabletbodytfoottheadtr)) :: .bool (true == (among s k_tabletbodytfoottheadtr)) :: U :: U :: []), [], H.empty, none⟩ (by kernel_rfl) ?_
            refine WpM.guard (b := (true == (among s k_tabletbodytfoottheadtr))) (by kernel_rfl) (fun c9 => ?_) (fun c9 => ?_)
            · have c9p := beq_t c9
              refine WpM.run tab_ok 6 ⟨.done .ret, [], (.str s :: U :: .bool true :: .str s :: .int .i64 ((s.length : Int)) :: .bool (decide (((s.length : Int)) > 10000)) :: U :: .str s :: .bool true :: .str s :: .bool (among s k_tabletbodytfoottheadtr) :: .bool (true == (among s k_tabletbodytfoottheadtr)) :: .bool true :: .bool true :: .bool true :: []), [], H.empty, none⟩ (by kernel_rfl) ?_
              refine WpM.ret (.bool true) H.empty (by kernel_rfl) (by kernel_rfl) ?_
              first | rfl | (simp [am_k_tabletbodytfoottheadtr, *]; done) | (exfalso; simp_all [am_k_tabletbodytfoottheadtr]; done)
            · have c9p := beq_f c9
              refine WpM.run tab_ok 6 ⟨.done .ret, [], (.str s :: U :: .bool false :: .str s :: .int .i64 ((s.length : Int)) :: .bool (decide (((s.length : Int)) > 10000)) :: U :: .str s :: .bool true :: .str s :: .bool (among s k_tabletbodytfoottheadtr) :: .bool (true == (among s k_tabletbodytfoottheadtr)) :: .bool false :: U :: .bool false :: []), [], H.empty, none⟩ (by kernel_rfl) ?_
              refine WpM.ret (.bool false) H.empty (by kernel_rfl) (by kernel_rfl) ?_
              first | rfl | (simp [am_k_tabletbodytfoottheadtr, *]; done) | (exfalso; simp_all [am_k_tabletbodytfoottheadtr]; done)
          · have c8p := beq_f c8
            refine WpM.run tab_ok 5 ⟨.code x7_20, [.blk 0, .seq x7_23, .call [.tmp 2] (some 8) (o3_9.drop 2) (.str s :: U :: .bool false :: .str s :: .int .i64 ((s.length : Int)) :: .bool (decide (((s.length : Int)) > 10000)) :: U :: .str s :: us 7) [] none, .seq .ret], [.str s, U, .bool false, .str s, .bool (s == k_tr), .bool (s == k_table), .bool (s == k_tbody), .bool (s == k_tfoot), .bool (s == k_thead), .bool (s == k_tr)], [], H.empty, none⟩ (by kernel_rfl) ?_
            refine WpM.cond (t := (s == k_tr)) (by kernel_rfl) (fun c10 => ?_) (fun c10 => ?_)
            · have c10p := beq_t c10
              refine WpM.run tab_ok 27 ⟨.ops (p3_9_6 :: o3_9.drop 7), [.seq .ret], (.str s :: U :: .bool false :: .str s :: .int .i64 ((s.length : Int)) :: .bool (decide (((s.length : Int)) > 10000)) :: U :: .str s :: .bool true :: .str s :: .bool (among s k_tabletbodytfoottheadtr) :: .bool (true == (among s k_tabletbodytfoottheadtr)) :: .bool (true == (among s k_tabletbodytfoottheadtr)) :: U :: U :: []), [], H.empty, none⟩ (by kernel_rfl) ?_
              refine WpM.guard (b := (true == (among s k_tabletbodytfoottheadtr))) (by kernel_rfl) (fun c11 => ?_) (fun c11 => ?_)
              · have c11p := beq_t c11
                refine WpM.run tab_ok 6 ⟨.done .ret, [], (.str s :: U :: .bool true :: .str s :: .int .i64 ((s.length : Int)) :: .bool (decide (((s.length : Int)) > 10000)) :: U :: .str s :: .bool true :: .str s :: .bool (among s k_tabletbodytfoottheadtr) :: .bool (true == (among s k_tabletbodytfoottheadtr)) :: .bool true :: .bool true :: .bool true :: []), [], H.empty, none⟩ (by kernel_rfl) ?_
                refine WpM.ret (.bool true) H.empty (by kernel_rfl) (by kernel_rfl) ?_
                first | rfl | (simp [am_k_tabletbodytfoottheadtr, *]; done) | (exfalso; simp_all [am_k_tabletbodytfoottheadtr]; done)
              · have c11p := beq_f c11
                refine WpM.run tab_ok 6 ⟨.done .ret, [], (.str s :: U :: .bool false :: .str s :: .int .i64 ((s.length : Int)) :: .bool (decide (((s.length : Int)) > 10000)) :: U :: .str s :: .bool true :: .str s :: .bool (among s k_tabletbodytfoottheadtr) :: .bool (true == (among s k_tabletbodytfoottheadtr)) :: .bool false :: U :: .bool false :: []), [], H.empty, none⟩ (by kernel_rfl) ?_
                refine WpM.ret (.bool false) H.empty (by kernel_rfl) (by kernel_rfl) ?_
                first | rfl | (simp [am_k_tabletbodytfoottheadtr, *]; done) | (exfalso; simp_all [am_k_tabletbodytfoottheadtr]; done)
            · have c10p := beq_f c10
              refine WpM.run tab_ok 28 ⟨.ops (p3_9_6 :: o3_9.drop 7), [.seq .ret], (.str s :: U :: .bool false :: .str s :: .int .i64 ((s.length : Int)) :: .bool (decide (((s.length : Int)) > 10000)) :: U :: .str s :: .bool false :: .str s :: .bool (among s k_tabletbodytfoottheadtr) :: .bool (false == (among s k_tabletbodytfoottheadtr)) :: .bool (false == (among s k_tabletbodytfoottheadtr)) :: U :: U :: []), [], H.empty, none⟩ (by kernel_rfl) ?_
              refine WpM.guard (b := (false == (among s k_tabletbodytfoottheadtr))) (by kernel_rfl) (fun c12 => ?_) (fun c12 => ?_)
              · have c12p := beq_t c12
                refine WpM.run tab_ok 6 ⟨.done .ret, [], (.str s :: U :: .bool true :: .str s :: .int .i64 ((s.length : Int)) :: .bool (decide (((s.length : Int)) > 10000)) :: U :: .str s :: .bool false :: .str s :: .bool (among s k_tabletbodytfoottheadtr) :: .bool (false == (among s k_tabletbodytfoottheadtr)) :: .bool true :: .bool true :: .bool true :: []), [], H.empty, none⟩ (by kernel_rfl) ?_
                refine WpM.ret (.bool true) H.empty (by kernel_rfl) (by kernel_rfl) ?_
                first | rfl | (simp [am_k_tabletbodytfoottheadtr, *]; done) | (exfalso; simp_all [am_k_tabletbodytfoottheadtr]; done)
              · have c12p := beq_f c12
                refine WpM.run tab_ok 6 ⟨.done .ret, [], (.str s :: U :: .bool false :: .str s :: .int .i64 ((s.length : Int)) :: .bool (decide (((s.length : Int)) > 10000)) :: U :: .str s :: .bool false :: .str s :: .bool (among s k_tabletbodytfoottheadtr) :: .bool (false == (among s k_tabletbodytfoottheadtr)) :: .bool false :: U :: .bool false :: []), [], H.empty, none⟩ (by kernel_rfl) ?_
                refine WpM.ret (.bool false) H.empty (by kernel_rfl) (by kernel_rfl) ?_
                first | rfl | (simp [am_k_tabletbodytfoottheadtr, *]; done) | (exfalso; simp_all [am_k_tabletbodytfoottheadtr]; done)
end Go.Proofs.Ytcjmklbfaoionaa.Dg
