/-
  VocabSpecial: the walk.
-/
import Derived.Test.YtoofmfakmbdffaaX0
set_option linter.unusedVariables false
set_option linter.unusedSimpArgs false
namespace Go.Proofs.Ytoofmfakmbdffaa.Dg
open Go Go.RowKit
set_option maxRecDepth 20000
theorem VocabSpecial_ok {W : World} {p : Int} {s : List UInt8} (_ : -9223372036854775808 ≤ p ∧ p ≤ 9223372036854775807) (_ : s.length ≤ 9223372036854775807) : WpF Try.prog W prim22 4 [.int .i64 p, .str s] H.empty (fun v _ => v = .bool true) := by
  refine WpF.m tab_ok (by kernel_rfl) rfl ?_
  refine WpM.cfg (c' := ⟨.code x4_0, [], (.int .i64 p :: .str s :: us 17), [], H.empty, none⟩) (by kernel_rfl) ?_
  refine WpM.run tab_ok 13 ⟨.code x4_5, [.seq x4_8], (.int .i64 p :: .str s :: U :: U :: .bool false :: .str s :: .int .i64 ((s.length : Int)) :: .bool (decide (((s.length : Int)) > 10000)) :: us 11), [], H.empty, none⟩ (by kernel_rfl) ?_
  refine WpM.cond (t := (decide (((s.length : Int)) > 10000))) (by kernel_rfl) (fun c1 => ?_) (fun c1 => ?_)
  · have c1p := dec_t c1
    refine WpM.run tab_ok 8 ⟨.done .ret, [], (.int .i64 p :: .str s :: U :: U :: .bool true :: .str s :: .int .i64 ((s.length : Int)) :: .bool (decide (((s.length : Int)) > 10000)) :: .bool true :: us 10), [], H.empty, none⟩ (by kernel_rfl) ?_
    refine WpM.ret (.bool true) H.empty (by kernel_rfl) (by kernel_rfl) ?_
    first | rfl | (exfalso; (try simp only [ae_k_areabasebrcolembedhrimgi_r, ae_k_abbigcodeemfontinobrssma_r, ae_k_dddtlioptgroupoptionprbr_r, ae_k_h1h2h3h4h5h6_r, ae_k_addressarticleasideblock_r, ae_k_titletextarea_r, ae_k_stylescriptxmpiframenoem_r, ae_k_appletbodybuttoncaptionc_r, ae_k_foreignObjectdesctitle_r, ae_k_mimomnmsmtext_r, lower_twice, lower_length] at *); simp_all; done)
  · have c1p := dec_f c1
    refine WpM.run tab_ok 6 ⟨.ops (p4_9_2 :: o4_9.drop 3), [.seq .ret], (.int .i64 p :: .str s :: U :: U :: .bool false :: .str s :: .int .i64 ((s.length : Int)) :: .bool (decide (((s.length : Int)) > 10000)) :: U :: .int .i64 p :: .str s :: us 8), [], H.empty, none⟩ (by kernel_rfl) ?_
    refine WpM.givenQ (f := 21) (args := [.int .i64 p, .str s]) (q := q21) (.bool (specialM p s)) (by kernel_rfl) (by kernel_rfl) (by kernel_rfl) (by simp only [q21]; rw [if_pos (by omega)]) ?_
    refine WpM.run tab_ok 5 ⟨.ops (p4_9_8 :: o4_9.drop 9), [.seq .ret], (.int .i64 p :: .str s :: U :: U :: .bool false :: .str s :: .int .i64 ((s.length : Int)) :: .bool (decide (((s.length : Int)) > 10000)) :: U :: .int .i64 p :: .str s :: .bool (specialM p s) :: .int .i64 p :: .str s :: .bool (specialM p s) :: .bool ((specialM p s) == (specialM p s)) :: .bool ((specialM p s) == (specialM p s)) :: U :: U :: []), [], H.empty, none⟩ (by kernel_rfl) ?_
    refine WpM.guard (b := ((specialM p s) == (specialM p s))) (by kernel_rfl) (fun c2 => ?_) (fun c2 => ?_)
    · have c2p := beq_t c2
      refine WpM.run tab_ok 6 ⟨.done .ret, [], (.int .i64 p :: .str s :: U :: U :: .bool true :: .str s :: .int .i64 ((s.length : Int)) :: .bool (decide (((s.length : Int)) > 10000)) :: U :: .int .i64 p :: .str s :: .bool (specialM p s) :: .int .i64 p :: .str s :: .bool (specialM p s) :: .bool ((specialM p s) == (specialM p s)) :: .bool true :: .bool true :: .bool true :: []), [], H.empty, none⟩ (by kernel_rfl) ?_
      refine WpM.ret (.bool true) H.empty (by kernel_rfl) (by kernel_rfl) ?_
      first | rfl | (exfalso; (try simp only [ae_k_areabasebrcolembedhrimgi_r, ae_k_abbigcodeemfontinobrssma_r, ae_k_dddtlioptgroupoptionprbr_r, ae_k_h1h2h3h4h5h6_r, ae_k_addressarticleasideblock_r, ae_k_titletextarea_r, ae_k_stylescriptxmpiframenoem_r, ae_k_appletbodybuttoncaptionc_r, ae_k_foreignObjectdesctitle_r, ae_k_mimomnmsmtext_r, lower_twice, lower_length] at *); simp_all; done)
    · have c2p := beq_f c2
      refine WpM.run tab_ok 6 ⟨.done .ret, [], (.int .i64 p :: .str s :: U :: U :: .bool false :: .str s :: .int .i64 ((s.length : Int)) :: .bool (decide (((s.length : Int)) > 10000)) :: U :: .int .i64 p :: .str s :: .bool (specialM p s) :: .int .i64 p :: .str s :: .bool (specialM p s) :: .bool ((specialM p s) == (specialM p s)) :: .bool false :: U :: .bool false :: []), [], H.empty, none⟩ (by kernel_rfl) ?_
      refine WpM.ret (.bool false) H.empty (by kernel_rfl) (by kernel_rfl) ?_
      first | rfl | (exfalso; (try simp only [ae_k_areabasebrcolembedhrimgi_r, ae_k_abbigcodeemfontinobrssma_r, ae_k_dddtlioptgroupoptionprbr_r, ae_k_h1h2h3h4h5h6_r, ae_k_addressarticleasideblock_r, ae_k_titletextarea_r, ae_k_stylescriptxmpiframenoem_r, ae_k_appletbodybuttoncaptionc_r, ae_k_foreignObjectdesctitle_r, ae_k_mimomnmsmtext_r, lower_twice, lower_length] at *); simp_all; done)
end Go.Proofs.Ytoofmfakmbdffaa.Dg
