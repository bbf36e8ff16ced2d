/-
  VocabBlank: the walk.
-/
import Derived.Test.YtoofmfakmbdffaaX0
set_option linter.unusedVariables false
set_option linter.unusedSimpArgs false
namespace Go.Proofs.Ytoofmfakmbdffaa.Dg
open Go Go.RowKit
set_option maxRecDepth 20000
theorem VocabBlank_ok {W : World} {r : Int} (_ : -9223372036854775808 ≤ r ∧ r ≤ 9223372036854775807) : WpF Try.prog W prim22 6 [.int .i64 r] H.empty (fun v _ => v = .bool true) := by
  refine WpF.m tab_ok (by kernel_rfl) rfl ?_
  refine WpM.cfg (c' := ⟨.code x6_0, [], [.int .i64 r, U, U, U, U, U, U, U, U, U, U], [], H.empty, none⟩) (by kernel_rfl) ?_
  refine WpM.run tab_ok 13 ⟨.ops (p6_3_6 :: o6_3.drop 7), [.seq .ret], [.int .i64 r, U, .bool false, .int .i64 r, .bool (blankM r), .int .i64 r, .bool (blankM r), .bool ((blankM r) == (blankM r)), .bool ((blankM r) == (blankM r)), U, U], [], H.empty, none⟩ (by kernel_rfl) ?_
  refine WpM.guard (b := ((blankM r) == (blankM r))) (by kernel_rfl) (fun c1 => ?_) (fun c1 => ?_)
  · have c1p := beq_t c1
    refine WpM.run tab_ok 6 ⟨.done .ret, [], [.int .i64 r, U, .bool true, .int .i64 r, .bool (blankM r), .int .i64 r, .bool (blankM r), .bool ((blankM r) == (blankM r)), .bool true, .bool true, .bool true], [], H.empty, none⟩ (by kernel_rfl) ?_
    refine WpM.ret (.bool true) H.empty (by kernel_rfl) (by kernel_rfl) ?_
    first | rfl | (exfalso; (try simp only [ae_k_areabasebrcolembedhrimgi_r, ae_k_abbigcodeemfontinobrssma_r, ae_k_dddtlioptgroupoptionprbr_r, ae_k_h1h2h3h4h5h6_r, ae_k_addressarticleasideblock_r, ae_k_titletextarea_r, ae_k_stylescriptxmpiframenoem_r, ae_k_appletbodybuttoncaptionc_r, ae_k_foreignObjectdesctitle_r, ae_k_mimomnmsmtext_r, lower_twice, lower_length] at *); simp_all; done)
  · have c1p := beq_f c1
    refine WpM.run tab_ok 6 ⟨.done .ret, [], [.int .i64 r, U, .bool false, .int .i64 r, .bool (blankM r), .int .i64 r, .bool (blankM r), .bool ((blankM r) == (blankM r)), .bool false, U, .bool false], [], H.empty, none⟩ (by kernel_rfl) ?_
    refine WpM.ret (.bool false) H.empty (by kernel_rfl) (by kernel_rfl) ?_
    first | rfl | (exfalso; (try simp only [ae_k_areabasebrcolembedhrimgi_r, ae_k_abbigcodeemfontinobrssma_r, ae_k_dddtlioptgroupoptionprbr_r, ae_k_h1h2h3h4h5h6_r, ae_k_addressarticleasideblock_r, ae_k_titletextarea_r, ae_k_stylescriptxmpiframenoem_r, ae_k_appletbodybuttoncaptionc_r, ae_k_foreignObjectdesctitle_r, ae_k_mimomnmsmtext_r, lower_twice, lower_length] at *); simp_all; done)
end Go.Proofs.Ytoofmfakmbdffaa.Dg
