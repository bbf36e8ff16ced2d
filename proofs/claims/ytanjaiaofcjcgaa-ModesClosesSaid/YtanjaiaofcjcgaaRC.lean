/-
  'taffraillaw21.ModesCloses' answers true for every mode and every token; what came in reads as it did.
-/
import Derived.Test.YtanjaiaofcjcgaaRows
import Derived.Test.YtanjaiaofcjcgaaY0
import Derived.ProofKit
set_option linter.unusedVariables false
set_option linter.unusedSimpArgs false
namespace Go.Proofs.Ytanjaiaofcjcgaa
open Go Go.RowKit Go.WideShapes Go.ChangeShapes Go.ChangeAt
theorem modesCloses_ownGo : ownKnob Try.prog.godebug = none := by kernel_rfl
theorem modesCloses_laidGo : laidOutB Try.prog = true := by kernel_rfl
set_option maxRecDepth 100000 in
theorem modesCloses_lifted (os : Os) (started : os.Started) (H : Type) (enc : TypeId × Value → H) :
    ReturnsInHanded {} Try.checked os 4 .any (Rows.modesClosesSpec.pre6 enc Try.prog Try.f4 Rows.modesClosesRow.domain false) (Rows.modesClosesSpec.post enc Try.prog Try.f4 Rows.modesClosesRow.apart Rows.modesClosesRow.fresh Rows.modesClosesRow.handsOn Rows.modesClosesRow.again) := by
  refine returnsInHanded_of_change (C := Try.checked) modesCloses_ownGo started (by kernel_rfl) Try.func4
    (ChangeSpec.witness6 (enc := enc) (C := Try.checked) false ⟨#[], #[.int .i64 0, .agg #[.int .i64 0, .int .i64 0, .string ⟨#[]⟩, .string ⟨#[]⟩, .slice none 0 0, .bool false, .int .i64 0, .int .i64 0]], []⟩ 8 (by kernel_rfl) (by kernel_rfl) (by kernel_rfl) (by kernel_rfl)) ?_
  intro W base args ds gs before hval hW _ _
  refine Dg.law_contract (P := Try.prog) (prim := Dg.prim8) (fn := Try.f4) (t := 4) (ts := [3, 4, 9, 26, 28, 30, 60]) Dg.base.mixed Dg.base.names (Dg.prim8s W W (Below.refl _ _)) rfl ?_ rfl Try.underlying4 modesCloses_laidGo (by kernel_rfl) (by kernel_rfl) ?_ hval hW
  · intro ds hds
    match ds, hds with
    | [d0, d1], _ => rfl
  · intro l hl
    obtain ⟨x0, xs0, rfl, ⟨fuel0, hw0⟩, hs0, hl0⟩ := hl
    simp only [Try.underlying3] at hs0
    rw [hs0] at hw0
    obtain ⟨y0, rfl, k0⟩ := Dg.wf_i64 Try.underlying3 hw0
    obtain ⟨x1, xs1, rfl, ⟨fuel1, hw1⟩, hs1, hl1⟩ := hl0
    simp only [Try.underlying30] at hs1
    obtain ⟨c1, rfl⟩ := hs1
    obtain ⟨y1, e1, k1⟩ := Dg.T30_form hw1
    have e1 : c1 = y1.cells := e1
    subst e1
    have hx : xs1 = [] := hl1
    subst hx
    obtain ⟨n, v, h', hr, rfl⟩ := (Dg.mc_ok (W := W) k0 k1).out
    exact ⟨n, h', hr⟩
theorem modesCloses_holds : Rows.ModesClosesSaid :=
  OpenClaim.holds_of_wide 4 Try.f4 rfl rfl rfl rfl rfl rfl rfl ⟨rfl, rfl, rfl, rfl, rfl⟩ rfl rfl rfl rfl rfl (by kernel_rfl) Try.func4 (by kernel_rfl)
    (of_decide_eq_true (by kernel_rfl)) (by unfold Func.isWrapper; first | (rw [if_pos (by decide +kernel)]; kernel_rfl) | (rw [if_neg (by decide +kernel)]; exact ⟨rfl, rfl⟩))
    (fun os started H enc _ => modesCloses_lifted os started H enc)
end Go.Proofs.Ytanjaiaofcjcgaa
