/-
  'taffraillaw17.FormatsArk' answers true for all elements and every place of a mark; what came in reads as it did.
-/
import Derived.Test.YtplcallbihapdaaRows
import Derived.Test.YtplcallbihapdaaAY0
import Derived.ProofKit
import Derived.HandedShaped
set_option linter.unusedVariables false
set_option linter.unusedSimpArgs false
namespace Go.Proofs.Ytplcallbihapdaa
open Go Go.RowKit Go.WideShapes Go.ChangeShapes Go.ChangeAt
theorem formatsArk_ownGo : ownKnob Try.prog.godebug = none := by kernel_rfl
theorem formatsArk_laidGo : laidOutB Try.prog = true := by kernel_rfl
set_option maxRecDepth 100000 in
theorem formatsArk_lifted (os : Os) (started : os.Started) (H : Type) (enc : TypeId × Value → H) :
    ReturnsInHanded {} Try.checked os 3 .any (Rows.formatsArkSpec.pre6 enc Try.prog Try.f3 Rows.formatsArkRow.domain false) (Rows.formatsArkSpec.post enc Try.prog Try.f3 Rows.formatsArkRow.apart Rows.formatsArkRow.fresh Rows.formatsArkRow.handsOn Rows.formatsArkRow.again) := by
  refine returnsInHanded_of_change_shaped (C := Try.checked) formatsArk_ownGo started (by kernel_rfl) Try.func3
    (ChangeSpec.witness6 (enc := enc) (C := Try.checked) false ⟨#[], #[.slice none 0 0, .int .i64 0], []⟩ 8 (by kernel_rfl) (by kernel_rfl) (by kernel_rfl) (by kernel_rfl)) ?_
  intro W base args ds gs before hval hW _ hreach hsh _
  refine Dg.law_contract (P := Try.prog) (prim := Dg.prim1) (fn := Try.f3) (t := 4) (ts := [3, 9, 22, 27, 29, 54]) Dg.base.mixed Dg.base.names (Dg.prim1s W (Dg.wok_of hsh) W (Below.refl _ _)) rfl ?_ rfl Try.underlying4 formatsArk_laidGo (by kernel_rfl) (by kernel_rfl) ?_ hval hW hreach
  · intro ds hds
    match ds, hds with
    | [d0, d1], _ => rfl
  · intro l hl
    obtain ⟨x0, xs0, rfl, ⟨fuel0, hw0⟩, hs0, hl0⟩ := hl
    simp only [Try.underlying22] at hs0
    rw [hs0] at hw0
    obtain ⟨y0, rfl, k0⟩ := Dg.wf_sl (f := Dg.T29.cells) (G := (Dg.T29.ok W)) (z := 4) (B := 56) Try.underlying22 (by kernel_rfl) (by kernel_rfl) (fun _ _ h => Dg.T29_form h) hw0
    obtain ⟨x1, xs1, rfl, ⟨fuel1, hw1⟩, hs1, hl1⟩ := hl0
    simp only [Try.underlying3] at hs1
    rw [hs1] at hw1
    obtain ⟨y1, rfl, k1⟩ := Dg.wf_i64 Try.underlying3 hw1
    have hx : xs1 = [] := hl1
    subst hx
    obtain ⟨n, v, h', hr, rfl⟩ := (Dg.ark_ok (W := W) k0 k1).out
    exact ⟨n, h', hr⟩
theorem formatsArk_holds : Rows.FormatsArkSaid :=
  OpenClaim.holds_of_wide 3 Try.f3 rfl rfl rfl rfl rfl rfl rfl ⟨rfl, rfl, rfl, rfl, rfl⟩ rfl rfl rfl rfl rfl (by kernel_rfl) Try.func3 (by kernel_rfl)
    (of_decide_eq_true (by kernel_rfl)) (by unfold Func.isWrapper; first | (rw [if_pos (by decide +kernel)]; kernel_rfl) | (rw [if_neg (by decide +kernel)]; exact ⟨rfl, rfl⟩))
    (fun os started H enc _ => formatsArk_lifted os started H enc)
end Go.Proofs.Ytplcallbihapdaa
