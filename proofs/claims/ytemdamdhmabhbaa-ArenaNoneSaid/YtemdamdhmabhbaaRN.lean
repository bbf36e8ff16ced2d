/-
  'taffraillaw13.ArenaNone' answers true for every deed; what came in reads as it did.
-/
import Derived.Test.YtemdamdhmabhbaaRows
import Derived.Test.YtemdamdhmabhbaaNY0
import Derived.ProofKit
import Derived.HandedShaped
set_option linter.unusedVariables false
set_option linter.unusedSimpArgs false
namespace Go.Proofs.Ytemdamdhmabhbaa
open Go Go.RowKit Go.WideShapes Go.ChangeShapes Go.ChangeAt
theorem arenaNone_ownGo : ownKnob Try.prog.godebug = none := by kernel_rfl
theorem arenaNone_laidGo : laidOutB Try.prog = true := by kernel_rfl
set_option maxRecDepth 100000 in
theorem arenaNone_lifted (os : Os) (started : os.Started) (H : Type) (enc : TypeId × Value → H) :
    ReturnsInHanded {} Try.checked os 5 .any (Rows.arenaNoneSpec.pre6 enc Try.prog Try.f5 Rows.arenaNoneRow.domain false) (Rows.arenaNoneSpec.post enc Try.prog Try.f5 Rows.arenaNoneRow.apart Rows.arenaNoneRow.fresh Rows.arenaNoneRow.handsOn Rows.arenaNoneRow.again) := by
  refine returnsInHanded_of_change_shaped (C := Try.checked) arenaNone_ownGo started (by kernel_rfl) Try.func5
    (ChangeSpec.witness6 (enc := enc) (C := Try.checked) false ⟨#[], #[.agg #[.int .i64 0, .int .i64 0, .int .i64 0, .int .i64 0, .int .i64 0, .int .i64 0, .int .i64 0, .string ⟨#[]⟩, .string ⟨#[]⟩, .slice none 0 0, .int .i64 0, .int .i64 0, .int .i64 0, .int .i64 0, .slice none 0 0]], []⟩ 8 (by kernel_rfl) (by kernel_rfl) (by kernel_rfl) (by kernel_rfl)) ?_
  intro W base args ds gs before hval hW _ hreach hsh _
  refine Dg.law_contract (P := Try.prog) (prim := Dg.prim1) (fn := Try.f5) (t := 4) (ts := [3, 9, 22, 28, 29, 31, 35, 48]) Dg.base.mixed Dg.base.names (Dg.prim1s W (Dg.wok_of hsh) W (Below.refl _ _)) rfl ?_ rfl Try.underlying4 arenaNone_laidGo (by kernel_rfl) (by kernel_rfl) ?_ hval hW
  · intro ds hds
    match ds, hds with
    | [d0], _ => rfl
  · intro l hl
    obtain ⟨x0, xs0, rfl, ⟨fuel0, hw0⟩, hs0, hl0⟩ := hl
    simp only [Try.underlying48] at hs0
    obtain ⟨c0, rfl⟩ := hs0
    obtain ⟨y0, e0, k0⟩ := Dg.T48_form hw0
    have e0 : c0 = y0.cells := e0
    subst e0
    have hx : xs0 = [] := hl0
    subst hx
    obtain ⟨n, v, h', hr, rfl⟩ := (Dg.none_ok (W := W) k0).out
    exact ⟨n, h', hr⟩
theorem arenaNone_holds : Rows.ArenaNoneSaid :=
  OpenClaim.holds_of_wide 5 Try.f5 rfl rfl rfl rfl rfl rfl rfl ⟨rfl, rfl, rfl, rfl, rfl⟩ rfl rfl rfl rfl rfl (by kernel_rfl) Try.func5 (by kernel_rfl)
    (of_decide_eq_true (by kernel_rfl)) (by unfold Func.isWrapper; first | (rw [if_pos (by decide +kernel)]; kernel_rfl) | (rw [if_neg (by decide +kernel)]; exact ⟨rfl, rfl⟩))
    (fun os started H enc _ => arenaNone_lifted os started H enc)
end Go.Proofs.Ytemdamdhmabhbaa
