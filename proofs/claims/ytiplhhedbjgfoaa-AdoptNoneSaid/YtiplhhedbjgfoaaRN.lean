/-
  'taffraillaw19.AdoptNone' answers true for every element; what came in reads as it did.
-/
import Derived.Test.YtiplhhedbjgfoaaRows
import Derived.Test.YtiplhhedbjgfoaaNY0
import Derived.ProofKit
import Derived.HandedShaped
set_option linter.unusedVariables false
set_option linter.unusedSimpArgs false
namespace Go.Proofs.Ytiplhhedbjgfoaa
open Go Go.RowKit Go.WideShapes Go.ChangeShapes Go.ChangeAt
theorem adoptNone_ownGo : ownKnob Try.prog.godebug = none := by kernel_rfl
theorem adoptNone_laidGo : laidOutB Try.prog = true := by kernel_rfl
set_option maxRecDepth 100000 in
theorem adoptNone_lifted (os : Os) (started : os.Started) (H : Type) (enc : TypeId × Value → H) :
    ReturnsInHanded {} Try.checked os 3 .any (Rows.adoptNoneSpec.pre6 enc Try.prog Try.f3 Rows.adoptNoneRow.domain false) (Rows.adoptNoneSpec.post enc Try.prog Try.f3 Rows.adoptNoneRow.apart Rows.adoptNoneRow.fresh Rows.adoptNoneRow.handsOn Rows.adoptNoneRow.again) := by
  refine returnsInHanded_of_change_shaped (C := Try.checked) adoptNone_ownGo started (by kernel_rfl) Try.func3
    (ChangeSpec.witness6 (enc := enc) (C := Try.checked) false ⟨#[], #[.agg #[.int .i64 0, .int .i64 0, .string ⟨#[]⟩, .slice none 0 0]], []⟩ 8 (by kernel_rfl) (by kernel_rfl) (by kernel_rfl) (by kernel_rfl)) ?_
  intro W base args ds gs before hval hW _ hreach hsh _
  refine Dg.law_contract (P := Try.prog) (prim := Dg.prim4) (fn := Try.f3) (t := 4) (ts := [3, 9, 22, 24, 106]) Dg.base.mixed Dg.base.names (Dg.prim4s W (Dg.wok_of hsh) W (Below.refl _ _)) rfl ?_ rfl Try.underlying4 adoptNone_laidGo (by kernel_rfl) (by kernel_rfl) ?_ hval hW hreach
  · intro ds hds
    match ds, hds with
    | [d0], _ => rfl
  · intro l hl
    obtain ⟨x0, xs0, rfl, ⟨fuel0, hw0⟩, hs0, hl0⟩ := hl
    simp only [Try.underlying24] at hs0
    obtain ⟨c0, rfl⟩ := hs0
    obtain ⟨y0, e0, k0⟩ := Dg.T24_form hw0
    have e0 : c0 = y0.cells := e0
    subst e0
    have hx : xs0 = [] := hl0
    subst hx
    obtain ⟨n, v, h', hr, rfl⟩ := (Dg.none_ok (W := W) k0).out
    exact ⟨n, h', hr⟩
theorem adoptNone_holds : Rows.AdoptNoneSaid :=
  OpenClaim.holds_of_wide 3 Try.f3 rfl rfl rfl rfl rfl rfl rfl ⟨rfl, rfl, rfl, rfl, rfl⟩ rfl rfl rfl rfl rfl (by kernel_rfl) Try.func3 (by kernel_rfl)
    (of_decide_eq_true (by kernel_rfl)) (by unfold Func.isWrapper; first | (rw [if_pos (by decide +kernel)]; kernel_rfl) | (rw [if_neg (by decide +kernel)]; exact ⟨rfl, rfl⟩))
    (fun os started H enc _ => adoptNone_lifted os started H enc)
end Go.Proofs.Ytiplhhedbjgfoaa
