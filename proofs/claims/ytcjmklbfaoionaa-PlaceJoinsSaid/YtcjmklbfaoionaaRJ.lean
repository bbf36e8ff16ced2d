/-
  'taffraillaw18.PlaceJoins' answers true for every list of texts; what came in reads as it did.
-/
import Derived.Test.YtcjmklbfaoionaaRows
import Derived.Test.YtcjmklbfaoionaaJY2
import Derived.ProofKit
import Derived.HandedShaped
set_option linter.unusedVariables false
set_option linter.unusedSimpArgs false
namespace Go.Proofs.Ytcjmklbfaoionaa
open Go Go.RowKit Go.WideShapes Go.ChangeShapes Go.ChangeAt
theorem placeJoins_ownGo : ownKnob Try.prog.godebug = none := by kernel_rfl
theorem placeJoins_laidGo : laidOutB Try.prog = true := by kernel_rfl
set_option maxRecDepth 100000 in
theorem placeJoins_lifted (os : Os) (started : os.Started) (H : Type) (enc : TypeId × Value → H) :
    ReturnsInHanded {} Try.checked os 4 .any (Rows.placeJoinsSpec.pre6 enc Try.prog Try.f4 Rows.placeJoinsRow.domain false) (Rows.placeJoinsSpec.post enc Try.prog Try.f4 Rows.placeJoinsRow.apart Rows.placeJoinsRow.fresh Rows.placeJoinsRow.handsOn Rows.placeJoinsRow.again) := by
  refine returnsInHanded_of_change_shaped (C := Try.checked) placeJoins_ownGo started (by kernel_rfl) Try.func4
    (ChangeSpec.witness6 (enc := enc) (C := Try.checked) false ⟨#[], #[.slice none 0 0], []⟩ 8 (by kernel_rfl) (by kernel_rfl) (by kernel_rfl) (by kernel_rfl)) ?_
  intro W base args ds gs before hval hW _ hreach hsh _
  refine Dg.law_contract (P := Try.prog) (prim := Dg.prim2) (fn := Try.f4) (t := 4) (ts := [9, 24]) Dg.base.mixed Dg.base.names (Dg.prim2s W (Dg.wok_of hsh) W (Below.refl _ _)) rfl ?_ rfl Try.underlying4 placeJoins_laidGo (by kernel_rfl) (by kernel_rfl) ?_ hval hW hreach
  · intro ds hds
    match ds, hds with
    | [d0], _ => rfl
  · intro l hl
    obtain ⟨x0, xs0, rfl, ⟨fuel0, hw0⟩, hs0, hl0⟩ := hl
    simp only [Try.underlying24] at hs0
    rw [hs0] at hw0
    obtain ⟨y0, rfl, k0⟩ := Dg.wf_sl (f := (fun x : List UInt8 => [.str x])) (G := (fun x : List UInt8 => x.length ≤ 140737488351232)) (z := 1) Try.underlying24 (by kernel_rfl) (fun _ _ h => Dg.wf_cell (by kernel_rfl) (G := (fun x : List UInt8 => x.length ≤ 140737488351232)) (fun _ _ h => Dg.wf_strR Try.underlying9 h) h) hw0
    have hx : xs0 = [] := hl0
    subst hx
    obtain ⟨n, v, h', hr, rfl⟩ := (Dg.joins_ok (W := W) k0).out
    exact ⟨n, h', hr⟩
theorem placeJoins_holds : Rows.PlaceJoinsSaid :=
  OpenClaim.holds_of_wide 4 Try.f4 rfl rfl rfl rfl rfl rfl rfl ⟨rfl, rfl, rfl, rfl, rfl⟩ rfl rfl rfl rfl rfl (by kernel_rfl) Try.func4 (by kernel_rfl)
    (of_decide_eq_true (by kernel_rfl)) (by unfold Func.isWrapper; first | (rw [if_pos (by decide +kernel)]; kernel_rfl) | (rw [if_neg (by decide +kernel)]; exact ⟨rfl, rfl⟩))
    (fun os started H enc _ => placeJoins_lifted os started H enc)
end Go.Proofs.Ytcjmklbfaoionaa
