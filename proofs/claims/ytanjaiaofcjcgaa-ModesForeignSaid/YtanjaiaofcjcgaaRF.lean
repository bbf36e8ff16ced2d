/-
  'taffraillaw21.ModesForeign' answers true for all open elements; what came in reads as it did.
-/
import Derived.Test.YtanjaiaofcjcgaaRows
import Derived.Test.YtanjaiaofcjcgaaYF0
import Derived.ProofKit
import Derived.HandedShaped
set_option linter.unusedVariables false
set_option linter.unusedSimpArgs false
namespace Go.Proofs.Ytanjaiaofcjcgaa
open Go Go.RowKit Go.WideShapes Go.ChangeShapes Go.ChangeAt
theorem modesForeign_ownGo : ownKnob Try.prog.godebug = none := by kernel_rfl
theorem modesForeign_laidGo : laidOutB Try.prog = true := by kernel_rfl
set_option maxRecDepth 100000 in
theorem modesForeign_lifted (os : Os) (started : os.Started) (H : Type) (enc : TypeId × Value → H) :
    ReturnsInHanded {} Try.checked os 5 .any (Rows.modesForeignSpec.pre6 enc Try.prog Try.f5 Rows.modesForeignRow.domain false) (Rows.modesForeignSpec.post enc Try.prog Try.f5 Rows.modesForeignRow.apart Rows.modesForeignRow.fresh Rows.modesForeignRow.handsOn Rows.modesForeignRow.again) := by
  refine returnsInHanded_of_change_shaped (C := Try.checked) modesForeign_ownGo started (by kernel_rfl) Try.func5
    (ChangeSpec.witness6 (enc := enc) (C := Try.checked) false ⟨#[], #[.slice none 0 0, .agg #[.int .i64 0, .int .i64 0, .string ⟨#[]⟩, .slice none 0 0], .bool false], []⟩ 8 (by kernel_rfl) (by kernel_rfl) (by kernel_rfl) (by kernel_rfl)) ?_
  intro W base args ds gs before hval hW _ hreach hsh _
  refine Dg.law_contract (P := Try.prog) (prim := Dg.prim8) (fn := Try.f5) (t := 4) (ts := [3, 4, 9, 22, 26, 34, 60]) Dg.base.mixed Dg.base.names (Dg.prim8s W (Dg.wok_of hsh) W (Below.refl _ _)) rfl ?_ rfl Try.underlying4 modesForeign_laidGo (by kernel_rfl) (by kernel_rfl) ?_ hval hW
  · intro ds hds
    match ds, hds with
    | [d0, d1, d2], _ => rfl
  · intro l hl
    obtain ⟨x0, xs0, rfl, ⟨fuel0, hw0⟩, hs0, hl0⟩ := hl
    simp only [Try.underlying22] at hs0
    rw [hs0] at hw0
    obtain ⟨y0, rfl, k0⟩ := Dg.wf_sl (f := Dg.T34.cells) (G := (Dg.T34.ok W)) (z := 4) Try.underlying22 (by kernel_rfl) (fun _ _ h => Dg.T34_form h) hw0
    obtain ⟨x1, xs1, rfl, ⟨fuel1, hw1⟩, hs1, hl1⟩ := hl0
    simp only [Try.underlying34] at hs1
    obtain ⟨c1, rfl⟩ := hs1
    obtain ⟨y1, e1, k1⟩ := Dg.T34_form hw1
    have e1 : c1 = y1.cells := e1
    subst e1
    obtain ⟨x2, xs2, rfl, ⟨fuel2, hw2⟩, hs2, hl2⟩ := hl1
    simp only [Try.underlying4] at hs2
    rw [hs2] at hw2
    obtain ⟨y2, rfl, k2⟩ := Dg.wf_boolT Try.underlying4 hw2
    have hx : xs2 = [] := hl2
    subst hx
    obtain ⟨n, v, h', hr, rfl⟩ := (Dg.mf_ok (W := W) k0 k1 k2).out
    exact ⟨n, h', hr⟩
theorem modesForeign_holds : Rows.ModesForeignSaid :=
  OpenClaim.holds_of_wide 5 Try.f5 rfl rfl rfl rfl rfl rfl rfl ⟨rfl, rfl, rfl, rfl, rfl⟩ rfl rfl rfl rfl rfl (by kernel_rfl) Try.func5 (by kernel_rfl)
    (of_decide_eq_true (by kernel_rfl)) (by unfold Func.isWrapper; first | (rw [if_pos (by decide +kernel)]; kernel_rfl) | (rw [if_neg (by decide +kernel)]; exact ⟨rfl, rfl⟩))
    (fun os started H enc _ => modesForeign_lifted os started H enc)
end Go.Proofs.Ytanjaiaofcjcgaa
