/-
  'taffraillaw13.ArenaOwn' answers true for every list of attributes; what came in reads as it did.
-/
import Derived.Test.YtemdamdhmabhbaaRows
import Derived.Test.YtemdamdhmabhbaaOY0
import Derived.ProofKit
import Derived.HandedShaped
set_option linter.unusedVariables false
set_option linter.unusedSimpArgs false
namespace Go.Proofs.Ytemdamdhmabhbaa
open Go Go.RowKit Go.WideShapes Go.ChangeShapes Go.ChangeAt
theorem arenaOwn_ownGo : ownKnob Try.prog.godebug = none := by kernel_rfl
theorem arenaOwn_laidGo : laidOutB Try.prog = true := by kernel_rfl
set_option maxRecDepth 100000 in
theorem arenaOwn_lifted (os : Os) (started : os.Started) (H : Type) (enc : TypeId × Value → H) :
    ReturnsInHanded {} Try.checked os 3 .any (Rows.arenaOwnSpec.pre6 enc Try.prog Try.f3 Rows.arenaOwnRow.domain false) (Rows.arenaOwnSpec.post enc Try.prog Try.f3 Rows.arenaOwnRow.apart Rows.arenaOwnRow.fresh Rows.arenaOwnRow.handsOn Rows.arenaOwnRow.again) := by
  refine returnsInHanded_of_change_shaped (C := Try.checked) arenaOwn_ownGo started (by kernel_rfl) Try.func3
    (ChangeSpec.witness6 (enc := enc) (C := Try.checked) false ⟨#[], #[.slice none 0 0], []⟩ 8 (by kernel_rfl) (by kernel_rfl) (by kernel_rfl) (by kernel_rfl)) ?_
  intro W base args ds gs before hval hW _ hreach hsh _
  refine Dg.law_contract (P := Try.prog) (prim := Dg.prim1) (fn := Try.f3) (t := 4) (ts := [9, 22, 35]) Dg.base.mixed Dg.base.names (Dg.prim1s W (Dg.wok_of hsh) W (Below.refl _ _)) rfl ?_ rfl Try.underlying4 arenaOwn_laidGo (by kernel_rfl) (by kernel_rfl) ?_ hval hW hreach
  · intro ds hds
    match ds, hds with
    | [d0], _ => rfl
  · intro l hl
    obtain ⟨x0, xs0, rfl, ⟨fuel0, hw0⟩, hs0, hl0⟩ := hl
    simp only [Try.underlying22] at hs0
    rw [hs0] at hw0
    obtain ⟨y0, rfl, k0⟩ := Dg.wf_sl (f := Dg.T35.cells) (G := (Dg.T35.ok W)) (z := 2) Try.underlying22 (by kernel_rfl) (fun _ _ h => Dg.T35_form h) hw0
    have hx : xs0 = [] := hl0
    subst hx
    obtain ⟨n, v, h', hr, rfl⟩ := (Dg.own_ok (W := W) k0).out
    exact ⟨n, h', hr⟩
theorem arenaOwn_holds : Rows.ArenaOwnSaid :=
  OpenClaim.holds_of_wide 3 Try.f3 rfl rfl rfl rfl rfl rfl rfl ⟨rfl, rfl, rfl, rfl, rfl⟩ rfl rfl rfl rfl rfl (by kernel_rfl) Try.func3 (by kernel_rfl)
    (of_decide_eq_true (by kernel_rfl)) (by unfold Func.isWrapper; first | (rw [if_pos (by decide +kernel)]; kernel_rfl) | (rw [if_neg (by decide +kernel)]; exact ⟨rfl, rfl⟩))
    (fun os started H enc _ => arenaOwn_lifted os started H enc)
end Go.Proofs.Ytemdamdhmabhbaa
