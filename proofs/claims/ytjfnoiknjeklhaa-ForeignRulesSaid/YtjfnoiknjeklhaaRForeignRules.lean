/-
  'taffraillaw20.ForeignRules' answers true for every input; what came in reads as it did.
-/
import Derived.Test.YtjfnoiknjeklhaaRows
import Derived.Test.YtjfnoiknjeklhaaYForeignRules0
import Derived.ProofKit
import Derived.HandedShaped
set_option linter.unusedVariables false
set_option linter.unusedSimpArgs false
namespace Go.Proofs.Ytjfnoiknjeklhaa
open Go Go.RowKit Go.WideShapes Go.ChangeShapes Go.ChangeAt
theorem foreignRules_ownGo : ownKnob Try.prog.godebug = none := by kernel_rfl
theorem foreignRules_laidGo : laidOutB Try.prog = true := by kernel_rfl
set_option maxRecDepth 100000 in
theorem foreignRules_lifted (os : Os) (started : os.Started) (H : Type) (enc : TypeId × Value → H) :
    ReturnsInHanded {} Try.checked os 5 .any (Rows.foreignRulesSpec.pre6 enc Try.prog Try.f5 Rows.foreignRulesRow.domain false) (Rows.foreignRulesSpec.post enc Try.prog Try.f5 Rows.foreignRulesRow.apart Rows.foreignRulesRow.fresh Rows.foreignRulesRow.handsOn Rows.foreignRulesRow.again) := by
  refine returnsInHanded_of_change_shaped (C := Try.checked) foreignRules_ownGo started (by kernel_rfl) Try.func5
    (ChangeSpec.witness6 (enc := enc) (C := Try.checked) false ⟨#[], #[.agg #[.int .i64 0, .int .i64 0, .string ⟨#[]⟩, .slice none 0 0], .bool false, .agg #[.int .i64 0, .int .i64 0, .string ⟨#[]⟩, .string ⟨#[]⟩, .slice none 0 0, .bool false, .int .i64 0, .int .i64 0]], []⟩ 8 (by kernel_rfl) (by kernel_rfl) (by kernel_rfl) (by kernel_rfl)) ?_
  intro W base args ds gs before hval hW _ hreach hsh _
  refine Dg.law_contract (P := Try.prog) (prim := Dg.prim12) (fn := Try.f5) (t := 4) (ts := [3, 4, 9, 25, 30, 32, 34, 39]) Dg.base.mixed Dg.base.names (Dg.prim12s W (Dg.wok_of hsh) W (Below.refl _ _)) rfl ?_ rfl Try.underlying4 foreignRules_laidGo (by kernel_rfl) (by kernel_rfl) ?_ hval hW
  · intro ds hds
    match ds, hds with
    | [d0, d1, d2], _ => rfl
  · intro l hl
    obtain ⟨x0, xs0, rfl, ⟨fuel0, hw0⟩, hs0, hl0⟩ := hl
    simp only [Try.underlying30] at hs0
    obtain ⟨c0, rfl⟩ := hs0
    obtain ⟨y0, e0, k0⟩ := Dg.T30_form hw0
    have e0 : c0 = y0.cells := e0
    subst e0
    obtain ⟨x1, xs1, rfl, ⟨fuel1, hw1⟩, hs1, hl1⟩ := hl0
    simp only [Try.underlying4] at hs1
    rw [hs1] at hw1
    obtain ⟨y1, rfl, k1⟩ := Dg.wf_boolT Try.underlying4 hw1
    obtain ⟨x2, xs2, rfl, ⟨fuel2, hw2⟩, hs2, hl2⟩ := hl1
    simp only [Try.underlying34] at hs2
    obtain ⟨c2, rfl⟩ := hs2
    obtain ⟨y2, e2, k2⟩ := Dg.T34_form hw2
    have e2 : c2 = y2.cells := e2
    subst e2
    have hx : xs2 = [] := hl2
    subst hx
    obtain ⟨n, v, h', hr, rfl⟩ := (Dg.ForeignRules_ok (W := W) k0 k1 k2).out
    exact ⟨n, h', hr⟩
theorem foreignRules_holds : Rows.ForeignRulesSaid :=
  OpenClaim.holds_of_wide 5 Try.f5 rfl rfl rfl rfl rfl rfl rfl ⟨rfl, rfl, rfl, rfl, rfl⟩ rfl rfl rfl rfl rfl (by kernel_rfl) Try.func5 (by kernel_rfl)
    (of_decide_eq_true (by kernel_rfl)) (by unfold Func.isWrapper; first | (rw [if_pos (by decide +kernel)]; kernel_rfl) | (rw [if_neg (by decide +kernel)]; exact ⟨rfl, rfl⟩))
    (fun os started H enc _ => foreignRules_lifted os started H enc)
end Go.Proofs.Ytjfnoiknjeklhaa
