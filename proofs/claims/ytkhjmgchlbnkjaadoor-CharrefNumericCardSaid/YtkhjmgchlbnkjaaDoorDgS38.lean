/-
  What is cleared at the end of an array; a number that is not below nought.
-/
import Derived.Test.YtkhjmgchlbnkjaaDoorDgS37
set_option linter.unusedVariables false
set_option linter.unusedSimpArgs false
namespace Go.Proofs.YtkhjmgchlbnkjaaDoor.Dg
open Go Go.RowKit

section
variable {α : Type} {f : α → List V} {z : Nat} {P : Program} {W : World}
theorem clear_many (hf : ∀ x, (f x).length = z) (h1 : ∀ x, (f x).all V.one = true) {t e t' : TypeId} {xo : Operand} {env : List V} {h : H} {p o c k n : Nat} {ex : Bool} {ys : List α} {d : α} {z0 : V} (hx : ev env xo = some (.slice (some (.new p o)) n c ex)) (hu : P.underlying t = some (.slice e)) (hz : zeroOf P e = some z0) (hd : f d = z0.cells)
    (hg : h.get p = some (.cells (rv f ys) t')) (hk : k + n = ys.length) (h0 : 0 < n) (ho : o = k * z) : opStep P W (.call ⟨.builtin .clear, #[xo], #[t]⟩) env h = .val .undef (h.put p (some (.cells (rv f (ys.take k ++ List.replicate n d)) t'))) := by
  have e1 : rep z0.cells n = rv f (List.replicate n d) := rep_rv hd n
  have hl : (rv f (List.replicate n d)).length = n * z := by rw [rv_length hf, List.length_replicate]
  have e3 : k * z + n * z = ys.length * z := by rw [← Nat.add_mul, hk]
  have e2 : splice (rv f ys) (k * z) (rv f (List.replicate n d)) = rv f (ys.take k ++ List.replicate n d) := by
    unfold splice
    rw [hl, e3, rv_take hf, rv_append, List.drop_eq_nil_of_le (by rw [rv_length hf]; exact Nat.le_refl _), List.append_nil]
  simp only [opStep, evL, hx, builtinOp, clearOp, hu, hz, e1, stCells, hg, rv_all_one h1, if_true]
  rw [if_neg (by omega)]
  have h6 : o + (rv f (List.replicate n d)).length ≤ (rv f ys).length := by rw [hl, rv_length hf, ho, e3]; exact Nat.le_refl _
  rw [if_pos h6, ho, e2]
  rfl
theorem max_zero {xo yo : Operand} {env : List V} {h : H} {k k' : IntKind} {a : Int} {ts : Array TypeId} (hx : ev env xo = some (.int k a)) (hy : ev env yo = some (.int k' 0)) (h0 : 0 ≤ a) : opStep P W (.call ⟨.builtin .max, #[xo, yo], ts⟩) env h = .val (.int k a) h := by
  simp only [opStep, evL, hx, hy, builtinOp]
  rw [if_neg (by omega)]
end
end Go.Proofs.YtkhjmgchlbnkjaaDoor.Dg
