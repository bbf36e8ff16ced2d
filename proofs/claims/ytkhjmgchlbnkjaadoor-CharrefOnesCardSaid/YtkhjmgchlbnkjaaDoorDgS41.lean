import Derived.Test.YtkhjmgchlbnkjaaDoorDgS40
set_option linter.unusedVariables false
set_option linter.unusedSimpArgs false
namespace Go.Proofs.YtkhjmgchlbnkjaaDoor.Dg
open Go Go.RowKit
section
variable {P : Program} {W : World}
theorem arith_quoN {t u : TypeId} {x y : Operand} {env : List V} {h : H} {a b : Int} (hx : ev env x = some (.int .i64 a)) (hy : ev env y = some (.int .i64 b)) (hn : 0 ≤ a ∧ a ≤ 9223372036854775807 ∧ 0 < b) :
  opStep P W (.binOp .quo t x y u) env h = .val (.int .i64 (a / b)) h := by
 have e1 : a.tdiv b = a / b := Int.tdiv_eq_ediv_of_nonneg hn.1
 have e2 : a / b ≤ a := Int.ediv_le_self b hn.1
 have e3 : 0 ≤ a / b := Int.ediv_nonneg hn.1 (by omega)
 have e4 : ¬ b = 0 := by omega
 simp only [opStep, hx, hy, binOp, intOp, if_true, if_neg e4, e1, wrap_id (by omega : -9223372036854775808 ≤ a / b) (by omega : a / b ≤ 9223372036854775807)]; rfl
theorem arith_remN {t u : TypeId} {x y : Operand} {env : List V} {h : H} {a b : Int} {k : IntKind} (hx : ev env x = some (.int k a)) (hy : ev env y = some (.int k b)) (hn : 0 ≤ a ∧ 0 < b) :
  opStep P W (.binOp .rem t x y u) env h = .val (.int k (a % b)) h := by
 have e1 : a.tmod b = a % b := Int.tmod_eq_emod_of_nonneg hn.1
 have e4 : ¬ b = 0 := by omega
 simp only [opStep, hx, hy, binOp, intOp, if_true, if_neg e4, e1]; rfl
theorem slice_from {t : TypeId} {x : Operand} {lo : Option Operand} {env : List V} {h : H} {s : List UInt8} {l : Nat} {lv : Option V} (ht : P.underlying t = some .string) (hx : ev env x = some (.str s)) (hl : evO env lo = some lv) (hl' : optNat lv = some (some l)) (hn : l ≤ s.length) :
  opStep P W (.slice t x lo none none) env h = .val (.str (s.drop l)) h := by
 rw [slice_str ht hx hl (hv := none) rfl hl' rfl ⟨hn, Nat.le_refl _⟩]
 simp
theorem slice_to {t : TypeId} {x : Operand} {hi : Option Operand} {env : List V} {h : H} {s : List UInt8} {m : Nat} {hv : Option V} (ht : P.underlying t = some .string) (hx : ev env x = some (.str s)) (hh : evO env hi = some hv) (hh' : optNat hv = some (some m)) (hn : m ≤ s.length) :
  opStep P W (.slice t x none hi none) env h = .val (.str (s.take m)) h := by
 rw [slice_str ht hx (lv := none) rfl hh rfl hh' ⟨Nat.zero_le _, hn⟩]
 simp
theorem optNat_lit {k : IntKind} {n : Nat} {i : Int} (h : i = (n : Int)) : optNat (some (.int k i)) = some (some n) := by
 subst h
 simp only [optNat, natOf, if_pos (Int.natCast_nonneg n)]; rfl
end
end Go.Proofs.YtkhjmgchlbnkjaaDoor.Dg
