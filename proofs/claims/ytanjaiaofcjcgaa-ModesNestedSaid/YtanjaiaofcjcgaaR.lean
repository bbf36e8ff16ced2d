/-
  'taffraillaw21.ModesNested': the row. True for every input; what came in reads as it did.
-/
import Derived.Test.YtanjaiaofcjcgaaRows
import Derived.Test.YtanjaiaofcjcgaaN
import Derived.ProofKit
set_option linter.unusedVariables false
set_option linter.unusedSimpArgs false
namespace Go.Proofs.Ytanjaiaofcjcgaa
open Go Go.RowKit Go.WideShapes Go.ChangeShapes Go.ChangeAt

namespace Dg
theorem wf_int {P : Program} {W : World} {n : Nat} {t : TypeId} {c : V} {k : IntKind} (ht : P.underlying t = some (.int k)) (h : Wf P W n t [c]) : ∃ z, c = .int k z := by
  cases n with
  | zero => exact h.elim
  | succ n =>
    simp only [Wf, ht] at h
    obtain ⟨z, e, _⟩ := h
    injection e with e
    exact ⟨z, e⟩
theorem wf_bool {P : Program} {W : World} {n : Nat} {t : TypeId} {c : V} (ht : P.underlying t = some .bool) (h : Wf P W n t [c]) : ∃ z, c = .bool z := by
  cases n with
  | zero => exact h.elim
  | succ n =>
    simp only [Wf, ht] at h
    obtain ⟨z, e⟩ := h
    injection e with e
    exact ⟨z, e⟩
theorem wf_str {P : Program} {W : World} {n : Nat} {t : TypeId} {c : V} (ht : P.underlying t = some .string) (h : Wf P W n t [c]) : ∃ z, c = .str z := by
  cases n with
  | zero => exact h.elim
  | succ n =>
    simp only [Wf, ht] at h
    obtain ⟨z, e, _⟩ := h
    injection e with e
    exact ⟨z, e⟩
theorem wf_slice {P : Program} {W : World} {n : Nat} {t e : TypeId} {c : V} (ht : P.underlying t = some (.slice e)) (h : Wf P W n t [c]) : c.one = true ∧ c.isOld = true := by
  cases n with
  | zero => exact h.elim
  | succ n =>
    simp only [Wf, ht] at h
    rcases h with e | ⟨b, o, len, cap, e, _⟩
    · injection e with e; subst e; exact ⟨rfl, rfl⟩
    · injection e with e; subst e; exact ⟨rfl, rfl⟩
theorem tok_form {W : World} {n : Nat} {l : List V} (h : Wf Try.prog W n 30 l) : ∃ (k r : Int) (s u : List UInt8) (c : V) (f : Bool) (a b : Int), l = [.int .i64 k, .int .i64 r, .str s, .str u, c, .bool f, .int .i64 a, .int .i64 b] ∧ c.one = true ∧ c.isOld = true := by
  have e3 : Try.prog.cellsOf 3 = 1 := by kernel_rfl
  have e4 : Try.prog.cellsOf 4 = 1 := by kernel_rfl
  have e9 : Try.prog.cellsOf 9 = 1 := by kernel_rfl
  have e26 : Try.prog.cellsOf 26 = 1 := by kernel_rfl
  have e28 : Try.prog.cellsOf 28 = 2 := by kernel_rfl
  have e30 : Try.prog.cellsOf 30 = 8 := by kernel_rfl
  cases n with
  | zero => exact h.elim
  | succ n =>
    simp only [Wf, Try.underlying30, e30] at h
    obtain ⟨hl, hf⟩ := h
    match l, hl with
    | [c0, c1, c2, c3, c4, c5, c6, c7], _ =>
      simp only [List.mem_cons, forall_eq_or_imp, List.not_mem_nil, false_implies, implies_true, and_true, e3, e4, e9, e26, e28, List.drop_zero, List.drop_succ_cons, List.take_succ_cons, List.take_zero] at hf
      obtain ⟨h0, h1, h2, h3, h4, h5, h6⟩ := hf
      obtain ⟨k, rfl⟩ := wf_int Try.underlying3 h0
      obtain ⟨r, rfl⟩ := wf_int Try.underlying3 h1
      obtain ⟨s, rfl⟩ := wf_str Try.underlying9 h2
      obtain ⟨u, rfl⟩ := wf_str Try.underlying9 h3
      obtain ⟨o1, o2⟩ := wf_slice Try.underlying26 h4
      obtain ⟨f, rfl⟩ := wf_bool Try.underlying4 h5
      cases n with
      | zero => exact h6.elim
      | succ n =>
        simp only [Wf, Try.underlying28, List.mem_cons, forall_eq_or_imp, List.not_mem_nil, false_implies, implies_true, and_true, e3, List.drop_zero, List.drop_succ_cons, List.take_succ_cons, List.take_zero] at h6
        obtain ⟨_, h7, h8⟩ := h6
        obtain ⟨a, rfl⟩ := wf_int Try.underlying3 h7
        obtain ⟨b, rfl⟩ := wf_int Try.underlying3 h8
        exact ⟨k, r, s, u, c4, f, a, b, rfl, o1, o2⟩
end Dg

theorem Try.ownGo : ownKnob Try.prog.godebug = none := by kernel_rfl
theorem Try.laidGo : laidOutB Try.prog = true := by kernel_rfl

set_option maxRecDepth 100000 in
theorem modesNested_lifted (os : Os) (started : os.Started) (H : Type) (enc : TypeId × Value → H) :
    ReturnsInHanded {} Try.checked os 6 .any (Rows.modesNestedSpec.pre6 enc Try.prog Try.f6 Rows.modesNestedRow.domain false) (Rows.modesNestedSpec.post enc Try.prog Try.f6 Rows.modesNestedRow.apart Rows.modesNestedRow.fresh Rows.modesNestedRow.handsOn Rows.modesNestedRow.again) := by
  refine returnsInHanded_of_change (C := Try.checked) Try.ownGo started (by kernel_rfl) Try.func6
    (ChangeSpec.witness6 (enc := enc) (C := Try.checked) false ⟨#[], #[.agg #[.int .i64 0, .int .i64 0, .string ⟨#[]⟩, .string ⟨#[]⟩, .slice none 0 0, .bool false, .int .i64 0, .int .i64 0]], []⟩ 8 (by kernel_rfl) (by kernel_rfl) (by kernel_rfl) (by kernel_rfl)) ?_
  intro W base args ds gs before hval hW _ _
  refine Dg.law_contract (P := Try.prog) (prim := Dg.prim3) (fn := Try.f6) (t := 4) (ts := [3, 4, 9, 26, 28, 30, 60]) Dg.base.mixed Dg.base.names (Dg.prims3 W W (Below.refl _ _)) rfl ?_ rfl Try.underlying4 Try.laidGo (by kernel_rfl) (by kernel_rfl) ?_ hval hW
  · intro ds hds
    match ds, hds with
    | [d], _ => rfl
  · intro l hl
    obtain ⟨x, xs, rfl, ⟨fuel, hw⟩, hsh, hxs⟩ := hl
    have hxs : xs = [] := hxs
    subst hxs
    simp only [Try.underlying30] at hsh
    obtain ⟨c, rfl⟩ := hsh
    obtain ⟨k, r, s, u, at', f, a, b, rfl, o1, o2⟩ := Dg.tok_form hw
    obtain ⟨n, v, h', hr, rfl⟩ := (Dg.nested_ok (W := W) (k := k) (r := r) (s := s) (u := u) (sf := f) (a := a) (b := b) o1 o2).out
    exact ⟨n, h', hr⟩

theorem modesNested_holds : Rows.ModesNestedSaid :=
  OpenClaim.holds_of_wide 6 Try.f6 rfl rfl rfl rfl rfl rfl rfl ⟨rfl, rfl, rfl, rfl, rfl⟩ rfl rfl rfl rfl rfl (by kernel_rfl) Try.func6 (by kernel_rfl)
    (of_decide_eq_true (by kernel_rfl)) (by unfold Func.isWrapper; first | (rw [if_pos (by decide +kernel)]; kernel_rfl) | (rw [if_neg (by decide +kernel)]; exact ⟨rfl, rfl⟩))
    (fun os started H enc _ => modesNested_lifted os started H enc)
end Go.Proofs.Ytanjaiaofcjcgaa
