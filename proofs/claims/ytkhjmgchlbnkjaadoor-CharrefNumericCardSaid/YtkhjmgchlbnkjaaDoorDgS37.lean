/-
  One taken out of the middle of a growing array; one put behind its end where there is room.
-/
import Derived.Test.YtkhjmgchlbnkjaaDoorDgS36
set_option linter.unusedVariables false
set_option linter.unusedSimpArgs false
namespace Go.Proofs.YtkhjmgchlbnkjaaDoor.Dg
open Go Go.RowKit

section
variable {α : Type} {f : α → List V} {z : Nat} {P : Program} {W : World} {prim : FuncId → Option (List V → H → Option (V × H))} {Q : Ex → St → Prop}
theorem first_mid (hf : ∀ x, (f x).length = z) {h : H} {p j cr lb : Nat} {ex : Bool} {ys : List α} {t : TypeId} (hg : h.get p = some (.cells (rv f ys) t)) (hj : j ≤ ys.length) (hcr : cr = ys.length - j) : firstCells W h z cr (.slice (some (.new p (j * z))) cr lb ex) = some (rv f (ys.drop j)) := by
  have hl : (ys.drop j).length = cr := by rw [List.length_drop, hcr]
  by_cases h0 : cr * z = 0
  · simp only [firstCells, ldCells, if_pos h0]
    have : (rv f (ys.drop j)).length = 0 := by rw [rv_length hf, hl, h0]
    rw [List.eq_nil_of_length_eq_zero this]
  · have e : j * z + cr * z = ys.length * z := by rw [← Nat.add_mul]; congr 1; omega
    refine first_at hg h0 (by rw [rv_length hf, e]; exact Nat.le_refl _) ?_
    rw [rv_drop hf]
    refine List.take_of_length_le ?_
    rw [rv_length hf, hl]; exact Nat.le_refl _
theorem app_mid (hf : ∀ x, (f x).length = z) (h1 : ∀ x, (f x).all V.one = true) {e t : TypeId} {bytes : Nat} {h : H} {p i j cr ck : Nat} {ys : List α} (hg : h.get p = some (.cells (rv f ys) t)) (hj : j = i + 1) (hi : i < ys.length) (hcr : cr = ys.length - j) (hck : ck = i + cr) (h3 : ys.length * bytes ≤ 140737488355328) (h4 : ys.length ≤ 140737488355328) :
    ∃ h', appendTo W e z bytes (.slice (some (.new p 0)) i ys.length false) cr (rv f (ys.drop j)) h = some (.slice (some (.new p 0)) ck ys.length false, h') ∧ HP h h' p (some (.cells (rv f (ys.take i ++ (ys.drop j ++ ys.drop (ys.length - 1)))) t)) := by
  have hl : (ys.drop j).length = cr := by rw [List.length_drop, hcr]
  have hb : (i + cr) * bytes ≤ 140737488355328 := Nat.le_trans (Nat.mul_le_mul_right _ (by omega)) h3
  subst hck
  by_cases hz : cr = 0
  · refine ⟨h, ?_, ⟨rfl, ?_, fun _ _ => rfl⟩⟩
    · simp only [appendTo]
      rw [if_pos ⟨by rw [rv_length hf, hl], rv_all_one h1 _, hb, by omega⟩, if_pos hz, hz]
      rfl
    · rw [hg]
      have e1 : ys.drop j = [] := List.drop_eq_nil_of_le (by omega)
      have e2 : i = ys.length - 1 := by omega
      rw [e1, List.nil_append, e2, List.take_append_drop]
  · refine ⟨_, ?_, HP.mk' h p _⟩
    simp only [appendTo]
    rw [if_pos ⟨by rw [rv_length hf, hl], rv_all_one h1 _, hb, by omega⟩, if_neg hz, if_pos (by omega)]
    have hlen : 0 + i * z + (rv f (ys.drop j)).length ≤ (rv f ys).length := by
      rw [rv_length hf, rv_length hf, hl, Nat.zero_add, ← Nat.add_mul]
      exact Nat.mul_le_mul_right _ (by omega)
    simp only [Ad.add, stCells, hg, if_pos (rv_all_one h1 _), if_pos hlen]
    have e1 : splice (rv f ys) (0 + i * z) (rv f (ys.drop j)) = rv f (ys.take i ++ (ys.drop j ++ ys.drop (ys.length - 1))) := by
      unfold splice
      have e2 : 0 + i * z + (rv f (ys.drop j)).length = (ys.length - 1) * z := by
        rw [rv_length hf, hl, Nat.zero_add, ← Nat.add_mul]; congr 1; omega
      rw [e2, Nat.zero_add, rv_take hf, rv_drop hf, rv_append, rv_append]
    rw [e1]
theorem app_set (hf : ∀ x, (f x).length = z) (h1 : ∀ x, (f x).all V.one = true) [Inhabited α] {e t : TypeId} {bytes : Nat} {h : H} {p k m lb : Nat} {ys : List α} {y : α} (hg : h.get p = some (.cells (rv f ys) t)) (hk : k < ys.length) (hlb : k + 1 ≤ lb) (hm : m = k + 1) (h3 : m * bytes ≤ 140737488355328) (h4 : m ≤ 140737488355328) :
    appendTo W e z bytes (.slice (some (.new p 0)) k lb false) 1 (rv f [y]) h = some (.slice (some (.new p 0)) m lb false, h.put p (some (.cells (rv f (ys.set k y)) t))) := by
  subst hm
  have hl : (k + 1) * z ≤ ys.length * z := Nat.mul_le_mul_right z (by omega)
  rw [Nat.succ_mul] at hl
  simp only [appendTo, rv_one]
  rw [if_pos ⟨by rw [hf, Nat.one_mul], h1 _, h3, h4⟩, if_neg (by decide), if_pos hlb]
  have hlen : 0 + k * z + (f y).length ≤ (rv f ys).length := by rw [rv_length hf, hf]; omega
  simp only [Ad.add, stCells, hg, if_pos (h1 y), if_pos hlen]
  have e2 : splice (rv f ys) (0 + k * z) (f y) = rv f (ys.set k y) := by
    have := rv_set (f := f) hf (xs := ys) (i := (k : Int)) ⟨by omega, by omega⟩ (off := 0) (vs := f y) (x := y) (by rw [hf]; omega) (by
      unfold splice
      rw [List.take_zero, List.nil_append, List.drop_eq_nil_of_le (by rw [hf, hf]; omega), List.append_nil])
    simpa using this
  rw [e2]
theorem app_stepE {at0 at1 e : TypeId} {size bytes n : Nat} {s x : V} {z0 : V} {nc : List V} {h : H} {v : V} {p : Nat} {o : Option AO} {xs ys : Operand} {env : List V} (hs : ev env xs = some s) (hx : ev env ys = some x) (h0 : P.underlying at0 = some (.slice e)) (h1 : sizeOf P e = some size) (h2 : bytesOf P e = some bytes) (h3 : zeroOf P e = some z0) (h4 : lenOf x = some n) (h5 : srcOk P at1 size x = true) (h6 : z0.cells.length = size) (h7 : firstCells W h size n x = some nc)
    (h8 : ∃ h', appendTo W e size bytes s n nc h = some (v, h') ∧ HP h h' p o) : ∃ h', opStep P W (.call ⟨.builtin .append, #[xs, ys], #[at0, at1]⟩) env h = .val v h' ∧ HP h h' p o := by
  obtain ⟨h', e, a⟩ := h8
  exact ⟨h', app_step hs hx (app_op h0 h1 h2 h3 h4 h5 h6 h7 e), a⟩
theorem WpM.opSE {o : RO} {os : List RO} {ks : List KF} {env : List V} {ds : List Nat} {h : H} {r : Option Nat} (v : V) (i : Nat) (ob : Option AO) (hg : rg o env = true) (hs : ∃ h', opStep P W o.op env h = .val v h' ∧ HP h h' i ob)
    (k : ∀ h', HP h h' i ob → WpM P W prim ⟨.ops os, ks, setD env o.dst v, ds, h', r⟩ Q) : WpM P W prim ⟨.ops (o :: os), ks, env, ds, h, r⟩ Q := by
  obtain ⟨h', e, a⟩ := hs
  exact WpM.op _ _ hg e (k h' a)
theorem WpM.opDSE {ms : List Nat} {sn : List (Nat × H)} {i : Nat} {o : RO} {os : List (Nat × RO)} {ks : List KF} {env : List V} {ds : List Nat} {h : H} {r : Option Nat} (v : V) (j : Nat) (ob : Option AO) (hg : rg o env = true) (hc : cls o.op = 0) (hs : ∃ h', opStep P W o.op env h = .val v h' ∧ HP h h' j ob)
    (k : ∀ h', HP h h' j ob → WpM P W prim ⟨.draw ms os ((i, h) :: sn), ks, setD env o.dst v, ds, h', r⟩ Q) : WpM P W prim ⟨.draw ms ((i, o) :: os) sn, ks, env, ds, h, r⟩ Q := by
  obtain ⟨h', e, a⟩ := hs
  exact WpM.opDW _ _ hg hc e (k h' a)
end
end Go.Proofs.YtkhjmgchlbnkjaaDoor.Dg
