import Derived.Test.YtkhjmgchlbnkjaaDoorDgS31
set_option linter.unusedVariables false
set_option linter.unusedSimpArgs false
namespace Go.Proofs.YtkhjmgchlbnkjaaDoor.Dg
open Go Go.RowKit
def rv {α : Type} (f : α → List V) (xs : List α) : List V := xs.flatMap f
section
variable {α : Type} {f : α → List V} {z : Nat} {P : Program} {W : World}
theorem rv_nil : rv f [] = [] := rfl
theorem rv_cons (x : α) (xs : List α) : rv f (x :: xs) = f x ++ rv f xs := by simp [rv]
theorem rv_append (xs ys : List α) : rv f (xs ++ ys) = rv f xs ++ rv f ys := by simp [rv]
theorem rv_one (x : α) : rv f [x] = f x := by simp [rv]
theorem rv_length (hf : ∀ x, (f x).length = z) (xs : List α) : (rv f xs).length = xs.length * z := by
 induction xs with
 | nil => simp [rv]
 | cons x xs ih => rw [rv_cons, List.length_append, hf, ih, List.length_cons, Nat.succ_mul, Nat.add_comm]
theorem rv_drop (hf : ∀ x, (f x).length = z) : ∀ (xs : List α) (i : Nat), (rv f xs).drop (i * z) = rv f (xs.drop i)
 | xs, 0 => by simp
 | [], i + 1 => by simp [rv]
 | x :: xs, i + 1 => by
  rw [rv_cons, List.drop_succ_cons, ← rv_drop hf xs i]
  have : (i + 1) * z = (f x).length + i * z := by rw [hf, Nat.succ_mul, Nat.add_comm]
  rw [this, List.drop_append]
  simp
theorem rv_take (hf : ∀ x, (f x).length = z) : ∀ (xs : List α) (i : Nat), (rv f xs).take (i * z) = rv f (xs.take i)
 | xs, 0 => by simp [rv]
 | [], i + 1 => by simp [rv]
 | x :: xs, i + 1 => by
  rw [rv_cons, List.take_succ_cons, rv_cons, ← rv_take hf xs i]
  have : (i + 1) * z = (f x).length + i * z := by rw [hf, Nat.succ_mul, Nat.add_comm]
  rw [this, List.take_append]
  have e : (f x).length + i * z - (f x).length = i * z := by omega
  rw [e, List.take_of_length_le (by omega)]
theorem rv_at [Inhabited α] (hf : ∀ x, (f x).length = z) {xs : List α} {i : Int} (h0 : 0 ≤ i) (h : i < (xs.length : Int)) (off : Nat) : ((rv f xs).drop (i.toNat * z + off)) = (f (gt xs i)).drop off ++ rv f (xs.drop (i.toNat + 1)) ∨ z < off := by
 by_cases ho : off ≤ z
 ·left
  rw [← List.drop_drop, rv_drop hf, gt_drop h0 h, rv_cons]
  rw [List.drop_append_of_le_length (by rw [hf]; exact ho)]
 ·right; omega
theorem rv_ld [Inhabited α] (hf : ∀ x, (f x).length = z) {xs : List α} {i : Int} (hi : 0 ≤ i ∧ i < (xs.length : Int)) {t : TypeId} {o off : Nat} {v : V} (ht : isAgg P t = some false) (ho : off < z) (hv : (f (gt xs i))[off]? = some v) (e : o = i.toNat * z + off) : ldL P (rv f xs) t o = some v := by
 subst e
 have hl : (i.toNat + 1) * z ≤ xs.length * z := Nat.mul_le_mul_right z (by omega)
 rw [Nat.succ_mul] at hl
 simp only [ldL, ht]
 rw [if_pos (by rw [rv_length hf]; omega)]
 rcases rv_at hf hi.1 hi.2 off with h | h
 ·rw [h]
  have hlen : off < (f (gt xs i)).length := by rw [hf]; exact ho
  rw [List.drop_eq_getElem_cons hlen]
  rw [List.getElem?_eq_getElem hlen] at hv
  injection hv with hv
  rw [hv]; rfl
 ·omega
theorem rv_ldA [Inhabited α] (hf : ∀ x, (f x).length = z) {xs : List α} {i : Int} (hi : 0 ≤ i ∧ i < (xs.length : Int)) {t : TypeId} {o off n : Nat} {v : List V} (ht : isAgg P t = some true) (hn : sizeOf P t = some n) (h0 : n ≠ 0) (ho : off + n ≤ z) (hv : ((f (gt xs i)).drop off).take n = v) (e : o = i.toNat * z + off) : ldL P (rv f xs) t o = some (.agg v) := by
 subst e
 have hl : (i.toNat + 1) * z ≤ xs.length * z := Nat.mul_le_mul_right z (by omega)
 rw [Nat.succ_mul] at hl
 simp only [ldL, ht, hn]
 rw [if_neg h0, if_pos (by rw [rv_length hf]; omega)]
 rcases rv_at hf hi.1 hi.2 off with h | h
 ·rw [h, List.take_append_of_le_length (by rw [List.length_drop, hf]; omega), hv]
 ·omega
theorem rv_set [Inhabited α] (hf : ∀ x, (f x).length = z) {xs : List α} {i : Int} (hi : 0 ≤ i ∧ i < (xs.length : Int)) {off : Nat} {vs : List V} {x : α} (ho : off + vs.length ≤ z) (hx : f x = splice (f (gt xs i)) off vs) : splice (rv f xs) (i.toNat * z + off) vs = rv f (xs.set i.toNat x) := by
 have hl : i.toNat < xs.length := by omega
 obtain ⟨hl', eg⟩ := gt_get hi.1 hi.2
 have e1 : xs = xs.take i.toNat ++ gt xs i :: xs.drop (i.toNat + 1) := by
  rw [← gt_drop hi.1 hi.2]; exact (List.take_append_drop _ _).symm
 have e2 : xs.set i.toNat x = xs.take i.toNat ++ x :: xs.drop (i.toNat + 1) := by
  rw [List.set_eq_take_append_cons_drop, if_pos hl]
 rw [e2, rv_append, rv_cons, hx]
 have hA : (rv f (xs.take i.toNat)).length = i.toNat * z := by rw [rv_length hf, List.length_take, Nat.min_eq_left (Nat.le_of_lt hl)]
 have hB : (f (gt xs i)).length = z := hf _
 conv => lhs; rw [e1]
 rw [rv_append, rv_cons]
 generalize rv f (xs.take i.toNat) = A at hA ⊢
 generalize f (gt xs i) = B at hB ⊢
 generalize rv f (xs.drop (i.toNat + 1)) = C
 unfold splice
 rw [← hA, List.take_length_add_append, Nat.add_assoc, List.drop_length_add_append, List.append_assoc, List.append_assoc, List.append_assoc]
 rw [List.take_append_of_le_length (by omega), List.drop_append_of_le_length (by omega)]
theorem rv_st [Inhabited α] (hf : ∀ x, (f x).length = z) {xs : List α} {i : Int} (hi : 0 ≤ i ∧ i < (xs.length : Int)) {t : TypeId} {o off : Nat} {v : V} {x : α} (ht : sizeOf P t = some v.cells.length) (h1 : v.cells.all V.one = true) (ho : off + v.cells.length ≤ z) (hx : f x = splice (f (gt xs i)) off v.cells) (e : o = i.toNat * z + off) : stL P (rv f xs) t o v = some (rv f (xs.set i.toNat x)) := by
 subst e
 have hl : (i.toNat + 1) * z ≤ xs.length * z := Nat.mul_le_mul_right z (by omega)
 rw [Nat.succ_mul] at hl
 simp only [stL, ht, if_true, h1]
 rw [if_pos (by rw [rv_length hf]; omega), rv_set hf hi ho hx]
theorem rv_all [Inhabited α] (hf : ∀ x, (f x).length = z) (h0 : z ≠ 0) {t : TypeId} (ht : isAgg P t = some true) (hn : sizeOf P t = some z) {h : H} {p : Nat} {xs : List α} {t' : TypeId} (hg : h.get p = some (.cells (rv f xs) t')) : LdA P W f t z (some (.new p 0)) xs h := by
 refine ⟨fun _ => rfl, fun i h1 h2 => ?_⟩
 have := ldVar_newL (P := P) (W := W) (h := h) (i := p) hg (rv_ldA hf ⟨h1, h2⟩ (off := 0) ht hn h0 (by omega) rfl (o := i.toNat * z) (by omega))
 rw [List.drop_zero, List.take_of_length_le (by rw [hf]; exact Nat.le_refl _)] at this
 have e : (adr (some (Ad.new p 0))).add (i.toNat * z) = .new p (i.toNat * z) := by simp [adr, Ad.add]
 rw [e]; exact this
theorem oldCells_append {b : Nat} : ∀ (m n o : Nat) (x y : List V), oldCells W b o m = some x → oldCells W b (o + m) n = some y → oldCells W b o (m + n) = some (x ++ y)
 | 0, n, o, x, y, h1, h2 => by
  simp only [oldCells] at h1; injection h1 with h1; subst h1
  simpa using h2
 | m + 1, n, o, x, y, h1, h2 => by
  simp only [oldCells] at h1
  split at h1
  ·rename_i v hv
   split at h1
   ·rename_i u hu
    split at h1
    ·rename_i xs hxs
     injection h1 with h1; subst h1
     have e : o + (m + 1) = o + 1 + m := by omega
     rw [e] at h2
     have := oldCells_append m n (o + 1) xs y hxs h2
     have e2 : m + 1 + n = (m + n) + 1 := by omega
     rw [e2]
     simp only [oldCells, hv, hu, this, List.cons_append]
    ·cases h1
   ·cases h1
  ·cases h1
theorem oldCells_rv {b o : Nat} : ∀ (xs : List α), (∀ i (h : i < xs.length), oldCells W b (o + i * z) z = some (f xs[i])) → oldCells W b o (xs.length * z) = some (rv f xs) := by
 intro xs
 induction xs generalizing o with
 | nil => intro _; simp [oldCells, rv]
 | cons x xs ih =>
  intro h
  rw [rv_cons, List.length_cons, Nat.succ_mul, Nat.add_comm]
  refine oldCells_append _ _ _ _ _ (by have := h 0 (by simp); simpa using this) (ih fun i hi => ?_)
  have := h (i + 1) (by simpa using hi)
  rw [Nat.succ_mul] at this
  have e : o + z + i * z = o + (i * z + z) := by omega
  rw [e]; simpa using this
theorem arr_first {a : Option Ad} {xs : List α} (hA : Arr W z f a xs) {cap : Nat} {ex : Bool} (h : H) : firstCells W h z xs.length (.slice a xs.length cap ex) = some (rv f xs) := by
 rcases hA with ⟨rfl, rfl⟩ | ⟨b, o, rfl, hc⟩
 ·rfl
 ·simp only [firstCells, ldCells]
  split
  ·rename_i h0
   rcases Nat.mul_eq_zero.1 h0 with h1 | h1
   ·have := List.eq_nil_of_length_eq_zero h1; subst this; rfl
   ·subst h1
    have := oldCells_rv (W := W) (z := 0) (f := f) xs hc
    simp only [Nat.mul_zero, oldCells] at this
    exact this
  ·exact oldCells_rv xs hc
theorem app_nil {e : TypeId} {size bytes n : Nat} {nc : List V} {h : H} {lb : Nat} {ex : Bool} (hn : 0 < n) (h1 : nc.length = n * size) (h2 : nc.all V.one = true) (h3 : n * bytes ≤ 140737488355328) (h4 : n ≤ 140737488355328) :
  appendTo W e size bytes (.slice none 0 lb ex) n nc h = some (.slice (some (.new h.nx 0)) n n false, h.alloc (.cells nc e)) := by
 simp only [appendTo, Nat.zero_add]
 rw [if_pos ⟨h1, h2, h3, h4⟩, if_neg (by omega)]
 rfl
theorem app_grow {e : TypeId} {size bytes n len : Nat} {nc l : List V} {h : H} {p : Nat} (hg : h.get p = some (.cells l e)) (hl : l.length = len * size) (hn : 0 < n) (h1 : nc.length = n * size) (h2 : nc.all V.one = true) (h3 : (len + n) * bytes ≤ 140737488355328) (h4 : len + n ≤ 140737488355328) :
  appendTo W e size bytes (.slice (some (.new p 0)) len len false) n nc h = some (.slice (some (.new h.nx 0)) (len + n) (len + n) false, (h.put p none).alloc (.cells (l ++ nc) e)) := by
 simp only [appendTo]
 rw [if_pos ⟨h1, h2, h3, h4⟩, if_neg (by omega), if_neg (by omega)]
 simp only [Bool.false_eq_true, if_false, hg]
 rw [List.take_of_length_le (by omega)]
 have h5 : len * size ≤ l.length := by omega
 simp only [h5, and_self, if_true]
theorem app_op {at0 at1 e : TypeId} {size bytes n : Nat} {s x : V} {z0 : V} {nc : List V} {h : H} {r : V × H} (h0 : P.underlying at0 = some (.slice e)) (h1 : sizeOf P e = some size) (h2 : bytesOf P e = some bytes) (h3 : zeroOf P e = some z0) (h4 : lenOf x = some n) (h5 : srcOk P at1 size x = true) (h6 : z0.cells.length = size) (h7 : firstCells W h size n x = some nc) (h8 : appendTo W e size bytes s n nc h = some r) :
  appendOp P W at0 at1 s x h = some r := by
 simp only [appendOp, h0, h1, h2, h3, h4]
 rw [if_pos ⟨h5, h6⟩, h7]; exact h8
theorem app_step {at0 at1 : TypeId} {s x : V} {xs : Operand} {ys : Operand} {env : List V} {h h' : H} {v : V} (hs : ev env xs = some s) (hx : ev env ys = some x) (ha : appendOp P W at0 at1 s x h = some (v, h')) :
  opStep P W (.call ⟨.builtin .append, #[xs, ys], #[at0, at1]⟩) env h = .val v h' := by
 simp only [opStep, evL, hs, hx, builtinOp, ha]; rfl
theorem rv_all_one (h1 : ∀ x, (f x).all V.one = true) (xs : List α) : (rv f xs).all V.one = true := by
 induction xs with
 | nil => rfl
 | cons x xs ih => rw [rv_cons, List.all_append, h1, ih]; rfl
theorem first_new {h : H} {size n q : Nat} {l nc : List V} {t : TypeId} {len lb : Nat} {ex : Bool} (hg : h.get q = some (.cells l t)) (h0 : n * size ≠ 0) (hl : n * size ≤ l.length) (hc : l.take (n * size) = nc) : firstCells W h size n (.slice (some (.new q 0)) len lb ex) = some nc := by
 simp only [firstCells, ldCells, hg, if_neg h0, Nat.zero_add, if_pos hl, List.drop_zero, hc]
theorem WpM.opR {prim : FuncId → Option (List V → H → Option (V × H))} {Q : Ex → St → Prop} {o : RO} {os : List RO} {ks : List KF} {env : List V} {ds : List Nat} {h : H} {r : Option Nat} (vf : Nat → V) (p : Nat) (ob : AO) (hg : rg o env = true) (hs : opStep P W o.op env h = .val (vf h.nx) ((h.put p none).alloc ob))
  (k : ∀ h1, HP h h1 p none → ∀ q h', HA h1 h' q ob → WpM P W prim ⟨.ops os, ks, setD env o.dst (vf q), ds, h', r⟩ Q) : WpM P W prim ⟨.ops (o :: os), ks, env, ds, h, r⟩ Q := WpM.op _ _ hg hs (k _ (HP.mk' h p none) _ _ (HA.mk' _ ob))
theorem WpM.opDRW {prim : FuncId → Option (List V → H → Option (V × H))} {Q : Ex → St → Prop} {ms : List Nat} {sn : List (Nat × H)} {i : Nat} {o : RO} {os : List (Nat × RO)} {ks : List KF} {env : List V} {ds : List Nat} {h : H} {r : Option Nat} (vf : Nat → V) (p : Nat) (ob : AO) (hg : rg o env = true) (hc : cls o.op = 0) (hs : opStep P W o.op env h = .val (vf h.nx) ((h.put p none).alloc ob))
  (k : ∀ h1, HP h h1 p none → ∀ q h', HA h1 h' q ob → WpM P W prim ⟨.draw ms os ((i, h) :: sn), ks, setD env o.dst (vf q), ds, h', r⟩ Q) : WpM P W prim ⟨.draw ms ((i, o) :: os) sn, ks, env, ds, h, r⟩ Q := WpM.opDW _ _ hg hc hs (k _ (HP.mk' h p none) _ _ (HA.mk' _ ob))
theorem app_empty {e : TypeId} {size bytes n : Nat} {nc : List V} {h : H} {a : Ad} (hn : 0 < n) (h1 : nc.length = n * size) (h2 : nc.all V.one = true) (h3 : n * bytes ≤ 140737488355328) (h4 : n ≤ 140737488355328) :
  appendTo W e size bytes (.slice (some a) 0 0 true) n nc h = some (.slice (some (.new h.nx 0)) n n false, h.alloc (.cells nc e)) := by
 simp only [appendTo, Nat.zero_add, Nat.zero_mul]
 rw [if_pos ⟨h1, h2, h3, h4⟩, if_neg (by omega), if_neg (by omega)]
 simp only [if_true, ldCells, List.nil_append]
theorem eq_agg {t u : TypeId} {xo yo : Operand} {env : List V} {h : H} {x y : List V} {b : Bool} (hx : ev env xo = some (.agg x)) (hy : ev env yo = some (.agg y)) (e : eqOp P t (.agg x) (.agg y) = some b) : opStep P W (.binOp .eql t xo yo u) env h = .val (.bool b) h := by
 simp only [opStep, hx, hy, binOp, e]; rfl
theorem eq_aggN {t u : TypeId} {xo yo : Operand} {env : List V} {h : H} {x y : List V} {b : Bool} (hx : ev env xo = some (.agg x)) (hy : ev env yo = some (.agg y)) (e : eqOp P t (.agg x) (.agg y) = some b) : opStep P W (.binOp .neq t xo yo u) env h = .val (.bool (!b)) h := by
 simp only [opStep, hx, hy, binOp, e]; rfl
theorem eq_nil {t u e : TypeId} {xo yo : Operand} {env : List V} {h : H} {a : Option Ad} {n lb : Nat} {ex : Bool} (hx : ev env xo = some (.slice a n lb ex)) (hy : ev env yo = some (.slice none 0 0 true)) (ha : a = some (adr a)) (ht : P.underlying t = some (.slice e)) : opStep P W (.binOp .eql t xo yo u) env h = .val (.bool false) h := by
 rw [ha] at hx
 simp only [opStep, hx, hy, binOp, eqOp, eqIn, ht]; rfl
end
end Go.Proofs.YtkhjmgchlbnkjaaDoor.Dg
