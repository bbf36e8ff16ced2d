import Derived.Test.YtkhjmgchlbnkjaaDoorDgS35
set_option linter.unusedVariables false
set_option linter.unusedSimpArgs false
namespace Go.Proofs.YtkhjmgchlbnkjaaDoor.Dg
open Go Go.RowKit
section
variable {α : Type} {f : α → List V} {z : Nat} {P : Program} {W : World}
theorem optNat_of {k : IntKind} {n : Int} {m : Nat} (h : n = (m : Int)) : optNat (some (.int k n)) = some (some m) := by
 subst h
 simp [optNat, natOf]
theorem slice_cut {t e : TypeId} {x : Operand} {lo hi mx : Option Operand} {env : List V} {h : H} {lv hv mv : Option V} {p o len lb L : Nat} {l : Option Nat} {Hh M o' n' b' : Nat} {ex : Bool} (hx : ev env x = some (.slice (some (.new p o)) len lb ex)) (hl : evO env lo = some lv) (hh : evO env hi = some hv) (hm : evO env mx = some mv)
  (hl' : optNat lv = some l) (hh' : optNat hv = some (some Hh)) (hm' : optNat mv = some (some M)) (hu : P.underlying t = some (.slice e)) (hs : sizeOf P e = some z) (eL : l.getD 0 = L) (h1 : L ≤ Hh) (h2 : Hh ≤ M) (h3 : M ≤ lb) (h4 : L < M) (r1 : o + L * z = o') (r2 : Hh - L = n') (r3 : M - L = b') :
  opStep P W (.slice t x lo hi mx) env h = .val (.slice (some (.new p o')) n' b' true) h := by
 subst r1; subst r2; subst r3
 have h5 : ¬ M = L := by omega
 simp only [opStep, hx, hl, hh, hm, sliceOp, hl', hh', hm', hu, hs, eL, Option.getD_some, Option.isSome_some, h1, h2, h3, and_self, if_true, cut, if_neg h5, Option.map_some, Ad.add]
 rfl
theorem slice_in {t e : TypeId} {x : Operand} {lo hi : Option Operand} {env : List V} {h : H} {lv hv : Option V} {p o len lb L Hh : Nat} {l hq : Option Nat} {o' n' b' : Nat} (hx : ev env x = some (.slice (some (.new p o)) len lb false)) (hl : evO env lo = some lv) (hh : evO env hi = some hv)
  (hl' : optNat lv = some l) (hh' : optNat hv = some hq) (hu : P.underlying t = some (.slice e)) (hs : sizeOf P e = some z) (eL : l.getD 0 = L) (eH : hq.getD len = Hh) (h1 : L ≤ Hh) (h3 : Hh ≤ lb) (r1 : o + L * z = o') (r2 : Hh - L = n') (r3 : lb - L = b') :
  opStep P W (.slice t x lo hi none) env h = .val (.slice (some (.new p o')) n' b' false) h := by
 subst r1; subst r2; subst r3
 have hm : evO env none = some none := rfl
 have hmo : optNat none = some none := rfl
 simp only [opStep, hx, hl, hh, hm, sliceOp, hl', hh', hmo, hu, hs, eL, eH, h1, h3, and_self, if_true, Bool.false_eq_true, if_false, Option.map_some, Ad.add]
 rfl
theorem app_zero {e : TypeId} {size bytes : Nat} {h : H} {base : Option Ad} {len lb : Nat} {ex : Bool} (h3 : len * bytes ≤ 140737488355328) (h4 : len ≤ 140737488355328) :
  appendTo W e size bytes (.slice base len lb ex) 0 [] h = some (.slice base len lb ex, h) := by
 simp only [appendTo]
 rw [if_pos ⟨by simp, rfl, by simpa using h3, by simpa using h4⟩]
 simp only [if_true]
theorem clear_one [Inhabited α] (hf : ∀ x, (f x).length = z) (h1 : ∀ x, (f x).all V.one = true) {t e t' : TypeId} {xo : Operand} {env : List V} {h : H} {p o c k : Nat} {ex : Bool} {ys : List α} {d : α} {z0 : V} (hx : ev env xo = some (.slice (some (.new p o)) 1 c ex)) (hu : P.underlying t = some (.slice e)) (hz : zeroOf P e = some z0) (hd : f d = z0.cells)
  (hg : h.get p = some (.cells (rv f ys) t')) (hk : k < ys.length) (ho : o = k * z) : opStep P W (.call ⟨.builtin .clear, #[xo], #[t]⟩) env h = .val .undef (h.put p (some (.cells (rv f (ys.set k d)) t'))) := by
 have e1 : rep z0.cells 1 = f d := by rw [← hd]; simp [rep]
 have hl : (k + 1) * z ≤ ys.length * z := Nat.mul_le_mul_right z (by omega)
 rw [Nat.succ_mul] at hl
 have e2 : splice (rv f ys) (k * z) (f d) = rv f (ys.set k d) := by
  have := rv_set (f := f) hf (xs := ys) (i := (k : Int)) ⟨by omega, by omega⟩ (off := 0) (vs := f d) (x := d) (by rw [hf]; omega) (by
   unfold splice
   rw [List.take_zero, List.nil_append, List.drop_eq_nil_of_le (by rw [hf, hf]; omega), List.append_nil])
  simpa using this
 simp only [opStep, evL, hx, builtinOp, clearOp, hu, hz, e1, stCells, hg, h1, if_true]
 rw [if_neg (by decide)]
 have h6 : o + (f d).length ≤ (rv f ys).length := by rw [hf, rv_length hf]; omega
 rw [if_pos h6, ho, e2]
 rfl
structure KA (T : TypeId) (h h' : H) : Prop where
 nx : h.nx ≤ h'.nx
 keep : ∀ {q : Nat} {c : List V}, q < h.nx → h.get q = some (.cells c T) → h'.get q = some (.cells c T)
theorem KA.refl (T : TypeId) (h : H) : KA T h h := ⟨Nat.le_refl _, fun _ e => e⟩
theorem KA.trans {T : TypeId} {a b c : H} (h : KA T a b) (k : KA T b c) : KA T a c := ⟨Nat.le_trans h.nx k.nx, fun hj e => k.keep (Nat.lt_of_lt_of_le hj h.nx) (h.keep hj e)⟩
theorem KA.hx {T : TypeId} {a b c : H} (h : KA T a b) (k : HX b c) : KA T a c := h.trans ⟨k.nx, fun hj e => k.keep hj e⟩
theorem KA.alloc {T : TypeId} {a b c : H} {p : Nat} {o : AO} (h : KA T a b) (k : HA b c p o) : KA T a c := h.trans ⟨by have := k.nx; omega, fun hj e => k.keep hj e⟩
theorem KA.put {T : TypeId} {a b c : H} {p : Nat} {o : Option AO} (h : KA T a b) (k : HP b c p o) {x : AO} (hg : b.get p = some x) (hx : ∀ l, x ≠ .cells l T) : KA T a c :=
 h.trans ⟨by have := k.nx; omega, fun {q l} hj e => k.keep (fun he => hx l (by rw [he, hg] at e; injection e)) e⟩
theorem ne_cells {l : List V} {t T : TypeId} (h : t ≠ T) : ∀ l', AO.cells l t ≠ .cells l' T := fun l' e => by injection e with e1 e2; exact h e2
end
end Go.Proofs.YtkhjmgchlbnkjaaDoor.Dg
