import Derived.Test.YtkhjmgchlbnkjaaDoorDgS36
set_option linter.unusedVariables false
set_option linter.unusedSimpArgs false
namespace Go.Proofs.YtkhjmgchlbnkjaaDoor.Dg
open Go Go.RowKit
section
variable {P : Program} {W : World}
theorem Go1.below {μ : Mu} {h : H} {w w' : World} (hr : HR P W μ h w) (hb : Below w.heap.size w w') : Go1 P W μ h w μ h w' := by
 have hlt : ∀ i o k, h.get i = some o → μ i = some k → k.b < w.heap.size := fun i o k hi hk => hr.lt hi hk
 refine ⟨⟨fun i o hi => ?_, hr.inj, hr.fresh, hr.below.trans (hb.mono hr.below.size)⟩, Mu.le_refl _, Nat.le_refl _, hb.size, fun b hb' _ => hb.block b hb', fun i o k hi hk => .inr ⟨i, o, k, hi, hk, rfl⟩, fun _ _ => rfl⟩
 obtain ⟨k, hk, hW, o', ho, hor⟩ := hr.obj i o hi
 exact ⟨k, hk, hW, o', by rw [hb.block k.b (hlt i o k hi hk)]; exact ho, hor⟩
theorem Prims.addB {prim : FuncId → Option (List V → H → Option (V × H))} (hp : Prims P W prim) {f : FuncId} {p : List V → Option V} (hbody : ∃ fn c, P.funcs[f]? = some fn ∧ fn.body = some c)
  (hs : ∀ w, Below W.heap.size W w → ∀ args v, p args = some v → ∀ μ (args' : Array Value), VRL μ args args'.toList → Calls P f args' w fun e w' => ∃ x, e = .returned x ∧ VR μ v x ∧ Below w.heap.size w w') : Prims P W (setPrim prim f p) := by
 intro w0 hb0
 have h0 := hp w0 hb0
 refine ⟨fun g q hg args h v h' hq μ w args' hr ha => ?_, fun g q hg => ?_, fun g q hg args h v h' hq => ?_⟩
 ·unfold setPrim at hg
  split at hg
  ·rename_i hgf
   subst hgf
   injection hg with hg; subst hg
   simp only at hq
   split at hq
   ·rename_i u hu
    injection hq with hq; injection hq with e1 e2; subst e1; subst e2
    have hbw : Below W.heap.size W w := hb0.trans (hr.below.mono hb0.size)
    have := hs w hbw args u hu μ args' ha
    rw [Wd_wide]
    refine callsIn_wide.2 (this.mono ?_)
    rintro e w' ⟨x, rfl, hv, hb⟩
    exact ⟨μ, x, rfl, hv, Go1.below hr hb⟩
   ·cases hq
  ·exact h0.ok g q hg args h v h' hq μ w args' hr ha
 ·unfold setPrim at hg
  split at hg
  ·rename_i hgf; subst hgf; exact hbody
  ·exact h0.body g q hg
 ·unfold setPrim at hg
  split at hg
  ·injection hg with hg; subst hg
   simp only at hq
   split at hq
   ·injection hq with hq; injection hq with e1 e2; subst e2; exact Nat.le_refl _
   ·cases hq
  ·exact h0.nx g q hg args h v h' hq
theorem vrl1 {μ : Mu} {a : V} {args : Array Value} (h : VRL μ [a] args.toList) : ∃ x, args = #[x] ∧ VR μ a x := by
 simp only [VRL] at h
 obtain ⟨x, xs, e1, h1, e4⟩ := h
 subst e4
 exact ⟨x, by rw [← Array.toList_inj]; exact e1, h1⟩
theorem vrl2 {μ : Mu} {a b : V} {args : Array Value} (h : VRL μ [a, b] args.toList) : ∃ x y, args = #[x, y] ∧ VR μ a x ∧ VR μ b y := by
 simp only [VRL] at h
 obtain ⟨x, xs, e1, h1, y, ys, e2, h2, e4⟩ := h
 subst e4; subst e2
 exact ⟨x, y, by rw [← Array.toList_inj]; exact e1, h1, h2⟩
theorem vrl3 {μ : Mu} {a b c : V} {args : Array Value} (h : VRL μ [a, b, c] args.toList) : ∃ x y z, args = #[x, y, z] ∧ VR μ a x ∧ VR μ b y ∧ VR μ c z := by
 simp only [VRL] at h
 obtain ⟨x, xs, e1, h1, y, ys, e2, h2, z, zs, e3, h3, e4⟩ := h
 subst e4; subst e3; subst e2
 exact ⟨x, y, z, by rw [← Array.toList_inj]; exact e1, h1, h2, h3⟩
theorem vr_str {μ : Mu} {s : List UInt8} {x : Value} (h : VR μ (.str s) x) : ∃ b : ByteArray, x = .string b ∧ b.data.toList = s := by simpa only [VR] using h
end
end Go.Proofs.YtkhjmgchlbnkjaaDoor.Dg
