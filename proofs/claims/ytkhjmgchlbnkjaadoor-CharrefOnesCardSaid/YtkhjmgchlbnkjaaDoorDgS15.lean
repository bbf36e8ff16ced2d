import Derived.Test.YtkhjmgchlbnkjaaDoorDgS14
set_option linter.unusedVariables false
set_option linter.unusedSimpArgs false
namespace Go.Proofs.YtkhjmgchlbnkjaaDoor.Dg
open Go Go.RowKit
theorem stCells_nx {h h' : H} {a : Ad} {vs : List V} (hs : stCells h a vs = some h') : h.nx ≤ h'.nx := by
 unfold stCells at hs
 repeat' split at hs
 all_goals first
  | (cases hs; done)
  | (injection hs with hs; subst hs; simp)
section
variable {P : Program} {W : World}
theorem stVar_nx {h h' : H} {t : TypeId} {a : Ad} {v : V} (hs : stVar P h t a v = some h') : h.nx ≤ h'.nx := by
 unfold stVar at hs
 repeat' split at hs
 all_goals first
  | (cases hs; done)
  | exact stCells_nx hs
theorem Res.of_nx {h h' : H} {v : V} {r : Option (V × H)} (hr : ∀ v h', r = some (v, h') → h.nx ≤ h'.nx) (hs : Res.of r = .val v h') : h.nx ≤ h'.nx := by
 cases r with
 | none => cases hs
 | some u => obtain ⟨u1, u2⟩ := u; simp only [Res.of] at hs; injection hs with e1 e2; subst e1; subst e2; exact hr _ _ rfl
theorem Res.unit_nx {h h' : H} {v : V} {r : Option H} (hr : ∀ h', r = some h' → h.nx ≤ h'.nx) (hs : Res.unit r = .val v h') : h.nx ≤ h'.nx := by
 cases r with
 | none => cases hs
 | some u => simp only [Res.unit] at hs; injection hs with e1 e2; subst e2; exact hr _ rfl
theorem appendOp_nx {t0 t1 : TypeId} {s x : V} {h : H} : ∀ v h', appendOp P W t0 t1 s x h = some (v, h') → h.nx ≤ h'.nx := by
 unfold appendOp appendTo
 intro v h' hs
 repeat' split at hs
 all_goals first
  | (cases hs; done)
  | (injection hs with hq; injection hq with e1 e2; subst e2; first | exact Nat.le_refl _ | (simp; done) | exact stCells_nx ‹stCells _ _ _ = some _›)
theorem copyOp_nx {t0 : TypeId} {s x : V} {h : H} : ∀ v h', copyOp P W t0 s x h = some (v, h') → h.nx ≤ h'.nx := by
 unfold copyOp
 intro v h' hs
 dsimp only at hs
 repeat' split at hs
 all_goals first
  | (cases hs; done)
  | (injection hs with hq; injection hq with e1 e2; subst e2; first | exact Nat.le_refl _ | (simp; done) | exact stCells_nx ‹stCells _ _ _ = some _›)
theorem clearOp_nx {t0 : TypeId} {s : V} {h : H} : ∀ v h', clearOp P t0 s h = some (v, h') → h.nx ≤ h'.nx := by
 unfold clearOp
 intro v h' hs
 repeat' split at hs
 all_goals first
  | (cases hs; done)
  | (injection hs with hq; injection hq with e1 e2; subst e2; first | exact Nat.le_refl _ | (simp; done) | exact stCells_nx ‹stCells _ _ _ = some _›)
theorem convert_nx {s d : TypeId} {x : V} {h : H} : ∀ v h', convert P W s d x h = some (v, h') → h.nx ≤ h'.nx := by
 unfold convert
 intro v h' hs
 repeat' split at hs
 all_goals first
  | (cases hs; done)
  | (injection hs with hq; injection hq with e1 e2; subst e2; first | exact Nat.le_refl _ | (simp; done) | exact stCells_nx ‹stCells _ _ _ = some _›)
theorem nextOp_nx {x : V} {h : H} : ∀ v h', nextOp x h = some (v, h') → h.nx ≤ h'.nx := by
 unfold nextOp
 intro v h' hs
 repeat' split at hs
 all_goals first
  | (cases hs; done)
  | (injection hs with hq; injection hq with e1 e2; subst e2; first | exact Nat.le_refl _ | (simp; done) | exact stCells_nx ‹stCells _ _ _ = some _›)
theorem mapUpdate_nx {t : TypeId} {m k v : V} {h : H} : ∀ h', mapUpdate P t m k v h = some h' → h.nx ≤ h'.nx := by
 unfold mapUpdate
 intro h' hs
 repeat' split at hs
 all_goals first
  | (cases hs; done)
  | (injection hs with hq; subst hq; simp; done)
theorem opStep_nx {o : Op} {env : List V} {h h' : H} {v : V} (hs : opStep P W o env h = .val v h') : h.nx ≤ h'.nx := by
 have vv : ∀ {u : V}, Res.val u h = .val v h' → h.nx ≤ h'.nx := fun {u} e => by
  injection e with e1 e2; subst e2; exact Nat.le_refl _
 have pv : ∀ {r : Option V}, Res.pure h r = .val v h' → h.nx ≤ h'.nx := fun {r} e => by
  rw [(Res.pure_some e).2]; exact Nat.le_refl _
 have av : ∀ {u : V} {ob : AO}, Res.val u (h.alloc ob) = .val v h' → h.nx ≤ h'.nx := fun {u ob} e => by
  injection e with e1 e2; subst e2; simp
 cases o
 case call c =>
  simp only [opStep] at hs
  split at hs
  ·repeat' split at hs
   all_goals (cases hs; done)
  ·split at hs
   ·unfold builtinOp at hs
    split at hs
    ·exact Res.of_nx appendOp_nx hs
    ·repeat' split at hs
     all_goals first | (cases hs; done) | exact vv hs
    ·repeat' split at hs
     all_goals first | (cases hs; done) | exact vv hs
    ·exact Res.of_nx copyOp_nx hs
    ·exact Res.of_nx clearOp_nx hs
    ·exact vv hs
    ·exact vv hs
    ·cases hs
   ·cases hs
  ·cases hs
 all_goals
  simp only [opStep] at hs
  repeat' split at hs
  all_goals first
   | (cases hs; done)
   | exact pv hs
   | exact vv hs
   | exact av hs
   | exact Res.unit_nx (fun h' e => stVar_nx e) hs
   | exact Res.unit_nx mapUpdate_nx hs
   | exact Res.of_nx convert_nx hs
   | exact Res.of_nx nextOp_nx hs
   | (obtain ⟨ob, f, e1, _⟩ := buildSlice_step (Res.of_val hs); rw [e1]; simp)
   | (obtain ⟨ob, f, e1, _⟩ := makeSlice_step (Res.of_val hs); rw [e1]; simp)
structure NX (ih : IH) : Prop where
 code : ∀ r c st ex st', ih.code r c st = some (ex, st') → st.h.nx ≤ st'.h.nx
 call : ∀ f args h v h', ih.call f args h = some (v, h') → h.nx ≤ h'.nx
theorem doRound_nx {ih : IH} (N : NX ih) {l : Nat} {args : List V} {h h' : H} {v : V} (hs : doRound ih l args h = some (v, h')) : h.nx ≤ h'.nx := by
 unfold doRound at hs
 split at hs
 ·split at hs
  ·split at hs
   ·rename_i st hst
    have h1 := N.code _ _ _ _ _ hst
    simp only at h1
    split at hs
    ·split at hs
     ·rename_i ex st2 hst2
      have h2 := N.code _ _ _ _ _ hst2
      simp only [H.nx_put] at h2
      split at hs
      ·split at hs <;> (injection hs with hs; injection hs with e1 e2; subst e2; simp only [H.nx_put]; omega)
      ·cases hs
     ·cases hs
    ·cases hs
   ·cases hs
  ·cases hs
 ·cases hs
theorem runOp_nx {ih : IH} (N : NX ih) {o : Op} {env : List V} {h h' : H} {v : V} (hs : runOp P W ih o env h = some (v, h')) : h.nx ≤ h'.nx := by
 unfold runOp at hs
 split at hs
 ·rename_i u h2 he
  injection hs with hs; injection hs with e1 e2; subst e2
  exact opStep_nx he
 ·exact N.call _ _ _ _ _ hs
 ·exact doRound_nx N hs
 ·cases hs
end
end Go.Proofs.YtkhjmgchlbnkjaaDoor.Dg
