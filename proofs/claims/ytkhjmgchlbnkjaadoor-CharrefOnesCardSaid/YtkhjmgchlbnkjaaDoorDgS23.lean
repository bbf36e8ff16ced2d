import Derived.Test.YtkhjmgchlbnkjaaDoorDgS22
set_option linter.unusedVariables false
set_option linter.unusedSimpArgs false
namespace Go.Proofs.YtkhjmgchlbnkjaaDoor.Dg
open Go Go.RowKit
structure IH.le (a b : IH) : Prop where
  code : ∀ r c st x, a.code r c st = some x → b.code r c st = some x
  call : ∀ f args h x, a.call f args h = some x → b.call f args h = some x
section
variable {P : Program} {W : World} {prim : FuncId → Option (List V → H → Option (V × H))} {a b : IH}
theorem doRound_mono (L : a.le b) {l : Nat} {args : List V} {h : H} {x : V × H} (e : doRound a l args h = some x) : doRound b l args h = some x := by
  unfold doRound at e ⊢
  split at e
  · split at e
    · rename_i hl
      rw [if_pos hl]
      split at e
      · rename_i st hst
        rw [L.code _ _ _ _ hst]
        simp only
        split at e
        · split at e
          · rename_i ex st2 hst2
            rw [L.code _ _ _ _ hst2]
            exact e
          · cases e
        · cases e
      · cases e
    · cases e
  · cases e
theorem runOp_mono (L : a.le b) {o : Op} {env : List V} {h : H} {x : V × H} (e : runOp P W a o env h = some x) : runOp P W b o env h = some x := by
  unfold runOp at e ⊢
  split at e
  · exact e
  · exact L.call _ _ _ _ e
  · exact doRound_mono L e
  · cases e
theorem doOps_mono (L : a.le b) {ops : Array Oper} : ∀ (os : List Oper) (st : St) (x : St), doOps P W a ops os st = some x → doOps P W b ops os st = some x
  | [], st, x, e => e
  | o :: os, st, x, e => by
    simp only [doOps] at e ⊢
    split at e
    · rename_i st1 h1
      have : doOp P W b ops o st = some st1 := by
        unfold doOp at h1 ⊢
        split at h1
        · rename_i hg
          rw [if_pos hg]
          split at h1
          · rename_i v h2 hr
            rw [runOp_mono L hr]
            exact h1
          · cases h1
        · rename_i hg
          rw [if_neg hg]; exact h1
      rw [this]
      exact doOps_mono L os st1 x e
    · cases e
theorem drawGo_mono (L : a.le b) {ops : Array Oper} {ms : List Nat} : ∀ (is : List Nat) (sn : List (Nat × H)) (st : St) (x : St), drawGo P W a ops ms is sn st = some x → drawGo P W b ops ms is sn st = some x
  | [], sn, st, x, e => e
  | i :: is, sn, st, x, e => by
    simp only [drawGo] at e ⊢
    split at e
    · cases e
    · split at e
      · rename_i hg
        rw [if_pos hg]
        split at e
        · rename_i hc
          rw [if_pos hc]
          split at e
          · rename_i v h1 hr
            rw [runOp_mono L hr]
            exact drawGo_mono L is _ _ x e
          · cases e
        · rename_i hc
          rw [if_neg hc]
          split at e
          · split at e
            · rename_i hs
              rw [if_pos hs]
              exact drawGo_mono L is _ _ x e
            · cases e
          · cases e
      · rename_i hg
        rw [if_neg hg]
        exact drawGo_mono L is _ _ x e
theorem loopGo_mono {f g : St → Option (Ex × St)} (hf : ∀ st x, f st = some x → g st = some x) : ∀ (k m : Nat), k ≤ m → ∀ (st : St) (x : Ex × St), loopGo f k st = some x → loopGo g m st = some x
  | 0, m, _, st, x, e => by cases e
  | k + 1, m, hm, st, x, e => by
    obtain ⟨m, rfl⟩ : ∃ j, m = j + 1 := ⟨m - 1, by omega⟩
    have e : (match f st with | some (.norm, st') => loopGo f k st' | u => u) = some x := e
    change (match g st with | some (.norm, st') => loopGo g m st' | u => u) = some x
    split at e
    · rename_i st1 h1
      rw [hf _ _ h1]
      exact loopGo_mono hf k m (by omega) st1 x e
    · rename_i hne
      rw [hf _ _ e]
      obtain ⟨ex, st1⟩ := x
      cases ex with
      | norm => exact absurd e (hne st1)
      | ret => rfl
      | exit id => rfl
theorem codeStep_mono (L : a.le b) {k m : Nat} (hk : k ≤ m) (r : Option Nat) (c : Code) (st : St) (x : Ex × St) (e : codeStep P W k a r c st = some x) : codeStep P W m b r c st = some x := by
  cases c with
  | skip => exact e
  | label l => exact e
  | region id ops dr =>
    cases dr with
    | false =>
      simp only [codeStep] at e ⊢
      split at e
      · rename_i st1 h1; rw [doOps_mono L _ _ _ h1]; exact e
      · cases e
    | true =>
      simp only [codeStep] at e ⊢
      split at e
      · rename_i st1 h1
        have : doDraw P W b ops st = some st1 := by
          unfold doDraw at h1 ⊢
          split at h1
          · exact drawGo_mono L _ _ _ _ h1
          · split at h1
            · split at h1
              · rename_i st2 h2
                split at h1
                · rename_i ht
                  simp only [drawGo_mono L _ _ _ _ h2, if_pos ht]
                  exact drawGo_mono L _ _ _ _ h1
                · cases h1
              · cases h1
            · cases h1
        rw [this]; exact e
      · cases e
  | seq y z =>
    simp only [codeStep] at e ⊢
    split at e
    · rename_i st1 h1
      rw [L.code _ _ _ _ h1]
      exact L.code _ _ _ _ e
    · rename_i hne
      rw [L.code _ _ _ _ e]
      obtain ⟨ex, st1⟩ := x
      cases ex with
      | norm => exact absurd e (hne st1)
      | ret => rfl
      | exit id => rfl
  | cond o y z =>
    simp only [codeStep] at e ⊢
    split at e
    · exact L.code _ _ _ _ e
    · cases e
  | block id y =>
    simp only [codeStep] at e ⊢
    split at e
    · rename_i i st1 h1
      rw [L.code _ _ _ _ h1]
      exact e
    · rename_i hne
      rw [L.code _ _ _ _ e]
      obtain ⟨ex, st1⟩ := x
      cases ex with
      | norm => rfl
      | ret => rfl
      | exit i => exact absurd e (hne i st1)
  | loop y => exact loopGo_mono (fun st x h => L.code _ _ _ _ h) k m hk st x e
  | rangeFunc g ps assign body =>
    simp only [codeStep] at e ⊢
    unfold doRange at e ⊢
    split at e
    · dsimp only at e ⊢
      split at e
      · cases e
      · rename_i d ds h1 hstart
        split at e
        · rename_i u h3 hcall
          rw [L.call _ _ _ _ hcall]
          simp only
          split at e
          · exact e
          · exact L.code _ _ _ _ e
          · cases e
        · cases e
    · cases e
  | exit id => exact e
  | scope y => exact L.code _ _ _ _ e
  | ret => exact e
  | goto l => cases e
  | refuse s => cases e
theorem callStep_mono (L : a.le b) (f : FuncId) (args : List V) (h : H) (x : V × H) (e : callStep P W prim a f args h = some x) : callStep P W prim b f args h = some x := by
  unfold callStep at e ⊢
  split at e
  · exact e
  · split at e
    · split at e
      · split at e
        · rename_i st hc; rw [L.code _ _ _ _ hc]; exact e
        · rename_i st hc; rw [L.code _ _ _ _ hc]; exact e
        · cases e
      · cases e
    · cases e
theorem run_le : ∀ n, (run P W prim n).le (run P W prim (n + 1))
  | 0 => ⟨fun _ _ _ _ e => (by cases e), fun _ _ _ _ e => (by cases e)⟩
  | n + 1 => ⟨fun r c st x e => codeStep_mono (run_le n) (Nat.le_succ n) r c st x e, fun f args h x e => callStep_mono (run_le n) f args h x e⟩
theorem run_mono {n m : Nat} (hnm : n ≤ m) {f : FuncId} {args : List V} {h : H} {x : V × H} (e : (run P W prim n).call f args h = some x) : (run P W prim m).call f args h = some x := by
  induction m with
  | zero => have : n = 0 := by omega
            subst this; exact e
  | succ m ih =>
    rcases Nat.lt_or_ge m n with h' | h'
    · have : n = m + 1 := by omega
      subst this; exact e
    · exact (run_le m).call _ _ _ _ (ih h')
theorem WpF.at {n : Nat} {f : FuncId} {args : List V} {h h' : H} {v : V} {K : V → H → Prop} (e : (run P W prim n).call f args h = some (v, h')) (k : K v h') : WpF P W prim f args h K :=
  ⟨v, h', ⟨n, fun m hm => run_mono hm e⟩, k⟩
end
end Go.Proofs.YtkhjmgchlbnkjaaDoor.Dg
