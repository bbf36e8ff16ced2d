import Derived.Test.YtkhjmgchlbnkjaaDoorDgS11
set_option linter.unusedVariables false
set_option linter.unusedSimpArgs false
namespace Go.Proofs.YtkhjmgchlbnkjaaDoor.Dg
open Go Go.RowKit
def Mu.cut (μ : Mu) (n : Nat) : Mu := fun i => if i < n then μ i else none
theorem Mu.cut_lt {μ : Mu} {n i : Nat} (h : i < n) : μ.cut n i = μ i := by simp [Mu.cut, h]
theorem Mu.cut_ge {μ : Mu} {n i : Nat} (h : n ≤ i) : μ.cut n i = none := by simp [Mu.cut, Nat.not_lt.2 h]
theorem Mu.cut_mono {μ ν : Mu} {n m : Nat} (h : μ.le ν) (hn : n ≤ m) : (μ.cut n).le (ν.cut m) := fun i k hi => by
 unfold Mu.cut at hi ⊢
 split at hi
 ·rename_i hl; rw [if_pos (by omega)]; exact h _ _ hi
 ·cases hi
theorem Mu.cut_some {μ : Mu} {n i : Nat} {k : Bk} (h : μ.cut n i = some k) : i < n ∧ μ i = some k := by
 unfold Mu.cut at h
 split at h
 ·rename_i hl; exact ⟨hl, h⟩
 ·cases h
structure Go0 (P : Program) (W : World) (μ : Mu) (h : H) (w : World) (μ' : Mu) (h' : H) (w' : World) : Prop where
 hr : HR P W μ' h' w'
 mono : μ.le μ'
 nx : h.nx ≤ h'.nx
 size : w.heap.size ≤ w'.heap.size
 frame : ∀ b, b < w.heap.size → (∀ i o k, h.get i = some o → μ i = some k → k.b ≠ b) → w'.heap[b]? = w.heap[b]?
 foot : ∀ i o k, h'.get i = some o → μ' i = some k → w.heap.size ≤ k.b ∨ ∃ j oj kj, h.get j = some oj ∧ μ j = some kj ∧ kj.b = k.b
theorem Go0.trans {P : Program} {W : World} {μ μ1 μ2 : Mu} {h h1 h2 : H} {w w1 w2 : World} (a : Go0 P W μ h w μ1 h1 w1) (b : Go0 P W μ1 h1 w1 μ2 h2 w2) : Go0 P W μ h w μ2 h2 w2 := by
 refine ⟨b.hr, Mu.le_trans a.mono b.mono, Nat.le_trans a.nx b.nx, Nat.le_trans a.size b.size, fun x hx hn => ?_, fun i o k hi hk => ?_⟩
 ·rw [b.frame x (Nat.lt_of_lt_of_le hx a.size) (fun i o k hi hk e => ?_), a.frame x hx hn]
  rcases a.foot i o k hi hk with h1 | ⟨j, oj, kj, hj, hkj, e'⟩
  ·omega
  ·exact hn j oj kj hj hkj (e'.trans e)
 ·rcases b.foot i o k hi hk with h1 | ⟨j, oj, kj, hj, hkj, e'⟩
  ·exact .inl (Nat.le_trans a.size h1)
  ·rcases a.foot j oj kj hj hkj with h2 | ⟨j', oj', kj', hj', hkj', e''⟩
   ·exact .inl (by omega)
   ·exact .inr ⟨j', oj', kj', hj', hkj', e''.trans e'⟩
def glue (n : Nat) (μ1 ν : Mu) : Mu := fun i => if i < n then μ1 i else ν i
section
variable {P : Program} {W : World}
theorem merge {ν μ1 : Mu} {c0 c1 c2 : Nat} {hm h0 h1 H' : H} {w w1 : World} (hr : HR P W (ν.cut c2) hm w) (h0r : HR P W (ν.cut c0) h0 w) (g : Go1 P W (ν.cut c0) h0 w μ1 h1 w1)
  (e0 : h0.nx = c0) (e1 : h1.nx = c1) (e2 : hm.nx = c2) (h12 : c1 ≤ c2) (get0 : ∀ i, i < c0 → hm.get i = h0.get i) (gap : ∀ i, c0 ≤ i → i < c1 → ν i = none)
  (e' : H'.nx = c2) (getl : ∀ i, i < c1 → H'.get i = h1.get i) (getr : ∀ i, c1 ≤ i → H'.get i = hm.get i) :
  Go0 P W (ν.cut c2) hm w ((glue c1 μ1 ν).cut c2) H' w1 := by
 have h01 : c0 ≤ c1 := by rw [← e0, ← e1]; exact g.nx
 have hlt0 : ∀ i o, h0.get i = some o → i < c0 := fun i o hi => by
  rcases Nat.lt_or_ge i c0 with h | h
  ·exact h
  ·rw [(h0r.fresh i (by rw [e0]; exact h)).2] at hi; cases hi
 have hleν : (ν.cut c2).le ((glue c1 μ1 ν).cut c2) := fun i k hi => by
  obtain ⟨hl, hi⟩ := Mu.cut_some hi
  rw [Mu.cut_lt hl]
  unfold glue
  split
  ·rename_i hl1
   rcases Nat.lt_or_ge i c0 with h | h
   ·rw [g.old i (by rw [e0]; exact h), Mu.cut_lt h]; exact hi
   ·rw [gap i h hl1] at hi; cases hi
  ·exact hi
 have hle1 : μ1.le ((glue c1 μ1 ν).cut c2) := fun i k hi => by
  rcases Nat.lt_or_ge i c1 with h | h
  ·rw [Mu.cut_lt (by omega)]; simp only [glue, if_pos h]; exact hi
  ·rw [(g.hr.fresh i (by rw [e1]; exact h)).1] at hi; cases hi
 have eqr : ∀ i, c1 ≤ i → (glue c1 μ1 ν).cut c2 i = ν.cut c2 i := fun i hi => by
  unfold Mu.cut glue
  rw [if_neg (Nat.not_lt.2 hi)]
 have eql : ∀ i, i < c1 → (glue c1 μ1 ν).cut c2 i = μ1 i := fun i hi => by
  rw [Mu.cut_lt (by omega)]; simp only [glue, if_pos hi]
 have foot0 : ∀ i o k, hm.get i = some o → ν.cut c2 i = some k → c1 ≤ i → ∀ j oj kj, h0.get j = some oj → ν.cut c0 j = some kj → kj.b ≠ k.b := fun i o k hi hk hci j oj kj hj hkj e => by
  have hj0 := hlt0 j oj hj
  have hkj' : ν.cut c2 j = some kj := by
   obtain ⟨a, b⟩ := Mu.cut_some hkj
   rw [Mu.cut_lt (by omega)]; exact b
  have := hr.inj j i oj o kj k (by rw [get0 j hj0]; exact hj) hi hkj' hk e
  omega
 have far : ∀ i o k, hm.get i = some o → ν.cut c2 i = some k → c1 ≤ i → ∀ j oj kj, h1.get j = some oj → μ1 j = some kj → kj.b ≠ k.b := fun i o k hi hk hci j oj kj hj hkj e => by
  rcases g.foot j oj kj hj hkj with hf | ⟨l, ol, kl, hl, hkl, el⟩
  ·have := hr.lt hi hk; omega
  ·exact foot0 i o k hi hk hci l ol kl hl hkl (el.trans e)
 refine ⟨⟨fun i o hi => ?_, fun i j oi oj ki kj hi hj hki hkj e => ?_, fun i hi => ?_, g.hr.below⟩, hleν, Nat.le_of_eq (e2.trans e'.symm), g.size, fun b hb hn => ?_, fun i o k hi hk => ?_⟩
 ·rcases Nat.lt_or_ge i c1 with h | h
  ·rw [getl i h] at hi
   obtain ⟨k, hk, hW, o', ho', hor⟩ := g.hr.obj i o hi
   exact ⟨k, hle1 _ _ hk, hW, o', ho', hor.mono hle1⟩
  ·rw [getr i h] at hi
   obtain ⟨k, hk, hW, o', ho', hor⟩ := hr.obj i o hi
   refine ⟨k, hleν _ _ hk, hW, o', ?_, hor.mono hleν⟩
   rw [g.frame k.b (hr.lt hi hk) (foot0 i o k hi hk h)]
   exact ho'
 ·rcases Nat.lt_or_ge i c1 with h | h <;> rcases Nat.lt_or_ge j c1 with h' | h'
  ·rw [getl i h] at hi; rw [getl j h'] at hj; rw [eql i h] at hki; rw [eql j h'] at hkj
   exact g.hr.inj i j oi oj ki kj hi hj hki hkj e
  ·rw [getl i h] at hi; rw [getr j h'] at hj; rw [eql i h] at hki; rw [eqr j h'] at hkj
   exact absurd e (far j oj kj hj hkj h' i oi ki hi hki)
  ·rw [getr i h] at hi; rw [getl j h'] at hj; rw [eqr i h] at hki; rw [eql j h'] at hkj
   exact absurd e.symm (far i oi ki hi hki h j oj kj hj hkj)
  ·rw [getr i h] at hi; rw [getr j h'] at hj; rw [eqr i h] at hki; rw [eqr j h'] at hkj
   exact hr.inj i j oi oj ki kj hi hj hki hkj e
 ·rw [e'] at hi
  refine ⟨Mu.cut_ge hi, ?_⟩
  rw [getr i (by omega)]
  exact (hr.fresh i (by rw [e2]; exact hi)).2
 ·refine g.frame b hb fun j oj kj hj hkj => ?_
  have hj0 := hlt0 j oj hj
  obtain ⟨_, q⟩ := Mu.cut_some hkj
  exact hn j oj kj (by rw [get0 j hj0]; exact hj) (by rw [Mu.cut_lt (by omega)]; exact q)
 ·rcases Nat.lt_or_ge i c1 with h | h
  ·rw [getl i h] at hi; rw [eql i h] at hk
   rcases g.foot i o k hi hk with hf | ⟨l, ol, kl, hl, hkl, el⟩
   ·exact .inl hf
   ·have hl0 := hlt0 l ol hl
    obtain ⟨_, q⟩ := Mu.cut_some hkl
    exact .inr ⟨l, ol, kl, by rw [get0 l hl0]; exact hl, by rw [Mu.cut_lt (by omega)]; exact q, el⟩
  ·rw [getr i h] at hi; rw [eqr i h] at hk
   exact .inr ⟨i, o, k, hi, hk, rfl⟩
end
end Go.Proofs.YtkhjmgchlbnkjaaDoor.Dg
