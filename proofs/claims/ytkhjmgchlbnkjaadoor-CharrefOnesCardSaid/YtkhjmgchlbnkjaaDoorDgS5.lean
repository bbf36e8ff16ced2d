import Derived.Test.YtkhjmgchlbnkjaaDoorDgS4
set_option linter.unusedVariables false
set_option linter.unusedSimpArgs false
namespace Go.Proofs.YtkhjmgchlbnkjaaDoor.Dg
open Go Go.RowKit
def OV (μ : Mu) : Option V → Option Value → Prop
 | none, y => y = none
 | some v, y => ∃ x, y = some x ∧ VR μ v x
section
variable {P : Program} {W : World} {μ : Mu} {h : H} {w : World}
theorem natOf_spec {v : V} {n : Nat} {x : Value} (hn : natOf v = some n) (hv : VR μ v x) : ∃ k z, x = .int k z ∧ 0 ≤ z ∧ z.toNat = n := by
 unfold natOf at hn
 split at hn
 ·rename_i k z
  split at hn
  ·injection hn with hn
   exact ⟨k, z, hv.int_of, ‹_›, hn⟩
  ·cases hn
 ·cases hn
theorem optNat_spec {o : Option V} {r : Option Nat} {y : Option Value} (hn : optNat o = some r) (hv : OV μ o y) :
  (r = none ∧ y = none) ∨ ∃ n k z, r = some n ∧ y = some (.int k z) ∧ 0 ≤ z ∧ z.toNat = n := by
 cases o with
 | none => simp [optNat] at hn; exact .inl ⟨hn.symm, hv⟩
 | some v =>
  obtain ⟨x, rfl, hv⟩ := hv
  simp only [optNat] at hn
  split at hn
  ·rename_i n hnat
   injection hn with hn
   obtain ⟨k, z, rfl, h0, h1⟩ := natOf_spec hnat hv
   exact .inr ⟨n, k, z, hn.symm, rfl, h0, h1⟩
  ·cases hn
theorem run_bounds {isSlice : Bool} {len cap : Nat} {lo hi mx : Option Value} {rl rh rm : Option Nat}
  (hl : (rl = none ∧ lo = none) ∨ ∃ n k z, rl = some n ∧ lo = some (.int k z) ∧ 0 ≤ z ∧ z.toNat = n)
  (hh : (rh = none ∧ hi = none) ∨ ∃ n k z, rh = some n ∧ hi = some (.int k z) ∧ 0 ≤ z ∧ z.toNat = n)
  (hm : (rm = none ∧ mx = none) ∨ ∃ n k z, rm = some n ∧ mx = some (.int k z) ∧ 0 ≤ z ∧ z.toNat = n)
  (h0 : rm.isSome = true → rh.isSome = true) (h1 : rl.getD 0 ≤ rh.getD len) (h2 : rh.getD len ≤ rm.getD cap) (h3 : rm.getD cap ≤ cap) :
  (Instr.sliceBounds isSlice len cap lo hi mx).run P w = .ok (rl.getD 0, rh.getD len, rm.getD cap) w := by
 have hb : ∀ (k : IntKind) (z : Int) (y : Nat) (code : BoundsCode), 0 ≤ z → z.toNat ≤ y → ∀ w : World, (Instr.sliceBound (.int k z) y code).run P w = .ok z.toNat w := fun k z y code h0 h1 w => run_sliceBound w k z y code h0 (by omega)
 rcases hl with ⟨rfl, rfl⟩ | ⟨l, kl, zl, rfl, rfl, l0, rfl⟩ <;> rcases hh with ⟨rfl, rfl⟩ | ⟨g, kh, zh, rfl, rfl, g0, rfl⟩ <;> rcases hm with ⟨rfl, rfl⟩ | ⟨m, km, zm, rfl, rfl, m0, rfl⟩ <;>
  simp only [Option.getD_none, Option.getD_some] at h1 h2 h3 ⊢ <;>
  (first
   | (exfalso; simp at h0; done)
   | (simp only [Instr.sliceBounds, Sem.run_bind, Sem.run_pure, Result.andThen_ok, hb, *]))
theorem cut_VR {a : Option Ad} {a' : Option Addr} {size l hh m len c : Nat} (hs : (a = none ∧ a' = none ∧ c = 0) ∨ ∃ x x', a = some x ∧ a' = some x' ∧ (AR μ x x' ∨ (len = 0 ∧ c = 0)))
  (h1 : l ≤ hh) (h2 : hh ≤ m) (h3 : m ≤ c) :
  VR μ (cut a size l hh m) (.slice (if m = l then a' else a'.map (·.add (l * size))) (hh - l) (m - l)) := by
 rcases hs with ⟨rfl, rfl, rfl⟩ | ⟨x, x', rfl, rfl, hx⟩
 ·have : l = 0 := by omega
  have : hh = 0 := by omega
  have : m = 0 := by omega
  subst l; subst hh; subst m
  simp [cut, VR]
 ·unfold cut
  by_cases hml : m = l
  ·rw [if_pos hml, if_pos hml]
   simp only [VR]
   exact ⟨x', _, rfl, by omega, Nat.le_refl _, fun _ => rfl, fun e => (by cases e), .inr ⟨by omega, by omega⟩⟩
  ·rw [if_neg hml, if_neg hml]
   simp only [Option.map_some]
   simp only [VR]
   refine ⟨_, _, rfl, by omega, Nat.le_refl _, fun _ => rfl, fun e => (by cases e), .inl ?_⟩
   rcases hx with hx | ⟨_, hx⟩
   ·exact hx.add _
   ·omega
theorem extract_list (s : ByteArray) (l h : Nat) (hl : l ≤ h) : (s.extract l h).data.toList = (s.data.toList.take h).drop l := by
 rw [ByteArray.data_extract, Array.toList_extract, List.extract_eq_take_drop, List.drop_take]
theorem slice_spec (hr : HR P W μ h w) {t : TypeId} {x : V} {x' : Value} {lo hi mx : Option V} {lo' hi' mx' : Option Value} {v : V} (hx : VR μ x x') (hlo : OV μ lo lo') (hhi : OV μ hi hi') (hmx : OV μ mx mx') (hs : sliceOp P t x lo hi mx = some v) :
  VOK P W μ h w (Instr.sliceAt t x' lo' hi' mx') v h := by
 unfold sliceOp at hs
 split at hs
 ·rename_i rl rh rm hl hh hm
  have bl := optNat_spec hl hlo
  have bh := optNat_spec hh hhi
  have bm := optNat_spec hm hmx
  simp only at hs
  split at hs
  ·rename_i s hu
   split at hs
   ·rename_i hc
    obtain ⟨hc0, hc1, hc2⟩ := hc
    injection hs with hs; subst hs
    simp only [VR] at hx
    obtain ⟨b, rfl, rfl⟩ := hx
    have hsz : b.data.toList.length = b.size := by rw [Array.length_toList]; rfl
    rw [hsz] at hc1 hc2
    have hrm : rm = none := by cases rm with | none => rfl | some _ => cases hc0
    subst hrm
    have hmx' : mx' = none := by rcases bm with ⟨_, e⟩ | ⟨n, k, z, e, _⟩; exact e; cases e
    subst hmx'
    have hb := run_bounds (P := P) (w := w) (isSlice := false) (len := b.size) (cap := b.size) bl bh (.inl ⟨rfl, rfl⟩) (fun e => by cases e) hc1 hc2 (Nat.le_refl _)
    refine VOK.pure hr (x := .string (b.extract (rl.getD 0) (rh.getD b.size))) ?_ ?_
    ·simp only [Instr.sliceAt, Instr.slice, Sem.run_bind, run_underlying hu, Result.andThen_ok, Option.isSome_none, Bool.false_eq_true, if_false, Sem.run_pure, hb]
    ·simp only [VR]
     exact ⟨_, rfl, by rw [extract_list _ _ _ hc1, hsz]⟩
   ·cases hs
  ·rename_i e a len lb ex hu
   split at hs
   ·rename_i n hn
    have hform : ∃ a' c, x' = .slice a' len c ∧ len ≤ lb ∧ lb ≤ c ∧ (ex = true → c = lb ∨ (a = none ∧ c = 0)) ∧ ((a = none ∧ a' = none ∧ c = 0) ∨ ∃ y y', a = some y ∧ a' = some y' ∧ (ex = false → SB μ y c) ∧ (AR μ y y' ∨ (len = 0 ∧ c = 0))) := by
     cases a with
     | none => simp only [VR] at hx; obtain ⟨rfl, rfl, rfl⟩ := hx; exact ⟨none, 0, rfl, Nat.le_refl _, Nat.le_refl _, fun _ => .inl rfl, .inl ⟨rfl, rfl, rfl⟩⟩
     | some y =>
      simp only [VR] at hx
      obtain ⟨y', c, rfl, h1, h2, h3, h4, h5⟩ := hx
      exact ⟨some y', c, rfl, h1, h2, fun e => .inl (h3 e), .inr ⟨y, y', rfl, rfl, h4, h5⟩⟩
    obtain ⟨a', c, rfl, h1, h2, h3, h4⟩ := hform
    have hsa : ∀ v, (Instr.sliceAt t (.slice a' len c) lo' hi' mx').run P w = v ↔ (Instr.slice t (.slice a' len c) lo' hi' mx').run P w = v := by
     intro v; simp only [Instr.sliceAt, Sem.run_bind, run_underlying hu, Result.andThen_ok]
    have hcutS : (a = none ∧ a' = none ∧ c = 0) ∨ ∃ y y', a = some y ∧ a' = some y' ∧ (AR μ y y' ∨ (len = 0 ∧ c = 0)) := by
     rcases h4 with h4 | ⟨y, y', e1, e2, _, e4⟩
     ·exact .inl h4
     ·exact .inr ⟨y, y', e1, e2, e4⟩
    split at hs
    ·-- no max
     have hmx' : mx' = none := by rcases bm with ⟨_, e⟩ | ⟨n, k, z, e, _⟩; exact e; cases e
     subst hmx'
     split at hs
     ·rename_i hc
      obtain ⟨hc1, hc2⟩ := hc
      have hb := run_bounds (P := P) (w := w) (isSlice := true) (len := len) (cap := c) bl bh (.inl ⟨rfl, rfl⟩) (fun e => by cases e) hc1 (Nat.le_trans hc2 h2) (Nat.le_refl _)
      simp only [Option.getD_none] at hb
      have hrun : (Instr.sliceAt t (.slice a' len c) lo' hi' none).run P w = .ok (.slice (if c = rl.getD 0 then a' else a'.map (·.add (rl.getD 0 * n))) (rh.getD len - rl.getD 0) (c - rl.getD 0)) w := by
       rw [hsa]
       simp only [Instr.slice, Sem.run_bind, run_underlying hu, Result.andThen_ok, hb, run_sizeOf hn, Sem.run_pure]
      refine VOK.pure hr hrun ?_
      split at hs
      ·rename_i hex
       injection hs with hs; subst hs
       have hcl : c = lb := by
        rcases h3 hex with e | ⟨e1, e2⟩
        ·exact e
        ·omega
       subst hcl
       exact cut_VR hcutS hc1 hc2 (Nat.le_refl _)
      ·rename_i hex
       have hex' : ex = false := by simpa using hex
       injection hs with hs; subst hs
       rcases h4 with ⟨rfl, rfl, rfl⟩ | ⟨y, y', rfl, rfl, hsb, har⟩
       ·have e0 : rl.getD 0 = 0 := by omega
        have e1 : rh.getD len = 0 := by omega
        have e2 : lb = 0 := by omega
        rw [e0, e1, e2]
        simp [VR]
       ·simp only [Option.map_some]
        simp only [VR]
        by_cases hcl : c = rl.getD 0
        ·refine ⟨y', c - rl.getD 0, by simp [hcl], by omega, by omega, fun e => (by cases e), fun _ => ?_, .inr ⟨by omega, by omega⟩⟩
         cases y with
         | old b o => trivial
         | new i o =>
          intro (ho : o + _ = 0)
          have hoz : o = 0 := by omega
          obtain ⟨k, hk, hb'⟩ := hsb hex' hoz
          exact ⟨k, hk, Nat.le_trans (Nat.mul_le_mul_right _ (by omega)) hb'⟩
        ·refine ⟨y'.add (rl.getD 0 * n), c - rl.getD 0, by simp only [hcl, if_false], by omega, by omega, fun e => (by cases e), fun _ => ?_, ?_⟩
         ·cases y with
          | old b o => trivial
          | new i o =>
           intro (ho : o + _ = 0)
           have hoz : o = 0 := by omega
           obtain ⟨k, hk, hb'⟩ := hsb hex' hoz
           exact ⟨k, hk, Nat.le_trans (Nat.mul_le_mul_right _ (by omega)) hb'⟩
         ·rcases har with har | ⟨e1, e2⟩
          ·exact .inl (har.add _)
          ·exact .inr ⟨by omega, by omega⟩
     ·cases hs
    ·-- a max
     rename_i m
     split at hs
     ·rename_i hc
      obtain ⟨hc0, hc1, hc2, hc3⟩ := hc
      injection hs with hs; subst hs
      have hb := run_bounds (P := P) (w := w) (isSlice := true) (len := len) (cap := c) bl bh bm (fun _ => hc0) hc1 (by simpa using hc2) (by simp only [Option.getD_some]; omega)
      simp only [Option.getD_some] at hb
      refine VOK.pure hr (x := .slice (if m = rl.getD 0 then a' else a'.map (·.add (rl.getD 0 * n))) (rh.getD len - rl.getD 0) (m - rl.getD 0)) ?_ (cut_VR hcutS hc1 hc2 (by omega))
      rw [hsa]
      simp only [Instr.slice, Sem.run_bind, run_underlying hu, Result.andThen_ok, hb, run_sizeOf hn, Sem.run_pure]
     ·cases hs
   ·cases hs
  ·rename_i n e a hu
   split at hs
   ·rename_i z hz
    simp only [VR] at hx
    obtain ⟨a', rfl, ha⟩ := hx
    split at hs
    ·have hmx' : mx' = none := by rcases bm with ⟨_, e⟩ | ⟨n, k, z, e, _⟩; exact e; cases e
     subst hmx'
     split at hs
     ·rename_i hc
      obtain ⟨hc1, hc2⟩ := hc
      injection hs with hs; subst hs
      have hb := run_bounds (P := P) (w := w) (isSlice := false) (len := n) (cap := n) bl bh (.inl ⟨rfl, rfl⟩) (fun e => by cases e) hc1 hc2 (Nat.le_refl _)
      simp only [Option.getD_none] at hb
      have hv := cut_VR (μ := μ) (a := some a) (a' := some a') (size := z) (len := n) (c := n) (m := n) (.inr ⟨a, a', rfl, rfl, .inl ha⟩) hc1 hc2 (Nat.le_refl _)
      refine VOK.pure hr ?_ hv
      simp only [Instr.sliceAt, Instr.sureAddr, Sem.run_bind, run_underlying hu, Result.andThen_ok, hb, run_sizeOf hz, Sem.run_pure, Option.map_some]
      split <;> rfl
     ·cases hs
    ·rename_i m
     split at hs
     ·rename_i hc
      obtain ⟨hc0, hc1, hc2, hc3⟩ := hc
      injection hs with hs; subst hs
      have hb := run_bounds (P := P) (w := w) (isSlice := false) (len := n) (cap := n) bl bh bm (fun _ => hc0) hc1 (by simpa using hc2) (by simpa using hc3)
      simp only [Option.getD_some] at hb
      have hv := cut_VR (μ := μ) (a := some a) (a' := some a') (size := z) (len := n) (c := n) (m := m) (.inr ⟨a, a', rfl, rfl, .inl ha⟩) hc1 hc2 hc3
      refine VOK.pure hr ?_ hv
      simp only [Instr.sliceAt, Instr.sureAddr, Sem.run_bind, run_underlying hu, Result.andThen_ok, hb, run_sizeOf hz, Sem.run_pure, Option.map_some]
      split <;> rfl
     ·cases hs
   ·cases hs
  ·cases hs
 ·cases hs
end
end Go.Proofs.YtkhjmgchlbnkjaaDoor.Dg
