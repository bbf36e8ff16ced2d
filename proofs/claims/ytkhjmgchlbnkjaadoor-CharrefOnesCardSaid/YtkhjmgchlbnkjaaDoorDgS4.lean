import Derived.Test.YtkhjmgchlbnkjaaDoorDgS3
import Derived.Deep.AppendSrc
import Derived.Laws.AppendOwn
set_option linter.unusedVariables false
set_option linter.unusedSimpArgs false
namespace Go.Proofs.YtkhjmgchlbnkjaaDoor.Dg
open Go Go.RowKit
section
variable {P : Program} {W : World} {μ : Mu} {h : H} {w : World}
theorem foldl_set_list (off : Nat) : ∀ (vs : List Value) (j : Nat) (c : Array Value), off + j + vs.length ≤ c.size →
  ((vs.zipIdx j).foldl (fun cs (c, j) => cs.setIfInBounds (off + j) c) c).toList = c.toList.take (off + j) ++ (vs ++ c.toList.drop (off + j + vs.length))
 | [], j, c, hl => by simp
 | v :: vs, j, c, hl => by
  simp only [List.length_cons] at hl
  have hlt : off + j < c.toList.length := by simp; omega
  simp only [List.zipIdx_cons, List.foldl_cons]
  rw [foldl_set_list off vs (j + 1) (c.setIfInBounds (off + j) v) (by simp; omega)]
  have hset : (c.setIfInBounds (off + j) v).toList = c.toList.set (off + j) v := by simp
  rw [hset, show off + (j + 1) = off + j + 1 by omega]
  rw [List.take_set, List.drop_set_of_lt (by omega)]
  rw [List.take_succ_eq_append_getElem hlt, List.set_append_right _ _ (by simp; omega)]
  simp only [List.length_take]
  rw [show off + j - min (off + j) c.toList.length = 0 by omega]
  simp only [List.set_cons_zero, List.append_assoc, List.length_cons, List.cons_append, List.nil_append]
  rw [show off + j + 1 + vs.length = off + j + (vs.length + 1) by omega]
def PR (μ : Mu) : List (Nat × V) → List (Nat × Value) → Prop
 | [], ys => ys = []
 | (i, v) :: l, ys => ∃ x ys', ys = (i, x) :: ys' ∧ VR μ v x ∧ PR μ l ys'
theorem fill_spec (pl : Nat → Option (Nat × Nat)) : ∀ (parts : List (Nat × V)) (ps : List (Nat × Value)) (cells l : List V) (c : Array Value), PR μ parts ps → VRL μ cells c.toList → fillP pl cells parts = some l →
  ∃ c', Instr.fill pl c ps = some c' ∧ VRL μ l c'.toList
 | [], ps, cells, l, c, hp, hc, hf => by
  simp only [PR] at hp; subst hp
  simp only [fillP] at hf; injection hf with hf; subst hf
  exact ⟨c, rfl, hc⟩
 | (i, v) :: parts, ps, cells, l, c, hp, hc, hf => by
  obtain ⟨x, ps', rfl, hv, hp'⟩ := hp
  simp only [fillP] at hf
  cases hpi : pl i with
  | none => rw [hpi] at hf; cases hf
  | some os =>
   obtain ⟨off, size⟩ := os
   rw [hpi] at hf
   simp only at hf
   split at hf
   ·rename_i hcond
    have hl := hv.cells.length
    have hlc := hc.length
    have hx : x.cells.size = v.cells.length := by simpa using hl.symm
    have hcs : c.size = cells.length := by simpa using hlc.symm
    have hlist := foldl_set_list off x.cells.toList 0 c (by simp; omega)
    have hvr : VRL μ (splice cells off v.cells) (x.cells.zipIdx.foldl (fun cs (c, j) => cs.setIfInBounds (off + j) c) c).toList := by
     have e : x.cells.zipIdx.foldl (fun cs (c, j) => cs.setIfInBounds (off + j) c) c = (x.cells.toList.zipIdx 0).foldl (fun cs (c, j) => cs.setIfInBounds (off + j) c) c := by
      rw [← Array.foldl_toList]
      simp
     rw [e, hlist, Nat.add_zero]
     exact hc.splice off hv.cells
    obtain ⟨c', h1, h2⟩ := fill_spec pl parts ps' _ l _ hp' hvr hf
    refine ⟨c', ?_, h2⟩
    have hno : (x.cells.size ≠ size || off + x.cells.size > c.size) = false := by
     simp only [Bool.or_eq_false_iff, decide_eq_false_iff_not]
     exact ⟨by simp; omega, by omega⟩
    simp only [Instr.fill, hpi]
    rw [if_neg (by rw [hno]; exact Bool.false_ne_true)]
    exact h1
   ·cases hf
theorem places_spec : ∀ (fs : List Field) (l : List (Nat × Nat)), places P fs = some l → ∀ w : World, (fs.mapM (m := Sem) fun f => do pure (f.offset, ← Go.sizeOf f.type)).run P w = .ok l w
 | [], l, hp, w => by simp [places] at hp; subst hp; simp
 | f :: fs, l, hp, w => by
  simp only [places] at hp
  split at hp
  ·rename_i n l' hn hl
   injection hp with hp; subst hp
   simp only [List.mapM_cons, Sem.run_bind, run_sizeOf hn, Result.andThen_ok, Sem.run_pure, places_spec fs l' hl]
  ·cases hp
theorem VR.cells_size {v : V} {x : Value} (hv : VR μ v x) : x.cells.size = v.cells.length := by simpa using hv.cells.length.symm
theorem build_spec (hr : HR P W μ h w) {t : TypeId} {parts : List (Nat × V)} {ps : Array (Nat × Value)} {v : V} (hp : PR μ parts ps.toList) (hs : Dg.build P t parts = some v) :
  VOK P W μ h w (Instr.build t ps) v h := by
 unfold Dg.build at hs
 split at hs
 ·rename_i z fs hz hu
  split at hs
  ·rename_i pl hpl
   split at hs
   ·rename_i l hl
    injection hs with hs; subst hs
    obtain ⟨zv, hrun, hvz⟩ := zeroOf_spec hz
    obtain ⟨c', h1, h2⟩ := fill_spec (fun i => pl[i]?) parts ps.toList z.cells l zv.cells hp (hvz μ).cells hl
    refine VOK.pure hr (x := .agg c') ?_ (by simp only [VR]; exact ⟨c', rfl, h2⟩)
    have hpm := places_spec fs.toList pl hpl w
    have hpa : (fs.mapM (m := Sem) fun f => do pure (f.offset, ← Go.sizeOf f.type)).run P w = .ok pl.toArray w := by
     rw [Array.mapM_eq_mapM_toList]
     simp only [Sem.run_map, hpm, Result.andThen_ok]
    simp only [Instr.build, Sem.run_bind, hrun, Result.andThen_ok, run_underlying hu, hpa]
    have h1' : Instr.fill (fun x => (pl.toArray)[x]?) zv.cells ps.toList = some c' := by
     rw [← h1]; congr 1; funext i; simp
    simp only [h1', Sem.run_pure]
   ·cases hs
  ·cases hs
 ·rename_i z len e hz hu
  split at hs
  ·rename_i n hn
   split at hs
   ·rename_i l hl
    injection hs with hs; subst hs
    obtain ⟨zv, hrun, hvz⟩ := zeroOf_spec hz
    obtain ⟨c', h1, h2⟩ := fill_spec (fun i => some (i * n, n)) parts ps.toList z.cells l zv.cells hp (hvz μ).cells hl
    refine VOK.pure hr (x := .agg c') ?_ (by simp only [VR]; exact ⟨c', rfl, h2⟩)
    simp only [Instr.build, Sem.run_bind, hrun, Result.andThen_ok, run_underlying hu, run_sizeOf hn, h1, Sem.run_pure]
   ·cases hs
  ·cases hs
 ·cases hs
theorem flatten_get (zs : List Value) (n : Nat) (hn : zs.length = n) : ∀ (len i : Nat), i < len * n → (List.replicate len zs).flatten[i]? = zs[i % n]?
 | 0, i, hi => by simp at hi
 | len + 1, i, hi => by
  have hpos : 0 < n := by
   rcases Nat.eq_zero_or_pos n with h0 | h0
   ·subst h0; simp at hi
   ·exact h0
  rw [List.replicate_succ, List.flatten_cons]
  rcases Nat.lt_or_ge i n with hlt | hge
  ·rw [List.getElem?_append_left (by omega), Nat.mod_eq_of_lt hlt]
  ·rw [List.getElem?_append_right (by omega), hn, flatten_get zs n hn len (i - n) (by rw [Nat.succ_mul] at hi; omega)]
   rw [Nat.mod_eq_sub_mod hge]
theorem madeZero_list (z : Array Value) (n : Nat) (hz : z.size = n) (len : Nat) : ((Array.range (len * n)).map (z[· % z.size]!)).toList = (List.replicate len z.toList).flatten := by
 apply List.ext_getElem?
 intro i
 rcases Nat.lt_or_ge i (len * n) with hi | hi
 ·rw [flatten_get z.toList n (by simpa using hz) len i hi]
  have hpos : 0 < n := by
   rcases Nat.eq_zero_or_pos n with h0 | h0
   ·subst h0; simp at hi
   ·exact h0
  have hm : i % n < z.size := by rw [hz]; exact Nat.mod_lt _ hpos
  simp [hi, hz, getElem!_pos z (i % n) hm, List.getElem?_eq_getElem, hm]
 ·rw [List.getElem?_eq_none (by simpa using hi), List.getElem?_eq_none]
  simp
  have : z.size = n := hz
  rw [this]; exact hi
theorem buildSlice_spec (hr : HR P W μ h w) {t : TypeId} {len : Nat} {parts : List (Nat × V)} {ps : Array (Nat × Value)} {v : V} {h' : H} (hp : PR μ parts ps.toList) (hs : Dg.buildSlice P t len parts h = some (v, h')) :
  VOK P W μ h w (Instr.buildSlice t len ps) v h' := by
 unfold Dg.buildSlice at hs
 split at hs
 ·rename_i e hu
  split at hs
  ·rename_i n z hn hz
   split at hs
   ·rename_i hcond
    split at hs
    ·rename_i l hl
     split at hs
     case isFalse => cases hs
     rename_i hl16
     injection hs with hs
     injection hs with hs1 hs2
     subst hs1; subst hs2
     obtain ⟨zv, hrun, hvz⟩ := zeroOf_spec hz
     have hzsz : zv.cells.size = n := by rw [(hvz μ).cells_size]; exact hcond.1
     obtain ⟨c0, hc0, hz0, hz1⟩ : ∃ c0 : Array Value, ((Array.range (len * n)).map (c0[· % c0.size]!)).toList = (List.replicate len zv.cells.toList).flatten ∧
       (len * n = 0 → c0 = #[]) ∧ (¬ len * n = 0 → c0 = zv.cells) := by
      by_cases h0 : len * n = 0
      ·refine ⟨#[], ?_, fun _ => rfl, fun h => absurd h0 h⟩
       have := madeZero_list zv.cells n hzsz len
       rw [h0] at this ⊢
       rw [← this]; simp
      ·exact ⟨zv.cells, madeZero_list zv.cells n hzsz len, fun h => absurd h h0, fun _ => rfl⟩
     have hrep : VRL μ (rep z.cells len) ((Array.range (len * n)).map (c0[· % c0.size]!)).toList := by rw [hc0]; exact VRL.rep (hvz μ).cells len
     obtain ⟨c', h1, h2⟩ := fill_spec (fun i => some (i * n, n)) parts ps.toList _ l _ hp hrep hl
     obtain ⟨μ', w', hnew, hμ, hg⟩ := run_newRow_spec hr (t := e) h2 (.inl (by have hl2 := h2.length; simp at hl2; omega))
     refine ⟨μ', w', .slice (some ⟨w.heap.size, 0, none⟩) len len, ?_, ?_, hg⟩
     ·have hbig : ¬ (len * n > 2 ^ 24) := by omega
      simp only [Instr.buildSlice, Sem.run_bind, run_underlying hu, Result.andThen_ok, run_sizeOf hn, hbig, if_false, Sem.run_pure]
      by_cases h0 : len * n = 0
      ·rw [hz0 h0] at h1
       simp only [h0] at h1 hnew ⊢
       simp only [if_true, Sem.run_bind, Sem.run_pure, Result.andThen_ok, h1, hnew]
      ·rw [hz1 h0] at h1
       simp only [h0, if_false, Sem.run_bind, hrun, Sem.run_pure, Result.andThen_ok, h1, hnew]
     ·simp only [VR]
      exact ⟨_, _, rfl, Nat.le_refl _, Nat.le_refl _, fun _ => rfl, fun e => (by cases e), .inl ⟨_, hμ, rfl⟩⟩
    ·cases hs
   ·cases hs
  ·cases hs
 ·cases hs
theorem wrap64_small {n : Int} (h0 : 0 ≤ n) (h1 : n ≤ 140737488355328) : IntKind.i64.wrap n = n := by
 simp only [IntKind.wrap, IntKind.bits, IntKind.signed, Bool.true_and]
 have : n % (2 ^ 64 : Int) = n := Int.emod_eq_of_lt h0 (by omega)
 simp only [this]
 have h2 : ¬ (n ≥ (2 ^ (64 - 1) : Int)) := by
  have : (2 ^ (64 - 1) : Int) = 9223372036854775808 := by decide
  omega
 simp [h2]
 intro h3
 omega
theorem makeSlice_spec (hr : HR P W μ h w) {t : TypeId} {len cap : V} {len' cap' : Value} {v : V} {h' : H} (hl : VR μ len len') (hc : VR μ cap cap') (hs : Dg.makeSlice P t len cap h = some (v, h')) :
  VOK P W μ h w (Instr.makeSlice t len' cap') v h' := by
 unfold Dg.makeSlice at hs
 split at hs
 ·rename_i e k1 l k2 c hu
  split at hs
  ·rename_i n b z hn hb hz
   split at hs
   ·rename_i hcond
    obtain ⟨h0, hlc, hbytes, hmax, hzl⟩ := hcond
    injection hs with hs
    injection hs with hs1 hs2
    subst hs1; subst hs2
    rw [hl.int_of, hc.int_of]
    obtain ⟨zv, hrun, hvz⟩ := zeroOf_spec hz
    obtain ⟨i, hi, hib⟩ := bytesOf_spec hb
    have hzsz : zv.cells.size = n := by rw [(hvz μ).cells_size]; exact hzl
    obtain ⟨c0, hc0, hz0, hz1⟩ : ∃ c0 : Array Value, ((Array.range (c.toNat * n)).map (c0[· % c0.size]!)).toList = (List.replicate c.toNat zv.cells.toList).flatten ∧
      (c.toNat * n = 0 → c0 = #[]) ∧ (¬ c.toNat * n = 0 → c0 = zv.cells) := by
     by_cases h0 : c.toNat * n = 0
     ·refine ⟨#[], ?_, fun _ => rfl, fun h => absurd h0 h⟩
      have := madeZero_list zv.cells n hzsz c.toNat
      rw [h0] at this ⊢
      rw [← this]; simp
     ·exact ⟨zv.cells, madeZero_list zv.cells n hzsz c.toNat, fun h => absurd h h0, fun _ => rfl⟩
    have hrep : VRL μ (rep z.cells c.toNat) ((Array.range (c.toNat * n)).map (c0[· % c0.size]!)).toList := by rw [hc0]; exact VRL.rep (hvz μ).cells _
    obtain ⟨μ', w', hnew, hμ, hg⟩ := run_newRow_spec hr (t := e) hrep (by
     by_cases hn1 : n = 1
     ·refine .inl ?_
      subst hn1
      simp; omega
     ·exact .inr (by rw [cellsOf_of hn]; exact hn1))
    refine ⟨μ', w', .slice (some ⟨w.heap.size, 0, none⟩) l.toNat c.toNat, ?_, ?_, hg⟩
    ·have wl : IntKind.i64.wrap l = l := wrap64_small h0 (by omega)
     have wc : IntKind.i64.wrap c = c := wrap64_small (by omega) hmax
     have hib' : (i.bytes : Int) * c ≤ 2 ^ 48 := by
      have : ((c.toNat * b : Nat) : Int) ≤ 140737488355328 := by omega
      rw [Int.natCast_mul, Int.toNat_of_nonneg (by omega), ← hib] at this
      rw [Int.mul_comm]
      have h48 : (2 ^ 48 : Int) = 281474976710656 := by decide
      omega
     have htl : ((decide (c < 0) || decide ((i.bytes : Int) * c > 2 ^ 48)) || decide (l < 0) || decide (l > c)) = false := by
      simp only [Bool.or_eq_false_iff, decide_eq_false_iff_not]
      exact ⟨⟨⟨by omega, by omega⟩, by omega⟩, by omega⟩
     simp only [Instr.makeSlice, Sem.run_bind, run_underlying hu, Result.andThen_ok, asInt, asIntOf, Sem.run_pure, typeInfo, run_program, hi, wl, wc]
     rw [if_neg (by rw [htl]; exact Bool.false_ne_true)]
     simp only [run_askRoom, Sem.run_bind, Result.andThen_ok, run_sizeOf hn, Sem.run_pure]
     by_cases hn0 : c.toNat * n = 0
     ·rw [hz0 hn0] at hnew
      simp only [hn0] at hnew ⊢
      simp only [if_true, Sem.run_bind, Sem.run_pure, Result.andThen_ok, hnew]
     ·rw [hz1 hn0] at hnew
      simp only [hn0, if_false, Sem.run_bind, hrun, Sem.run_pure, Result.andThen_ok, hnew]
    ·simp only [VR]
     exact ⟨_, _, rfl, by omega, Nat.le_refl _, fun _ => rfl, fun e => (by cases e), .inl ⟨_, hμ, rfl⟩⟩
   ·cases hs
  ·cases hs
 ·cases hs
end
end Go.Proofs.YtkhjmgchlbnkjaaDoor.Dg
