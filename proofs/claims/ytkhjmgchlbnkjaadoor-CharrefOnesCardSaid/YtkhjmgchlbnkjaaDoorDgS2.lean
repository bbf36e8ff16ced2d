import Derived.Test.YtkhjmgchlbnkjaaDoorDgS1
set_option linter.unusedVariables false
set_option linter.unusedSimpArgs false
namespace Go.Proofs.YtkhjmgchlbnkjaaDoor.Dg
open Go Go.RowKit
theorem addr_add (b o n : Nat) : (⟨b, o, none⟩ : Addr).add n = ⟨b, o + n, none⟩ := by
 unfold Addr.add; split
 ·rename_i h; subst h; simp
 ·rfl
theorem AR.add {μ : Mu} : ∀ {a : Ad} {a' : Addr} (n : Nat), AR μ a a' → AR μ (a.add n) (a'.add n)
 | .old b o, _, n, e => by simp only [AR] at e; subst e; simp only [Ad.add, AR]; exact addr_add b o n
 | .new i o, _, n, e => by
  obtain ⟨k, hk, rfl⟩ := e
  exact ⟨k, hk, addr_add _ _ n⟩
section
variable {P : Program} {W : World} {μ : Mu} {h : H} {w : World}
theorem cell_block {b : Nat} {c : Array Value} {t : TypeId} {fz : Nat × Nat} (hb : w.heap[b]? = some (.cells c t fz)) (o : Nat) : w.cell? ⟨b, o, none⟩ = c[o]? := by
 simp [World.cell?, hb]
theorem frozen_block {b : Nat} {c : Array Value} {t : TypeId} {fz : Nat × Nat} (hb : w.heap[b]? = some (.cells c t fz)) (hu : unfrozen c.size fz) {o : Nat} (ho : o < c.size) : w.frozen? ⟨b, o, none⟩ = false := by
 obtain ⟨lo, hi⟩ := fz
 simp only [World.frozen?, hb]
 unfold unfrozen at hu
 simp only at hu
 simp only [Bool.and_eq_false_iff, decide_eq_false_iff_not]
 omega
theorem run_loadCellsFrom_list (a : Addr) : ∀ (xs : List Value) (i : Nat) (acc : Array Value), (∀ j v, xs[j]? = some v → w.cell? (a.add (i + j)) = some v) →
  (loadCellsFrom a i xs.length acc).run P w = .ok (acc ++ xs.toArray) w
 | [], i, acc, _ => by simp [loadCellsFrom]
 | x :: xs, i, acc, hc => by
  have h0 := hc 0 x rfl
  have ih := run_loadCellsFrom_list a xs (i + 1) (acc.push x) (fun j v hv => by have := hc (j + 1) v (by simpa using hv); rwa [show i + 1 + j = i + (j + 1) by omega])
  simp only [List.length_cons, loadCellsFrom, Sem.run_bind, run_load]
  rw [show i = i + 0 from rfl, h0]
  simp only [Result.andThen_ok]
  rw [show i + 0 + 1 = i + 1 from rfl, ih]
  simp
theorem run_loadCells_list (a : Addr) (xs : List Value) (n : Nat) (hn : xs.length = n) (hc : ∀ j v, xs[j]? = some v → w.cell? (a.add j) = some v) :
  (loadCells a n).run P w = .ok xs.toArray w := by
 subst hn
 have := run_loadCellsFrom_list (P := P) (w := w) a xs 0 #[] (fun j v hv => by rw [Nat.zero_add]; exact hc j v hv)
 simpa [loadCells] using this
theorem oldCells_spec : ∀ (n b o : Nat) (l : List V), oldCells W b o n = some l → ∃ xs : List Value, xs.length = n ∧ (∀ μ, VRL μ l xs) ∧ ∀ j v, xs[j]? = some v → W.cell? ⟨b, o + j, none⟩ = some v
 | 0, b, o, l, h => by
  simp only [oldCells] at h; injection h with h; subst h
  exact ⟨[], rfl, fun _ => VRL.nil, fun j v hv => by simp at hv⟩
 | n + 1, b, o, l, h => by
  simp only [oldCells] at h
  split at h
  ·rename_i v hv
   split at h
   ·rename_i x hx
    split at h
    ·rename_i xs hxs
     injection h with h; subst h
     obtain ⟨ys, h1, h2, h3⟩ := oldCells_spec n b (o + 1) xs hxs
     refine ⟨v :: ys, by simp [h1], fun μ => VRL.cons (lift1_VR μ hx) (h2 μ), fun j u hu => ?_⟩
     cases j with
     | zero => simp at hu; subst hu; exact hv
     | succ j => simp at hu; have := h3 j u hu; rwa [show o + 1 + j = o + (j + 1) by omega] at this
    ·cases h
   ·cases h
  ·cases h
theorem cell_old (hr : HR P W μ h w) {b o : Nat} {v : Value} (hc : W.cell? ⟨b, o, none⟩ = some v) : w.cell? ⟨b, o, none⟩ = some v :=
 (hr.below.cell (World.block_lt_of_cell? W _ hc)).trans hc
theorem ldCells_spec (hr : HR P W μ h w) {a : Ad} {a' : Addr} {n : Nat} {l : List V} (ha : n = 0 ∨ AR μ a a') (hl : ldCells W h a n = some l) :
  ∃ xs : List Value, xs.length = n ∧ VRL μ l xs ∧ (∀ j v, xs[j]? = some v → w.cell? (a'.add j) = some v) := by
 unfold ldCells at hl
 by_cases h0 : n = 0
 ·rw [if_pos h0] at hl
  injection hl with hl; subst hl; subst h0
  exact ⟨[], rfl, VRL.nil, fun j v hv => by simp at hv⟩
 ·rw [if_neg h0] at hl
  have ha := ha.resolve_left h0
  cases a with
  | old b o =>
   simp only [AR] at ha; subst ha
   obtain ⟨xs, h1, h2, h3⟩ := oldCells_spec n b o l hl
   exact ⟨xs, h1, h2 μ, fun j v hv => by rw [addr_add]; exact cell_old hr (h3 j v hv)⟩
  | new i o =>
   obtain ⟨k, hk, rfl⟩ := ha
   simp only at hl
   split at hl
   ·rename_i c t hc
    split at hl
    ·rename_i hlen
     injection hl with hl; subst hl
     obtain ⟨k', hk', _, o', ho', hor⟩ := hr.obj i _ hc
     rw [hk] at hk'; injection hk' with hk'; subst hk'
     obtain ⟨cs, fz, rfl, hsz, hu, hle, hes, hv⟩ := hor
     have hv' := (hv.drop o).take n
     refine ⟨((cs.toList.take c.length).drop o).take n, ?_, hv', fun j v hj => ?_⟩
     ·simp; omega
     ·rw [addr_add, cell_block ho']
      rw [List.getElem?_take] at hj
      split at hj
      ·rw [List.getElem?_drop, List.getElem?_take] at hj
       split at hj
       ·simpa using hj
       ·cases hj
      ·cases hj
    ·cases hl
   ·cases hl
theorem run_loadCells_spec (hr : HR P W μ h w) {a : Ad} {a' : Addr} {n : Nat} {l : List V} (ha : n = 0 ∨ AR μ a a') (hl : ldCells W h a n = some l) :
  ∃ c : Array Value, (loadCells a' n).run P w = .ok c w ∧ VRL μ l c.toList ∧ c.size = n := by
 obtain ⟨xs, h1, h2, h3⟩ := ldCells_spec hr ha hl
 exact ⟨xs.toArray, run_loadCells_list a' xs n h1 h3, by simpa using h2, by simpa using h1⟩
theorem run_sizeOf {t : TypeId} {n : Nat} (hs : sizeOf P t = some n) : (Go.sizeOf t).run P w = .ok n w := by
 unfold sizeOf at hs
 cases hi : P.info? t with
 | none => rw [hi] at hs; cases hs
 | some i => rw [hi] at hs; simp at hs; subst hs; simp [Go.sizeOf, typeInfo, hi]
theorem cellsOf_of {t : TypeId} {n : Nat} (hs : sizeOf P t = some n) : P.cellsOf t = n := by
 unfold sizeOf at hs
 unfold Program.cellsOf
 cases hi : P.info? t with
 | none => rw [hi] at hs; cases hs
 | some i => rw [hi] at hs; simpa using hs
theorem run_isAgg {t : TypeId} {b : Bool} (hs : isAgg P t = some b) : (Go.isAgg t).run P w = .ok b w := by
 unfold isAgg at hs
 split at hs
 ·rename_i fs hu; injection hs with hs; subst hs; simp [Go.isAgg, run_underlying hu]
 ·rename_i n e hu; injection hs with hs; subst hs; simp [Go.isAgg, run_underlying hu]
 ·rename_i d h1 h2 hu
  injection hs with hs; subst hs
  simp only [Go.isAgg, Sem.run_bind, run_underlying hu, Result.andThen_ok]
  cases d <;> first | rfl | (exact absurd rfl (h1 _)) | (exact absurd rfl (h2 _ _))
 ·cases hs
theorem zeroOf_spec {t : TypeId} {z : V} (hz : zeroOf P t = some z) : ∃ zv, (∀ w : World, (zeroValue t).run P w = .ok zv w) ∧ ∀ μ, VR μ z zv := by
 unfold zeroOf at hz
 split at hz
 ·rename_i zv hv
  refine ⟨zv, fun w => ?_, fun μ => lift_VR μ hz⟩
  cases hi : P.info? t with
  | none => rw [hi] at hv; cases hv
  | some i => rw [hi] at hv; simp at hv; simp [zeroValue, typeInfo, hi, hv]
 ·cases hz
theorem bytesOf_spec {t : TypeId} {n : Nat} (hs : bytesOf P t = some n) : ∃ i, P.info? t = some i ∧ i.bytes = n := by
 unfold bytesOf at hs
 cases hi : P.info? t with
 | none => rw [hi] at hs; cases hs
 | some i => rw [hi] at hs; simp at hs; exact ⟨i, rfl, hs⟩
theorem run_loadVar_spec (hr : HR P W μ h w) {t : TypeId} {a : Ad} {a' : Addr} {v : V} (ha : AR μ a a') (hl : ldVar P W h t a = some v) :
  ∃ x, (loadVar t a').run P w = .ok x w ∧ VR μ v x := by
 unfold ldVar at hl
 split at hl
 ·rename_i hagg
  split at hl
  ·rename_i n hn
   split at hl
   ·rename_i l hll
    injection hl with hl; subst hl
    obtain ⟨c, hc, hv, _⟩ := run_loadCells_spec hr (.inr ha) hll
    refine ⟨.agg c, ?_, by simp only [VR]; exact ⟨c, rfl, hv⟩⟩
    simp only [loadVar, Sem.run_bind, run_isAgg hagg, Result.andThen_ok, if_true, run_sizeOf hn, hc, Sem.run_pure]
   ·cases hl
  ·cases hl
 ·rename_i hagg
  split at hl
  ·rename_i u hll
   injection hl with hl; subst hl
   obtain ⟨xs, h1, h2, h3⟩ := ldCells_spec hr (.inr ha) hll
   match xs, h1, h2, h3 with
   | [x], _, h2, h3 =>
    simp only [VRL] at h2
    obtain ⟨y, ys, e, hv, _⟩ := h2
    injection e with e1 e2
    subst e1
    have hcell := h3 0 x rfl
    refine ⟨x, ?_, hv⟩
    have h00 : a'.add 0 = a' := by simp [Addr.add]
    rw [h00] at hcell
    simp only [loadVar, Sem.run_bind, run_isAgg hagg, Result.andThen_ok, Bool.false_eq_true, if_false, run_load, hcell]
  ·cases hl
 ·cases hl
theorem setCell_heap (b o : Nat) (v : Value) (c : Array Value) (t : TypeId) (fz : Nat × Nat) (hb : w.heap[b]? = some (.cells c t fz)) :
  (w.setCell ⟨b, o, none⟩ v).heap[b]? = some (.cells (c.setIfInBounds o v) t fz) ∧ (w.setCell ⟨b, o, none⟩ v).heap.size = w.heap.size ∧ (∀ x, x ≠ b → (w.setCell ⟨b, o, none⟩ v).heap[x]? = w.heap[x]?) := by
 refine ⟨?_, by simp [World.setCell], fun x hx => ?_⟩
 ·simp [World.setCell, Array.getElem?_modify, hb]
 ·simp [World.setCell, Array.getElem?_modify, Ne.symm hx]
theorem run_storeCells_list (b o : Nat) (t : TypeId) (fz : Nat × Nat) : ∀ (vs : List Value) (i : Nat) (w : World) (c : Array Value), w.heap[b]? = some (.cells c t fz) → unfrozen c.size fz → o + i + vs.length ≤ c.size → (∀ v ∈ vs, v.oneCell' = true) →
  ∃ w' c', (storeCells ⟨b, o, none⟩ vs i).run P w = .ok () w' ∧ w'.heap[b]? = some (.cells c' t fz) ∧ c'.toList = c.toList.take (o + i) ++ (vs ++ c.toList.drop (o + i + vs.length)) ∧
   w'.heap.size = w.heap.size ∧ (∀ x, x ≠ b → w'.heap[x]? = w.heap[x]?) ∧ w'.os = w.os ∧ w'.tape = w.tape ∧ w'.output = w.output
 | [], i, w, c, hb, hu, hl, h1 => ⟨w, c, by simp [storeCells], hb, by simp, rfl, fun _ _ => rfl, rfl, rfl, rfl⟩
 | v :: vs, i, w, c, hb, hu, hl, h1 => by
  simp only [List.length_cons] at hl
  have hlt : o + i < c.size := by omega
  obtain ⟨s1, s2, s3⟩ := setCell_heap (w := w) b (o + i) v c t fz hb
  have hst : (store ⟨b, o + i, none⟩ v).run P w = .ok () (w.setCell ⟨b, o + i, none⟩ v) := by
   rw [run_store P w _ v _ (h1 v (by simp)), cell_block hb, Array.getElem?_eq_getElem hlt]
   simp only [frozen_block hb hu hlt, Bool.false_eq_true, if_false]
  obtain ⟨w', c', hrun, hb', hc', hz, ho, e1, e2, e3⟩ := run_storeCells_list b o t fz vs (i + 1) (w.setCell ⟨b, o + i, none⟩ v) (c.setIfInBounds (o + i) v) s1 (by simpa using hu) (by simp; omega) (fun x hx => h1 x (by simp [hx]))
  refine ⟨w', c', ?_, hb', ?_, by rw [hz, s2], fun x hx => (ho x hx).trans (s3 x hx), e1, e2, e3⟩
  ·simp only [storeCells, addr_add, Sem.run_bind, hst, Result.andThen_ok]
   exact hrun
  ·rw [hc']
   have hset : (c.setIfInBounds (o + i) v).toList = c.toList.set (o + i) v := by simp
   rw [hset, show o + (i + 1) = o + i + 1 by omega]
   have hlt' : o + i < c.toList.length := by simpa using hlt
   rw [List.take_set, List.drop_set_of_lt (by omega)]
   rw [List.take_succ_eq_append_getElem hlt', List.set_append_right _ _ (by simp; omega)]
   simp only [List.length_take]
   rw [show o + i - min (o + i) c.toList.length = 0 by omega]
   simp only [List.set_cons_zero, List.append_assoc, List.length_cons, List.cons_append, List.nil_append]
   rw [show o + i + 1 + vs.length = o + i + (vs.length + 1) by omega]
theorem stCells_spec (hr : HR P W μ h w) {a : Ad} {a' : Addr} {vs : List V} {xs : List Value} {h' : H} (ha : AR μ a a') (hv : VRL μ vs xs) (hs : stCells h a vs = some h') :
  ∃ w', (storeCells a' xs).run P w = .ok () w' ∧ Go1 P W μ h w μ h' w' := by
 unfold stCells at hs
 cases a with
 | old b o => cases hs
 | new i o =>
  obtain ⟨k, hk, rfl⟩ := ha
  simp only at hs
  split at hs
  ·rename_i l t hl
   split at hs
   ·rename_i hall
    split at hs
    ·rename_i hlen
     injection hs with hs; subst hs
     obtain ⟨k', hk', hW, o', ho', hor⟩ := hr.obj i _ hl
     rw [hk] at hk'; injection hk' with hk'; subst hk'
     obtain ⟨c, fz, rfl, hsz, hu, hle, hes, hvc⟩ := hor
     have hx := hv.length
     obtain ⟨w', c', hrun, hb', hc', hz, hoth, e1, e2, e3⟩ := run_storeCells_list (P := P) k.b o t fz xs 0 w c ho' hu (by omega) (VRL.one hv hall)
     refine ⟨w', hrun, Go1.change hr hl hk _ _ w' hb' hz hoth e1 e2 e3 ?_⟩
     have hsize : c'.size = c.size := by
      have := congrArg List.length hc'
      simp at this
      omega
     have hsl : (splice l o vs).length = l.length := by unfold splice; simp; omega
     refine ⟨c', fz, rfl, by rw [hsize, hsz], by rw [hsize]; exact hu, by rw [hsize, hsl]; exact hle, hes, ?_⟩
     rw [hsl, hc']
     have h2 := hvc.splice o hv
     have e : List.take l.length (c.toList.take (o + 0) ++ (xs ++ c.toList.drop (o + 0 + xs.length))) = (c.toList.take l.length).take o ++ (xs ++ (c.toList.take l.length).drop (o + xs.length)) := by
      rw [Nat.add_zero]
      rw [List.take_take, Nat.min_eq_left (by omega : o ≤ l.length)]
      rw [List.take_append, List.take_of_length_le (l := c.toList.take o) (by simp; omega)]
      congr 1
      rw [List.take_append, List.take_of_length_le (l := xs) (by simp; omega)]
      congr 1
      rw [List.drop_take]
      congr 1
      simp
      omega
     rw [e]; exact h2
    ·cases hs
   ·cases hs
  ·cases hs
theorem run_storeVar_spec (hr : HR P W μ h w) {t : TypeId} {a : Ad} {a' : Addr} {v : V} {x : Value} {h' : H} (ha : AR μ a a') (hv : VR μ v x) (hs : stVar P h t a v = some h') :
  ∃ w', (storeVar t a' x).run P w = .ok () w' ∧ Go1 P W μ h w μ h' w' := by
 unfold stVar at hs
 split at hs
 ·rename_i n hn
  split at hs
  ·rename_i hlen
   obtain ⟨w', hrun, hg⟩ := stCells_spec hr ha hv.cells hs
   refine ⟨w', ?_, hg⟩
   have hsz : x.cells.size = n := by have := hv.cells.length; simp at this; omega
   simp only [storeVar, Sem.run_bind, run_sizeOf hn, Result.andThen_ok]
   simp [hsz, hrun]
  ·cases hs
 ·cases hs
theorem run_part_spec {t : TypeId} {cs : List V} {c : Array Value} {off : Nat} {v : V} (hc : VRL μ cs c.toList) (hp : Dg.part P t cs off = some v) :
  ∃ x, (Go.part t c off).run P w = .ok x w ∧ VR μ v x := by
 unfold Dg.part at hp
 split at hp
 ·rename_i hagg
  split at hp
  ·rename_i n hn
   injection hp with hp; subst hp
   refine ⟨.agg (c.extract off (off + n)), ?_, ?_⟩
   ·simp only [Go.part, Sem.run_bind, run_isAgg hagg, Result.andThen_ok, if_true, run_sizeOf hn, Sem.run_pure]
   ·simp only [VR]
    refine ⟨_, rfl, ?_⟩
    have := (hc.drop off).take n
    simpa [List.extract_eq_take_drop] using this
  ·cases hp
 ·rename_i hagg
  obtain ⟨x, hx, hv⟩ := hc.get hp
  refine ⟨x, ?_, hv⟩
  have hx' : c[off]? = some x := by simpa using hx
  simp only [Go.part, Sem.run_bind, run_isAgg hagg, Result.andThen_ok, Bool.false_eq_true, if_false, hx', Sem.run_pure]
 ·cases hp
theorem run_newRow_spec (hr : HR P W μ h w) {t : TypeId} {l : List V} {c : Array Value} (hl : VRL μ l c.toList) (hs63 : c.size ≤ 9223372036854775807 ∨ P.cellsOf t ≠ 1) :
  ∃ μ' w', (newRow t c).run P w = .ok ⟨w.heap.size, 0, none⟩ w' ∧ μ' h.nx = some ⟨w.heap.size, c.size, P.cellsOf t⟩ ∧ Go1 P W μ h w μ' (h.alloc (.cells l t)) w' := by
 refine ⟨μ.put h.nx ⟨w.heap.size, c.size, P.cellsOf t⟩, { w with heap := w.heap.push (.cells c t) }, by simp [newRow], Mu.put_same _ _ _, Go1.alloc hr _ _ _ rfl ?_⟩
 have hlen := hl.length
 refine ⟨c, (0, 0), rfl, rfl, .inl rfl, by simp at hlen; omega, ⟨rfl, hs63.imp (fun h => ⟨rfl, h⟩) .inr⟩, ?_⟩
 rw [hlen, List.take_of_length_le (Nat.le_refl _)]
 exact hl.mono (Mu.le_put _ (hr.fresh _ (Nat.le_refl _)).1)
end
end Go.Proofs.YtkhjmgchlbnkjaaDoor.Dg
