import Derived.Test.YtkhjmgchlbnkjaaDoorDgS6
set_option linter.unusedVariables false
set_option linter.unusedSimpArgs false
namespace Go.Proofs.YtkhjmgchlbnkjaaDoor.Dg
open Go Go.RowKit
section
variable {P : Program} {W : World} {μ : Mu} {h : H} {w : World}
theorem firstCells_spec (hr : HR P W μ h w) {size n sl : Nat} {x : V} {x' : Value} {nc : List V} (hx : VR μ x x') (hl : lenOf x = some sl) (hn : n ≤ sl) (hc : firstCells W h size n x = some nc) (hsz : (∃ s, x = .str s) → size = 1) :
  ∃ news : List Value, (Builtin.lenOf x').run P w = .ok sl w ∧ (Builtin.firstCells size n x').run P w = .ok news.toArray w ∧ VRL μ nc news := by
 cases x with
 | slice a len lb ex =>
  simp only [lenOf] at hl; injection hl with hl; subst hl
  cases a with
  | none =>
   simp only [VR] at hx; obtain ⟨rfl, rfl, rfl⟩ := hx
   have : n = 0 := by omega
   subst this
   simp only [firstCells, if_true] at hc
   injection hc with hc; subst hc
   exact ⟨[], rfl, by simp [Builtin.firstCells], VRL.nil⟩
  | some a =>
   simp only [VR] at hx
   obtain ⟨a', c, rfl, _, _, _, _, har⟩ := hx
   simp only [firstCells] at hc
   have ha : n * size = 0 ∨ AR μ a a' := by
    rcases har with h | ⟨h, _⟩
    ·exact .inr h
    ·exact .inl (by rw [show n = 0 by omega, Nat.zero_mul])
   obtain ⟨c', e1, e2, e3⟩ := run_loadCells_spec hr ha hc
   exact ⟨c'.toList, rfl, by simp [Builtin.firstCells, e1], e2⟩
 | str s =>
  simp only [lenOf] at hl; injection hl with hl; subst hl
  simp only [firstCells] at hc
  injection hc with hc; subst hc
  simp only [VR] at hx
  obtain ⟨b, rfl, rfl⟩ := hx
  have hbs : b.data.toList.length = b.size := by rw [Array.length_toList]; rfl
  refine ⟨((b.data.toList.take n).map fun c => Value.int .u8 c.toNat), by simp [Builtin.lenOf, hbs], ?_, ?_⟩
  ·simp only [Builtin.firstCells, Sem.run_pure]
   congr 1
   apply Array.ext'
   rw [Array.toList_map, ByteArray.data_extract, Array.toList_extract, List.extract_eq_take_drop]
   simp
  ·generalize b.data.toList.take n = l
   induction l with
   | nil => exact VRL.nil
   | cons x l ih => exact VRL.cons (VR.mk_int _ _) ih
 | _ => simp [lenOf] at hl
theorem copy_spec (hr : HR P W μ h w) {at0 at1 ty : TypeId} {d x : V} {d' x' : Value} {v : V} {h' : H} (hd : VR μ d d') (hx : VR μ x x') (hs : copyOp P W at0 d x h = some (v, h')) :
  VOK P W μ h w (Builtin.copy_ #[at0, at1] ty #[d', x']) v h' := by
 unfold copyOp at hs
 split at hs
 ·rename_i e base dl lb ex hu
  split at hs
  ·rename_i size sl hsz hsl
   simp only at hs
   split at hs
   ·rename_i hst
    split at hs
    ·rename_i cs hcs
     have hmin : Nat.min sl dl ≤ sl := Nat.min_le_left _ _
     obtain ⟨news, r1, r2, r3⟩ := firstCells_spec hr hx hsl hmin hcs (fun ⟨s, e⟩ => by
      subst e
      exact hst rfl)
     split at hs
     ·injection hs with hs
      injection hs with e1 e2
      subst e1; subst e2
      simp only [VR] at hd; obtain ⟨rfl, rfl, rfl⟩ := hd
      refine VOK.pure hr (x := .int .i64 (Nat.min sl 0 : Nat)) ?_ (VR.mk_int _ _)
      have e0 : Nat.min sl 0 = 0 := Nat.min_zero _
      rw [e0] at r2 ⊢
      simp [Builtin.copy_, run_underlying hu, r1, run_sizeOf hsz, r2, goInt]
     ·rename_i a
      simp only [VR] at hd
      obtain ⟨a', c, rfl, _, _, _, _, har⟩ := hd
      split at hs
      ·rename_i hn0
       injection hs with hs
       injection hs with e1 e2
       subst e1; subst e2
       refine VOK.pure hr (x := .int .i64 (Nat.min sl dl : Nat)) ?_ (VR.mk_int _ _)
       have hcs0 : news = [] := by
        have h1 := r3.length
        rw [hn0] at hcs
        have : cs = [] := by
         cases x with
         | slice b _ _ _ => cases b <;> simp [firstCells, ldCells] at hcs <;> exact hcs
         | str s => simp [firstCells] at hcs; exact hcs
         | _ => simp [firstCells] at hcs
        subst this
        exact List.eq_nil_of_length_eq_zero (by simpa using h1.symm)
       subst hcs0
       simp [Builtin.copy_, run_underlying hu, r1, run_sizeOf hsz, r2, goInt, storeCells]
      ·rename_i hn0
       split at hs
       ·rename_i h2 hst2
        injection hs with hs
        injection hs with e1 e2
        subst e1; subst e2
        have ha : AR μ a a' := by
         rcases har with h | ⟨h, _⟩
         ·exact h
         ·exact absurd (by rw [h]; exact Nat.min_zero _) hn0
        obtain ⟨w', hrun, hg⟩ := stCells_spec hr ha r3 hst2
        refine ⟨μ, w', .int .i64 (Nat.min sl dl : Nat), ?_, VR.mk_int _ _, hg⟩
        simp [Builtin.copy_, run_underlying hu, r1, run_sizeOf hsz, r2, goInt, hrun]
       ·cases hs
    ·cases hs
   ·cases hs
  ·cases hs
 ·cases hs
theorem zeroCells_list (z : Array Value) (n : Nat) : (Builtin.zeroCells z n).toList = (List.replicate n z.toList).flatten := madeZero_list z z.size rfl n
theorem clear_spec (hr : HR P W μ h w) {at0 ty : TypeId} {x : V} {x' : Value} {v : V} {h' : H} (hx : VR μ x x') (hs : clearOp P at0 x h = some (v, h')) :
  VOK P W μ h w (Builtin.clear_ #[at0] ty #[x']) v h' := by
 unfold clearOp at hs
 split at hs
 ·rename_i d hu
  injection hs with hs
  injection hs with e1 e2
  subst e1; subst e2
  simp only [VR] at hx; obtain ⟨rfl, rfl, rfl⟩ := hx
  refine VOK.pure hr (x := undef) ?_ (VR.undef μ)
  simp [Builtin.clear_, run_underlying hu, undef]
 ·rename_i d hu
  injection hs with hs
  injection hs with e1 e2
  subst e1; subst e2
  simp only [VR] at hx; subst hx
  refine VOK.pure hr (x := undef) ?_ (VR.undef μ)
  simp [Builtin.clear_, run_underlying hu, undef]
 ·rename_i e a n lb ex hu
  simp only [VR] at hx
  obtain ⟨a', c, rfl, h1, h2, h3, h4, har⟩ := hx
  split at hs
  ·rename_i hn0
   subst hn0
   injection hs with hs
   injection hs with e1 e2
   subst e1; subst e2
   refine VOK.pure hr (x := undef) ?_ (VR.undef μ)
   simp [Builtin.clear_, run_underlying hu, undef]
  ·rename_i hn0
   split at hs
   ·rename_i z hz
    split at hs
    ·rename_i h2 hst
     injection hs with hs
     injection hs with e1 e2
     subst e1; subst e2
     obtain ⟨zv, hrunz, hvz⟩ := zeroOf_spec hz
     have ha : AR μ a a' := by
      rcases har with h | ⟨h, _⟩
      ·exact h
      ·exact absurd h hn0
     have hv : VRL μ (rep z.cells n) (Builtin.zeroCells zv.cells n).toList := by rw [zeroCells_list]; exact VRL.rep (hvz μ).cells n
     obtain ⟨w', hrun, hg⟩ := stCells_spec hr ha hv hst
     refine ⟨μ, w', undef, ?_, VR.undef μ, hg⟩
     obtain ⟨m, rfl⟩ : ∃ m, n = m + 1 := ⟨n - 1, by omega⟩
     simp [Builtin.clear_, run_underlying hu, undef, hrunz, hrun]
    ·cases hs
   ·cases hs
 ·cases hs
theorem bytes_beq (a b : ByteArray) : (a == b) = (a.data.toList == b.data.toList) := by rw [beq_toListBytes, toList_data, toList_data]
theorem keyEq_spec {kt : TypeId} {d : TypeDesc} {k k2 : V} {x x2 : Value} {b : Bool} (hu : P.underlying kt = some d) (hk : keyOk P kt k = true) (hx : VR μ k x) (hx2 : VR μ k2 x2) (he : keyEq k k2 = some b) :
  Instr.sameNow d x x2 = some b ∧ (b = true → Instr.sameBits 10000 x2 x = true) := by
 unfold keyEq at he
 unfold keyOk at hk
 split at he
 ·rename_i q a q' c
  split at he
  ·rename_i hq
   subst hq
   injection he with he; subst he
   rw [hx.int_of, hx2.int_of]
   rw [hu] at hk
   cases d <;> simp at hk
   refine ⟨by simp [Instr.sameNow], fun e => ?_⟩
   have : a = c := by simpa using e
   subst this
   simp [Instr.sameBits]
  ·cases he
 ·rename_i a c
  injection he with he; subst he
  simp only [VR] at hx hx2
  obtain ⟨bx, rfl, rfl⟩ := hx
  obtain ⟨by', rfl, rfl⟩ := hx2
  rw [hu] at hk
  cases d <;> simp at hk
  refine ⟨by simp only [Instr.sameNow, bytes_beq], fun e => ?_⟩
  simp only [Instr.sameBits, bytes_beq]
  have : bx.data.toList = by'.data.toList := by simpa using e
  rw [this]; simp
 ·rename_i a c
  injection he with he; subst he
  rw [hx.bool_of, hx2.bool_of]
  rw [hu] at hk
  cases d <;> simp at hk
  refine ⟨by simp [Instr.sameNow], fun e => ?_⟩
  have : a = c := by simpa using e
  subst this
  simp [Instr.sameBits]
 ·cases he
theorem findNow_MR {kt : TypeId} {d : TypeDesc} {k : V} {x : Value} (hu : P.underlying kt = some d) (hk : keyOk P kt k = true) (hx : VR μ k x) :
  ∀ (es : List (V × V)) (ms : List MapEntry) (r : Option V) (i : Nat), MR μ es ms → Dg.findKey k es = some r →
   (r = none ∧ Instr.findNow d x ms i = some none) ∨ ∃ v j y, r = some v ∧ Instr.findNow d x ms i = some (some (j, y)) ∧ VR μ v y
 | [], ms, r, i, hm, hf => by
  simp only [MR] at hm; subst hm
  simp only [Dg.findKey] at hf; injection hf with hf; subst hf
  exact .inl ⟨rfl, rfl⟩
 | (k2, v2) :: es, ms, r, i, hm, hf => by
  obtain ⟨e, ms', rfl, h1, h2, h3⟩ := hm
  simp only [Dg.findKey] at hf
  split at hf
  ·rename_i he
   injection hf with hf; subst hf
   obtain ⟨h4, _⟩ := keyEq_spec hu hk hx h1 he
   exact .inr ⟨v2, i, e.val, rfl, by simp [Instr.findNow, h4], h2⟩
  ·rename_i he
   obtain ⟨h4, _⟩ := keyEq_spec hu hk hx h1 he
   have := findNow_MR hu hk hx es ms' r (i + 1) h3 hf
   simpa [Instr.findNow, h4] using this
  ·cases hf
theorem run_checkKeyOk {kt : TypeId} {k : V} {x : Value} (hk : keyOk P kt k = true) (hx : VR μ k x) (em : Bool) (n : Nat) (w : World) : (Instr.checkKey em (n + 1) kt x).run P w = .ok () w := by
 unfold keyOk at hk
 split at hk
 ·rename_i q hu; rw [hx.int_of]; simp [Instr.checkKey, run_underlying hu]
 ·rename_i hu; simp only [VR] at hx; obtain ⟨b, rfl, _⟩ := hx; simp [Instr.checkKey, run_underlying hu]
 ·rename_i hu; rw [hx.bool_of]; simp [Instr.checkKey, run_underlying hu]
 ·cases hk
theorem keyOk_under {kt : TypeId} {k : V} (hk : keyOk P kt k = true) : ∃ d, P.underlying kt = some d := by
 unfold keyOk at hk
 split at hk <;> first | exact ⟨_, ‹_›⟩ | cases hk
theorem run_findKeyOk {kt : TypeId} {k : V} {x : Value} (hk : keyOk P kt k = true) (hx : VR μ k x) {es : List (V × V)} {ms : List MapEntry} {r : Option V} (hm : MR μ es ms) (hf : Dg.findKey k es = some r) (w : World) :
  (r = none ∧ (Instr.findKey kt x ms).run P w = .ok none w) ∨ ∃ v j y, r = some v ∧ (Instr.findKey kt x ms).run P w = .ok (some (j, y)) w ∧ VR μ v y := by
 obtain ⟨d, hu⟩ := keyOk_under hk
 rcases findNow_MR hu hk hx es ms r 0 hm hf with ⟨h1, h2⟩ | ⟨v, j, y, h1, h2, h3⟩
 ·exact .inl ⟨h1, by simp [Instr.findKey, run_underlying hu, h2]⟩
 ·exact .inr ⟨v, j, y, h1, by simp [Instr.findKey, run_underlying hu, h2], h3⟩
theorem run_getObj_of {b : Nat} {o : Obj} (hb : w.heap[b]? = some o) (hn : ∀ c t f, o ≠ .cells c t f) : (getObj b).run P w = .ok o w := by
 unfold getObj
 simp only [Sem.run, hb]
theorem run_setObj_of {b : Nat} {o o' : Obj} (hb : w.heap[b]? = some o) (hn : ∀ c t f, o ≠ .cells c t f) : (setObj b o').run P w = .ok () { w with heap := w.heap.setIfInBounds b o' } := by
 unfold setObj
 simp only [Sem.run, hb]
theorem Go1.setObj (hr : HR P W μ h w) {i : Nat} {o : AO} {k : Bk} {o0 : Obj} (hi : h.get i = some o) (hk : μ i = some k) (hb : w.heap[k.b]? = some o0) (o2 : AO) (o' : Obj) (ho : OR P μ o2 k o') :
  Go1 P W μ h w μ (h.put i (some o2)) { w with heap := w.heap.setIfInBounds k.b o' } := by
 have hlt := hr.lt hi hk
 refine Go1.change hr hi hk o2 o' _ ?_ (by simp) (fun b hne => ?_) rfl rfl rfl ho
 ·simp [hlt]
 ·show (w.heap.setIfInBounds k.b o')[b]? = _
  rw [Array.getElem?_setIfInBounds_ne (Ne.symm hne)]
theorem lookup_spec (hr : HR P W μ h w) {t : TypeId} {m k : V} {m' k' : Value} {ok : Bool} {v : V} (hm : VR μ m m') (hk : VR μ k k') (hs : Dg.lookup P t m k ok h = some v) :
  VOK P W μ h w (Instr.lookup t m' k' ok) v h := by
 unfold Dg.lookup at hs
 split at hs
 ·rename_i kt et hu
  split at hs
  ·rename_i hkok
   have fin : ∀ (z : V) (r : Option V), zeroOf P et = some z → mapFind m k h = some r → (match r with | some v => some (if ok then .tup [v, .bool true] else v) | none => some (if ok then .tup [z, .bool false] else z)) = some v → VOK P W μ h w (Instr.lookup t m' k' ok) v h := by
    intro z r hz hf hv
    obtain ⟨zv, hrunz, hvz⟩ := zeroOf_spec hz
    have key : ∃ es : Array MapEntry, (Instr.lookup t m' k' ok).run P w = (do
       Instr.checkKey es.isEmpty 10000 kt k'
       let (v, ok') ← match ← Instr.findKey kt k' es.toList with
        | some (_, v) => pure (v, true)
        | none => pure (← zeroValue et, false)
       pure (if ok then .tuple #[v, .bool ok'] else v) : Sem Value).run P w ∧
      ((r = none ∧ (Instr.findKey kt k' es.toList).run P w = .ok none w) ∨ ∃ v j y, r = some v ∧ (Instr.findKey kt k' es.toList).run P w = .ok (some (j, y)) w ∧ VR μ v y) := by
     unfold mapFind at hf
     split at hf
     ·injection hf with hf; subst hf
      simp only [VR] at hm; subst hm
      refine ⟨#[], by simp [Instr.lookup, run_underlying hu]; rfl, .inl ⟨rfl, ?_⟩⟩
      obtain ⟨d, hd⟩ := keyOk_under hkok
      simp [Instr.findKey, run_underlying hd, Instr.findNow]
     ·rename_i i
      simp only [VR] at hm
      obtain ⟨kb, hkb, rfl⟩ := hm
      split at hf
      ·rename_i es hes
       obtain ⟨kb', hkb', _, o', ho', hor⟩ := hr.obj i _ hes
       rw [hkb] at hkb'; injection hkb' with hkb'; subst hkb'
       obtain ⟨ms, cl, rfl, hmr⟩ := hor
       refine ⟨ms, ?_, run_findKeyOk hkok hk hmr hf w⟩
       simp [Instr.lookup, run_underlying hu, run_getObj_of ho' (by simp)]
       rfl
      ·cases hf
     ·cases hf
    obtain ⟨es, hrun, hcase⟩ := key
    rcases hcase with ⟨rfl, hfk⟩ | ⟨u, j, y, rfl, hfk, hvy⟩
    ·simp only at hv
     injection hv with hv; subst hv
     refine VOK.pure hr (x := if ok then .tuple #[zv, .bool false] else zv) ?_ ?_
     ·rw [hrun]
      simp [run_checkKeyOk hkok hk, hfk, hrunz]
     ·cases ok
      ·exact hvz μ
      ·simp only [if_true, VR]; exact ⟨_, rfl, VRL.cons (hvz μ) (VRL.cons (VR.mk_bool _) VRL.nil)⟩
    ·simp only at hv
     injection hv with hv; subst hv
     refine VOK.pure hr (x := if ok then .tuple #[y, .bool true] else y) ?_ ?_
     ·rw [hrun]
      simp [run_checkKeyOk hkok hk, hfk]
     ·cases ok
      ·exact hvy
      ·simp only [if_true, VR]; exact ⟨_, rfl, VRL.cons hvy (VRL.cons (VR.mk_bool _) VRL.nil)⟩
   split at hs
   ·rename_i z u hz hf
    exact fin z (some u) hz hf hs
   ·rename_i z hz hf
    exact fin z none hz hf hs
   ·cases hs
  ·cases hs
 ·cases hs
theorem setKey_MR {kt : TypeId} {d : TypeDesc} {k v : V} {x y : Value} (hu : P.underlying kt = some d) (hk : keyOk P kt k = true) (hx : VR μ k x) (hy : VR μ v y) (cl : Nat) :
  ∀ (es es' : List (V × V)) (ms : List MapEntry) (i : Nat), MR μ es ms → setKey k v es = some es' →
   (Instr.findNow d x ms i = some none ∧ MR μ es' (ms ++ [{ key := x, val := y, born := cl }])) ∨
   ∃ j u e, Instr.findNow d x ms i = some (some (i + j, u)) ∧ ms[j]? = some e ∧ Instr.sameBits 10000 e.key x = true ∧ MR μ es' (ms.modify j fun e => { e with key := x, val := y })
 | [], es', ms, i, hm, hf => by
  simp only [MR] at hm; subst hm
  simp only [setKey] at hf; injection hf with hf; subst hf
  exact .inl ⟨rfl, ⟨_, _, rfl, hx, hy, rfl⟩⟩
 | (k2, v2) :: es, es', ms, i, hm, hf => by
  obtain ⟨e, ms', rfl, h1, h2, h3⟩ := hm
  simp only [setKey] at hf
  split at hf
  ·rename_i he
   injection hf with hf; subst hf
   obtain ⟨h4, h5⟩ := keyEq_spec hu hk hx h1 he
   exact .inr ⟨0, e.val, e, by simp [Instr.findNow, h4], rfl, h5 rfl, ⟨_, _, rfl, hx, hy, h3⟩⟩
  ·rename_i he
   obtain ⟨h4, _⟩ := keyEq_spec hu hk hx h1 he
   split at hf
   ·rename_i es2 hes2
    injection hf with hf; subst hf
    rcases setKey_MR hu hk hx hy cl es es2 ms' (i + 1) h3 hes2 with ⟨g1, g2⟩ | ⟨j, u, e2, g1, g2, g3, g4⟩
    ·exact .inl ⟨by simpa [Instr.findNow, h4] using g1, ⟨_, _, rfl, h1, h2, g2⟩⟩
    ·refine .inr ⟨j + 1, u, e2, ?_, by simpa using g2, g3, ⟨e, _, by simp, h1, h2, g4⟩⟩
     simp only [Instr.findNow, h4, g1]
     congr 3
     omega
   ·cases hf
  ·cases hf
theorem mapUpdate_spec (hr : HR P W μ h w) {t : TypeId} {m k x : V} {m' k' x' : Value} {h' : H} (hm : VR μ m m') (hk : VR μ k k') (hx : VR μ x x') (hs : Dg.mapUpdate P t m k x h = some h') :
  ∃ w', (Instr.mapUpdate t m' k' x').run P w = .ok () w' ∧ Go1 P W μ h w μ h' w' := by
 unfold Dg.mapUpdate at hs
 split at hs
 ·rename_i kt et i hu
  split at hs
  ·rename_i hkok
   split at hs
   ·rename_i es hes
    split at hs
    ·rename_i es' hes'
     injection hs with hs; subst hs
     simp only [VR] at hm
     obtain ⟨kb, hkb, rfl⟩ := hm
     obtain ⟨kb', hkb', _, o', ho', hor⟩ := hr.obj i _ hes
     rw [hkb] at hkb'; injection hkb' with hkb'; subst hkb'
     obtain ⟨ms, cl, rfl, hmr⟩ := hor
     obtain ⟨d, hd⟩ := keyOk_under hkok
     rcases setKey_MR hd hkok hk hx cl es es' ms.toList 0 hmr hes' with ⟨g1, g2⟩ | ⟨j, u, e, g1, g2, g3, g4⟩
     ·refine ⟨_, ?_, Go1.setObj hr hes hkb ho' (.map es') (.map (ms.push { key := k', val := x', born := cl }) (cl + 1)) ⟨_, _, rfl, by simpa using g2⟩⟩
      have hf : (Instr.findKey kt k' ms.toList).run P w = .ok none w := by simp [Instr.findKey, run_underlying hd, g1]
      simp [Instr.mapUpdate, run_underlying hu, run_getObj_of ho' (by simp), run_checkKeyOk hkok hk, hf, run_setObj_of ho' (by simp)]
     ·refine ⟨_, ?_, Go1.setObj hr hes hkb ho' (.map es') (.map (ms.modify j fun e => { e with key := k', val := x' }) cl) ⟨_, _, rfl, by simpa using g4⟩⟩
      rw [Nat.zero_add] at g1
      have hf : (Instr.findKey kt k' ms.toList).run P w = .ok (some (j, u)) w := by simp [Instr.findKey, run_underlying hd, g1]
      have hkey : ms[j]? = some e := by simpa using g2
      simp [Instr.mapUpdate, run_underlying hu, run_getObj_of ho' (by simp), run_checkKeyOk hkok hk, hf, run_setObj_of ho' (by simp), hkey, Instr.keyThatStays, g3]
    ·cases hs
   ·cases hs
  ·cases hs
 ·cases hs
end
end Go.Proofs.YtkhjmgchlbnkjaaDoor.Dg
