import Derived.Test.YtkhjmgchlbnkjaaDoorDgS8
set_option linter.unusedVariables false
set_option linter.unusedSimpArgs false
namespace Go.Proofs.YtkhjmgchlbnkjaaDoor.Dg
open Go Go.RowKit
def NOK (P : Program) (W : World) (μ : Mu) (h : H) (w : World) (s : Sem Next) (v : V) (h' : H) : Prop :=
 ∃ μ' w' r x, s.run P w = .ok r w' ∧ (r = .value x ∨ (r = .skip ∧ x = undef)) ∧ VR μ' v x ∧ Go1 P W μ h w μ' h' w'
section
variable {P : Program} {W : World} {μ : Mu} {h : H} {w : World}
theorem VOK.next {s : Sem Value} {v : V} {h' : H} (k : VOK P W μ h w s v h') : NOK P W μ h w (do Pure.pure (Next.value (← s)) : Sem Next) v h' := by
 obtain ⟨μ', w', x, hs, hv, hg⟩ := k
 exact ⟨μ', w', .value x, x, by simp [hs], .inl rfl, hv, hg⟩
theorem ev_spec {env : List V} {a : Act} (he : VRL μ env a.tmps.toList) {x : Operand} {v : V} (hx : ev env x = some v) : VR μ v (a.eval x) := by
 cases x with
 | tmp t =>
  simp only [ev] at hx; injection hx with hx; subst hx
  have := he.getD t
  simpa [Act.eval, List.getD_eq_getElem?_getD, Array.getD_eq_getD_getElem?] using this
 | const c => exact lift_VR μ hx
 | global g =>
  simp only [ev] at hx; injection hx with hx; subst hx
  simp only [VR, Act.eval]
  exact ⟨_, rfl, rfl⟩
 | func f =>
  simp only [ev] at hx; injection hx with hx; subst hx
  simp only [VR, Act.eval]
  exact ⟨#[], rfl, by simp [VRL]⟩
theorem evL_spec {env : List V} {a : Act} (he : VRL μ env a.tmps.toList) : ∀ {xs : List Operand} {vs : List V}, evL env xs = some vs → VRL μ vs (xs.map a.eval)
 | [], vs, hx => by simp only [evL] at hx; injection hx with hx; subst hx; exact VRL.nil
 | x :: xs, vs, hx => by
  simp only [evL] at hx
  split at hx
  ·rename_i v hv
   split at hx
   ·rename_i vs' hvs
    injection hx with hx; subst hx
    exact VRL.cons (ev_spec he hv) (evL_spec he hvs)
   ·cases hx
  ·cases hx
theorem evP_spec {env : List V} {a : Act} (he : VRL μ env a.tmps.toList) : ∀ {xs : List (Nat × Operand)} {vs : List (Nat × V)}, evP env xs = some vs → PR μ vs (xs.map fun (i, x) => (i, a.eval x))
 | [], vs, hx => by simp only [evP] at hx; injection hx with hx; subst hx; rfl
 | (i, x) :: xs, vs, hx => by
  simp only [evP] at hx
  split at hx
  ·rename_i v hv
   split at hx
   ·rename_i vs' hvs
    injection hx with hx; subst hx
    exact ⟨_, _, rfl, ev_spec he hv, evP_spec he hvs⟩
   ·cases hx
  ·cases hx
theorem evO_spec {env : List V} {a : Act} (he : VRL μ env a.tmps.toList) {x : Option Operand} {v : Option V} (hx : evO env x = some v) : OV μ v (x.map a.eval) := by
 cases x with
 | none => simp only [evO] at hx; injection hx with hx; subst hx; rfl
 | some x =>
  simp only [evO] at hx
  split at hx
  ·rename_i u hu
   injection hx with hx; subst hx
   exact ⟨_, rfl, ev_spec he hu⟩
  ·cases hx
theorem Res.pure_val {h h' : H} {r : Option V} {v : V} (e : Res.pure h r = .val v h') : r = some v ∧ h = h' := by
 cases r with
 | none => cases e
 | some u => simp only [Res.pure] at e; injection e with e1 e2; exact ⟨by rw [e1], e2⟩
theorem Res.of_val {h' : H} {r : Option (V × H)} {v : V} (e : Res.of r = .val v h') : r = some (v, h') := by
 cases r with
 | none => cases e
 | some u => obtain ⟨u1, u2⟩ := u; simp only [Res.of] at e; injection e with e1 e2; rw [e1, e2]
theorem Res.unit_val {h' : H} {r : Option H} {v : V} (e : Res.unit r = .val v h') : r = some h' ∧ v = .undef := by
 cases r with
 | none => cases e
 | some u => simp only [Res.unit] at e; injection e with e1 e2; exact ⟨by rw [e2], e1.symm⟩
theorem MR.length : ∀ {es : List (V × V)} {ms : List MapEntry}, MR μ es ms → es.length = ms.length
 | [], _, e => by simp only [MR] at e; simp [e]
 | (k, v) :: l, _, ⟨e, es', he, h1, h2, h3⟩ => by subst he; simp [MR.length h3]
theorem newVar_spec (hr : HR P W μ h w) {e : TypeId} {v : V} {x : Value} (hv : VR μ v x) (hl : v.cells.length ≤ 16777216) :
  ∃ μ' w', (newVar e x).run P w = .ok ⟨w.heap.size, 0, none⟩ w' ∧ VR μ' (.ptr (some (.new h.nx 0))) (.pointer (some ⟨w.heap.size, 0, none⟩)) ∧ Go1 P W μ h w μ' (h.alloc (.cells v.cells e)) w' := by
 obtain ⟨μ', w', h1, h2, h3⟩ := run_newRow_spec hr (t := e) hv.cells (.inl (by have := hv.cells.length; simp at this; omega))
 refine ⟨μ', w', h1, ?_, h3⟩
 simp only [VR]
 exact ⟨_, rfl, _, h2, rfl⟩
theorem newObj_spec (hr : HR P W μ h w) {o : AO} {o' : Obj} (ho : ∀ μ', μ.le μ' → OR P μ' o ⟨w.heap.size, 0, 0⟩ o') :
  ∃ μ' w', (newObj o').run P w = .ok w.heap.size w' ∧ μ' h.nx = some ⟨w.heap.size, 0, 0⟩ ∧ Go1 P W μ h w μ' (h.alloc o) w' :=
 ⟨μ.put h.nx ⟨w.heap.size, 0, 0⟩, { w with heap := w.heap.push o' }, rfl, Mu.put_same _ _ _, Go1.alloc hr o o' _ rfl (ho _ (Mu.le_put _ (hr.fresh _ (Nat.le_refl _)).1))⟩
theorem builtin_spec (hr : HR P W μ h w) {b : Builtin} {ts : Array TypeId} {ty : TypeId} {cs : Array Bool} {args : List V} {args' : Array Value} {v : V} {h' : H} (ha : VRL μ args args'.toList) (hs : builtinOp P W b ts args h = .val v h') :
  NOK P W μ h w (Go.builtin b ts ty cs args') v h' := by
 have two : ∀ {x y : V}, VRL μ [x, y] args'.toList → ∃ x' y', args' = #[x', y'] ∧ VR μ x x' ∧ VR μ y y' := by
  intro x y hv
  simp only [VRL] at hv
  obtain ⟨x', l, e, hx, y', l', rfl, hy, rfl⟩ := hv
  exact ⟨x', y', by rw [← e], hx, hy⟩
 have one : ∀ {x : V}, VRL μ [x] args'.toList → ∃ x', args' = #[x'] ∧ VR μ x x' := by
  intro x hv
  simp only [VRL] at hv
  obtain ⟨x', l, e, hx, rfl⟩ := hv
  exact ⟨x', by rw [← e], hx⟩
 unfold builtinOp at hs
 split at hs
 ·rename_i t0 t1 s x ht
  obtain ⟨s', x', rfl, hs', hx'⟩ := two ha
  have hts : ts = #[t0, t1] := Array.ext' ht
  subst hts
  exact (append_spec hr hs' hx' (Res.of_val hs)).next
 ·rename_i t0 x ht
  obtain ⟨x', rfl, hx'⟩ := one ha
  have hts : ts = #[t0] := Array.ext' ht
  subst hts
  split at hs
  ·rename_i s hu
   injection hs with e1 e2; subst e1; subst e2
   simp only [VR] at hx'; obtain ⟨b, rfl, rfl⟩ := hx'
   have hlen : b.data.toList.length = b.size := by rw [Array.length_toList]; rfl
   refine VOK.next (VOK.pure hr (x := .int .i64 b.data.toList.length) ?_ (VR.mk_int _ _))
   simp [Builtin.len_, run_underlying hu, goInt]
  ·rename_i e a n lb ex hu
   injection hs with e1 e2; subst e1; subst e2
   refine VOK.next (VOK.pure hr (x := .int .i64 n) ?_ (VR.mk_int _ _))
   cases a with
   | none => simp only [VR] at hx'; obtain ⟨rfl, _, rfl⟩ := hx'; simp [Builtin.len_, run_underlying hu, goInt]
   | some a => simp only [VR] at hx'; obtain ⟨a', c, rfl, _⟩ := hx'; simp [Builtin.len_, run_underlying hu, goInt]
  ·rename_i n e hu
   injection hs with e1 e2; subst e1; subst e2
   refine VOK.next (VOK.pure hr (x := .int .i64 n) ?_ (VR.mk_int _ _))
   simp [Builtin.len_, run_underlying hu, goInt]
  ·rename_i k e hu
   injection hs with e1 e2; subst e1; subst e2
   refine VOK.next (VOK.pure hr (x := .int .i64 0) ?_ (VR.mk_int _ _))
   simp only [VR] at hx'; subst hx'
   simp [Builtin.len_, run_underlying hu, goInt]
  ·rename_i k e i hu
   split at hs
   ·rename_i es hes
    injection hs with e1 e2; subst e1; subst e2
    simp only [VR] at hx'
    obtain ⟨kb, hkb, rfl⟩ := hx'
    obtain ⟨kb', hkb', _, o', ho', hor⟩ := hr.obj i _ hes
    rw [hkb] at hkb'; injection hkb' with hkb'; subst hkb'
    obtain ⟨ms, cl, rfl, hmr⟩ := hor
    refine VOK.next (VOK.pure hr (x := .int .i64 es.length) ?_ (VR.mk_int _ _))
    have := hmr.length
    simp [Builtin.len_, run_underlying hu, goInt, run_getObj_of ho' (by simp), this]
   ·cases hs
  ·cases hs
 ·rename_i t0 x ht
  obtain ⟨x', rfl, hx'⟩ := one ha
  have hts : ts = #[t0] := Array.ext' ht
  subst hts
  split at hs
  ·rename_i e a n c hu
   injection hs with e1 e2; subst e1; subst e2
   refine VOK.next (VOK.pure hr (x := .int .i64 c) ?_ (VR.mk_int _ _))
   cases a with
   | none => simp only [VR] at hx'; obtain ⟨_, rfl, rfl⟩ := hx'; simp [Builtin.cap_, run_underlying hu, goInt]
   | some a => simp only [VR] at hx'; obtain ⟨a', c', rfl, _, _, hex, _⟩ := hx'; simp [Builtin.cap_, run_underlying hu, goInt, hex trivial]
  ·cases hs
 ·rename_i t0 t1 d x ht
  obtain ⟨s', x', rfl, hs', hx'⟩ := two ha
  have hts : ts = #[t0, t1] := Array.ext' ht
  subst hts
  exact (copy_spec hr hs' hx' (Res.of_val hs)).next
 ·rename_i t0 x ht
  obtain ⟨x', rfl, hx'⟩ := one ha
  have hts : ts = #[t0] := Array.ext' ht
  subst hts
  exact (clear_spec hr hx' (Res.of_val hs)).next
 ·rename_i k a k2 b
  obtain ⟨s', x', rfl, hs', hx'⟩ := two ha
  injection hs with e1 e2; subst e1; subst e2
  rw [hs'.int_of, hx'.int_of]
  refine VOK.next (VOK.pure hr (x := .int k (if b > a then b else a)) ?_ (VR.mk_int _ _))
  simp [Builtin.max_, Builtin.max2]
 ·rename_i k a k2 b
  obtain ⟨s', x', rfl, hs', hx'⟩ := two ha
  injection hs with e1 e2; subst e1; subst e2
  rw [hs'.int_of, hx'.int_of]
  refine VOK.next (VOK.pure hr (x := .int k (if b < a then b else a)) ?_ (VR.mk_int _ _))
  simp [Builtin.min_, Builtin.min2]
 ·cases hs
theorem opv_move (hr : HR P W μ h w) {env : List V} {a : Act} (he : VRL μ env a.tmps.toList) {v : V} {h' : H} (dst : Option Tmp) (ty : TypeId) (pos : String) (after : Array Edge) (guard : Option (Nat × Bool)) (x : Operand)
  (hs : opStep P W (.move x) env h = .val v h') : NOK P W μ h w (execOp a.eval ⟨dst, .move x, ty, pos, after, guard⟩) v h' := by
 simp only [opStep] at hs
 obtain ⟨e, rfl⟩ := Res.pure_val hs
 exact ⟨μ, w, .value (a.eval x), _, rfl, .inl rfl, ev_spec he e, Go1.refl hr⟩
theorem opv_assign (hr : HR P W μ h w) {env : List V} {a : Act} (he : VRL μ env a.tmps.toList) {v : V} {h' : H} (dst : Option Tmp) (ty : TypeId) (pos : String) (after : Array Edge) (guard : Option (Nat × Bool)) (x : Operand)
  (hs : opStep P W (.assign x) env h = .val v h') : NOK P W μ h w (execOp a.eval ⟨dst, .assign x, ty, pos, after, guard⟩) v h' := by
 simp only [opStep] at hs
 obtain ⟨e, rfl⟩ := Res.pure_val hs
 exact ⟨μ, w, .value (a.eval x), _, rfl, .inl rfl, ev_spec he e, Go1.refl hr⟩
theorem opv_pick (hr : HR P W μ h w) {env : List V} {a : Act} (he : VRL μ env a.tmps.toList) {v : V} {h' : H} (dst : Option Tmp) (ty : TypeId) (pos : String) (after : Array Edge) (guard : Option (Nat × Bool)) (c x y : Operand)
  (hs : opStep P W (.pick c x y) env h = .val v h') : NOK P W μ h w (execOp a.eval ⟨dst, .pick c x y, ty, pos, after, guard⟩) v h' := by
 simp only [opStep] at hs
 split at hs
 ·rename_i t hc
  obtain ⟨e, rfl⟩ := Res.pure_val hs
  have hb := (ev_spec he hc).bool_of
  refine ⟨μ, w, .value (if t then a.eval x else a.eval y), _, ?_, .inl rfl, ?_, Go1.refl hr⟩
  ·simp [execOp, hb, asBool]
  ·cases t <;> exact ev_spec he e
 ·cases hs
theorem opv_alloc (hr : HR P W μ h w) {env : List V} {a : Act} (he : VRL μ env a.tmps.toList) {v : V} {h' : H} (dst : Option Tmp) (ty : TypeId) (pos : String) (after : Array Edge) (guard : Option (Nat × Bool)) (e : TypeId)
  (hs : opStep P W (.alloc e) env h = .val v h') : NOK P W μ h w (execOp a.eval ⟨dst, .alloc e, ty, pos, after, guard⟩) v h' := by
 simp only [opStep] at hs
 split at hs
 ·rename_i z hz
  split at hs
  ·rename_i hl16
   injection hs with e1 e2; subst e1; subst e2
   obtain ⟨zv, hrunz, hvz⟩ := zeroOf_spec hz
   obtain ⟨μ', w', h1, h2, h3⟩ := newVar_spec hr (e := e) (hvz μ) hl16
   refine VOK.next ⟨μ', w', _, ?_, h2, h3⟩
   simp [Instr.alloc, hrunz, h1]
  ·cases hs
 ·cases hs
theorem opv_box (hr : HR P W μ h w) {env : List V} {a : Act} (he : VRL μ env a.tmps.toList) {v : V} {h' : H} (dst : Option Tmp) (ty : TypeId) (pos : String) (after : Array Edge) (guard : Option (Nat × Bool)) (e : TypeId) (x : Operand)
  (hs : opStep P W (.box e x) env h = .val v h') : NOK P W μ h w (execOp a.eval ⟨dst, .box e x, ty, pos, after, guard⟩) v h' := by
 simp only [opStep] at hs
 split at hs
 ·rename_i u hu
  split at hs
  ·split at hs
   ·rename_i hl16
    injection hs with e1 e2; subst e1; subst e2
    obtain ⟨μ', w', h1, h2, h3⟩ := newVar_spec hr (e := e) (ev_spec he hu) hl16
    refine VOK.next ⟨μ', w', _, ?_, h2, h3⟩
    simp [Instr.box, h1]
   ·cases hs
  ·cases hs
 ·cases hs
theorem opv_build (hr : HR P W μ h w) {env : List V} {a : Act} (he : VRL μ env a.tmps.toList) {v : V} {h' : H} (dst : Option Tmp) (ty : TypeId) (pos : String) (after : Array Edge) (guard : Option (Nat × Bool)) (t : TypeId) (parts : Array (Nat × Operand))
  (hs : opStep P W (.build t parts) env h = .val v h') : NOK P W μ h w (execOp a.eval ⟨dst, .build t parts, ty, pos, after, guard⟩) v h' := by
 simp only [opStep] at hs
 split at hs
 ·rename_i ps hps
  obtain ⟨e, rfl⟩ := Res.pure_val hs
  have := evP_spec he hps
  exact (build_spec hr (ps := parts.map fun (i, x) => (i, a.eval x)) (by simpa using this) e).next
 ·cases hs
theorem opv_buildSlice (hr : HR P W μ h w) {env : List V} {a : Act} (he : VRL μ env a.tmps.toList) {v : V} {h' : H} (dst : Option Tmp) (ty : TypeId) (pos : String) (after : Array Edge) (guard : Option (Nat × Bool)) (t : TypeId) (n : Nat) (parts : Array (Nat × Operand))
  (hs : opStep P W (.buildSlice t n parts) env h = .val v h') : NOK P W μ h w (execOp a.eval ⟨dst, .buildSlice t n parts, ty, pos, after, guard⟩) v h' := by
 simp only [opStep] at hs
 split at hs
 ·rename_i ps hps
  have := evP_spec he hps
  refine VOK.next (s := Instr.buildSlice t n _) ?_
  refine buildSlice_spec hr ?_ (Res.of_val hs)
  simpa using this
 ·cases hs
theorem opv_insert (hr : HR P W μ h w) {env : List V} {a : Act} (he : VRL μ env a.tmps.toList) {v : V} {h' : H} (dst : Option Tmp) (ty : TypeId) (pos : String) (after : Array Edge) (guard : Option (Nat × Bool)) (t : TypeId) (m k x : Operand)
  (hs : opStep P W (.insert t m k x) env h = .val v h') : NOK P W μ h w (execOp a.eval ⟨dst, .insert t m k x, ty, pos, after, guard⟩) v h' := by
 simp only [opStep] at hs
 split at hs
 ·rename_i m' k' x' hm hk hx
  obtain ⟨e, rfl⟩ := Res.unit_val hs
  obtain ⟨w', h1, h2⟩ := mapUpdate_spec hr (ev_spec he hm) (ev_spec he hk) (ev_spec he hx) e
  exact ⟨μ, w', .skip, undef, by simp [execOp, h1], .inr ⟨rfl, rfl⟩, VR.undef μ, h2⟩
 ·cases hs
theorem opv_mapUpdate (hr : HR P W μ h w) {env : List V} {a : Act} (he : VRL μ env a.tmps.toList) {v : V} {h' : H} (dst : Option Tmp) (ty : TypeId) (pos : String) (after : Array Edge) (guard : Option (Nat × Bool)) (t : TypeId) (m k x : Operand)
  (hs : opStep P W (.mapUpdate t m k x) env h = .val v h') : NOK P W μ h w (execOp a.eval ⟨dst, .mapUpdate t m k x, ty, pos, after, guard⟩) v h' := by
 simp only [opStep] at hs
 split at hs
 ·rename_i m' k' x' hm hk hx
  obtain ⟨e, rfl⟩ := Res.unit_val hs
  obtain ⟨w', h1, h2⟩ := mapUpdate_spec hr (ev_spec he hm) (ev_spec he hk) (ev_spec he hx) e
  exact ⟨μ, w', .skip, undef, by simp [execOp, h1], .inr ⟨rfl, rfl⟩, VR.undef μ, h2⟩
 ·cases hs
theorem opv_load (hr : HR P W μ h w) {env : List V} {a : Act} (he : VRL μ env a.tmps.toList) {v : V} {h' : H} (dst : Option Tmp) (ty : TypeId) (pos : String) (after : Array Edge) (guard : Option (Nat × Bool)) (t : TypeId) (x : Operand)
  (hs : opStep P W (.load t x) env h = .val v h') : NOK P W μ h w (execOp a.eval ⟨dst, .load t x, ty, pos, after, guard⟩) v h' := by
 simp only [opStep] at hs
 split at hs
 ·rename_i ad hx
  obtain ⟨e, rfl⟩ := Res.pure_val hs
  have hx' := ev_spec he hx
  simp only [VR] at hx'
  obtain ⟨a', ha', har⟩ := hx'
  obtain ⟨x', h1, h2⟩ := run_loadVar_spec hr har e
  refine VOK.next (VOK.pure hr (x := x') ?_ h2)
  simp [Instr.loadAt, ha', Instr.sureAddr, h1]
 ·cases hs
theorem opv_store (hr : HR P W μ h w) {env : List V} {a : Act} (he : VRL μ env a.tmps.toList) {v : V} {h' : H} (dst : Option Tmp) (ty : TypeId) (pos : String) (after : Array Edge) (guard : Option (Nat × Bool)) (t : TypeId) (x y : Operand)
  (hs : opStep P W (.store t x y) env h = .val v h') : NOK P W μ h w (execOp a.eval ⟨dst, .store t x y, ty, pos, after, guard⟩) v h' := by
 simp only [opStep] at hs
 split at hs
 ·rename_i ad u hx hy
  obtain ⟨e, rfl⟩ := Res.unit_val hs
  have hx' := ev_spec he hx
  simp only [VR] at hx'
  obtain ⟨a', ha', har⟩ := hx'
  obtain ⟨w', h1, h2⟩ := run_storeVar_spec hr har (ev_spec he hy) e
  exact ⟨μ, w', .skip, undef, by simp [execOp, Instr.storeAt, ha', Instr.sureAddr, h1], .inr ⟨rfl, rfl⟩, VR.undef μ, h2⟩
 ·cases hs
theorem opv_nilCheck (hr : HR P W μ h w) {env : List V} {a : Act} (he : VRL μ env a.tmps.toList) {v : V} {h' : H} (dst : Option Tmp) (ty : TypeId) (pos : String) (after : Array Edge) (guard : Option (Nat × Bool)) (x : Operand)
  (hs : opStep P W (.nilCheck x) env h = .val v h') : NOK P W μ h w (execOp a.eval ⟨dst, .nilCheck x, ty, pos, after, guard⟩) v h' := by
 simp only [opStep] at hs
 split at hs
 ·rename_i ad hx
  injection hs with e1 e2; subst e1; subst e2
  have hx' := ev_spec he hx
  have hx2 := hx'
  simp only [VR] at hx'
  obtain ⟨a', ha', har⟩ := hx'
  rw [ha'] at hx2
  refine ⟨μ, w, .value (.pointer (some a')), _, ?_, .inl rfl, hx2, Go1.refl hr⟩
  simp [execOp, ha']
 ·rename_i f c hx
  injection hs with e1 e2; subst e1; subst e2
  have hx' := ev_spec he hx
  have hx2 := hx'
  simp only [VR] at hx'
  obtain ⟨c', ha', har⟩ := hx'
  rw [ha'] at hx2
  refine ⟨μ, w, .value (.func (.func f) #[] c'), _, ?_, .inl rfl, hx2, Go1.refl hr⟩
  simp [execOp, ha']
 ·rename_i l hx
  injection hs with e1 e2; subst e1; subst e2
  have hx' := ev_spec he hx
  have hx2 := hx'
  simp only [VR] at hx'
  obtain ⟨k, hk, ha'⟩ := hx'
  rw [ha'] at hx2
  refine ⟨μ, w, .value (.func (.yield k.b) #[] #[]), _, ?_, .inl rfl, hx2, Go1.refl hr⟩
  simp [execOp, ha']
 ·cases hs
theorem opv_binOp (hr : HR P W μ h w) {env : List V} {a : Act} (he : VRL μ env a.tmps.toList) {v : V} {h' : H} (dst : Option Tmp) (ty : TypeId) (pos : String) (after : Array Edge) (guard : Option (Nat × Bool)) (op : BinOp) (t : TypeId) (x y : Operand) (yt : TypeId)
  (hs : opStep P W (.binOp op t x y yt) env h = .val v h') : NOK P W μ h w (execOp a.eval ⟨dst, .binOp op t x y yt, ty, pos, after, guard⟩) v h' := by
 simp only [opStep] at hs
 split at hs
 ·rename_i u1 u2 hx hy
  obtain ⟨e, rfl⟩ := Res.pure_val hs
  obtain ⟨z, h1, h2⟩ := run_binOp (w := w) e (ev_spec he hx) (ev_spec he hy) x y
  exact VOK.next (VOK.pure hr h1 h2)
 ·cases hs
theorem opv_unOp (hr : HR P W μ h w) {env : List V} {a : Act} (he : VRL μ env a.tmps.toList) {v : V} {h' : H} (dst : Option Tmp) (ty : TypeId) (pos : String) (after : Array Edge) (guard : Option (Nat × Bool)) (op : UnOp) (t : TypeId) (x : Operand)
  (hs : opStep P W (.unOp op t x) env h = .val v h') : NOK P W μ h w (execOp a.eval ⟨dst, .unOp op t x, ty, pos, after, guard⟩) v h' := by
 simp only [opStep] at hs
 split at hs
 ·rename_i u hx
  obtain ⟨e, rfl⟩ := Res.pure_val hs
  obtain ⟨z, h1, h2⟩ := run_unOp (w := w) e (ev_spec he hx)
  exact VOK.next (VOK.pure hr h1 h2)
 ·cases hs
theorem opv_convert (hr : HR P W μ h w) {env : List V} {a : Act} (he : VRL μ env a.tmps.toList) {v : V} {h' : H} (dst : Option Tmp) (ty : TypeId) (pos : String) (after : Array Edge) (guard : Option (Nat × Bool)) (s d : TypeId) (x : Operand)
  (hs : opStep P W (.convert s d x) env h = .val v h') : NOK P W μ h w (execOp a.eval ⟨dst, .convert s d x, ty, pos, after, guard⟩) v h' := by
 simp only [opStep] at hs
 split at hs
 ·rename_i u hx
  exact (convert_spec hr (ev_spec he hx) (Res.of_val hs)).next
 ·cases hs
theorem opv_makeFunc (hr : HR P W μ h w) {env : List V} {a : Act} (he : VRL μ env a.tmps.toList) {v : V} {h' : H} (dst : Option Tmp) (ty : TypeId) (pos : String) (after : Array Edge) (guard : Option (Nat × Bool)) (fn : Fn) (first cs : Array Operand)
  (hs : opStep P W (.makeFunc fn first cs) env h = .val v h') : NOK P W μ h w (execOp a.eval ⟨dst, .makeFunc fn first cs, ty, pos, after, guard⟩) v h' := by
 simp only [opStep] at hs
 split at hs
 ·rename_i f hf
  have h0 : first = #[] := Array.ext' hf
  subst h0
  split at hs
  ·rename_i vs hvs
   injection hs with e1 e2; subst e1; subst e2
   refine VOK.next (VOK.pure hr (x := .func (.func f) #[] (cs.map a.eval)) ?_ ?_)
   ·simp [Instr.makeFunc]
   ·simp only [VR]
    exact ⟨_, rfl, by simpa using evL_spec he hvs⟩
  ·cases hs
 ·cases hs
theorem opv_makeMap (hr : HR P W μ h w) {env : List V} {a : Act} (he : VRL μ env a.tmps.toList) {v : V} {h' : H} (dst : Option Tmp) (ty : TypeId) (pos : String) (after : Array Edge) (guard : Option (Nat × Bool)) (t : TypeId) (r : Option Operand)
  (hs : opStep P W (.makeMap t r) env h = .val v h') : NOK P W μ h w (execOp a.eval ⟨dst, .makeMap t r, ty, pos, after, guard⟩) v h' := by
 simp only [opStep] at hs
 split at hs
 ·rename_i k e hu
  injection hs with e1 e2; subst e1; subst e2
  obtain ⟨μ', w', h1, h2, h3⟩ := newObj_spec hr (o := .map []) (o' := .map #[] 0) (fun μ' _ => ⟨#[], 0, rfl, rfl⟩)
  refine VOK.next ⟨μ', w', .map (some w.heap.size), ?_, ?_, h3⟩
  ·simp only [Instr.makeMap, Option.map_none, Sem.run_bind, Sem.run_pure, Result.andThen_ok, h1]
  ·simp only [VR]; exact ⟨_, h2, rfl⟩
 ·cases hs
theorem opv_makeSlice (hr : HR P W μ h w) {env : List V} {a : Act} (he : VRL μ env a.tmps.toList) {v : V} {h' : H} (dst : Option Tmp) (ty : TypeId) (pos : String) (after : Array Edge) (guard : Option (Nat × Bool)) (t : TypeId) (l c : Operand)
  (hs : opStep P W (.makeSlice t l c) env h = .val v h') : NOK P W μ h w (execOp a.eval ⟨dst, .makeSlice t l c, ty, pos, after, guard⟩) v h' := by
 simp only [opStep] at hs
 split at hs
 ·rename_i l' c' hl hc
  exact (makeSlice_spec hr (ev_spec he hl) (ev_spec he hc) (Res.of_val hs)).next
 ·cases hs
theorem opv_slice (hr : HR P W μ h w) {env : List V} {a : Act} (he : VRL μ env a.tmps.toList) {v : V} {h' : H} (dst : Option Tmp) (ty : TypeId) (pos : String) (after : Array Edge) (guard : Option (Nat × Bool)) (t : TypeId) (x : Operand) (lo hi mx : Option Operand)
  (hs : opStep P W (.slice t x lo hi mx) env h = .val v h') : NOK P W μ h w (execOp a.eval ⟨dst, .slice t x lo hi mx, ty, pos, after, guard⟩) v h' := by
 simp only [opStep] at hs
 split at hs
 ·rename_i x' lo' hi' mx' hx hlo hhi hmx
  obtain ⟨e, rfl⟩ := Res.pure_val hs
  exact (slice_spec hr (ev_spec he hx) (evO_spec he hlo) (evO_spec he hhi) (evO_spec he hmx) e).next
 ·cases hs
theorem opv_fieldAddr (hr : HR P W μ h w) {env : List V} {a : Act} (he : VRL μ env a.tmps.toList) {v : V} {h' : H} (dst : Option Tmp) (ty : TypeId) (pos : String) (after : Array Edge) (guard : Option (Nat × Bool)) (t : TypeId) (x : Operand) (i : Nat)
  (hs : opStep P W (.fieldAddr t x i) env h = .val v h') : NOK P W μ h w (execOp a.eval ⟨dst, .fieldAddr t x i, ty, pos, after, guard⟩) v h' := by
 simp only [opStep] at hs
 split at hs
 ·rename_i fs ad hu hx
  split at hs
  ·rename_i f hf
   split at hs
   ·rename_i n hn
    injection hs with e1 e2; subst e1; subst e2
    have hx' := ev_spec he hx
    simp only [VR] at hx'
    obtain ⟨a', ha', har⟩ := hx'
    refine VOK.next (VOK.pure hr (x := .pointer (some (a'.add f.offset))) ?_ ?_)
    ·simp [Instr.fieldAt, run_underlying hu, hf, ha', Instr.sureAddr, fieldPlace, run_sizeOf hn]
    ·simp only [VR]; exact ⟨_, rfl, har.add _⟩
   ·cases hs
  ·cases hs
 ·cases hs
theorem opv_field (hr : HR P W μ h w) {env : List V} {a : Act} (he : VRL μ env a.tmps.toList) {v : V} {h' : H} (dst : Option Tmp) (ty : TypeId) (pos : String) (after : Array Edge) (guard : Option (Nat × Bool)) (t : TypeId) (x : Operand) (i : Nat)
  (hs : opStep P W (.field t x i) env h = .val v h') : NOK P W μ h w (execOp a.eval ⟨dst, .field t x i, ty, pos, after, guard⟩) v h' := by
 simp only [opStep] at hs
 split at hs
 ·rename_i fs cs hu hx
  split at hs
  ·rename_i f hf
   obtain ⟨e, rfl⟩ := Res.pure_val hs
   have hx' := ev_spec he hx
   simp only [VR] at hx'
   obtain ⟨c, ha', hc⟩ := hx'
   obtain ⟨x', h1, h2⟩ := run_part_spec (w := w) hc e
   refine VOK.next (VOK.pure hr (x := x') ?_ h2)
   simp [Instr.field, run_underlying hu, hf, ha', asAgg, h1]
  ·cases hs
 ·cases hs
theorem opv_indexAddr (hr : HR P W μ h w) {env : List V} {a : Act} (he : VRL μ env a.tmps.toList) {v : V} {h' : H} (dst : Option Tmp) (ty : TypeId) (pos : String) (after : Array Edge) (guard : Option (Nat × Bool)) (t : TypeId) (x i : Operand)
  (hs : opStep P W (.indexAddr t x i) env h = .val v h') : NOK P W μ h w (execOp a.eval ⟨dst, .indexAddr t x i, ty, pos, after, guard⟩) v h' := by
 simp only [opStep] at hs
 split at hs
 ·rename_i e ad len lb ex k n hu hx hi
  split at hs
  ·rename_i z hz
   split at hs
   ·rename_i hc
    injection hs with e1 e2; subst e1; subst e2
    have hx' := ev_spec he hx
    simp only [VR] at hx'
    obtain ⟨a', c, ha', _, _, _, _, har⟩ := hx'
    have har := har.resolve_right (fun h => by omega)
    have hi' := (ev_spec he hi).int_of
    refine VOK.next (VOK.pure hr (x := .pointer (some (a'.add (n.toNat * z)))) ?_ ?_)
    ·simp [Instr.indexAt, run_underlying hu, ha', hi', asIntOf, hc, run_sizeOf hz]
    ·simp only [VR]; exact ⟨_, rfl, har.add _⟩
   ·cases hs
  ·cases hs
 ·rename_i len e ad k n hu hx hi
  split at hs
  ·rename_i z hz
   split at hs
   ·rename_i hc
    injection hs with e1 e2; subst e1; subst e2
    have hx' := ev_spec he hx
    simp only [VR] at hx'
    obtain ⟨a', ha', har⟩ := hx'
    have hi' := (ev_spec he hi).int_of
    refine VOK.next (VOK.pure hr (x := .pointer (some (a'.add (n.toNat * z)))) ?_ ?_)
    ·simp [Instr.indexAt, run_underlying hu, ha', hi', asIntOf, hc, run_sizeOf hz, Instr.sureAddr]
    ·simp only [VR]; exact ⟨_, rfl, har.add _⟩
   ·cases hs
  ·cases hs
 ·cases hs
theorem opv_index (hr : HR P W μ h w) {env : List V} {a : Act} (he : VRL μ env a.tmps.toList) {v : V} {h' : H} (dst : Option Tmp) (ty : TypeId) (pos : String) (after : Array Edge) (guard : Option (Nat × Bool)) (t : TypeId) (x i : Operand)
  (hs : opStep P W (.index t x i) env h = .val v h') : NOK P W μ h w (execOp a.eval ⟨dst, .index t x i, ty, pos, after, guard⟩) v h' := by
 simp only [opStep] at hs
 split at hs
 ·rename_i s k n hu hx hi
  split at hs
  ·rename_i h0
   split at hs
   ·rename_i b hb
    injection hs with e1 e2; subst e1; subst e2
    have hx' := ev_spec he hx
    simp only [VR] at hx'
    obtain ⟨bs, ha', rfl⟩ := hx'
    have hi' := (ev_spec he hi).int_of
    refine VOK.next (VOK.pure hr (x := .int .u8 b.toNat) ?_ (VR.mk_int _ _))
    have hb' : bs[n.toNat]? = some b := by
     have h1 : n.toNat < bs.size := by
      have := (List.getElem?_eq_some_iff.1 hb).1
      rw [Array.length_toList] at this
      exact this
     rw [getElem?_pos bs n.toNat h1]
     have h2 := (List.getElem?_eq_some_iff.1 hb).2
     rw [← h2]
     rfl
    simp [Instr.index, run_underlying hu, ha', hi', asIntOf, h0, hb']
   ·cases hs
  ·cases hs
 ·rename_i len e cs k n hu hx hi
  split at hs
  ·rename_i z hz
   split at hs
   ·rename_i hc
    obtain ⟨e, rfl⟩ := Res.pure_val hs
    have hx' := ev_spec he hx
    simp only [VR] at hx'
    obtain ⟨c, ha', hcv⟩ := hx'
    have hi' := (ev_spec he hi).int_of
    obtain ⟨x', h1, h2⟩ := run_part_spec (w := w) hcv e
    refine VOK.next (VOK.pure hr (x := x') ?_ h2)
    simp [Instr.index, run_underlying hu, ha', hi', asIntOf, hc, run_sizeOf hz, h1]
   ·cases hs
  ·cases hs
 ·cases hs
theorem opv_lookup (hr : HR P W μ h w) {env : List V} {a : Act} (he : VRL μ env a.tmps.toList) {v : V} {h' : H} (dst : Option Tmp) (ty : TypeId) (pos : String) (after : Array Edge) (guard : Option (Nat × Bool)) (t : TypeId) (m k : Operand) (ok : Bool)
  (hs : opStep P W (.lookup t m k ok) env h = .val v h') : NOK P W μ h w (execOp a.eval ⟨dst, .lookup t m k ok, ty, pos, after, guard⟩) v h' := by
 simp only [opStep] at hs
 split at hs
 ·rename_i m' k' hm hk
  obtain ⟨e, rfl⟩ := Res.pure_val hs
  exact (lookup_spec hr (ev_spec he hm) (ev_spec he hk) e).next
 ·cases hs
theorem opv_range (hr : HR P W μ h w) {env : List V} {a : Act} (he : VRL μ env a.tmps.toList) {v : V} {h' : H} (dst : Option Tmp) (ty : TypeId) (pos : String) (after : Array Edge) (guard : Option (Nat × Bool)) (t : TypeId) (x : Operand)
  (hs : opStep P W (.range t x) env h = .val v h') : NOK P W μ h w (execOp a.eval ⟨dst, .range t x, ty, pos, after, guard⟩) v h' := by
 simp only [opStep] at hs
 split at hs
 ·rename_i s hu hx
  injection hs with e1 e2; subst e1; subst e2
  have hx' := ev_spec he hx
  simp only [VR] at hx'
  obtain ⟨b, ha', rfl⟩ := hx'
  obtain ⟨μ', w', h1, h2, h3⟩ := newObj_spec hr (o := .siter b.data.toList 0) (o' := .stringIter b 0) (fun μ' _ => ⟨b, rfl, rfl⟩)
  refine VOK.next ⟨μ', w', .pointer (some ⟨w.heap.size, 0, none⟩), ?_, ?_, h3⟩
  ·simp only [Instr.range, run_underlying hu, ha', Sem.run_bind, Sem.run_pure, Result.andThen_ok, h1]
  ·simp only [VR]; exact ⟨_, rfl, _, h2, rfl⟩
 ·cases hs
theorem opv_next (hr : HR P W μ h w) {env : List V} {a : Act} (he : VRL μ env a.tmps.toList) {v : V} {h' : H} (dst : Option Tmp) (ty : TypeId) (pos : String) (after : Array Edge) (guard : Option (Nat × Bool)) (it : Operand) (str : Bool)
  (hs : opStep P W (.next it str) env h = .val v h') : NOK P W μ h w (execOp a.eval ⟨dst, .next it str, ty, pos, after, guard⟩) v h' := by
 simp only [opStep] at hs
 split at hs
 ·rename_i hstr
  split at hs
  ·rename_i u hu
   have := (next_spec hr (ty := ty) (ev_spec he hu) (Res.of_val hs)).next
   simpa [execOp, hstr] using this
  ·cases hs
 ·cases hs
theorem opv_extract (hr : HR P W μ h w) {env : List V} {a : Act} (he : VRL μ env a.tmps.toList) {v : V} {h' : H} (dst : Option Tmp) (ty : TypeId) (pos : String) (after : Array Edge) (guard : Option (Nat × Bool)) (t : Operand) (i : Nat)
  (hs : opStep P W (.extract t i) env h = .val v h') : NOK P W μ h w (execOp a.eval ⟨dst, .extract t i, ty, pos, after, guard⟩) v h' := by
 simp only [opStep] at hs
 split at hs
 ·rename_i l ht
  split at hs
  ·rename_i u hu
   injection hs with e1 e2; subst e1; subst e2
   have hx' := ev_spec he ht
   simp only [VR] at hx'
   obtain ⟨c, ha', hc⟩ := hx'
   obtain ⟨x', h1, h2⟩ := hc.get hu
   refine VOK.next (VOK.pure hr (x := x') ?_ h2)
   have h1' : c[i]? = some x' := by simpa using h1
   simp [Instr.extract, ha', h1']
  ·cases hs
 ·cases hs
theorem opv_call (hr : HR P W μ h w) {env : List V} {a : Act} (he : VRL μ env a.tmps.toList) {v : V} {h' : H} (dst : Option Tmp) (ty : TypeId) (pos : String) (after : Array Edge) (guard : Option (Nat × Bool)) (c : Call)
  (hs : opStep P W (.call c) env h = .val v h') : NOK P W μ h w (execOp a.eval ⟨dst, .call c, ty, pos, after, guard⟩) v h' := by
 simp only [opStep] at hs
 split at hs
 ·split at hs <;> cases hs
 ·rename_i b hb
  split at hs
  ·rename_i args hargs
   have h1 := builtin_spec hr (ty := ty) (cs := c.args.map fun | .const _ => true | _ => false) (args' := c.args.map a.eval) (by simpa using evL_spec he hargs) hs
   obtain ⟨μ', w', r, x, h2, h3⟩ := h1
   refine ⟨μ', w', r, x, ?_, h3⟩
   simp only [execOp, resolve, hb, Sem.run_bind, Sem.run_pure, Result.andThen_ok, invoke]
   exact h2
  ·cases hs
 ·cases hs
theorem op_val (hr : HR P W μ h w) {env : List V} {a : Act} (he : VRL μ env a.tmps.toList) {o : Oper} {v : V} {h' : H} (hs : opStep P W o.op env h = .val v h') :
  NOK P W μ h w (execOp a.eval o) v h' := by
 obtain ⟨dst, op, ty, pos, after, guard⟩ := o
 simp only at hs
 cases op
 case move => exact opv_move hr he dst ty pos after guard _ hs
 case assign => exact opv_assign hr he dst ty pos after guard _ hs
 case pick => exact opv_pick hr he dst ty pos after guard _ _ _ hs
 case alloc => exact opv_alloc hr he dst ty pos after guard _ hs
 case box => exact opv_box hr he dst ty pos after guard _ _ hs
 case build => exact opv_build hr he dst ty pos after guard _ _ hs
 case buildSlice => exact opv_buildSlice hr he dst ty pos after guard _ _ _ hs
 case insert => exact opv_insert hr he dst ty pos after guard _ _ _ _ hs
 case mapUpdate => exact opv_mapUpdate hr he dst ty pos after guard _ _ _ _ hs
 case load => exact opv_load hr he dst ty pos after guard _ _ hs
 case store => exact opv_store hr he dst ty pos after guard _ _ _ hs
 case nilCheck => exact opv_nilCheck hr he dst ty pos after guard _ hs
 case binOp => exact opv_binOp hr he dst ty pos after guard _ _ _ _ _ hs
 case unOp => exact opv_unOp hr he dst ty pos after guard _ _ _ hs
 case convert => exact opv_convert hr he dst ty pos after guard _ _ _ hs
 case makeFunc => exact opv_makeFunc hr he dst ty pos after guard _ _ _ hs
 case makeMap => exact opv_makeMap hr he dst ty pos after guard _ _ hs
 case makeSlice => exact opv_makeSlice hr he dst ty pos after guard _ _ _ hs
 case slice => exact opv_slice hr he dst ty pos after guard _ _ _ _ _ hs
 case fieldAddr => exact opv_fieldAddr hr he dst ty pos after guard _ _ _ hs
 case field => exact opv_field hr he dst ty pos after guard _ _ _ hs
 case indexAddr => exact opv_indexAddr hr he dst ty pos after guard _ _ _ hs
 case index => exact opv_index hr he dst ty pos after guard _ _ _ hs
 case lookup => exact opv_lookup hr he dst ty pos after guard _ _ _ _ hs
 case range => exact opv_range hr he dst ty pos after guard _ _ hs
 case next => exact opv_next hr he dst ty pos after guard _ _ hs
 case extract => exact opv_extract hr he dst ty pos after guard _ _ hs
 case call => exact opv_call hr he dst ty pos after guard _ hs
 all_goals (simp only [opStep] at hs; cases hs)
theorem op_call (hr : HR P W μ h w) {env : List V} {a : Act} (he : VRL μ env a.tmps.toList) {o : Oper} {f : FuncId} {args : List V} (hs : opStep P W o.op env h = .call f args)
  {fn : Func} {c : Code} (hf : P.funcs[f]? = some fn) (hb : fn.body = some c) (hn : fn.name ≠ "runtime.NumGoroutine") :
  ∃ args' : Array Value, (execOp a.eval o).run P w = .ok (.enter f args') w ∧ VRL μ args args'.toList := by
 obtain ⟨dst, op, ty, pos, after, guard⟩ := o
 simp only at hs
 have npv : ∀ {r : Option V}, Res.pure h r = .call f args → False := fun {r} e => by cases r <;> cases e
 have nof : ∀ {r : Option (V × H)}, Res.of r = .call f args → False := fun {r} e => by
  cases r with
  | none => cases e
  | some u => obtain ⟨u1, u2⟩ := u; cases e
 have nun : ∀ {r : Option H}, Res.unit r = .call f args → False := fun {r} e => by cases r <;> cases e
 cases op with
 | call cl =>
  simp only [opStep] at hs
  split at hs
  ·rename_i fo hfo
   split at hs
   ·rename_i g cap args0 hg hargs
    injection hs with e1 e2
    subst e1; subst e2
    have hv := ev_spec he hg
    simp only [VR] at hv
    obtain ⟨c', hc', hcv⟩ := hv
    refine ⟨cl.args.map a.eval ++ c', ?_, by simpa using (evL_spec he hargs).append hcv⟩
    have hn' : (fn.name == "runtime.NumGoroutine") = false := by simpa using hn
    simp [execOp, resolve, hfo, Deferred.ofValue, hc', invoke, callFunc, hf, hn, hb]
   ·cases hs
   ·cases hs
  ·rename_i b hb
   split at hs
   ·unfold builtinOp at hs
    repeat' (split at hs)
    all_goals (first | (exact (nof hs).elim) | (exact (npv hs).elim) | cases hs)
   ·cases hs
  ·cases hs
 | _ =>
  simp only [opStep] at hs
  repeat' (split at hs)
  all_goals (first | (exact (nof hs).elim) | (exact (npv hs).elim) | (exact (nun hs).elim) | cases hs)
theorem op_round (hr : HR P W μ h w) {env : List V} {a : Act} (he : VRL μ env a.tmps.toList) {o : Oper} {l : Nat} {args : List V} (hs : opStep P W o.op env h = .round l args) :
  ∃ (k : Bk) (args' : Array Value), μ l = some k ∧ VRL μ args args'.toList ∧ (execOp a.eval o).run P w = (Instr.yield k.b args').run P w := by
 obtain ⟨dst, op, ty, pos, after, guard⟩ := o
 simp only at hs
 have npv : ∀ {r : Option V}, Res.pure h r = .round l args → False := fun {r} e => by cases r <;> cases e
 have nof : ∀ {r : Option (V × H)}, Res.of r = .round l args → False := fun {r} e => by
  cases r with
  | none => cases e
  | some u => obtain ⟨u1, u2⟩ := u; cases e
 have nun : ∀ {r : Option H}, Res.unit r = .round l args → False := fun {r} e => by cases r <;> cases e
 cases op with
 | call cl =>
  simp only [opStep] at hs
  split at hs
  ·rename_i fo hfo
   split at hs
   ·cases hs
   ·rename_i l0 args0 hg hargs
    injection hs with e1 e2
    subst e1; subst e2
    have hv := ev_spec he hg
    simp only [VR] at hv
    obtain ⟨k, hk, hc'⟩ := hv
    refine ⟨k, cl.args.map a.eval, hk, by simpa using evL_spec he hargs, ?_⟩
    simp [execOp, resolve, hfo, Deferred.ofValue, hc', invoke]
   ·cases hs
  ·rename_i b hb
   split at hs
   ·unfold builtinOp at hs
    repeat' (split at hs)
    all_goals (first | (exact (nof hs).elim) | (exact (npv hs).elim) | cases hs)
   ·cases hs
  ·cases hs
 | _ =>
  simp only [opStep] at hs
  repeat' (split at hs)
  all_goals (first | (exact (nof hs).elim) | (exact (npv hs).elim) | (exact (nun hs).elim) | cases hs)
end
end Go.Proofs.YtkhjmgchlbnkjaaDoor.Dg
