import Derived.Test.YtkhjmgchlbnkjaaDoorDgS18
set_option linter.unusedVariables false
set_option linter.unusedSimpArgs false
namespace Go.Proofs.YtkhjmgchlbnkjaaDoor.Dg
open Go Go.RowKit
section
variable {P : Program} {W : World} {ih : IH}
theorem Go1.kill {μ : Mu} {h : H} {w : World} (hr : HR P W μ h w) {i : Nat} {o : AO} {k : Bk} (hi : h.get i = some o) (hk : μ i = some k) (o' : Obj) : Go1 P W μ h w μ (h.put i none) (w.putObj k.b o') := by
 have hold : ∀ j x, (h.put i none).get j = some x → j ≠ i ∧ h.get j = some x := fun j x hj => by
  by_cases e : j = i
  ·subst e; rw [H.get_put_same] at hj; cases hj
  ·rw [H.get_put_ne h _ (Ne.symm e)] at hj; exact ⟨e, hj⟩
 have hWk : W.heap.size ≤ k.b := by
  obtain ⟨k', hk', hW, _⟩ := hr.obj i o hi
  rw [hk] at hk'; injection hk' with hk'; subst hk'; exact hW
 have hoth : ∀ b, b ≠ k.b → (w.putObj k.b o').heap[b]? = w.heap[b]? := fun b hne => World.putObj_heap_other hne
 refine ⟨⟨fun j x hj => ?_, fun j l oj ol kj kl hj hl hkj hkl e => hr.inj j l oj ol kj kl (hold j oj hj).2 (hold l ol hl).2 hkj hkl e, fun j hj => ⟨(hr.fresh j hj).1, ?_⟩, ?_⟩,
  Mu.le_refl _, Nat.le_refl _, by simp [World.putObj], fun b hb hn => hoth b fun e => hn i o k hi hk e.symm, fun j x kj hj hkj => .inr ⟨j, x, kj, (hold j x hj).2, hkj, rfl⟩, fun _ _ => rfl⟩
 ·obtain ⟨hne, hj'⟩ := hold j x hj
  obtain ⟨k', hk', hW, x', hx', hor⟩ := hr.obj j x hj'
  exact ⟨k', hk', hW, x', by rw [hoth _ fun e => hne (hr.inj j i x o k' k hj' hi hk' hk e)]; exact hx', hor⟩
 ·by_cases e : j = i
  ·subst e; exact H.get_put_same ..
  ·rw [H.get_put_ne h _ (Ne.symm e)]; exact (hr.fresh j hj).2
 ·refine ⟨hr.below.os, hr.below.tape, hr.below.output, by simpa [World.putObj] using hr.below.size, fun b hb => ?_⟩
  rw [hoth b (by omega)]; exact hr.below.block b hb
theorem leaves_ok {fn : Func} {tmps : Array Value} {R : Ending → World → Prop} {μ : Mu} {h' : H} : ∀ (ds : List Nat) (h : H) (w : World) (marks : List Deferred), shut ds h = some h' → DR μ ds marks → HR P W μ h w →
  (∀ w', Go1 P W μ h w μ h' w' → ∃ v, (results fn tmps).run P w' = .ok v w' ∧ R (.returned v) w') → LeavesInM (Wd none) 0 P fn tmps R marks .returning w
 | [], h, w, marks, hs, hd, hr, hR => by
  simp only [shut] at hs; injection hs with hs; subst hs
  have : marks = [] := hd
  subst this
  exact hR w (Go1.refl hr)
 | d :: ds, h, w, marks, hs, hd, hr, hR => by
  simp only [shut] at hs
  split at hs
  ·rename_i hg
   obtain ⟨k, ms, hk, rfl, hds⟩ := hd
   obtain ⟨k', hk', _, o', ho', hor⟩ := hr.obj d .dfr hg
   rw [hk] at hk'; injection hk' with hk'; subst hk'
   have : o' = .deferred (some []) := hor
   subst this
   have g := Go1.kill hr hg hk (.deferred none)
   refine ⟨by simp, .inl ⟨k.b, _, rfl, run_takeDeferred ho', ?_⟩⟩
   exact leaves_ok ds _ _ ms hs hds g.hr fun w' g' => hR w' (g.trans g')
  ·cases hs
theorem resultsL_spec {μ : Mu} {h : H} {w : World} (hr : HR P W μ h w) {env : List V} {tmps : Array Value} (he : VRL μ env tmps.toList) : ∀ (rs : List ResultVar) (l : List V), resultsL P W env h rs = some l →
  ∃ xs : List Value, (rs.mapM (m := Sem) (fun
   | .tmp t => pure (tmps.getD t undef)
   | .cell a t => do loadVar t (← asAddr (tmps.getD a undef)))).run P w = .ok xs w ∧ VRL μ l xs
 | [], l, hl => by
  simp only [resultsL] at hl; injection hl with hl; subst hl
  exact ⟨[], by simp [Sem.run_pure], rfl⟩
 | .tmp t :: rs, l, hl => by
  simp only [resultsL] at hl
  split at hl
  ·rename_i l' hl'
   injection hl with hl; subst hl
   obtain ⟨xs, h1, h2⟩ := resultsL_spec hr he rs l' hl'
   refine ⟨tmps.getD t undef :: xs, by simp only [List.mapM_cons, Sem.run_bind, Sem.run_pure, Result.andThen, h1], VRL.cons ?_ h2⟩
   have := he.getD t
   simpa using this
  ·cases hl
 | .cell a t :: rs, l, hl => by
  simp only [resultsL] at hl
  split at hl
  ·rename_i ad had
   split at hl
   ·rename_i v l' hv hl'
    injection hl with hl; subst hl
    obtain ⟨xs, h1, h2⟩ := resultsL_spec hr he rs l' hl'
    have hp : VR μ (.ptr (some ad)) (tmps.getD a undef) := by
     have := he.getD a
     rw [had] at this
     simpa using this
    simp only [VR] at hp
    obtain ⟨a', ha', har⟩ := hp
    obtain ⟨x', k1, k2⟩ := run_loadVar_spec hr har hv
    refine ⟨x' :: xs, ?_, VRL.cons k2 h2⟩
    rw [List.mapM_cons]
    have ka : (asAddr (tmps.getD a undef)).run P w = .ok a' w := by rw [ha']; rfl
    simp only [Sem.run_bind, Sem.run_pure, Result.andThen, ka, k1, h1]
   ·cases hl
  ·cases hl
theorem results_spec {μ : Mu} {h : H} {w : World} (hr : HR P W μ h w) {env : List V} {tmps : Array Value} (he : VRL μ env tmps.toList) {fn : Func} {v : V} (hs : resultsOf P W fn env h = some v) :
  ∃ x, (results fn tmps).run P w = .ok x w ∧ VR μ v x := by
 unfold resultsOf at hs
 have key : ∀ l, resultsL P W env h fn.results.toList = some l → ∃ xs : List Value, VRL μ l xs ∧ (results fn tmps).run P w = .ok (if h : xs.toArray.size = 1 then xs.toArray[0] else .tuple xs.toArray) w := fun l hl => by
  obtain ⟨xs, h1, h2⟩ := resultsL_spec hr he _ l hl
  refine ⟨xs, h2, ?_⟩
  unfold results
  rw [Array.mapM_eq_mapM_toList]
  rw [map_eq_pure_bind]
  simp only [Sem.run_bind, Result.andThen, Sem.run_pure]
  erw [h1]
 split at hs
 ·rename_i u hl
  injection hs with hs; subst hs
  obtain ⟨xs, h1, h2⟩ := key _ hl
  simp only [VRL] at h1
  obtain ⟨x, xs', rfl, hx, rfl⟩ := h1
  exact ⟨x, by simpa using h2, hx⟩
 ·rename_i l hne hl
  injection hs with hs; subst hs
  obtain ⟨xs, h1, h2⟩ := key _ hl
  have hlen := h1.length
  have : xs.length ≠ 1 := fun h1' => by
   rw [h1'] at hlen
   match l, hlen with
   | [u], _ => exact hne u rfl
  refine ⟨.tuple xs.toArray, ?_, ?_⟩
  ·rw [h2]; simp [this]
  ·simp only [VR]; exact ⟨xs.toArray, rfl, by simpa using h1⟩
 ·cases hs
structure PrimOK (P : Program) (W : World) (prim : FuncId → Option (List V → H → Option (V × H))) : Prop where
 ok : ∀ f p, prim f = some p → ∀ args h v h', p args h = some (v, h') → ∀ (μ : Mu) (w : World) (args' : Array Value), HR P W μ h w → VRL μ args args'.toList →
  CallsIn (Wd none) 0 P f args' w (fun e w' => ∃ μ' x, e = .returned x ∧ VR μ' v x ∧ Go1 P W μ h w μ' h' w')
 body : ∀ f p, prim f = some p → ∃ fn c, P.funcs[f]? = some fn ∧ fn.body = some c
 nx : ∀ f p, prim f = some p → ∀ args h v h', p args h = some (v, h') → h.nx ≤ h'.nx
variable {prim : FuncId → Option (List V → H → Option (V × H))}
theorem callStep_ok (hp : PrimOK P W prim) (H0 : IHOK P W ih) {f : FuncId} {args : List V} {h : H} {v : V} {h' : H} (hs : callStep P W prim ih f args h = some (v, h')) {μ : Mu} {w : World} {args' : Array Value} (hr : HR P W μ h w) (ha : VRL μ args args'.toList) :
  CallsIn (Wd none) 0 P f args' w (fun e w' => ∃ μ' x, e = .returned x ∧ VR μ' v x ∧ Go1 P W μ h w μ' h' w') := by
 unfold callStep at hs
 split at hs
 ·rename_i p hpf
  exact hp.ok f p hpf args h v h' hs μ w args' hr ha
 ·split at hs
  ·rename_i fn hf
   split at hs
   ·rename_i c hb
    have hlen : args.length = args'.size := by have := ha.length; simpa using this
    have hA : AOK μ (args ++ List.replicate (fn.ntmps - args.length) .undef) [] { tmps := args' ++ Array.replicate (fn.ntmps - args'.size) undef, defers := [] } := by
     refine ⟨?_, rfl⟩
     simp only [Array.toList_append, Array.toList_replicate, hlen]
     exact ha.append (VRL.replicate (VR.undef μ) _)
    have fin : ∀ (ex : Ex) (st : St), (ex = .norm ∨ ex = .ret) → ih.code none c ⟨args ++ List.replicate (fn.ntmps - args.length) .undef, [], h⟩ = some (ex, st) →
      (match shut st.ds st.h with
       | some h' => match resultsOf P W fn st.env h' with
        | some v => some (v, h')
        | none => none
       | none => none) = some (v, h') →
      CallsIn (Wd none) 0 P f args' w (fun e w' => ∃ μ' x, e = .returned x ∧ VR μ' v x ∧ Go1 P W μ h w μ' h' w') := by
     intro ex st hex hcode hs
     split at hs
     ·rename_i h2 hsh
      split at hs
      ·rename_i u hres
       injection hs with hs; injection hs with e1 e2; subst e1; subst e2
       refine callsIn_of_wp_marks hf hb trivial ?_ rfl
       refine H0.code none c _ ex st hcode μ w _ none _ rfl hr hA fun μ1 w1 a1 g1 k1 => ?_
       have main : LeavesInM (Wd none) 0 P fn a1.tmps (fun e w' => ∃ μ' x, e = .returned x ∧ VR μ' u x ∧ Go1 P W μ h w μ' h2 w') a1.defers .returning w1 :=
        leaves_ok st.ds st.h w1 a1.defers hsh k1.ds g1.hr fun w2 g2 => by
         obtain ⟨x, q1, q2⟩ := results_spec g2.hr (k1.env.mono g2.mono) hres
         exact ⟨x, q1, μ1, x, rfl, q2, g1.trans g2⟩
       rcases hex with rfl | rfl
       ·exact main
       ·exact main
      ·cases hs
     ·cases hs
    split at hs
    ·rename_i st hcode; exact fin _ st (.inl rfl) hcode hs
    ·rename_i st hcode; exact fin _ st (.inr rfl) hcode hs
    ·cases hs
   ·cases hs
  ·cases hs
theorem putTmp_nx (dst : Option Tmp) (v : V) (st : St) : (putTmp dst v st).h.nx = st.h.nx := by rw [putTmp_h]
theorem doOps_nx (N : NX ih) {ops : Array Oper} : ∀ (os : List Oper) (st st' : St), doOps P W ih ops os st = some st' → st.h.nx ≤ st'.h.nx
 | [], st, st', h => by simp only [doOps] at h; injection h with h; subst h; exact Nat.le_refl _
 | o :: os, st, st', h => by
  simp only [doOps] at h
  split at h
  ·rename_i st1 h1
   refine Nat.le_trans ?_ (doOps_nx N os st1 st' h)
   unfold doOp at h1
   split at h1
   ·split at h1
    ·rename_i v h2 hrun
     injection h1 with h1; subst h1
     rw [putTmp_nx]; exact runOp_nx N hrun
    ·cases h1
   ·injection h1 with h1; subst h1
    rw [putTmp_nx]; exact Nat.le_refl _
  ·cases h
theorem drawGo_nx (N : NX ih) {ops : Array Oper} {ms : List Nat} : ∀ (L : List Nat) (sn : List (Nat × H)) (st st' : St), drawGo P W ih ops ms L sn st = some st' → st.h.nx ≤ st'.h.nx
 | [], sn, st, st', h => by simp only [drawGo] at h; injection h with h; subst h; exact Nat.le_refl _
 | i :: L, sn, st, st', h => by
  simp only [drawGo] at h
  split at h
  ·cases h
  ·split at h
   ·split at h
    ·split at h
     ·rename_i v h1 hrun
      have := drawGo_nx N L _ _ st' h
      rw [putTmp_nx] at this
      exact Nat.le_trans (runOp_nx N hrun) this
     ·cases h
    ·split at h
     ·rename_i v h1 hop
      split at h
      ·have := drawGo_nx N L _ _ st' h
       rw [putTmp_nx] at this
       exact Nat.le_trans (opStep_nx hop) this
      ·cases h
     ·cases h
   ·have := drawGo_nx N L _ _ st' h
    rw [putTmp_nx] at this
    exact this
theorem loopGo_nx {f : St → Option (Ex × St)} (hf : ∀ st ex st', f st = some (ex, st') → st.h.nx ≤ st'.h.nx) : ∀ (k : Nat) (st : St) (ex : Ex) (st' : St), loopGo f k st = some (ex, st') → st.h.nx ≤ st'.h.nx
 | 0, st, ex, st', h => by cases h
 | k + 1, st, ex, st', h => by
  have h : (match f st with | some (.norm, st') => loopGo f k st' | u => u) = some (ex, st') := h
  split at h
  ·rename_i st1 h1
   exact Nat.le_trans (hf _ _ _ h1) (loopGo_nx hf k _ _ _ h)
  ·exact hf _ _ _ h
theorem codeStep_nx (N : NX ih) (k : Nat) (r : Option Nat) (c : Code) (st : St) (ex : Ex) (st' : St) (hs : codeStep P W k ih r c st = some (ex, st')) : st.h.nx ≤ st'.h.nx := by
 have triv : ∀ {e : Ex}, some (e, st) = some (ex, st') → st.h.nx ≤ st'.h.nx := fun {e} h => by
  injection h with h; injection h with e1 e2; subst e2; exact Nat.le_refl _
 cases c with
 | skip => exact triv hs
 | label l => exact triv hs
 | region id ops dr =>
  cases dr with
  | false =>
   simp only [codeStep] at hs
   split at hs
   ·rename_i st1 h1
    injection hs with hs; injection hs with e1 e2; subst e2
    exact doOps_nx N _ _ _ h1
   ·cases hs
  | true =>
   simp only [codeStep] at hs
   split at hs
   ·rename_i st1 h1
    injection hs with hs; injection hs with e1 e2; subst e2
    unfold doDraw at h1
    split at h1
    ·exact drawGo_nx N _ _ _ _ h1
    ·split at h1
     ·split at h1
      ·rename_i st2 h2
       split at h1
       ·exact Nat.le_trans (drawGo_nx N _ _ _ _ h2) (drawGo_nx N _ _ _ _ h1)
       ·cases h1
      ·cases h1
     ·cases h1
   ·cases hs
 | seq x y =>
  simp only [codeStep] at hs
  split at hs
  ·rename_i st1 h1
   exact Nat.le_trans (N.code _ _ _ _ _ h1) (N.code _ _ _ _ _ hs)
  ·exact N.code _ _ _ _ _ hs
 | cond o x y =>
  simp only [codeStep] at hs
  split at hs
  ·exact N.code _ _ _ _ _ hs
  ·cases hs
 | block id x =>
  simp only [codeStep] at hs
  split at hs
  ·rename_i i st1 h1
   have := N.code _ _ _ _ _ h1
   split at hs <;> (injection hs with hs; injection hs with e1 e2; subst e2; exact this)
  ·exact N.code _ _ _ _ _ hs
 | loop x => exact loopGo_nx (fun st ex st' h => N.code _ _ _ _ _ h) k st ex st' hs
 | rangeFunc g ps assign body =>
  simp only [codeStep] at hs
  unfold doRange at hs
  split at hs
  ·dsimp only at hs
   split at hs
   ·cases hs
   ·rename_i d ds h1 hstart
    have hst : st.h.nx ≤ h1.nx := by
     split at hstart
     ·injection hstart with e; injection e with e1 e2; injection e2 with e2 e3; subst e3; simp
     ·split at hstart
      ·injection hstart with e; injection e with e1 e2; injection e2 with e2 e3; subst e3; exact Nat.le_refl _
      ·cases hstart
    split at hs
    ·rename_i u h3 hcall
     have h3n := N.call _ _ _ _ _ hcall
     simp only [H.nx_alloc] at h3n
     split at hs
     ·injection hs with hs; injection hs with e1 e2; subst e2
      simp only [H.nx_put]; omega
     ·have := N.code _ _ _ _ _ hs
      simp only [H.nx_put] at this; omega
     ·cases hs
    ·cases hs
  ·cases hs
 | exit id => exact triv hs
 | scope x => exact N.code _ _ _ _ _ hs
 | ret => exact triv hs
 | goto l => cases hs
 | refuse m => cases hs
theorem shut_nx : ∀ (ds : List Nat) (h h' : H), shut ds h = some h' → h.nx ≤ h'.nx
 | [], h, h', hs => by simp only [shut] at hs; injection hs with hs; subst hs; exact Nat.le_refl _
 | d :: ds, h, h', hs => by
  simp only [shut] at hs
  split at hs
  ·have := shut_nx ds _ _ hs
   simpa using this
  ·cases hs
theorem callStep_nx (hp : PrimOK P W prim) (N : NX ih) (f : FuncId) (args : List V) (h : H) (v : V) (h' : H) (hs : callStep P W prim ih f args h = some (v, h')) : h.nx ≤ h'.nx := by
 unfold callStep at hs
 split at hs
 ·rename_i p hpf; exact hp.nx f p hpf _ _ _ _ hs
 ·split at hs
  ·split at hs
   ·have fin : ∀ (ex : Ex) (st : St) (fn : Func), h.nx ≤ st.h.nx → (match shut st.ds st.h with
       | some h' => match resultsOf P W fn st.env h' with
        | some v => some (v, h')
        | none => none
       | none => none) = some (v, h') → h.nx ≤ h'.nx := by
     intro ex st fn hle hs
     split at hs
     ·rename_i h2 hsh
      split at hs
      ·injection hs with hs; injection hs with e1 e2; subst e2
       exact Nat.le_trans hle (shut_nx _ _ _ hsh)
      ·cases hs
     ·cases hs
    split at hs
    ·rename_i st hcode; exact fin .norm st _ (N.code _ _ _ _ _ hcode) hs
    ·rename_i st hcode; exact fin .norm st _ (N.code _ _ _ _ _ hcode) hs
    ·cases hs
   ·cases hs
  ·cases hs
theorem run_ok (hm : P.follows .mixedOrders = true) (hname : ∀ (f : FuncId) (fn : Func), P.funcs[f]? = some fn → fn.name ≠ "runtime.NumGoroutine") (hp : PrimOK P W prim) : ∀ n, IHOK P W (run P W prim n) ∧ NX (run P W prim n)
 | 0 => ⟨⟨fun _ _ _ _ _ h => (by cases h), fun _ _ _ _ _ h => (by cases h), fun _ _ _ _ _ h => (by cases h)⟩, ⟨fun _ _ _ _ _ h => (by cases h), fun _ _ _ _ _ h => (by cases h)⟩⟩
 | n + 1 => by
  obtain ⟨H0, N⟩ := run_ok hm hname hp n
  refine ⟨⟨fun r c st ex st' h μ w a rr Q h1 h2 h3 h4 => codeStep_ok hm H0 N n r c st ex st' h μ w a rr Q h1 h2 h3 h4, fun f args h v h' hs μ w args' hr ha => callStep_ok hp H0 hs hr ha, fun f args h v h' hs => ?_⟩,
   ⟨fun r c st ex st' h => codeStep_nx N n r c st ex st' h, fun f args h v h' hs => callStep_nx hp N f args h v h' hs⟩⟩
  have hs : callStep P W prim (run P W prim n) f args h = some (v, h') := hs
  unfold callStep at hs
  split at hs
  ·rename_i p hpf
   obtain ⟨fn, c, h1, h2⟩ := hp.body f p hpf
   exact ⟨fn, c, h1, h2, hname f fn h1⟩
  ·split at hs
   ·rename_i fn hf
    split at hs
    ·rename_i c hb
     exact ⟨fn, c, hf, hb, hname f fn hf⟩
    ·cases hs
   ·cases hs
end
end Go.Proofs.YtkhjmgchlbnkjaaDoor.Dg
