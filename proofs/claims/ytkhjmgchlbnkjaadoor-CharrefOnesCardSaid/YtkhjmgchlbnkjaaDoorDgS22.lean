import Derived.Test.YtkhjmgchlbnkjaaDoorDgS21
set_option linter.unusedVariables false
set_option linter.unusedSimpArgs false
namespace Go.Proofs.YtkhjmgchlbnkjaaDoor.Dg
open Go Go.RowKit
section
variable (P : Program) (W : World) (prim : FuncId → Option (List V → H → Option (V × H)))
def Ev {α : Type} (f : IH → Option α) (x : α) : Prop := ∃ N, ∀ n, N ≤ n → f (run P W prim n) = some x
def WpC (r : Option Nat) (c : Code) (st : St) (Q : Ex → St → Prop) : Prop := ∃ ex st', Ev P W prim (fun ih => ih.code r c st) (ex, st') ∧ Q ex st'
def WpF (f : FuncId) (args : List V) (h : H) (K : V → H → Prop) : Prop := ∃ v h', Ev P W prim (fun ih => ih.call f args h) (v, h') ∧ K v h'
def WpOs (ops : Array Oper) (os : List Oper) (st : St) (Q : St → Prop) : Prop := ∃ st', Ev P W prim (fun ih => doOps P W ih ops os st) st' ∧ Q st'
def WpR (l : Nat) (args : List V) (h : H) (K : V → H → Prop) : Prop := ∃ v h', Ev P W prim (fun ih => doRound ih l args h) (v, h') ∧ K v h'
def WpD (ops : Array Oper) (ms : List Nat) (L : List Nat) (sn : List (Nat × H)) (st : St) (Q : St → Prop) : Prop := ∃ st', Ev P W prim (fun ih => drawGo P W ih ops ms L sn st) st' ∧ Q st'
inductive LoopR (r : Option Nat) (b : Code) : Nat → St → Ex → St → Prop where
 | stop {st st' : St} {ex : Ex} : ex ≠ .norm → Ev P W prim (fun ih => ih.code r b st) (ex, st') → LoopR r b 1 st ex st'
 | step {k : Nat} {st st1 st' : St} {ex : Ex} : Ev P W prim (fun ih => ih.code r b st) (.norm, st1) → LoopR r b k st1 ex st' → LoopR r b (k + 1) st ex st'
def WpL (r : Option Nat) (b : Code) (st : St) (Q : Ex → St → Prop) : Prop := ∃ k ex st', LoopR P W prim r b k st ex st' ∧ Q ex st'
def WpO (o : Op) (env : List V) (h : H) (K : V → H → Prop) : Prop :=
 match opStep P W o env h with
 | .val v h' => K v h'
 | .call f args => WpF P W prim f args h K
 | .round l args => WpR P W prim l args h K
 | .bad => False
def thenQ (K : St → Prop) (Q : Ex → St → Prop) : Ex → St → Prop
 | .norm, st => K st
 | e, st => Q e st
def blockQ (id : Nat) (Q : Ex → St → Prop) : Ex → St → Prop
 | .exit i, st => if i = id then Q .norm st else Q (.exit i) st
 | e, st => Q e st
def fnQ (fn : Func) (K : V → H → Prop) : Ex → St → Prop
 | .exit _, _ => False
 | _, st => match shut st.ds st.h with
  | some h' => match resultsOf P W fn st.env h' with
   | some v => K v h'
   | none => False
  | none => False
end
section
variable {P : Program} {W : World} {prim : FuncId → Option (List V → H → Option (V × H))}
theorem Ev.now {α : Type} {x : α} {f : IH → Option α} (h : ∀ ih, f ih = some x) : Ev P W prim f x := ⟨0, fun n _ => h _⟩
theorem Ev.congr {α : Type} {x : α} {f g : IH → Option α} (h : ∀ ih, f ih = g ih) (e : Ev P W prim g x) : Ev P W prim f x :=
 let ⟨N, hN⟩ := e; ⟨N, fun n hn => (h _).trans (hN n hn)⟩
theorem Ev.bind {α β : Type} {x : α} {y : β} {f : IH → Option α} {g : IH → Option β} (e : Ev P W prim f x) (e' : Ev P W prim g y) {k : IH → Option β} (h : ∀ ih, f ih = some x → k ih = g ih) : Ev P W prim k y := by
 obtain ⟨N, hN⟩ := e
 obtain ⟨M, hM⟩ := e'
 exact ⟨max N M, fun n hn => by rw [h _ (hN n (by omega))]; exact hM n (by omega)⟩
theorem Ev.code {r : Option Nat} {c : Code} {st : St} {x : Ex × St} {f : IH → Option (Ex × St)} (e : Ev P W prim f x) (h : ∀ k ih, codeStep P W k ih r c st = f ih) : Ev P W prim (fun ih => ih.code r c st) x := by
 obtain ⟨N, hN⟩ := e
 refine ⟨N + 1, fun n hn => ?_⟩
 obtain ⟨m, rfl⟩ : ∃ m, n = m + 1 := ⟨n - 1, by omega⟩
 exact (h m _).trans (hN m (by omega))
theorem WpC.mono {r : Option Nat} {c : Code} {st : St} {Q Q' : Ex → St → Prop} (h : WpC P W prim r c st Q) (hq : ∀ e s, Q e s → Q' e s) : WpC P W prim r c st Q' :=
 let ⟨ex, st', e, q⟩ := h; ⟨ex, st', e, hq _ _ q⟩
theorem WpF.mono {f : FuncId} {args : List V} {h : H} {K K' : V → H → Prop} (w : WpF P W prim f args h K) (hk : ∀ v h', K v h' → K' v h') : WpF P W prim f args h K' :=
 let ⟨v, h', e, q⟩ := w; ⟨v, h', e, hk _ _ q⟩
theorem WpC.skip {r : Option Nat} {st : St} {Q : Ex → St → Prop} (h : Q .norm st) : WpC P W prim r .skip st Q := ⟨_, _, Ev.code (f := fun _ => some (.norm, st)) (.now fun _ => rfl) fun _ _ => rfl, h⟩
theorem WpC.label {r : Option Nat} {l : Nat} {st : St} {Q : Ex → St → Prop} (h : Q .norm st) : WpC P W prim r (.label l) st Q := ⟨_, _, Ev.code (f := fun _ => some (.norm, st)) (.now fun _ => rfl) fun _ _ => rfl, h⟩
theorem WpC.ret {r : Option Nat} {st : St} {Q : Ex → St → Prop} (h : Q .ret st) : WpC P W prim r .ret st Q := ⟨_, _, Ev.code (f := fun _ => some (.ret, st)) (.now fun _ => rfl) fun _ _ => rfl, h⟩
theorem WpC.exit {r : Option Nat} {id : Nat} {st : St} {Q : Ex → St → Prop} (h : Q (.exit id) st) : WpC P W prim r (.exit id) st Q := ⟨_, _, Ev.code (f := fun _ => some (.exit id, st)) (.now fun _ => rfl) fun _ _ => rfl, h⟩
theorem WpC.scope {r : Option Nat} {c : Code} {st : St} {Q : Ex → St → Prop} (h : WpC P W prim r c st Q) : WpC P W prim r (.scope c) st Q :=
 let ⟨ex, st', e, q⟩ := h; ⟨ex, st', Ev.code e fun _ _ => rfl, q⟩
theorem WpC.seq {r : Option Nat} {a b : Code} {st : St} {Q : Ex → St → Prop} (h : WpC P W prim r a st (thenQ (fun st' => WpC P W prim r b st' Q) Q)) : WpC P W prim r (.seq a b) st Q := by
 obtain ⟨ex, st1, e1, q1⟩ := h
 cases ex with
 | norm =>
  obtain ⟨ex2, st2, e2, q2⟩ := q1
  exact ⟨ex2, st2, Ev.code (e1.bind e2 (k := fun ih => match ih.code r a st with | some (.norm, st') => ih.code r b st' | x => x) fun ih h => by rw [h]) fun _ _ => rfl, q2⟩
 | ret => exact ⟨.ret, st1, Ev.code (e1.bind (g := fun _ => some (.ret, st1)) (.now fun _ => rfl) (k := fun ih => match ih.code r a st with | some (.norm, st') => ih.code r b st' | x => x) fun ih h => by rw [h]) fun _ _ => rfl, q1⟩
 | exit id => exact ⟨.exit id, st1, Ev.code (e1.bind (g := fun _ => some (.exit id, st1)) (.now fun _ => rfl) (k := fun ih => match ih.code r a st with | some (.norm, st') => ih.code r b st' | x => x) fun ih h => by rw [h]) fun _ _ => rfl, q1⟩
theorem WpC.cond {r : Option Nat} {c : Operand} {a b : Code} {st : St} {Q : Ex → St → Prop} {t : Bool} (hc : ev st.env c = some (.bool t)) (h : WpC P W prim r (if t then a else b) st Q) : WpC P W prim r (.cond c a b) st Q :=
 let ⟨ex, st', e, q⟩ := h
 ⟨ex, st', Ev.code e fun _ ih => by simp only [codeStep, hc], q⟩
theorem WpC.block {r : Option Nat} {id : Nat} {b : Code} {st : St} {Q : Ex → St → Prop} (h : WpC P W prim r b st (blockQ id Q)) : WpC P W prim r (.block id b) st Q := by
 obtain ⟨ex, st1, e1, q1⟩ := h
 have go : ∀ y : Ex × St, (match (some (ex, st1) : Option (Ex × St)) with | some (.exit i, st') => if i = id then some (.norm, st') else some (.exit i, st') | x => x) = some y → Ev P W prim (fun ih => ih.code r (.block id b) st) y := fun y hy =>
  Ev.code (e1.bind (g := fun _ => some y) (.now fun _ => rfl) (k := fun ih => match ih.code r b st with | some (.exit i, st') => if i = id then some (.norm, st') else some (.exit i, st') | x => x) fun ih h => by rw [h]; exact hy) fun _ _ => rfl
 cases ex with
 | norm => exact ⟨.norm, st1, go _ rfl, q1⟩
 | ret => exact ⟨.ret, st1, go _ rfl, q1⟩
 | exit i =>
  simp only [blockQ] at q1
  by_cases hi : i = id
  ·rw [if_pos hi] at q1
   exact ⟨.norm, st1, go _ (by simp only [if_pos hi]), q1⟩
  ·rw [if_neg hi] at q1
   exact ⟨.exit i, st1, go _ (by simp only [if_neg hi]), q1⟩
theorem WpC.region {r : Option Nat} {id : Nat} {ops : Array Oper} {st : St} {Q : Ex → St → Prop} (h : WpOs P W prim ops ops.toList st fun st' => Q .norm st') : WpC P W prim r (.region id ops false) st Q := by
 obtain ⟨st1, e1, q1⟩ := h
 exact ⟨.norm, st1, Ev.code (e1.bind (g := fun _ => some (.norm, st1)) (.now fun _ => rfl) (k := fun ih => match doOps P W ih ops ops.toList st with | some st' => some (.norm, st') | none => none) fun ih h => by rw [h]) fun _ _ => rfl, q1⟩
theorem WpC.draw {r : Option Nat} {id : Nat} {ops : Array Oper} {st : St} {Q : Ex → St → Prop} {L ms : List Nat} (hp : plan ops none = some (L, ms)) (h : WpD P W prim ops ms L [] st fun st' => Q .norm st') : WpC P W prim r (.region id ops true) st Q := by
 obtain ⟨st1, e1, q1⟩ := h
 refine ⟨.norm, st1, Ev.code (e1.bind (g := fun _ => some (.norm, st1)) (.now fun _ => rfl) (k := fun ih => match doDraw P W ih ops st with | some st' => some (.norm, st') | none => none) fun ih h => ?_) fun _ _ => rfl, q1⟩
 simp only [doDraw, hp]
 rw [h]
theorem WpOs.nil {ops : Array Oper} {st : St} {Q : St → Prop} (h : Q st) : WpOs P W prim ops [] st Q := ⟨st, .now fun _ => rfl, h⟩
theorem WpO.ev {o : Op} {env : List V} {h : H} {K : V → H → Prop} (w : WpO P W prim o env h K) : ∃ v h', Ev P W prim (fun ih => runOp P W ih o env h) (v, h') ∧ K v h' := by
 unfold WpO at w
 split at w
 ·rename_i v h' he
  exact ⟨v, h', .now fun ih => by simp only [runOp, he], w⟩
 ·rename_i f args he
  obtain ⟨v, h', e, k⟩ := w
  exact ⟨v, h', e.congr fun ih => by simp only [runOp, he], k⟩
 ·rename_i l args he
  obtain ⟨v, h', e, k⟩ := w
  exact ⟨v, h', e.congr fun ih => by simp only [runOp, he], k⟩
 ·exact w.elim
theorem WpOs.cons {ops : Array Oper} {o : Oper} {os : List Oper} {st : St} {Q : St → Prop} (hg : guardOk ops o st.env = true) (h : WpO P W prim o.op st.env st.h fun v h' => WpOs P W prim ops os (putTmp o.dst v { st with h := h' }) Q) : WpOs P W prim ops (o :: os) st Q := by
 obtain ⟨v, h', e1, st2, e2, q⟩ := h.ev
 exact ⟨st2, e1.bind e2 fun ih hh => by simp only [doOps, doOp, hg, if_true, hh], q⟩
theorem WpOs.idle {ops : Array Oper} {o : Oper} {os : List Oper} {st : St} {Q : St → Prop} (hg : guardOk ops o st.env = false) (h : WpOs P W prim ops os (putTmp o.dst .undef st) Q) : WpOs P W prim ops (o :: os) st Q := by
 obtain ⟨st2, e2, q⟩ := h
 exact ⟨st2, e2.congr fun ih => by simp only [doOps, doOp, hg, Bool.false_eq_true, if_false], q⟩
theorem WpD.nil {ops : Array Oper} {ms : List Nat} {sn : List (Nat × H)} {st : St} {Q : St → Prop} (h : Q st) : WpD P W prim ops ms [] sn st Q := ⟨st, .now fun _ => rfl, h⟩
theorem WpD.idle {ops : Array Oper} {ms : List Nat} {i : Nat} {L : List Nat} {sn : List (Nat × H)} {o : Oper} {st : St} {Q : St → Prop} (ho : ops[i]? = some o) (hg : guardOk ops o st.env = false) (h : WpD P W prim ops ms L sn (putTmp o.dst .undef st) Q) : WpD P W prim ops ms (i :: L) sn st Q := by
 obtain ⟨st2, e2, q⟩ := h
 exact ⟨st2, e2.congr fun ih => by simp only [drawGo, ho, hg, Bool.false_eq_true, if_false], q⟩
theorem WpD.write {ops : Array Oper} {ms : List Nat} {i : Nat} {L : List Nat} {sn : List (Nat × H)} {o : Oper} {st : St} {Q : St → Prop} (ho : ops[i]? = some o) (hg : guardOk ops o st.env = true) (hc : cls o.op = 0) (h : WpO P W prim o.op st.env st.h fun v h' => WpD P W prim ops ms L ((i, st.h) :: sn) (putTmp o.dst v { st with h := h' }) Q) : WpD P W prim ops ms (i :: L) sn st Q := by
 obtain ⟨v, h', e1, st2, e2, q⟩ := h.ev
 exact ⟨st2, e1.bind e2 fun ih hh => by simp only [drawGo, ho, hg, if_true, hc, hh], q⟩
theorem WpD.calm {ops : Array Oper} {ms : List Nat} {i : Nat} {L : List Nat} {sn : List (Nat × H)} {o : Oper} {st : St} {Q : St → Prop} {v : V} {h' : H} (ho : ops[i]? = some o) (hg : guardOk ops o st.env = true) (hc : cls o.op ≠ 0) (hs : opStep P W o.op st.env st.h = .val v h')
  (hq : sameAt P W o.op st.env v ms i sn = true) (h : WpD P W prim ops ms L sn (putTmp o.dst v { st with h := h' }) Q) : WpD P W prim ops ms (i :: L) sn st Q := by
 obtain ⟨st2, e2, q⟩ := h
 exact ⟨st2, e2.congr fun ih => by simp only [drawGo, ho, hg, if_true, if_neg hc, hs, hq], q⟩
theorem LoopR.ev {r : Option Nat} {b : Code} {k : Nat} {st : St} {ex : Ex} {st' : St} (h : LoopR P W prim r b k st ex st') : ∃ N, ∀ n, N ≤ n → ∀ m, k ≤ m → loopGo ((run P W prim n).code r b) m st = some (ex, st') := by
 induction h with
 | stop hne e =>
  obtain ⟨N, hN⟩ := e
  refine ⟨N, fun n hn m hm => ?_⟩
  obtain ⟨m, rfl⟩ : ∃ j, m = j + 1 := ⟨m - 1, by omega⟩
  have := hN n hn
  simp only at this
  change (match (run P W prim n).code r b _ with | some (.norm, st') => loopGo _ m st' | x => x) = _
  rw [this]
  rename_i st0 st1 ex0
  cases ex0 with
  | norm => exact absurd rfl hne
  | ret => rfl
  | exit id => rfl
 | step e _ ih =>
  obtain ⟨N, hN⟩ := e
  obtain ⟨M, hM⟩ := ih
  refine ⟨max N M, fun n hn m hm => ?_⟩
  obtain ⟨m, rfl⟩ : ∃ j, m = j + 1 := ⟨m - 1, by omega⟩
  have := hN n (by omega)
  simp only at this
  change (match (run P W prim n).code r b _ with | some (.norm, st') => loopGo _ m st' | x => x) = _
  rw [this]
  exact hM n (by omega) m (by omega)
theorem WpC.loop {r : Option Nat} {b : Code} {st : St} {Q : Ex → St → Prop} (h : WpL P W prim r b st Q) : WpC P W prim r (.loop b) st Q := by
 obtain ⟨k, ex, st', e, q⟩ := h
 obtain ⟨N, hN⟩ := e.ev
 refine ⟨ex, st', ⟨max N k + 1, fun n hn => ?_⟩, q⟩
 obtain ⟨m, rfl⟩ : ∃ m, n = m + 1 := ⟨n - 1, by omega⟩
 exact hN m (by omega) m (by omega)
theorem WpL.step {r : Option Nat} {b : Code} {st : St} {Q : Ex → St → Prop} (h : WpC P W prim r b st (thenQ (fun st' => WpL P W prim r b st' Q) Q)) : WpL P W prim r b st Q := by
 obtain ⟨ex, st1, e1, q1⟩ := h
 cases ex with
 | norm =>
  obtain ⟨k, ex2, st2, e2, q2⟩ := q1
  exact ⟨k + 1, ex2, st2, .step e1 e2, q2⟩
 | ret => exact ⟨1, .ret, st1, .stop (by simp) e1, q1⟩
 | exit id => exact ⟨1, .exit id, st1, .stop (by simp) e1, q1⟩
theorem WpF.body {f : FuncId} {fn : Func} {c : Code} {args : List V} {h : H} {K : V → H → Prop} (hp : prim f = none) (hf : P.funcs[f]? = some fn) (hb : fn.body = some c)
  (w : WpC P W prim none c ⟨args ++ List.replicate (fn.ntmps - args.length) .undef, [], h⟩ (fnQ P W fn K)) : WpF P W prim f args h K := by
 obtain ⟨ex, st, ⟨N, hN⟩, q⟩ := w
 have fin : ∀ (hx : ex = .norm ∨ ex = .ret), (match shut st.ds st.h with
  | some h' => match resultsOf P W fn st.env h' with
   | some v => K v h'
   | none => False
  | none => False) → WpF P W prim f args h K := by
  intro hx q
  split at q
  ·rename_i h' hsh
   split at q
   ·rename_i v hres
    refine ⟨v, h', ⟨N + 1, fun n hn => ?_⟩, q⟩
    obtain ⟨m, rfl⟩ : ∃ m, n = m + 1 := ⟨n - 1, by omega⟩
    change callStep P W prim (run P W prim m) f args h = _
    have := hN m (by omega)
    simp only at this
    unfold callStep
    simp only [hp, hf, hb, this]
    rcases hx with rfl | rfl <;> simp only [hsh, hres]
   ·exact q.elim
  ·exact q.elim
 cases ex with
 | norm => exact fin (.inl rfl) q
 | ret => exact fin (.inr rfl) q
 | exit id => exact q.elim
theorem WpF.given {f : FuncId} {p : List V → H → Option (V × H)} {args : List V} {h : H} {K : V → H → Prop} {v : V} {h' : H} (hp : prim f = some p) (he : p args h = some (v, h')) (k : K v h') : WpF P W prim f args h K := by
 refine ⟨v, h', ⟨1, fun n hn => ?_⟩, k⟩
 obtain ⟨m, rfl⟩ : ∃ m, n = m + 1 := ⟨n - 1, by omega⟩
 change callStep P W prim (run P W prim m) f args h = _
 unfold callStep
 simp only [hp, he]
theorem WpF.out {f : FuncId} {args : List V} {h : H} {K : V → H → Prop} (w : WpF P W prim f args h K) : ∃ n v h', (run P W prim n).call f args h = some (v, h') ∧ K v h' :=
 let ⟨v, h', ⟨N, hN⟩, k⟩ := w
 ⟨N, v, h', hN N (Nat.le_refl _), k⟩
end
end Go.Proofs.YtkhjmgchlbnkjaaDoor.Dg
