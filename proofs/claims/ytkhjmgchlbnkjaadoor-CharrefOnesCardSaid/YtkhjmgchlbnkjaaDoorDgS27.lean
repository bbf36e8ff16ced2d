import Derived.Test.YtkhjmgchlbnkjaaDoorDgS26
set_option linter.unusedVariables false
set_option linter.unusedSimpArgs false
namespace Go.Proofs.YtkhjmgchlbnkjaaDoor.Dg
open Go Go.RowKit
inductive KF where
 | seq (b : RC)
 | blk (id : Nat)
 | loop (b : RC)
 | call (rs : List ResultVar) (d : Option Tmp) (os : List RO) (env : List V) (ds : List Nat) (r : Option Nat)
 | callD (rs : List ResultVar) (d : Option Tmp) (ms : List Nat) (os : List (Nat × RO)) (sn : List (Nat × H)) (env : List V) (ds : List Nat) (r : Option Nat)
 | rnd (xb : RC) (l : Nat)
 | tie (pa pb : Operand) (l2 : List RO)
inductive Ctl where
 | code (x : RC)
 | ops (l : List RO)
 | draw (ms : List Nat) (l : List (Nat × RO)) (sn : List (Nat × H))
 | done (ex : Ex)
structure Cfg where
 c : Ctl
 ks : List KF
 env : List V
 ds : List Nat
 h : H
 r : Option Nat
def setD (env : List V) (d : Option Tmp) (v : V) : List V :=
 match d with
 | some d => env.set d v
 | none => env
theorem putTmp_setD (d : Option Tmp) (v : V) (env : List V) (ds : List Nat) (h : H) : putTmp d v ⟨env, ds, h⟩ = ⟨setD env d v, ds, h⟩ := by
 cases d <;> rfl
section
variable (P : Program) (W : World) (prim : FuncId → Option (List V → H → Option (V × H)))
def contQ (Q : Ex → St → Prop) : List KF → Option Nat → Ex → St → Prop
 | [], _ => Q
 | .seq b :: ks, r => thenQ (WpX P W prim r b (contQ Q ks r)) (contQ Q ks r)
 | .blk id :: ks, r => blockQ id (contQ Q ks r)
 | .loop b :: ks, r => thenQ (WpLX P W prim r b (contQ Q ks r)) (contQ Q ks r)
 | .call rs d os env ds r' :: ks, _ => retQ P W rs fun v h' => WpRs P W prim os (contQ Q ks r' .norm) (putTmp d v ⟨env, ds, h'⟩)
 | .callD rs d ms os sn env ds r' :: ks, _ => retQ P W rs fun v h' => WpDs P W prim ms os sn (contQ Q ks r' .norm) (putTmp d v ⟨env, ds, h'⟩)
 | .rnd xb l :: ks, r => fun ex st => ex = .norm ∧ st.ds = [] ∧ ∃ t p a b pd d, st.h.get l = some (.loop t p a b .ready pd d) ∧ WpX P W prim r xb (contQ Q ks r) ⟨st.env, [], st.h.put l (some (.loop t p a b .busy pd d))⟩
 | .tie pa pb l2 :: ks, r => fun ex st => ex = .norm ∧ tieB st.env pa pb = true ∧ WpRs P W prim l2 (contQ Q ks r .norm) st
def semM (Q : Ex → St → Prop) (c : Cfg) : Prop :=
 match c.c with
 | .code x => WpX P W prim c.r x (contQ P W prim Q c.ks c.r) ⟨c.env, c.ds, c.h⟩
 | .ops l => WpRs P W prim l (contQ P W prim Q c.ks c.r .norm) ⟨c.env, c.ds, c.h⟩
 | .draw ms l sn => WpDs P W prim ms l sn (contQ P W prim Q c.ks c.r .norm) ⟨c.env, c.ds, c.h⟩
 | .done ex => contQ P W prim Q c.ks c.r ex ⟨c.env, c.ds, c.h⟩
structure WpM (c : Cfg) (Q : Ex → St → Prop) : Prop where
 go : semM P W prim Q c
variable (tab : FuncId → Option (RC × List ResultVar × Nat))
def TabOK : Prop := ∀ f x rs n, tab f = some (x, rs, n) → ∃ fn, P.funcs[f]? = some fn ∧ fn.results.toList = rs ∧ fn.ntmps = n ∧ fn.body.map rc = some x
def enterOps (f : FuncId) (args : List V) (d : Option Tmp) (os : List RO) (c : Cfg) (h : H) : Option Cfg :=
 match prim f with
 | some p => match p args h with
  | some (v, h') => some ⟨.ops os, c.ks, setD c.env d v, c.ds, h', c.r⟩
  | none => none
 | none => match tab f with
  | some (x, rs, n) => some ⟨.code x, .call rs d os c.env c.ds c.r :: c.ks, args ++ List.replicate (n - args.length) .undef, [], h, none⟩
  | none => none
def enterDraw (f : FuncId) (args : List V) (d : Option Tmp) (ms : List Nat) (os : List (Nat × RO)) (sn : List (Nat × H)) (c : Cfg) (h : H) : Option Cfg :=
 match prim f with
 | some p => match p args h with
  | some (v, h') => some ⟨.draw ms os sn, c.ks, setD c.env d v, c.ds, h', c.r⟩
  | none => none
 | none => match tab f with
  | some (x, rs, n) => some ⟨.code x, .callD rs d ms os sn c.env c.ds c.r :: c.ks, args ++ List.replicate (n - args.length) .undef, [], h, none⟩
  | none => none
def stepOps (l : List RO) (c : Cfg) : Option Cfg :=
 match l with
 | [] => some { c with c := .done .norm }
 | o :: os =>
  if rg o c.env then
   match opStep P W o.op c.env c.h with
   | .val v h' => some ⟨.ops os, c.ks, setD c.env o.dst v, c.ds, h', c.r⟩
   | .call f args => enterOps prim tab f args o.dst os c c.h
   | _ => none
  else some ⟨.ops os, c.ks, setD c.env o.dst .undef, c.ds, c.h, c.r⟩
def stepDraw (ms : List Nat) (l : List (Nat × RO)) (sn : List (Nat × H)) (c : Cfg) : Option Cfg :=
 match l with
 | [] => some { c with c := .done .norm }
 | (i, o) :: os =>
  if rg o c.env then
   match opStep P W o.op c.env c.h with
   | .val v h' => if cls o.op = 0 then some ⟨.draw ms os ((i, c.h) :: sn), c.ks, setD c.env o.dst v, c.ds, h', c.r⟩
     else if sameAt P W o.op c.env v ms i sn then some ⟨.draw ms os sn, c.ks, setD c.env o.dst v, c.ds, h', c.r⟩ else none
   | .call f args => if cls o.op = 0 then enterDraw prim tab f args o.dst ms os ((i, c.h) :: sn) c c.h else none
   | _ => none
  else some ⟨.draw ms os sn, c.ks, setD c.env o.dst .undef, c.ds, c.h, c.r⟩
def stepDone (ex : Ex) (c : Cfg) : Option Cfg :=
 match c.ks, ex with
 | .seq b :: ks, .norm => some ⟨.code b, ks, c.env, c.ds, c.h, c.r⟩
 | .seq _ :: ks, ex => some ⟨.done ex, ks, c.env, c.ds, c.h, c.r⟩
 | .blk id :: ks, .exit i => some ⟨.done (if i = id then .norm else .exit i), ks, c.env, c.ds, c.h, c.r⟩
 | .blk _ :: ks, ex => some ⟨.done ex, ks, c.env, c.ds, c.h, c.r⟩
 | .loop b :: ks, .norm => some ⟨.code b, .loop b :: ks, c.env, c.ds, c.h, c.r⟩
 | .loop _ :: ks, ex => some ⟨.done ex, ks, c.env, c.ds, c.h, c.r⟩
 | .call _ _ _ _ _ _ :: _, .exit _ => none
 | .call rs d os env ds r :: ks, _ => match shut c.ds c.h with
  | some h' => match resL P W rs c.env h' with
   | some v => some ⟨.ops os, ks, setD env d v, ds, h', r⟩
   | none => none
  | none => none
 | .callD _ _ _ _ _ _ _ _ :: _, .exit _ => none
 | .callD rs d ms os sn env ds r :: ks, _ => match shut c.ds c.h with
  | some h' => match resL P W rs c.env h' with
   | some v => some ⟨.draw ms os sn, ks, setD env d v, ds, h', r⟩
   | none => none
  | none => none
 | .rnd _ _ :: _, _ => none
 | .tie pa pb l2 :: ks, .norm => match tieB c.env pa pb with
  | true => some ⟨.ops l2, ks, c.env, c.ds, c.h, c.r⟩
  | false => none
 | .tie _ _ _ :: _, _ => none
 | [], _ => none
def stepM (c : Cfg) : Option Cfg :=
 match c.c with
 | .ops l => stepOps P W prim tab l c
 | .draw ms l sn => stepDraw P W prim tab ms l sn c
 | .done ex => stepDone P W ex c
 | .code x => match x with
  | .skip => some { c with c := .done .norm }
  | .ret => some { c with c := .done .ret }
  | .exit id => some { c with c := .done (.exit id) }
  | .seq a b => some ⟨.code a, .seq b :: c.ks, c.env, c.ds, c.h, c.r⟩
  | .cond o a b => match ev c.env o with
   | some (.bool t) => some { c with c := .code (match t with | true => a | false => b) }
   | _ => none
  | .block id b => some ⟨.code b, .blk id :: c.ks, c.env, c.ds, c.h, c.r⟩
  | .loop b => some ⟨.code b, .loop b :: c.ks, c.env, c.ds, c.h, c.r⟩
  | .ops l => some { c with c := .ops l }
  | .draw l ms => some { c with c := .draw ms l [] }
  | .draw2 l ms pa pb l2 => some ⟨.draw ms l [], .tie pa pb l2 :: c.ks, c.env, c.ds, c.h, c.r⟩
  | .scope b => some { c with c := .code b }
  | .range _ _ _ _ => none
  | .none => none
def stepsM (n : Nat) : Cfg → Option Cfg :=
 Nat.rec (fun c => some c) (fun _ go c => match stepM P W prim tab c with
  | some c' => go c'
  | none => none) n
end
section
variable {P : Program} {W : World} {prim : FuncId → Option (List V → H → Option (V × H))} {tab : FuncId → Option (RC × List ResultVar × Nat)} {Q : Ex → St → Prop}
theorem WpF.ofTab (T : TabOK P tab) {f : FuncId} (hp : prim f = none) {x : RC} {rs : List ResultVar} {n : Nat} (hf : tab f = some (x, rs, n)) {args : List V} {h : H} {K : V → H → Prop}
  (w : WpX P W prim none x (retQ P W rs K) ⟨args ++ List.replicate (n - args.length) .undef, [], h⟩) : WpF P W prim f args h K := by
 obtain ⟨fn, h1, h2, h3, h4⟩ := T f x rs n hf
 exact WpF.x hp h1 h2 h3 h4 w
theorem step_code {c : Cfg} {c' : Cfg} {x : RC} (hx : c.c = .code x) (hs : stepM P W prim tab c = some c') (k : WpM P W prim c' Q) : WpM P W prim c Q := by
 obtain ⟨cc, ks, env, ds, h, r⟩ := c
 simp only at hx
 subst hx
 refine ⟨?_⟩
 have k := k.go
 unfold stepM at hs
 simp only at hs
 cases x with
 | skip => injection hs with hs; subst hs; exact WpX.skip k
 | ret => injection hs with hs; subst hs; exact WpX.ret k
 | exit id => injection hs with hs; subst hs; exact WpX.exit k
 | seq a b => injection hs with hs; subst hs; exact WpX.seq k
 | cond o a b =>
  simp only at hs
  split at hs
  ·rename_i t ho
   injection hs with hs; subst hs
   refine WpX.cond ho (fun e => ?_) (fun e => ?_)
   ·subst e; exact k
   ·subst e; exact k
  ·cases hs
 | block id b => injection hs with hs; subst hs; exact WpX.block k
 | loop b => injection hs with hs; subst hs; exact WpX.loop (WpLX.step k)
 | ops l => injection hs with hs; subst hs; exact WpX.ops k
 | draw l ms => injection hs with hs; subst hs; exact WpX.draw k
 | draw2 l ms pa pb l2 => injection hs with hs; subst hs; exact WpX.draw2 k
 | range a b c d => cases hs
 | scope b => injection hs with hs; subst hs; exact WpX.scope k
 | none => cases hs
theorem step_done {c : Cfg} {c' : Cfg} {ex : Ex} (hx : c.c = .done ex) (hs : stepDone P W ex c = some c') (k : WpM P W prim c' Q) : WpM P W prim c Q := by
 obtain ⟨cc, ks, env, ds, h, r⟩ := c
 simp only at hx
 subst hx
 refine ⟨?_⟩
 have k := k.go
 unfold stepDone at hs
 simp only at hs
 cases ks with
 | nil => cases hs
 | cons kf ks =>
  cases kf with
  | seq b => cases ex <;> (injection hs with hs; subst hs; exact k)
  | blk id =>
   cases ex with
   | norm => injection hs with hs; subst hs; exact k
   | ret => injection hs with hs; subst hs; exact k
   | exit i =>
    injection hs with hs; subst hs
    show blockQ id (contQ P W prim Q ks r) (Ex.exit i) ⟨env, ds, h⟩
    simp only [blockQ]
    by_cases e : i = id
    ·subst e; simp only [if_true] at k ⊢; exact k
    ·simp only [if_neg e] at k ⊢; exact k
  | loop b =>
   cases ex with
   | norm => injection hs with hs; subst hs; exact WpLX.step k
   | ret => injection hs with hs; subst hs; exact k
   | exit i => injection hs with hs; subst hs; exact k
  | call rs d os env' ds' r' =>
   have go : ∀ (hne : ∀ i, ex ≠ .exit i), (match shut ds h with
    | some h' => match resL P W rs env h' with
     | some v => some (⟨.ops os, ks, setD env' d v, ds', h', r'⟩ : Cfg)
     | none => none
    | none => none) = some c' → semM P W prim Q ⟨.done ex, .call rs d os env' ds' r' :: ks, env, ds, h, r⟩ := by
    intro hne hs
    split at hs
    ·rename_i h' hsh
     split at hs
     ·rename_i v hv
      injection hs with hs; subst hs
      have k2 : retQ P W rs (fun v h' => WpRs P W prim os (contQ P W prim Q ks r' .norm) (putTmp d v ⟨env', ds', h'⟩)) .ret ⟨env, ds, h⟩ := ⟨h', v, hsh, hv, by simp only [putTmp_setD]; exact k⟩
      cases ex with
      | norm => exact k2
      | ret => exact k2
      | exit i => exact absurd rfl (hne i)
     ·cases hs
    ·cases hs
   cases ex with
   | norm => exact go (by simp) hs
   | ret => exact go (by simp) hs
   | exit i => cases hs
  | rnd xb l => cases ex <;> cases hs
  | tie pa pb l2 =>
   cases ex with
   | norm =>
    simp only at hs
    split at hs
    ·rename_i hb
     injection hs with hs; subst hs
     exact ⟨rfl, hb, k⟩
    ·cases hs
   | ret => cases hs
   | exit i => cases hs
  | callD rs d ms os sn env' ds' r' =>
   have go : ∀ (hne : ∀ i, ex ≠ .exit i), (match shut ds h with
    | some h' => match resL P W rs env h' with
     | some v => some (⟨.draw ms os sn, ks, setD env' d v, ds', h', r'⟩ : Cfg)
     | none => none
    | none => none) = some c' → semM P W prim Q ⟨.done ex, .callD rs d ms os sn env' ds' r' :: ks, env, ds, h, r⟩ := by
    intro hne hs
    split at hs
    ·rename_i h' hsh
     split at hs
     ·rename_i v hv
      injection hs with hs; subst hs
      have k2 : retQ P W rs (fun v h' => WpDs P W prim ms os sn (contQ P W prim Q ks r' .norm) (putTmp d v ⟨env', ds', h'⟩)) .ret ⟨env, ds, h⟩ := ⟨h', v, hsh, hv, by simp only [putTmp_setD]; exact k⟩
      cases ex with
      | norm => exact k2
      | ret => exact k2
      | exit i => exact absurd rfl (hne i)
     ·cases hs
    ·cases hs
   cases ex with
   | norm => exact go (by simp) hs
   | ret => exact go (by simp) hs
   | exit i => cases hs
theorem step_ops (T : TabOK P tab) {c : Cfg} {c' : Cfg} {l : List RO} (hx : c.c = .ops l) (hs : stepOps P W prim tab l c = some c') (k : WpM P W prim c' Q) : WpM P W prim c Q := by
 obtain ⟨cc, ks, env, ds, h, r⟩ := c
 simp only at hx
 subst hx
 refine ⟨?_⟩
 have k := k.go
 unfold stepOps at hs
 cases l with
 | nil => injection hs with hs; subst hs; exact WpRs.done k
 | cons o os =>
  simp only at hs
  split at hs
  ·rename_i hg
   split at hs
   ·rename_i v h' hv
    injection hs with hs; subst hs
    exact WpRs.val hg hv (by rw [putTmp_setD]; exact k)
   ·rename_i f args hv
    refine WpRs.call hg hv ?_
    unfold enterOps at hs
    split at hs
    ·rename_i p hp
     split at hs
     ·rename_i v h' hpv
      injection hs with hs; subst hs
      exact WpF.given hp hpv (by rw [putTmp_setD]; exact k)
     ·cases hs
    ·rename_i hp
     split at hs
     ·rename_i x rs n ht
      injection hs with hs; subst hs
      exact WpF.ofTab T hp ht k
     ·cases hs
   ·cases hs
  ·rename_i hg
   injection hs with hs; subst hs
   exact WpRs.idle (by simpa using hg) (by rw [putTmp_setD]; exact k)
theorem step_draw (T : TabOK P tab) {c : Cfg} {c' : Cfg} {ms : List Nat} {l : List (Nat × RO)} {sn : List (Nat × H)} (hx : c.c = .draw ms l sn) (hs : stepDraw P W prim tab ms l sn c = some c') (k : WpM P W prim c' Q) : WpM P W prim c Q := by
 obtain ⟨cc, ks, env, ds, h, r⟩ := c
 simp only at hx
 subst hx
 refine ⟨?_⟩
 have k := k.go
 unfold stepDraw at hs
 cases l with
 | nil => injection hs with hs; subst hs; exact WpDs.done k
 | cons io os =>
  obtain ⟨i, o⟩ := io
  simp only at hs
  split at hs
  ·rename_i hg
   split at hs
   ·rename_i v h' hv
    split at hs
    ·rename_i hc
     injection hs with hs; subst hs
     exact WpDs.write hg hc hv (by rw [putTmp_setD]; exact k)
    ·rename_i hc
     split at hs
     ·rename_i hsame
      injection hs with hs; subst hs
      exact WpDs.val hg (by simpa using hc) hv hsame (by rw [putTmp_setD]; exact k)
     ·cases hs
   ·rename_i f args hv
    split at hs
    ·rename_i hc
     refine WpDs.call hg hc hv ?_
     unfold enterDraw at hs
     split at hs
     ·rename_i p hp
      split at hs
      ·rename_i v h' hpv
       injection hs with hs; subst hs
       exact WpF.given hp hpv (by rw [putTmp_setD]; exact k)
      ·cases hs
     ·rename_i hp
      split at hs
      ·rename_i x rs n ht
       injection hs with hs; subst hs
       exact WpF.ofTab T hp ht k
      ·cases hs
    ·cases hs
   ·cases hs
  ·rename_i hg
   injection hs with hs; subst hs
   exact WpDs.idle (by simpa using hg) (by rw [putTmp_setD]; exact k)
theorem step_ok (T : TabOK P tab) {c c' : Cfg} (hs : stepM P W prim tab c = some c') (k : WpM P W prim c' Q) : WpM P W prim c Q := by
 cases hx : c.c with
 | code x => exact step_code hx hs k
 | ops l => exact step_ops T hx (by unfold stepM at hs; rw [hx] at hs; exact hs) k
 | draw ms l sn => exact step_draw T hx (by unfold stepM at hs; rw [hx] at hs; exact hs) k
 | done ex => exact step_done hx (by unfold stepM at hs; rw [hx] at hs; exact hs) k
theorem steps_ok (T : TabOK P tab) : ∀ (n : Nat) {c c' : Cfg}, stepsM P W prim tab n c = some c' → WpM P W prim c' Q → WpM P W prim c Q
 | 0, c, c', hs, k => by injection hs with hs; subst hs; exact k
 | n + 1, c, c', hs, k => by
  change (match stepM P W prim tab c with | some c' => stepsM P W prim tab n c' | none => none) = some c' at hs
  split at hs
  ·rename_i c1 h1
   exact step_ok T h1 (steps_ok T n hs k)
  ·cases hs
theorem WpM.run (T : TabOK P tab) (n : Nat) (c' : Cfg) {c : Cfg} (hs : stepsM P W prim tab n c = some c') (k : WpM P W prim c' Q) : WpM P W prim c Q := steps_ok T n hs k
theorem WpM.cond {o : Operand} {a b : RC} {t : Bool} {ks : List KF} {env : List V} {ds : List Nat} {h : H} {r : Option Nat} (ho : ev env o = some (.bool t))
  (h1 : t = true → WpM P W prim ⟨.code a, ks, env, ds, h, r⟩ Q) (h2 : t = false → WpM P W prim ⟨.code b, ks, env, ds, h, r⟩ Q) : WpM P W prim ⟨.code (.cond o a b), ks, env, ds, h, r⟩ Q :=
 ⟨WpX.cond ho (fun e => (h1 e).go) (fun e => (h2 e).go)⟩
theorem set_self {env : List V} {t : Nat} {v : V} (h : env[t]? = some v) : env.set t v = env := by
 apply List.ext_getElem?
 intro i
 rw [List.getElem?_set]
 split
 ·rename_i e
  subst e
  split
  ·exact h.symm
  ·rename_i hn
   rw [List.getElem?_eq_none (Nat.le_of_not_lt hn)]
 ·rfl
theorem WpM.guard {t : Tmp} {w : Bool} {d : Option Tmp} {o : Op} {os : List RO} {b : Bool} {ks : List KF} {env : List V} {ds : List Nat} {h : H} {r : Option Nat} (hb : env[t]? = some (.bool b))
  (h1 : b = true → WpM P W prim ⟨.ops (⟨some (some t, w), d, o⟩ :: os), ks, env.set t (.bool true), ds, h, r⟩ Q)
  (h2 : b = false → WpM P W prim ⟨.ops (⟨some (some t, w), d, o⟩ :: os), ks, env.set t (.bool false), ds, h, r⟩ Q) : WpM P W prim ⟨.ops (⟨some (some t, w), d, o⟩ :: os), ks, env, ds, h, r⟩ Q := by
 cases b with
 | true => have := h1 rfl; rwa [set_self hb] at this
 | false => have := h2 rfl; rwa [set_self hb] at this
theorem WpM.guardD {ms : List Nat} {sn : List (Nat × H)} {i : Nat} {t : Tmp} {w : Bool} {d : Option Tmp} {o : Op} {os : List (Nat × RO)} {b : Bool} {ks : List KF} {env : List V} {ds : List Nat} {h : H} {r : Option Nat} (hb : env[t]? = some (.bool b))
  (h1 : b = true → WpM P W prim ⟨.draw ms ((i, ⟨some (some t, w), d, o⟩) :: os) sn, ks, env.set t (.bool true), ds, h, r⟩ Q)
  (h2 : b = false → WpM P W prim ⟨.draw ms ((i, ⟨some (some t, w), d, o⟩) :: os) sn, ks, env.set t (.bool false), ds, h, r⟩ Q) : WpM P W prim ⟨.draw ms ((i, ⟨some (some t, w), d, o⟩) :: os) sn, ks, env, ds, h, r⟩ Q := by
 cases b with
 | true => have := h1 rfl; rwa [set_self hb] at this
 | false => have := h2 rfl; rwa [set_self hb] at this
theorem WpM.op {o : RO} {os : List RO} {ks : List KF} {env : List V} {ds : List Nat} {h : H} {r : Option Nat} (v : V) (h' : H) (hg : rg o env = true) (hs : opStep P W o.op env h = .val v h')
  (k : WpM P W prim ⟨.ops os, ks, setD env o.dst v, ds, h', r⟩ Q) : WpM P W prim ⟨.ops (o :: os), ks, env, ds, h, r⟩ Q :=
 ⟨WpRs.val hg hs (by rw [putTmp_setD]; exact k.go)⟩
theorem WpM.opD {ms : List Nat} {sn : List (Nat × H)} {i : Nat} {o : RO} {os : List (Nat × RO)} {ks : List KF} {env : List V} {ds : List Nat} {h : H} {r : Option Nat} (v : V) (h' : H) (hg : rg o env = true) (hc : (cls o.op == 0) = false) (hs : opStep P W o.op env h = .val v h') (hq : sameAt P W o.op env v ms i sn = true)
  (k : WpM P W prim ⟨.draw ms os sn, ks, setD env o.dst v, ds, h', r⟩ Q) : WpM P W prim ⟨.draw ms ((i, o) :: os) sn, ks, env, ds, h, r⟩ Q :=
 ⟨WpDs.val hg hc hs hq (by rw [putTmp_setD]; exact k.go)⟩
theorem WpM.opDW {ms : List Nat} {sn : List (Nat × H)} {i : Nat} {o : RO} {os : List (Nat × RO)} {ks : List KF} {env : List V} {ds : List Nat} {h : H} {r : Option Nat} (v : V) (h' : H) (hg : rg o env = true) (hc : cls o.op = 0) (hs : opStep P W o.op env h = .val v h')
  (k : WpM P W prim ⟨.draw ms os ((i, h) :: sn), ks, setD env o.dst v, ds, h', r⟩ Q) : WpM P W prim ⟨.draw ms ((i, o) :: os) sn, ks, env, ds, h, r⟩ Q :=
 ⟨WpDs.write hg hc hs (by rw [putTmp_setD]; exact k.go)⟩
theorem WpM.call {o : RO} {os : List RO} {ks : List KF} {env : List V} {ds : List Nat} {h : H} {r : Option Nat} (f : FuncId) (args : List V) (hg : rg o env = true) (hs : opStep P W o.op env h = .call f args)
  (k : WpF P W prim f args h fun v h' => WpM P W prim ⟨.ops os, ks, setD env o.dst v, ds, h', r⟩ Q) : WpM P W prim ⟨.ops (o :: os), ks, env, ds, h, r⟩ Q :=
 ⟨WpRs.call hg hs (k.mono fun v h' q => by rw [putTmp_setD]; exact q.go)⟩
theorem WpM.callD {ms : List Nat} {sn : List (Nat × H)} {i : Nat} {o : RO} {os : List (Nat × RO)} {ks : List KF} {env : List V} {ds : List Nat} {h : H} {r : Option Nat} (f : FuncId) (args : List V) (hg : rg o env = true) (hc : cls o.op = 0) (hs : opStep P W o.op env h = .call f args)
  (k : WpF P W prim f args h fun v h' => WpM P W prim ⟨.draw ms os ((i, h) :: sn), ks, setD env o.dst v, ds, h', r⟩ Q) : WpM P W prim ⟨.draw ms ((i, o) :: os) sn, ks, env, ds, h, r⟩ Q :=
 ⟨WpDs.call hg hc hs (k.mono fun v h' q => by rw [putTmp_setD]; exact q.go)⟩
theorem WpF.m (T : TabOK P tab) {f : FuncId} (hp : prim f = none) {x : RC} {rs : List ResultVar} {n : Nat} (hf : tab f = some (x, rs, n)) {args : List V} {h : H} {K : V → H → Prop}
  (w : WpM P W prim ⟨.code x, [], args ++ List.replicate (n - args.length) .undef, [], h, none⟩ (retQ P W rs K)) : WpF P W prim f args h K := WpF.ofTab T hp hf w.go
theorem WpM.ret {rs : List ResultVar} {K : V → H → Prop} {env : List V} {ds : List Nat} {h : H} {r : Option Nat} (v : V) (h' : H) (hs : shut ds h = some h') (hv : resL P W rs env h' = some v) (k : K v h') : WpM P W prim ⟨.done .ret, [], env, ds, h, r⟩ (retQ P W rs K) := ⟨⟨h', v, hs, hv, k⟩⟩
theorem WpM.fall {rs : List ResultVar} {K : V → H → Prop} {env : List V} {ds : List Nat} {h : H} {r : Option Nat} (v : V) (h' : H) (hs : shut ds h = some h') (hv : resL P W rs env h' = some v) (k : K v h') : WpM P W prim ⟨.done .norm, [], env, ds, h, r⟩ (retQ P W rs K) := ⟨⟨h', v, hs, hv, k⟩⟩
theorem WpM.cfg {c c' : Cfg} (e : c = c') (k : WpM P W prim c' Q) : WpM P W prim c Q := by subst e; exact k
theorem WpR.mono {l : Nat} {args : List V} {h : H} {K K' : V → H → Prop} (w : WpR P W prim l args h K) (hk : ∀ v h', K v h' → K' v h') : WpR P W prim l args h K' :=
 let ⟨v, h', e, q⟩ := w; ⟨v, h', e, hk _ _ q⟩
def rndQ (l : Nat) (K : V → H → Prop) : Ex → St → Prop := fun ex st => st.ds = [] ∧ ∃ a b c e pd g, st.h.get l = some (.loop a b c e .busy pd g) ∧
 (match ex with
  | .norm => K (.bool true) (st.h.put l (some (.loop a b c e .ready none g)))
  | .ret => K (.bool false) (st.h.put l (some (.loop a b c e .done (some .ret) g)))
  | .exit id => K (.bool false) (st.h.put l (some (.loop a b c e .done (some (.exit id)) g))))
theorem WpR.of {l : Nat} {tmps : List V} {ps : Array Tmp} {a b : Code} {pd : Option Code} {d : Nat} {args : List V} {h : H} {K : V → H → Prop} (hg : h.get l = some (.loop tmps ps a b .ready pd d)) (hl : args.length = ps.size)
  (k : WpC P W prim (some l) a ⟨setTmps tmps (ps.toList.zip args), [], h⟩ (fun ex st => ex = .norm ∧ st.ds = [] ∧ ∃ t p a' b' pd' d', st.h.get l = some (.loop t p a' b' .ready pd' d') ∧ WpC P W prim (some l) b ⟨st.env, [], st.h.put l (some (.loop t p a' b' .busy pd' d'))⟩ (rndQ l K))) : WpR P W prim l args h K := by
 obtain ⟨ex, st1, e1, rfl, hds, t, p, a', b', pd', d', hg1, ex2, st2, e2, hds2, a3, b3, c3, f3, pd3, g3, hg2, hk⟩ := k
 obtain ⟨env1, ds1, h1⟩ := st1
 simp only at hds hg1 e2
 subst hds
 have go : ∀ y : V × H, (match ex2 with
   | .norm => some (V.bool true, st2.h.put l (some (.loop a3 b3 c3 f3 .ready none g3)))
   | .ret => some (V.bool false, st2.h.put l (some (.loop a3 b3 c3 f3 .done (some .ret) g3)))
   | .exit id => some (V.bool false, st2.h.put l (some (.loop a3 b3 c3 f3 .done (some (.exit id)) g3)))) = some y → Ev P W prim (fun ih => doRound ih l args h) y := fun y hy => by
  obtain ⟨N, hN⟩ := e1
  obtain ⟨M, hM⟩ := e2
  refine ⟨max N M, fun n hn => ?_⟩
  have h1' := hN n (by omega)
  have h2' := hM n (by omega)
  simp only at h1' h2'
  simp only [doRound, hg, hl, if_true, h1', hg1, h2', hds2, hg2]
  rw [← hy]
  cases ex2 <;> rfl
 cases ex2 with
 | norm => exact ⟨_, _, go _ rfl, hk⟩
 | ret => exact ⟨_, _, go _ rfl, hk⟩
 | exit id => exact ⟨_, _, go _ rfl, hk⟩
theorem WpR.m {l : Nat} {tmps : List V} {ps : Array Tmp} {a b : Code} {pd : Option Code} {d : Nat} {args : List V} {h : H} {K : V → H → Prop} {xa xb : RC} (hg : h.get l = some (.loop tmps ps a b .ready pd d)) (hl : args.length = ps.size) (ha : rc a = xa) (hb : rc b = xb)
  (k : WpM P W prim ⟨.code xa, [.rnd xb l], setTmps tmps (ps.toList.zip args), [], h, some l⟩ (rndQ l K)) : WpR P W prim l args h K := by
 refine WpR.of hg hl ((k.go.go a ha).mono ?_)
 rintro e s ⟨rfl, h2, t, p, a', b', pd', d', h3, h5⟩
 exact ⟨rfl, h2, t, p, a', b', pd', d', h3, h5.go b hb⟩
theorem WpM.rnd {xb : RC} {l : Nat} {ks : List KF} {env : List V} {h : H} {r : Option Nat} {t : List V} {p : Array Tmp} {a b : Code} {pd : Option Code} {d : Nat} (hg : h.get l = some (.loop t p a b .ready pd d))
  (k : WpM P W prim ⟨.code xb, ks, env, [], h.put l (some (.loop t p a b .busy pd d)), r⟩ Q) : WpM P W prim ⟨.done .norm, .rnd xb l :: ks, env, [], h, r⟩ Q := ⟨⟨rfl, rfl, t, p, a, b, pd, d, hg, k.go⟩⟩
def RangeQ (P : Program) (W : World) (prim : FuncId → Option (List V → H → Option (V × H))) (Q : Ex → St → Prop) (ks : List KF) (env : List V) (ds : List Nat) (l : Nat) (h3 : H) : Prop :=
 (∃ a b c e g, h3.get l = some (.loop a b c e .ready none g) ∧ WpM P W prim ⟨.done .norm, ks, env, ds, h3.put l (some (.loop a b c e .exhausted none g)), none⟩ Q) ∨
 (∃ a b c e g, h3.get l = some (.loop a b c e .done (some .ret) g) ∧ WpM P W prim ⟨.done .ret, ks, env, ds, h3.put l (some (.loop a b c e .exhausted (some .ret) g)), none⟩ Q) ∨
 (∃ a b c e g id, h3.get l = some (.loop a b c e .done (some (.exit id)) g) ∧ WpM P W prim ⟨.done (.exit id), ks, env, ds, h3.put l (some (.loop a b c e .exhausted (some (.exit id)) g)), none⟩ Q)
theorem WpM.range {g : Operand} {ps : Array Tmp} {a b : Code} {ks : List KF} {env : List V} {ds : List Nat} {h : H} {gf : FuncId} {cap : List V} (hg : ev env g = some (.fn gf cap))
  (k : WpF P W prim gf (.yld (h.nx + 1) :: cap) ((h.alloc .dfr).alloc (.loop env ps a b .ready none h.nx)) (fun _ h3 => RangeQ P W prim Q ks env (h.nx :: ds) (h.nx + 1) h3)) : WpM P W prim ⟨.code (.range g ps a b), ks, env, ds, h, none⟩ Q := by
 refine ⟨⟨fun c hc => ?_⟩⟩
 cases c with
 | rangeFunc g' ps' a' b' =>
  injection hc with e1 e2 e3 e4; subst e1; subst e2; subst e3; subst e4
  obtain ⟨v, h3, e, q⟩ := k
  have nx1 : (h.alloc .dfr).nx = h.nx + 1 := rfl
  rcases q with ⟨x1, x2, x3, x4, x5, hg3, q⟩ | ⟨x1, x2, x3, x4, x5, hg3, q⟩ | ⟨x1, x2, x3, x4, x5, id, hg3, q⟩
  ·obtain ⟨ex, st', e', q'⟩ := (show WpC P W prim none .skip ⟨env, h.nx :: ds, h3.put (h.nx + 1) (some (.loop x1 x2 x3 x4 .exhausted none x5))⟩ (contQ P W prim Q ks none) from WpC.skip q.go)
   have hq : contQ P W prim Q ks none .norm ⟨env, h.nx :: ds, h3.put (h.nx + 1) (some (.loop x1 x2 x3 x4 .exhausted none x5))⟩ := q.go
   exact ⟨_, _, Ev.code (e.bind (g := fun _ => some (.norm, ⟨env, h.nx :: ds, h3.put (h.nx + 1) (some (.loop x1 x2 x3 x4 .exhausted none x5))⟩)) (.now fun _ => rfl) (k := fun ih => doRange ih none g' ps' a' b' ⟨env, ds, h⟩) fun ih hh => by simp only [doRange, hg, nx1, hh, hg3]) fun _ _ => rfl, hq⟩
  ·obtain ⟨ex, st', e', q'⟩ := (show WpC P W prim none .ret ⟨env, h.nx :: ds, h3.put (h.nx + 1) (some (.loop x1 x2 x3 x4 .exhausted (some .ret) x5))⟩ (contQ P W prim Q ks none) from WpC.ret q.go)
   exact ⟨_, _, Ev.code (e.bind e' (k := fun ih => doRange ih none g' ps' a' b' ⟨env, ds, h⟩) fun ih hh => by simp only [doRange, hg, nx1, hh, hg3]) fun _ _ => rfl, q'⟩
  ·obtain ⟨ex, st', e', q'⟩ := (show WpC P W prim none (.exit id) ⟨env, h.nx :: ds, h3.put (h.nx + 1) (some (.loop x1 x2 x3 x4 .exhausted (some (.exit id)) x5))⟩ (contQ P W prim Q ks none) from WpC.exit q.go)
   exact ⟨_, _, Ev.code (e.bind e' (k := fun ih => doRange ih none g' ps' a' b' ⟨env, ds, h⟩) fun ih hh => by simp only [doRange, hg, nx1, hh, hg3]) fun _ _ => rfl, q'⟩
 | region i ops dr =>
  cases dr
  ·cases hc
  ·simp only [rc] at hc
   repeat' split at hc
   all_goals cases hc
 | _ => cases hc
theorem WpM.round {o : RO} {os : List RO} {ks : List KF} {env : List V} {ds : List Nat} {h : H} {r : Option Nat} (l : Nat) (args : List V) (hg : rg o env = true) (hs : opStep P W o.op env h = .round l args)
  (k : WpR P W prim l args h fun v h' => WpM P W prim ⟨.ops os, ks, setD env o.dst v, ds, h', r⟩ Q) : WpM P W prim ⟨.ops (o :: os), ks, env, ds, h, r⟩ Q := by
 refine ⟨⟨?_⟩⟩
 simp only [WpRs0]
 refine ⟨fun _ => ?_, fun h => by rw [hg] at h; cases h⟩
 unfold WpO
 rw [hs]
 obtain ⟨v, h', e, q⟩ := k
 refine ⟨v, h', e, ?_⟩
 have := q.go
 simp only [putTmp_setD]
 exact this.go
theorem tieB_ne {env : List V} {pa pb : Operand} {i p j q : Nat} (h1 : ev env pa = some (.ptr (some (.new i p)))) (h2 : ev env pb = some (.ptr (some (.new j q)))) (hne : i ≠ j) : tieB env pa pb = true := by
 simp only [tieB, h1, h2, Bool.not_eq_true', beq_eq_false_iff_ne, ne_eq]
 exact hne
theorem WpM.tie {pa pb : Operand} {l2 : List RO} {ks : List KF} {env : List V} {ds : List Nat} {h : H} {r : Option Nat} (i p j q : Nat) (h1 : ev env pa = some (.ptr (some (.new i p)))) (h2 : ev env pb = some (.ptr (some (.new j q)))) (hne : i ≠ j)
  (k : WpM P W prim ⟨.ops l2, ks, env, ds, h, r⟩ Q) : WpM P W prim ⟨.done .norm, .tie pa pb l2 :: ks, env, ds, h, r⟩ Q := ⟨⟨rfl, tieB_ne h1 h2 hne, k.go⟩⟩
def ranges : Code → List (Code × Code)
 | .seq a b => ranges a ++ ranges b
 | .cond _ a b => ranges a ++ ranges b
 | .block _ b => ranges b
 | .loop b => ranges b
 | .scope b => ranges b
 | .rangeFunc _ _ a b => [(a, b)]
 | _ => []
def rangeOf (f : Func) (i : Nat) : Code × Code := match f.body with
 | some c => (ranges c).getD i (.skip, .skip)
 | none => (.skip, .skip)
end
end Go.Proofs.YtkhjmgchlbnkjaaDoor.Dg
