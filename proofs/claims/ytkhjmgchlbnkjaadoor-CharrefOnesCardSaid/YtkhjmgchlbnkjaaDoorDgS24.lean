import Derived.Test.YtkhjmgchlbnkjaaDoorDgS23
set_option linter.unusedVariables false
set_option linter.unusedSimpArgs false
namespace Go.Proofs.YtkhjmgchlbnkjaaDoor.Dg
open Go Go.RowKit
structure RO where
 guard : Option (Option Tmp × Bool)
 dst : Option Tmp
 op : Op
inductive RC where
 | skip | ret
 | exit (id : Nat)
 | seq (a b : RC)
 | cond (c : Operand) (a b : RC)
 | block (id : Nat) (b : RC)
 | loop (b : RC)
 | ops (l : List RO)
 | draw (l : List (Nat × RO)) (ms : List Nat)
 | draw2 (l : List (Nat × RO)) (ms : List Nat) (pa pb : Operand) (l2 : List RO)
 | range (g : Operand) (ps : Array Tmp) (assign body : Code)
 | scope (b : RC)
 | none
def ro (ops : Array Oper) (o : Oper) : RO := ⟨match o.guard with | some (j, w) => some ((ops[j]?).bind (·.dst), w) | none => none, o.dst, o.op⟩
def roAll (ops : Array Oper) : List Nat → Option (List (Nat × RO))
 | [] => some []
 | i :: r => match ops[i]?, roAll ops r with
  | some o, some l => some ((i, ro ops o) :: l)
  | _, _ => Option.none
def rc : Code → RC
 | .skip => .skip
 | .label _ => .skip
 | .ret => .ret
 | .exit id => .exit id
 | .seq a b => .seq (rc a) (rc b)
 | .cond c a b => .cond c (rc a) (rc b)
 | .block id b => .block id (rc b)
 | .loop b => .loop (rc b)
 | .region _ ops false => .ops (ops.toList.map (ro ops))
 | .region _ ops true => match plan ops Option.none with
  | some (L, ms) => match roAll ops L with
   | some l => .draw l ms
   | Option.none => .none
  | Option.none => match tieOf ops with
   | some t => match roAll ops (t.M ++ (t.A ++ t.B)), ops[t.a]?, ops[t.b]? with
    | some l, some oa, some ob => .draw2 l t.ms t.pa t.pb [ro ops oa, ro ops ob]
    | _, _, _ => .none
   | Option.none => .none
 | .rangeFunc g ps a b => .range g ps a b
 | .scope b => .scope (rc b)
 | .goto _ => .none
 | .refuse _ => .none
def rg (o : RO) (env : List V) : Bool :=
 match o.guard with
 | Option.none => true
 | some (t, w) => match t with
  | some t => match env[t]? with
   | some (.bool b) => b == w
   | _ => false
  | Option.none => false
theorem rg_eq (ops : Array Oper) (o : Oper) (env : List V) : guardOk ops o env = rg (ro ops o) env := by
 unfold guardOk rg ro
 cases o.guard with
 | none => rfl
 | some jw =>
  obtain ⟨j, w⟩ := jw
  simp only
  cases (ops[j]?).bind (·.dst) <;> rfl
section
variable (P : Program) (W : World) (prim : FuncId → Option (List V → H → Option (V × H)))
def WpRs0 : List RO → (St → Prop) → St → Prop
 | [], Q, st => Q st
 | o :: os, Q, st => (rg o st.env = true → WpO P W prim o.op st.env st.h fun v h => WpRs0 os Q (putTmp o.dst v { st with h := h })) ∧ (rg o st.env = false → WpRs0 os Q (putTmp o.dst .undef st))
structure WpRs (l : List RO) (Q : St → Prop) (st : St) : Prop where
 go : WpRs0 P W prim l Q st
def WpDs0 (ms : List Nat) : List (Nat × RO) → List (Nat × H) → (St → Prop) → St → Prop
 | [], _, Q, st => Q st
 | (i, o) :: os, sn, Q, st =>
  (rg o st.env = true → (cls o.op = 0 → WpO P W prim o.op st.env st.h fun v h => WpDs0 ms os ((i, st.h) :: sn) Q (putTmp o.dst v { st with h := h })) ∧
   (cls o.op ≠ 0 → ∃ v h, opStep P W o.op st.env st.h = .val v h ∧ sameAt P W o.op st.env v ms i sn = true ∧ WpDs0 ms os sn Q (putTmp o.dst v { st with h := h }))) ∧
  (rg o st.env = false → WpDs0 ms os sn Q (putTmp o.dst .undef st))
structure WpDs (ms : List Nat) (l : List (Nat × RO)) (sn : List (Nat × H)) (Q : St → Prop) (st : St) : Prop where
 go : WpDs0 P W prim ms l sn Q st
structure WpX (r : Option Nat) (x : RC) (Q : Ex → St → Prop) (st : St) : Prop where
 go : ∀ c, rc c = x → WpC P W prim r c st Q
end
section
variable {P : Program} {W : World} {prim : FuncId → Option (List V → H → Option (V × H))} {r : Option Nat} {Q : Ex → St → Prop} {st : St}
theorem WpX.code {c : Code} {x : RC} (hx : rc c = x) (h : WpX P W prim r x Q st) : WpC P W prim r c st Q := h.go c hx
theorem WpX.mono {x : RC} {Q' : Ex → St → Prop} (h : WpX P W prim r x Q st) (hq : ∀ e s, Q e s → Q' e s) : WpX P W prim r x Q' st := ⟨fun c hc => (h.go c hc).mono hq⟩
theorem WpX.skip (h : Q .norm st) : WpX P W prim r .skip Q st := .mk fun c hc => by
 cases c with
 | skip => exact WpC.skip h
 | label l => exact WpC.label h
 | region id ops dr =>
  cases dr
  ·cases hc
  ·simp only [rc] at hc
   repeat' split at hc
   all_goals cases hc
 | _ => cases hc
theorem WpX.ret (h : Q .ret st) : WpX P W prim r .ret Q st := .mk fun c hc => by
 cases c with
 | ret => exact WpC.ret h
 | region id ops dr =>
  cases dr
  ·cases hc
  ·simp only [rc] at hc
   repeat' split at hc
   all_goals cases hc
 | _ => cases hc
theorem WpX.exit {id : Nat} (h : Q (.exit id) st) : WpX P W prim r (.exit id) Q st := .mk fun c hc => by
 cases c with
 | exit i => injection hc with hc; subst hc; exact WpC.exit h
 | region i ops dr =>
  cases dr
  ·cases hc
  ·simp only [rc] at hc
   repeat' split at hc
   all_goals cases hc
 | _ => cases hc
theorem WpX.seq {a b : RC} (h : WpX P W prim r a (thenQ (WpX P W prim r b Q) Q) st) : WpX P W prim r (.seq a b) Q st := .mk fun c hc => by
 cases c with
 | seq x y =>
  injection hc with h1 h2
  refine WpC.seq ((h.go x h1).mono fun e s q => ?_)
  cases e with
  | norm => exact q.go y h2
  | ret => exact q
  | exit i => exact q
 | region i ops dr =>
  cases dr
  ·cases hc
  ·simp only [rc] at hc
   repeat' split at hc
   all_goals cases hc
 | _ => cases hc
theorem WpX.cond {o : Operand} {a b : RC} {t : Bool} (ho : ev st.env o = some (.bool t)) (h1 : t = true → WpX P W prim r a Q st) (h2 : t = false → WpX P W prim r b Q st) : WpX P W prim r (.cond o a b) Q st := .mk fun c hc => by
 cases c with
 | cond o' x y =>
  injection hc with e0 e1 e2
  subst e0
  refine WpC.cond ho ?_
  cases t with
  | true => exact (h1 rfl).go x e1
  | false => exact (h2 rfl).go y e2
 | region i ops dr =>
  cases dr
  ·cases hc
  ·simp only [rc] at hc
   repeat' split at hc
   all_goals cases hc
 | _ => cases hc
theorem WpX.block {id : Nat} {b : RC} (h : WpX P W prim r b (blockQ id Q) st) : WpX P W prim r (.block id b) Q st := .mk fun c hc => by
 cases c with
 | block i x => injection hc with e1 e2; subst e1; exact WpC.block (h.go x e2)
 | region i ops dr =>
  cases dr
  ·cases hc
  ·simp only [rc] at hc
   repeat' split at hc
   all_goals cases hc
 | _ => cases hc
theorem WpX.scope {b : RC} (h : WpX P W prim r b Q st) : WpX P W prim r (.scope b) Q st := .mk fun c hc => by
 cases c with
 | scope x => injection hc with e1; exact WpC.scope (h.go x e1)
 | region i ops dr =>
  cases dr
  ·cases hc
  ·simp only [rc] at hc
   repeat' split at hc
   all_goals cases hc
 | _ => cases hc
theorem WpO.mono {o : Op} {env : List V} {h : H} {K K' : V → H → Prop} (w : WpO P W prim o env h K) (hk : ∀ v h', K v h' → K' v h') : WpO P W prim o env h K' := by
 unfold WpO at w ⊢
 split at w
 ·exact hk _ _ w
 ·exact WpF.mono w hk
 ·obtain ⟨v, h', e1, k⟩ := w
  exact ⟨v, h', e1, hk _ _ k⟩
 ·exact w
theorem WpRs.ops {ops : Array Oper} {K : St → Prop} : ∀ (os : List Oper) (st : St), WpRs0 P W prim (os.map (ro ops)) K st → WpOs P W prim ops os st K
 | [], st, h => WpOs.nil h
 | o :: os, st, h => by
  simp only [List.map_cons, WpRs0] at h
  cases hg : rg (ro ops o) st.env with
  | true =>
   refine WpOs.cons (by rw [rg_eq]; exact hg) ?_
   exact WpO.mono (h.1 hg) fun v h' k => WpRs.ops os _ k
  | false => exact WpOs.idle (by rw [rg_eq]; exact hg) (WpRs.ops os _ (h.2 hg))
theorem WpX.ops {l : List RO} (h : WpRs P W prim l (Q .norm) st) : WpX P W prim r (.ops l) Q st := .mk fun c hc => by
 cases c with
 | region i ops dr =>
  cases dr
  ·injection hc with hc; subst hc
   exact WpC.region (WpRs.ops ops.toList st h.go)
  ·simp only [rc] at hc
   repeat' split at hc
   all_goals cases hc
 | _ => cases hc
theorem WpDs.draw {ops : Array Oper} {ms : List Nat} {K : St → Prop} : ∀ (L : List Nat) (l : List (Nat × RO)) (sn : List (Nat × H)) (st : St), roAll ops L = some l → WpDs0 P W prim ms l sn K st → WpD P W prim ops ms L sn st K
 | [], l, sn, st, hl, h => by
  simp only [roAll] at hl; injection hl with hl; subst hl
  exact WpD.nil h
 | i :: L, l, sn, st, hl, h => by
  simp only [roAll] at hl
  split at hl
  ·rename_i o l' ho hl'
   injection hl with hl; subst hl
   simp only [WpDs0] at h
   cases hg : rg (ro ops o) st.env with
   | true =>
    obtain ⟨h1, h2⟩ := h.1 hg
    have e : (ro ops o).op = o.op := rfl
    rw [e] at h1 h2
    by_cases hc : cls o.op = 0
    ·refine WpD.write ho (by rw [rg_eq]; exact hg) hc ?_
     exact WpO.mono (h1 hc) fun v h' k => WpDs.draw L l' _ _ hl' k
    ·obtain ⟨v, h', e1, e2, k⟩ := h2 hc
     exact WpD.calm ho (by rw [rg_eq]; exact hg) hc e1 e2 (WpDs.draw L l' _ _ hl' k)
   | false => exact WpD.idle ho (by rw [rg_eq]; exact hg) (WpDs.draw L l' _ _ hl' (h.2 hg))
  ·cases hl
theorem WpX.draw {l : List (Nat × RO)} {ms : List Nat} (h : WpDs P W prim ms l [] (Q .norm) st) : WpX P W prim r (.draw l ms) Q st := .mk fun c hc => by
 cases c with
 | region i ops dr =>
  cases dr
  ·cases hc
  ·simp only [rc] at hc
   split at hc
   ·rename_i L ms' hp
    split at hc
    ·rename_i l' hl
     injection hc with e1 e2; subst e1; subst e2
     exact WpC.draw hp (WpDs.draw L l' _ _ hl h.go)
    ·cases hc
   ·repeat' split at hc
    all_goals cases hc
 | _ => cases hc
theorem WpC.tie {id : Nat} {ops : Array Oper} {t : Tie} (hp : plan ops Option.none = Option.none) (ht : tieOf ops = some t) (h : WpD P W prim ops t.ms (t.M ++ (t.A ++ t.B)) [] st fun st1 => tieB st1.env t.pa t.pb = true ∧ WpD P W prim ops t.ms [t.a, t.b] [] st1 fun st' => Q .norm st') : WpC P W prim r (.region id ops true) st Q := by
 obtain ⟨st1, e1, hb, st2, e2, q⟩ := h
 refine ⟨.norm, st2, Ev.code ((e1.bind e2 (k := fun ih => doDraw P W ih ops st) fun ih hh => ?_).bind (g := fun _ => some (.norm, st2)) (.now fun _ => rfl) (k := fun ih => match doDraw P W ih ops st with | some st' => some (.norm, st') | Option.none => Option.none) fun ih h => ?_) fun _ _ => rfl, q⟩
 ·simp only [doDraw, hp, ht, hh, hb, if_true]
 ·rw [h]
theorem isStore_op {ops : Array Oper} {i : Nat} {pa : Operand} (h : isStore ops i = some pa) {o : Oper} (ho : ops[i]? = some o) : o.guard = Option.none ∧ cls o.op = 0 := by
 unfold isStore at h
 rw [ho] at h
 obtain ⟨a, b, c, d, e, f⟩ := o
 simp only at h ⊢
 split at h
 ·exact ⟨rfl, rfl⟩
 ·cases h
theorem WpX.draw2 {l : List (Nat × RO)} {ms : List Nat} {pa pb : Operand} {l2 : List RO} (h : WpDs P W prim ms l [] (fun st1 => Ex.norm = Ex.norm ∧ tieB st1.env pa pb = true ∧ WpRs P W prim l2 (Q .norm) st1) st) : WpX P W prim r (.draw2 l ms pa pb l2) Q st := .mk fun c hc => by
 cases c with
 | region i ops dr =>
  cases dr
  ·cases hc
  ·simp only [rc] at hc
   split at hc
   ·repeat' split at hc
    all_goals cases hc
   ·rename_i hp
    split at hc
    ·rename_i t ht
     split at hc
     ·rename_i l' oa ob hl hoa hob
      injection hc with e1 e2 e3 e4 e5; subst e1; subst e2; subst e3; subst e4; subst e5
      have T := tie_spec ht
      obtain ⟨ga, ca⟩ := isStore_op T.sa hoa
      obtain ⟨gb, cb⟩ := isStore_op T.sb hob
      refine WpC.tie hp ht ?_
      have key := WpDs.draw (t.M ++ (t.A ++ t.B)) l' [] st hl h.go
      obtain ⟨st1, e1, _, hb, k⟩ := key
      refine ⟨st1, e1, hb, ?_⟩
      have k := k.go
      simp only [WpRs0] at k
      have ra : rg (ro ops oa) st1.env = true := by simp only [rg, ro, ga]
      refine WpD.write hoa (by rw [rg_eq]; exact ra) ca (WpO.mono (k.1 ra) fun v h' k => ?_)
      have rb : ∀ env, rg (ro ops ob) env = true := fun env => by simp only [rg, ro, gb]
      refine WpD.write hob (by rw [rg_eq]; exact rb _) cb (WpO.mono (k.1 (rb _)) fun v h' k => ?_)
      exact WpD.nil k
     ·cases hc
    ·cases hc
 | _ => cases hc
structure WpLX (P : Program) (W : World) (prim : FuncId → Option (List V → H → Option (V × H))) (r : Option Nat) (x : RC) (Q : Ex → St → Prop) (st : St) : Prop where
 go : ∀ c, rc c = x → WpL P W prim r c st Q
theorem WpLX.step {x : RC} (h : WpX P W prim r x (thenQ (WpLX P W prim r x Q) Q) st) : WpLX P W prim r x Q st := .mk fun c hc =>
 WpL.step ((h.go c hc).mono fun e s q => by
  cases e with
  | norm => exact q.go c hc
  | ret => exact q
  | exit i => exact q)
theorem WpX.loop {b : RC} (h : WpLX P W prim r b Q st) : WpX P W prim r (.loop b) Q st := .mk fun c hc => by
 cases c with
 | loop x => injection hc with e1; exact WpC.loop (h.go x e1)
 | region i ops dr =>
  cases dr
  ·cases hc
  ·simp only [rc] at hc
   repeat' split at hc
   all_goals cases hc
 | _ => cases hc
theorem WpRs.val {o : RO} {os : List RO} {K : St → Prop} {env : List V} {ds : List Nat} {h h' : H} {v : V} (hg : rg o env = true) (hs : opStep P W o.op env h = .val v h') (k : WpRs P W prim os K (putTmp o.dst v ⟨env, ds, h'⟩)) : WpRs P W prim (o :: os) K ⟨env, ds, h⟩ := by
 refine .mk ?_
 simp only [WpRs0]
 refine ⟨fun _ => ?_, fun h => by rw [hg] at h; cases h⟩
 unfold WpO
 rw [hs]
 exact k.go
theorem WpRs.idle {o : RO} {os : List RO} {K : St → Prop} {env : List V} {ds : List Nat} {h : H} (hg : rg o env = false) (k : WpRs P W prim os K (putTmp o.dst .undef ⟨env, ds, h⟩)) : WpRs P W prim (o :: os) K ⟨env, ds, h⟩ := by
 refine .mk ?_
 simp only [WpRs0]
 exact ⟨fun h => (by rw [hg] at h; cases h), fun _ => k.go⟩
theorem WpRs.call {o : RO} {os : List RO} {K : St → Prop} {env : List V} {ds : List Nat} {h : H} {f : FuncId} {args : List V} (hg : rg o env = true) (hs : opStep P W o.op env h = .call f args) (k : WpF P W prim f args h fun v h' => WpRs P W prim os K (putTmp o.dst v ⟨env, ds, h'⟩)) : WpRs P W prim (o :: os) K ⟨env, ds, h⟩ := by
 refine .mk ?_
 simp only [WpRs0]
 refine ⟨fun _ => ?_, fun h => by rw [hg] at h; cases h⟩
 unfold WpO
 rw [hs]
 exact k.mono fun v h' q => q.go
theorem WpRs.done {K : St → Prop} (k : K st) : WpRs P W prim [] K st := ⟨k⟩
theorem WpDs.val {ms : List Nat} {sn : List (Nat × H)} {i : Nat} {o : RO} {os : List (Nat × RO)} {K : St → Prop} {env : List V} {ds : List Nat} {h h' : H} {v : V} (hg : rg o env = true) (hc : (cls o.op == 0) = false) (hs : opStep P W o.op env h = .val v h') (hq : sameAt P W o.op env v ms i sn = true) (k : WpDs P W prim ms os sn K (putTmp o.dst v ⟨env, ds, h'⟩)) : WpDs P W prim ms ((i, o) :: os) sn K ⟨env, ds, h⟩ := by
 refine .mk ?_
 simp only [WpDs0]
 refine ⟨fun _ => ⟨fun h0 => (by rw [h0] at hc; cases hc), fun _ => ⟨v, h', hs, hq, k.go⟩⟩, fun h => by rw [hg] at h; cases h⟩
theorem WpDs.write {ms : List Nat} {sn : List (Nat × H)} {i : Nat} {o : RO} {os : List (Nat × RO)} {K : St → Prop} {env : List V} {ds : List Nat} {h h' : H} {v : V} (hg : rg o env = true) (hc : cls o.op = 0) (hs : opStep P W o.op env h = .val v h') (k : WpDs P W prim ms os ((i, h) :: sn) K (putTmp o.dst v ⟨env, ds, h'⟩)) : WpDs P W prim ms ((i, o) :: os) sn K ⟨env, ds, h⟩ := by
 refine .mk ?_
 simp only [WpDs0]
 refine ⟨fun _ => ⟨fun _ => ?_, fun h0 => absurd hc h0⟩, fun h => by rw [hg] at h; cases h⟩
 unfold WpO
 rw [hs]
 exact k.go
theorem WpDs.call {ms : List Nat} {sn : List (Nat × H)} {i : Nat} {o : RO} {os : List (Nat × RO)} {K : St → Prop} {env : List V} {ds : List Nat} {h : H} {f : FuncId} {args : List V} (hg : rg o env = true) (hc : cls o.op = 0) (hs : opStep P W o.op env h = .call f args) (k : WpF P W prim f args h fun v h' => WpDs P W prim ms os ((i, h) :: sn) K (putTmp o.dst v ⟨env, ds, h'⟩)) : WpDs P W prim ms ((i, o) :: os) sn K ⟨env, ds, h⟩ := by
 refine .mk ?_
 simp only [WpDs0]
 refine ⟨fun _ => ⟨fun _ => ?_, fun h0 => absurd hc h0⟩, fun h => by rw [hg] at h; cases h⟩
 unfold WpO
 rw [hs]
 exact k.mono fun v h' q => q.go
theorem WpDs.idle {ms : List Nat} {sn : List (Nat × H)} {i : Nat} {o : RO} {os : List (Nat × RO)} {K : St → Prop} {env : List V} {ds : List Nat} {h : H} (hg : rg o env = false) (k : WpDs P W prim ms os sn K (putTmp o.dst .undef ⟨env, ds, h⟩)) : WpDs P W prim ms ((i, o) :: os) sn K ⟨env, ds, h⟩ := by
 refine .mk ?_
 simp only [WpDs0]
 exact ⟨fun h => (by rw [hg] at h; cases h), fun _ => k.go⟩
theorem WpDs.done {ms : List Nat} {sn : List (Nat × H)} {K : St → Prop} (k : K st) : WpDs P W prim ms [] sn K st := ⟨k⟩
end
end Go.Proofs.YtkhjmgchlbnkjaaDoor.Dg
