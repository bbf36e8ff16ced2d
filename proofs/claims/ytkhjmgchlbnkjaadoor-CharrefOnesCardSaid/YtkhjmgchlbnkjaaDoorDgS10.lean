import Derived.Test.YtkhjmgchlbnkjaaDoorDgS9
import Derived.RangeFuncLeaves
import Derived.RangeFuncRecord
import Derived.RangeFuncCalls
import Derived.RangeFuncNested
import Derived.OrdersIn
set_option linter.unusedVariables false
set_option linter.unusedSimpArgs false
namespace Go.Proofs.YtkhjmgchlbnkjaaDoor.Dg
open Go Go.RowKit
def Wd (r : Option Nat) : Fence := { fn := fun _ => True, depth := none, alive := false, round := r }
theorem Wd_wide : Wd none = Fence.wide := rfl
theorem Wd_in (r : Option Nat) (l : Nat) : (Wd r).inRound l = Wd (some l) := rfl
theorem callsIn_Wd {r r' : Option Nat} {n : Nat} {P : Program} {f : FuncId} {args : Array Value} {w : World} {R : Ending → World → Prop} (h : CallsIn (Wd r) n P f args w R) : CallsIn (Wd r') n P f args w R := h
def Ex.to : Ex → Exit
 | .norm => .normal
 | .ret => .ret
 | .exit id => .exit id
def DR (μ : Mu) : List Nat → List Deferred → Prop
 | [], ds => ds = []
 | d :: l, ds => ∃ k ds', μ d = some k ∧ ds = { target := .collected k.b, args := #[] } :: ds' ∧ DR μ l ds'
theorem DR.mono {μ μ' : Mu} (h : μ.le μ') : ∀ {l : List Nat} {ds : List Deferred}, DR μ l ds → DR μ' l ds
 | [], _, e => e
 | _ :: _, _, ⟨k, ds', h1, h2, h3⟩ => ⟨k, ds', h _ _ h1, h2, h3.mono h⟩
structure AOK (μ : Mu) (env : List V) (ds : List Nat) (a : Act) : Prop where
 env : VRL μ env a.tmps.toList
 ds : DR μ ds a.defers
theorem AOK.mono {μ μ' : Mu} (h : μ.le μ') {env : List V} {ds : List Nat} {a : Act} (k : AOK μ env ds a) : AOK μ' env ds a := ⟨k.env.mono h, k.ds.mono h⟩
def RR (μ : Mu) : Option Nat → Option Nat → Prop
 | none, r => r = none
 | some l, r => ∃ k, μ l = some k ∧ r = some k.b
theorem RR.mono {μ μ' : Mu} (h : μ.le μ') : ∀ {l r : Option Nat}, RR μ l r → RR μ' l r
 | none, _, e => e
 | some _, _, ⟨k, h1, h2⟩ => ⟨k, h _ _ h1, h2⟩
structure IHOK (P : Program) (W : World) (ih : IH) : Prop where
 code : ∀ (r : Option Nat) (c : Code) (st : St) (ex : Ex) (st' : St), ih.code r c st = some (ex, st') → ∀ (μ : Mu) (w : World) (a : Act) (rr : Option Nat) (Q : Exit → Act → World → Prop),
  RR μ r rr → HR P W μ st.h w → AOK μ st.env st.ds a → (∀ μ' w' a', Go1 P W μ st.h w μ' st'.h w' → AOK μ' st'.env st'.ds a' → Q ex.to a' w') → c.wpIn (Wd rr) 0 P Q a w
 call : ∀ (f : FuncId) (args : List V) (h : H) (v : V) (h' : H), ih.call f args h = some (v, h') → ∀ (μ : Mu) (w : World) (args' : Array Value), HR P W μ h w → VRL μ args args'.toList →
  CallsIn (Wd none) 0 P f args' w (fun e w' => ∃ μ' x, e = .returned x ∧ VR μ' v x ∧ Go1 P W μ h w μ' h' w')
 body : ∀ (f : FuncId) (args : List V) (h : H) (v : V) (h' : H), ih.call f args h = some (v, h') → ∃ fn c, P.funcs[f]? = some fn ∧ fn.body = some c ∧ fn.name ≠ "runtime.NumGoroutine"
section
variable {P : Program} {W : World} {ih : IH}
theorem setTmps_spec {μ : Mu} : ∀ (ts : List Tmp) (vs : List V) (xs : List Value) (env : List V) (c : Array Value), VRL μ env c.toList → VRL μ vs xs → ts.length = vs.length →
  VRL μ (setTmps env (ts.zip vs)) ((ts.zip xs).foldl (fun t (p, v) => t.setIfInBounds p v) c).toList
 | [], vs, xs, env, c, he, hv, hl => by simpa [setTmps] using he
 | t :: ts, [], xs, env, c, he, hv, hl => by simp at hl
 | t :: ts, v :: vs, xs, env, c, he, hv, hl => by
  simp only [VRL] at hv
  obtain ⟨x, xs', rfl, h1, h2⟩ := hv
  simp only [List.zip_cons_cons, setTmps, List.foldl_cons]
  refine setTmps_spec ts vs xs' _ _ ?_ h2 (by simpa using hl)
  simpa using he.set t h1
theorem go1_setObj {μ : Mu} {h : H} {w : World} (hr : HR P W μ h w) {i : Nat} {o : AO} {k : Bk} {o0 : Obj} (hi : h.get i = some o) (hk : μ i = some k) (hb : w.heap[k.b]? = some o0) (o2 : AO) (o' : Obj) (ho : OR P μ o2 k o') :
  Go1 P W μ h w μ (h.put i (some o2)) (w.putObj k.b o') := Go1.setObj hr hi hk hb o2 o' ho
theorem loop_of {μ : Mu} {h : H} {w : World} (hr : HR P W μ h w) {l : Nat} {k : Bk} {tmps : List V} {ps : Array Tmp} {assign body : Code} {s : LoopState} {pd : Option Code} {d : Nat} (hg : h.get l = some (.loop tmps ps assign body s pd d)) (hk : μ l = some k) :
  ∃ fn tm kd, w.heap[k.b]? = some (.loop ⟨s, pd, fn, tm, ps, assign, body, kd.b⟩) ∧ VRL μ tmps tm.toList ∧ μ d = some kd := by
 obtain ⟨k', hk', _, o', ho', fn, tm, kd, rfl, h1, h2⟩ := hr.obj l _ hg
 rw [hk] at hk'; injection hk' with hk'; subst hk'
 exact ⟨fn, tm, kd, ho', h1, h2⟩
theorem round_ok (H0 : IHOK P W ih) {l : Nat} {args : List V} {h : H} {v : V} {h' : H} (hs : doRound ih l args h = some (v, h')) {μ : Mu} {w : World} {k : Bk} {args' : Array Value} (hr : HR P W μ h w) (hk : μ l = some k) (ha : VRL μ args args'.toList) (rr : Option Nat) :
  ∃ fn tmps assign body, (Instr.yield k.b args').run P w = .ok (.round k.b fn tmps assign body) w ∧
   RoundIn (Wd rr) 0 P k.b fn tmps assign body w (fun e w' => ∃ μ' x, e = .returned x ∧ VR μ' v x ∧ Go1 P W μ h w μ' h' w') := by
 unfold doRound at hs
 split at hs
 ·rename_i tmps ps assign body pd d hg
  split at hs
  ·rename_i hlen
   obtain ⟨fn, tm, kd, hL, htm, hkd⟩ := loop_of hr hg hk
   have hsz : args'.size = ps.size := by have := ha.length; simp at this; omega
   refine ⟨fn, _, assign, body, run_yield hL hsz, ?_⟩
   refine roundIn_of_wpIn trivial ?_
   rw [Wd_in]
   split at hs
   ·rename_i st hst
    split at hs
    ·rename_i tmps' ps' assign' body' pd' d' hds hg1
     split at hs
     ·rename_i ex st2 hst2
      have hA : AOK μ (setTmps tmps (ps.toList.zip args)) [] ⟨(ps.zip args').foldl (fun t (p, v) => t.setIfInBounds p v) tm, []⟩ := by
       refine ⟨?_, rfl⟩
       have := setTmps_spec ps.toList args args'.toList tmps tm htm ha (by simpa using hlen.symm)
       have e : (ps.zip args').foldl (fun t (p, v) => t.setIfInBounds p v) tm = (ps.toList.zip args'.toList).foldl (fun t (p, v) => t.setIfInBounds p v) tm := by
        rw [← Array.foldl_toList, Array.toList_zip]
       rw [e]; exact this
      refine H0.code (some l) assign _ .norm st hst μ w _ (some k.b) _ ⟨k, hk, rfl⟩ hr hA ?_
      intro μ1 w1 a1 g1 hA1
      have hk1 : μ1 l = some k := g1.mono _ _ hk
      obtain ⟨fn1, tm1, kd1, hL1, htm1, hkd1⟩ := loop_of g1.hr hg1 hk1
      have g2 := go1_setObj g1.hr hg1 hk1 hL1 (.loop tmps' ps' assign' body' .busy pd' d') (.loop ⟨.busy, pd', fn1, tm1, ps', assign', body', kd1.b⟩) ⟨fn1, tm1, kd1, rfl, htm1, hkd1⟩
      refine ⟨_, run_beginRound hL1 rfl, ?_⟩
      have hds0 : a1.defers = [] := by
       have := hA1.ds
       rw [hds] at this
       exact this
      have hA2 : AOK μ1 st.env st.ds a1 := hA1
      refine H0.code (some l) body { st with h := st.h.put l (some (.loop tmps' ps' assign' body' .busy pd' d')) } ex st2 hst2 μ1 _ a1 (some k.b) _ ⟨k, hk1, rfl⟩ g2.hr hA2 ?_
      intro μ3 w3 a3 g3 hA3
      have hk3 : μ3 l = some k := g3.mono _ _ hk1
      split at hs
      ·rename_i ta tb tc te tp tg hds2 hg3
       obtain ⟨fn3, tm3, kd3, hL3, htm3, hkd3⟩ := loop_of g3.hr hg3 hk3
       have fin : ∀ (s : LoopState) (pp : Option Code), Go1 P W μ3 st2.h w3 μ3 (st2.h.put l (some (.loop ta tb tc te s pp tg))) (w3.putObj k.b (.loop ⟨s, pp, fn3, tm3, tb, tc, te, kd3.b⟩)) := fun s pp =>
        go1_setObj g3.hr hg3 hk3 hL3 (.loop ta tb tc te s pp tg) (.loop ⟨s, pp, fn3, tm3, tb, tc, te, kd3.b⟩) ⟨fn3, tm3, kd3, rfl, htm3, hkd3⟩
       have all := g1.trans (g2.trans g3)
       split at hs
       ·injection hs with hs
        injection hs with e1 e2
        subst e1; subst e2
        exact ⟨_, _, run_endRound none hL3, μ3, _, rfl, VR.mk_bool _, all.trans (fin .ready none)⟩
       ·injection hs with hs
        injection hs with e1 e2
        subst e1; subst e2
        exact ⟨_, _, run_endRound (some .ret) hL3, μ3, _, rfl, VR.mk_bool _, all.trans (fin .done (some .ret))⟩
       ·rename_i id
        injection hs with hs
        injection hs with e1 e2
        subst e1; subst e2
        exact ⟨_, _, run_endRound (some (.exit id)) hL3, μ3, _, rfl, VR.mk_bool _, all.trans (fin .done (some (.exit id)))⟩
      ·cases hs
     ·cases hs
    ·cases hs
   ·cases hs
  ·cases hs
 ·cases hs
theorem opStep_noDefer {o : Op} {env : List V} {h : H} (hs : opStep P W o env h ≠ .bad) : ∀ c, o ≠ .defer c := fun c e => by
 subst e
 exact hs rfl
theorem op_wpIn (H0 : IHOK P W ih) {o : Oper} {env : List V} {h : H} {v : V} {h' : H} (hs : runOp P W ih o.op env h = some (v, h')) {μ : Mu} {w : World} {a : Act} (rr : Option Nat) (hr : HR P W μ h w) (he : VRL μ env a.tmps.toList) (b : Act) (hb : execOp b.eval o = execOp a.eval o)
  {K : Act → World → Prop} {Q : Exit → Act → World → Prop} (hK : ∀ μ' w' x, VR μ' v x → Go1 P W μ h w μ' h' w' → K (b.put o.dst x) w') : o.wpIn (Wd rr) 0 P b w K Q := by
 refine ⟨fun _ _ => trivial, ?_⟩
 unfold runOp at hs
 split at hs
 ·rename_i u h2 hop
  injection hs with hs
  injection hs with e1 e2
  subst e1; subst e2
  have hnd : ∀ c, o.op ≠ .defer c := opStep_noDefer (P := P) (W := W) (env := env) (h := h) (by rw [hop]; simp)
  rw [Oper.semAt_eq (Wd rr).round b.eval o hnd, hb]
  obtain ⟨μ', w', r, x, hrun, hrx, hv, hg⟩ := op_val hr he hop
  rw [hrun]
  rcases hrx with rfl | ⟨rfl, rfl⟩
  ·exact hK μ' w' x hv hg
  ·exact hK μ' w' undef hv hg
 ·rename_i f args hop
  have hnd : ∀ c, o.op ≠ .defer c := opStep_noDefer (P := P) (W := W) (env := env) (h := h) (by rw [hop]; simp)
  rw [Oper.semAt_eq (Wd rr).round b.eval o hnd, hb]
  obtain ⟨fn, c, hf, hbd, hn⟩ := H0.body f args h v h' hs
  obtain ⟨args', hrun, hv⟩ := op_call hr he hop hf hbd hn
  rw [hrun]
  refine ⟨fun e => (by cases e), ?_⟩
  refine (callsIn_Wd (H0.call f args h v h' hs μ w args' hr hv)).mono ?_
  rintro e w' ⟨μ', x, rfl, hv', hg⟩
  exact hK μ' w' x hv' hg
 ·rename_i l args hop
  have hnd : ∀ c, o.op ≠ .defer c := opStep_noDefer (P := P) (W := W) (env := env) (h := h) (by rw [hop]; simp)
  rw [Oper.semAt_eq (Wd rr).round b.eval o hnd, hb]
  obtain ⟨k, args', hk, hv, hrun⟩ := op_round hr he hop
  obtain ⟨fn, tmps, assign, body, hy, hR⟩ := round_ok H0 hs hr hk hv rr
  rw [hrun, hy]
  refine ⟨fun e => (by cases e), ?_⟩
  refine hR.mono ?_
  rintro e w' ⟨μ', x, rfl, hv', hg⟩
  exact hK μ' w' x hv' hg
 ·cases hs
theorem VR.bool_iff {μ : Mu} {v : V} {x : Value} (h : VR μ v x) (b : Bool) : v = .bool b ↔ x = .bool b := by
 constructor
 ·rintro rfl; exact h.bool_of
 ·rintro rfl
  cases v with
  | bool c => have := h.bool_of; injection this with this; rw [this]
  | ptr a => cases a <;> simp [VR] at h
  | slice a _ _ _ => cases a <;> simp [VR] at h
  | map a => cases a <;> simp [VR] at h
  | _ => simp [VR] at h
theorem guard_eq {μ : Mu} {env : List V} {a : Act} (he : VRL μ env a.tmps.toList) (ops : Array Oper) (o : Oper) : Region.wanted o (yielded ops a.tmps) = guardOk ops o env := by
 unfold Region.wanted guardOk yielded
 cases hg : o.guard with
 | none => rfl
 | some jw =>
  obtain ⟨j, want⟩ := jw
  simp only
  cases ht : (ops[j]?).bind (·.dst) with
  | none => rfl
  | some t =>
   simp only [Option.bind_some]
   cases hv : env[t]? with
   | none =>
    have : a.tmps[t]? = none := by have := he.get_none hv; simpa using this
    rw [this]; rfl
   | some v =>
    obtain ⟨x, hx, hvx⟩ := he.get hv
    have hx' : a.tmps[t]? = some x := by simpa using hx
    rw [hx']
    cases v with
    | bool b => rw [hvx.bool_of]; rfl
    | _ =>
     have hne : ∀ b, x ≠ .bool b := fun b e => by have := (hvx.bool_iff b).2 e; cases this
     cases x <;> first | rfl | exact absurd rfl (hne _)
theorem AOK.put {μ : Mu} {env : List V} {ds : List Nat} {a : Act} {h h' : H} (k : AOK μ env ds a) {v : V} {x : Value} (hv : VR μ v x) (dst : Option Tmp) :
  AOK μ (putTmp dst v ⟨env, ds, h⟩).env ds (a.put dst x) := by
 cases dst with
 | none => exact k
 | some d => exact ⟨by simpa [putTmp, Act.put] using k.env.set d hv, k.ds⟩
theorem putTmp_h (dst : Option Tmp) (v : V) (st : St) : (putTmp dst v st).h = st.h := by cases dst <;> rfl
theorem putTmp_ds (dst : Option Tmp) (v : V) (st : St) : (putTmp dst v st).ds = st.ds := by cases dst <;> rfl
theorem ops_wpIn (H0 : IHOK P W ih) (ops : Array Oper) (rr : Option Nat) {Q : Exit → Act → World → Prop} : ∀ (os : List Oper) (is : List Nat) (st st' : St), is.map (ops[·]?) = os.map some → doOps P W ih ops os st = some st' →
  ∀ (μ : Mu) (w : World) (a : Act), HR P W μ st.h w → AOK μ st.env st.ds a → (∀ μ' w' a', Go1 P W μ st.h w μ' st'.h w' → AOK μ' st'.env st'.ds a' → Q .normal a' w') → wpOpsIn (Wd rr) 0 P ops Q is a w
 | [], is, st, st', hi, hs, μ, w, a, hr, ha, hQ => by
  have : is = [] := by simpa using hi
  subst this
  simp only [doOps] at hs; injection hs with hs; subst hs
  exact hQ μ w a (Go1.refl hr) ha
 | o :: os, is, st, st', hi, hs, μ, w, a, hr, ha, hQ => by
  cases is with
  | nil => simp at hi
  | cons i is =>
   simp only [List.map_cons, List.cons.injEq] at hi
   obtain ⟨hi1, hi2⟩ := hi
   simp only [doOps] at hs
   split at hs
   ·rename_i st1 hst1
    rw [wpOpsIn_cons]
    unfold wpOpIn
    simp only [hi1]
    rw [guard_eq ha.env ops o]
    unfold doOp at hst1
    split at hst1
    ·rename_i hg
     rw [if_pos hg]
     split at hst1
     ·rename_i v h1 hrun
      injection hst1 with hst1
      refine op_wpIn H0 hrun rr hr ha.env a rfl ?_
      intro μ1 w1 x hv g1
      have ha1 : AOK μ1 st1.env st1.ds (a.put o.dst x) := by
       rw [← hst1, putTmp_ds]
       exact AOK.put (h := h1) (h' := h1) (ha.mono g1.mono) hv o.dst
      have hh : st1.h = h1 := by rw [← hst1, putTmp_h]
      refine ops_wpIn H0 ops rr os is st1 st' hi2 hs μ1 w1 _ (by rw [hh]; exact g1.hr) ha1 ?_
      intro μ2 w2 a2 g2 ha2
      exact hQ μ2 w2 a2 (g1.trans (by rw [← hh]; exact g2)) ha2
     ·cases hst1
    ·rename_i hg
     rw [if_neg hg]
     injection hst1 with hst1
     refine ⟨fun _ _ => trivial, ?_⟩
     have ha1 : AOK μ st1.env st1.ds (a.put o.dst undef) := by
      rw [← hst1, putTmp_ds]
      exact AOK.put (h := st.h) (h' := st.h) ha (VR.undef μ) o.dst
     have hh : st1.h = st.h := by rw [← hst1, putTmp_h]
     refine ops_wpIn H0 ops rr os is st1 st' hi2 hs μ w _ (by rw [hh]; exact hr) ha1 ?_
     intro μ2 w2 a2 g2 ha2
     exact hQ μ2 w2 a2 (by rw [← hh]; exact g2) ha2
   ·cases hs
end
end Go.Proofs.YtkhjmgchlbnkjaaDoor.Dg
