import Derived.Test.YtkhjmgchlbnkjaaDoorDgS10
set_option linter.unusedVariables false
set_option linter.unusedSimpArgs false
namespace Go.Proofs.YtkhjmgchlbnkjaaDoor.Dg
open Go Go.RowKit
section
variable {P : Program} {W : World}
theorem evL_congr {env env' : List V} : ∀ (xs : List Operand), (∀ x ∈ xs, ev env x = ev env' x) → evL env xs = evL env' xs
  | [], _ => rfl
  | x :: xs, h => by
    simp only [evL, h x (by simp), evL_congr xs fun y hy => h y (by simp [hy])]
theorem evP_congr {env env' : List V} : ∀ (xs : List (Nat × Operand)), (∀ x ∈ xs, ev env x.2 = ev env' x.2) → evP env xs = evP env' xs
  | [], _ => rfl
  | (i, x) :: xs, h => by
    simp only [evP, h (i, x) (by simp), evP_congr xs fun y hy => h y (by simp [hy])]
theorem opStep_congr {env env' : List V} (o : Op) (h : H) (hx : ∀ x ∈ o.operands, ev env x = ev env' x) : opStep P W o env h = opStep P W o env' h := by
  cases o <;> simp only [Op.operands] at hx <;> simp only [opStep]
  case build t ps => rw [evP_congr ps.toList fun x hm => hx x.2 (by simpa using ⟨x.1, by simpa using hm⟩)]
  case buildSlice t n ps => rw [evP_congr ps.toList fun x hm => hx x.2 (by simpa using ⟨x.1, by simpa using hm⟩)]
  case makeFunc fn first captured => rw [evL_congr captured.toList fun x hm => hx x (by simp at hm; simp [hm])]
  case call c =>
    have ha : evL env c.args.toList = evL env' c.args.toList := evL_congr _ fun x hm => hx x (by simp at hm; simp [Call.operands, hm])
    cases hc : c.callee with
    | value f => have hf : ev env f = ev env' f := hx f (by simp [Call.operands, hc]); simp only [ha, hf]
    | invoke r m => rfl
    | builtin b => simp only [ha]
  case pick c a b =>
    simp only [hx c (by simp), hx a (by simp), hx b (by simp)]
    cases ev env' c with
    | none => rfl
    | some u => cases u <;> first | rfl | (rename_i t; cases t <;> simp only [if_true, if_false, Bool.false_eq_true, hx a (by simp), hx b (by simp)])
  case slice t x lo hi mx => cases lo <;> cases hi <;> cases mx <;> simp_all [evO]
  all_goals (first | rfl | (simp_all; done))
theorem reads_congr {env env' : List V} (o : Op) (hx : ∀ x ∈ o.operands, ev env x = ev env' x) : reads env o = reads env' o := by
  cases o <;> simp only [Op.operands] at hx <;> simp only [reads]
  case call c =>
    have ha : evL env c.args.toList = evL env' c.args.toList := evL_congr _ fun x hm => hx x (by simp at hm; simp [Call.operands, hm])
    rw [ha]
  case load t a => rw [hx a (by simp)]
theorem Res.pure_some {h h' : H} {r : Option V} {v : V} (e : Res.pure h r = .val v h') : r = some v ∧ h' = h := by
  cases r with
  | none => cases e
  | some u => simp only [Res.pure] at e; injection e with e1 e2; exact ⟨by rw [e1], e2.symm⟩
theorem pure_step {o : Op} {env : List V} {h h' : H} {v : V} (hc : cls o = 1) (hr : reads env o = none) (hs : opStep P W o env h = .val v h') : h' = h ∧ ∀ h2, opStep P W o env h2 = .val v h2 := by
  have pv : ∀ (r : Option V), Res.pure h r = .val v h' → h' = h ∧ ∀ h2, Res.pure h2 r = .val v h2 := fun r e => by
    obtain ⟨rfl, rfl⟩ := Res.pure_some e
    exact ⟨rfl, fun _ => rfl⟩
  have vv : ∀ (u : V), Res.val u h = .val v h' → h' = h ∧ ∀ h2, Res.val u h2 = .val v h2 := fun u e => by
    injection e with e1 e2; subst e1; subst e2
    exact ⟨rfl, fun _ => rfl⟩
  cases o <;> simp only [cls] at hc <;> try (cases hc; done)
  case call c =>
    simp only [opStep] at hs ⊢
    split at hs
    · simp_all
    · rename_i b hb
      split at hs
      · rename_i args ha
        simp only [reads, ha] at hr
        simp only [hb, ha] at hc ⊢
        unfold builtinOp at hs ⊢
        split at hs <;> try (simp at hc; done)
        · split at hs
          · exact vv _ hs
          · exact vv _ hs
          · exact vv _ hs
          · exact vv _ hs
          · simp at hr
          · cases hs
        · split at hs
          · exact vv _ hs
          · cases hs
        · exact vv _ hs
        · exact vv _ hs
        · cases hs
      · cases hs
    · cases hs
  all_goals
    simp only [opStep] at hs ⊢
    repeat' split at hs
    all_goals first
      | (cases hs; done)
      | exact pv _ hs
      | exact vv _ hs
      | (rename_i ht; simp only [ht, if_true]; exact pv _ hs)
      | (rename_i ht; simp only [ht, if_false]; exact pv _ hs)
      | (rename_i ht; simp only [if_pos ht]; exact vv _ hs)
      | (rename_i ht; simp only [if_pos ht]; exact pv _ hs)
      | (rename_i ht _ _ _; simp only [if_pos ht]; exact vv _ hs)
      | (rename_i ht _ _; simp only [if_pos ht]; exact vv _ hs)
theorem buildSlice_step {t : TypeId} {n : Nat} {ps : List (Nat × V)} {h h' : H} {v : V} (hs : buildSlice P t n ps h = some (v, h')) :
    ∃ (ob : AO) (f : Nat → V), h' = h.alloc ob ∧ v = f h.nx ∧ ∀ h2, buildSlice P t n ps h2 = some (f h2.nx, h2.alloc ob) := by
  unfold buildSlice at hs ⊢
  repeat' split at hs
  all_goals first
    | (cases hs; done)
    | (injection hs with hs; injection hs with e1 e2; subst e1; subst e2
       exact ⟨_, fun i => .slice (some (.new i 0)) _ _ true, rfl, rfl, fun h2 => by simp [*]⟩)
theorem makeSlice_step {t : TypeId} {l c : V} {h h' : H} {v : V} (hs : makeSlice P t l c h = some (v, h')) :
    ∃ (ob : AO) (f : Nat → V), h' = h.alloc ob ∧ v = f h.nx ∧ ∀ h2, makeSlice P t l c h2 = some (f h2.nx, h2.alloc ob) := by
  unfold makeSlice at hs ⊢
  repeat' split at hs
  all_goals first
    | (cases hs; done)
    | (injection hs with hs; injection hs with e1 e2; subst e1; subst e2
       exact ⟨_, fun i => .slice (some (.new i 0)) _ _ true, rfl, rfl, fun h2 => by simp [*]⟩)
theorem alloc_step {o : Op} {env : List V} {h h' : H} {v : V} (hc : cls o = 3) (hs : opStep P W o env h = .val v h') :
    ∃ (ob : AO) (f : Nat → V), h' = h.alloc ob ∧ v = f h.nx ∧ ∀ h2, opStep P W o env h2 = .val (f h2.nx) (h2.alloc ob) := by
  cases o <;> simp only [cls] at hc <;> try (cases hc; done)
  case call c => split at hc <;> cases hc
  case alloc e =>
    simp only [opStep] at hs ⊢
    split at hs
    · split at hs
      · rename_i hh
        injection hs with e1 e2; subst e1; subst e2
        exact ⟨_, fun i => .ptr (some (.new i 0)), rfl, rfl, fun h2 => by simp only [if_pos hh]⟩
      · cases hs
    · cases hs
  case box e x =>
    simp only [opStep] at hs ⊢
    split at hs
    · split at hs
      · rename_i hh
        split at hs
        · rename_i hh2
          injection hs with e1 e2; subst e1; subst e2
          exact ⟨_, fun i => .ptr (some (.new i 0)), rfl, rfl, fun h2 => by simp only [if_pos hh, if_pos hh2]⟩
        · cases hs
      · cases hs
    · cases hs
  case buildSlice t n ps =>
    simp only [opStep] at hs ⊢
    split at hs
    · obtain ⟨ob, f, h1, h2, h3⟩ := buildSlice_step (Res.of_val hs)
      exact ⟨ob, f, h1, h2, fun h4 => by rw [h3]; rfl⟩
    · cases hs
  case makeSlice t l c =>
    simp only [opStep] at hs ⊢
    split at hs
    · obtain ⟨ob, f, h1, h2, h3⟩ := makeSlice_step (Res.of_val hs)
      exact ⟨ob, f, h1, h2, fun h4 => by rw [h3]; rfl⟩
    · cases hs
theorem ldVar_new {t : TypeId} {i off : Nat} {h h2 : H} (e : h2.get i = h.get i) : ldVar P W h2 t (.new i off) = ldVar P W h t (.new i off) := by
  simp only [ldVar, ldCells, e]
theorem ldVar_old {t : TypeId} {i off : Nat} {h h2 : H} : ldVar P W h2 t (.old i off) = ldVar P W h t (.old i off) := by
  simp only [ldVar, ldCells]
theorem load_step {o : Op} {env : List V} {h h' : H} {v : V} (hc : cls o = 2) (hs : opStep P W o env h = .val v h') :
    h' = h ∧ ∀ h2 : H, (∀ id, reads env o = some id → h2.get id = h.get id) → opStep P W o env h2 = .val v h2 := by
  cases o <;> simp only [cls] at hc <;> try (cases hc; done)
  case call c => split at hc <;> cases hc
  case load t a =>
    simp only [opStep] at hs ⊢
    split at hs
    · rename_i ad had
      obtain ⟨e, rfl⟩ := Res.pure_some hs
      refine ⟨rfl, fun h2 hr => ?_⟩
      cases ad with
      | old b off => rw [ldVar_old (h := h')]; rw [e]; rfl
      | new i off => rw [ldVar_new (h := h') (hr i (by simp [reads, had]))]; rw [e]; rfl
    · cases hs
def H.none (n : Nat) : H := ⟨.leaf, n⟩
theorem HR.none {μ : Mu} {h : H} {w : World} (hr : HR P W μ h w) : HR P W μ (H.none h.nx) w := by
  have hg : ∀ i, (H.none h.nx).get i = Option.none := fun i => Tr.get_leaf _
  exact ⟨fun i o hi => (by rw [hg] at hi; cases hi), fun i j oi oj k k' hi => (by rw [hg] at hi; cases hi), fun i hi => ⟨(hr.fresh i hi).1, hg i⟩, hr.below⟩
theorem nw_run {μ : Mu} {h h' : H} {w : World} (hr : HR P W μ h w) {env : List V} {a : Act} (he : VRL μ env a.tmps.toList) {o : Oper} {v : V} (hc : cls o.op ≠ 0) (hrd : ∀ id, reads env o.op = some id → cls o.op = 2)
    (hs : opStep P W o.op env h = .val v h') :
    ∃ μ' w' r x, (execOp a.eval o).run P w = .ok r w' ∧ (r = .value x ∨ (r = .skip ∧ x = undef)) ∧ VR μ' v x ∧ Go1 P W μ h w μ' h' w' ∧ ∀ b, b < w.heap.size → w'.heap[b]? = w.heap[b]? := by
  have hg : ∀ i, (H.none h.nx).get i = Option.none := fun i => Tr.get_leaf _
  have hcl : cls o.op = 1 ∨ cls o.op = 2 ∨ cls o.op = 3 := by
    revert hc
    generalize o.op = op
    cases op <;> simp [cls]
    split <;> simp
  obtain ⟨μ', w', r, x, h1, h2, h3, h4⟩ := op_val hr he hs
  refine ⟨μ', w', r, x, h1, h2, h3, h4, ?_⟩
  have key : ∀ hn, opStep P W o.op env (H.none h.nx) = .val v hn → ∀ b, b < w.heap.size → w'.heap[b]? = w.heap[b]? := fun hn hh b hb => by
    obtain ⟨μ2, w2, r2, x2, k1, k2, k3, k4⟩ := op_val hr.none he hh
    rw [h1] at k1; injection k1 with _ e; subst e
    exact k4.frame b hb fun i o k hi => by rw [hg] at hi; cases hi
  rcases hcl with hcl | hcl | hcl
  · have hrn : reads env o.op = Option.none := by
      cases hh : reads env o.op with
      | none => rfl
      | some id => have := hrd id hh; omega
    exact key _ ((pure_step hcl hrn hs).2 _)
  · obtain ⟨dst, op, ty, pos, after, guard⟩ := o
    simp only at hcl hs h1
    cases op <;> simp only [cls] at hcl <;> try (cases hcl; done)
    case call c => split at hcl <;> cases hcl
    case load t y =>
      simp only [opStep] at hs
      split at hs
      · rename_i ad hx
        obtain ⟨e, rfl⟩ := Res.pure_some hs
        have hx' := ev_spec he hx
        simp only [VR] at hx'
        obtain ⟨a', ha', har⟩ := hx'
        obtain ⟨x', k1, k2⟩ := run_loadVar_spec hr har e
        have : (execOp a.eval ⟨dst, .load t y, ty, pos, after, guard⟩).run P w = .ok (.value x') w := by
          simp [execOp, Instr.loadAt, ha', Instr.sureAddr, k1]
        rw [h1] at this
        injection this with _ e2; subst e2
        exact fun _ _ => rfl
      · cases hs
  · obtain ⟨ob, f, e1, e2, e3⟩ := alloc_step hcl hs
    have := e3 (H.none h.nx)
    rw [show (H.none h.nx).nx = h.nx from rfl, ← e2] at this
    exact key _ this
end
end Go.Proofs.YtkhjmgchlbnkjaaDoor.Dg
