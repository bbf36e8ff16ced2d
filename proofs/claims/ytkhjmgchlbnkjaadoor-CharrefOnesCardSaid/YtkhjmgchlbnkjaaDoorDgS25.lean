import Derived.Test.YtkhjmgchlbnkjaaDoorDgS24
set_option linter.unusedVariables false
set_option linter.unusedSimpArgs false
namespace Go.Proofs.YtkhjmgchlbnkjaaDoor.Dg
open Go Go.RowKit
def resL (P : Program) (W : World) (rs : List ResultVar) (env : List V) (h : H) : Option V :=
 match resultsL P W env h rs with
 | some [v] => some v
 | some l => some (.tup l)
 | none => none
def retQ (P : Program) (W : World) (rs : List ResultVar) (K : V → H → Prop) : Ex → St → Prop
 | .exit _, _ => False
 | _, st => ∃ h' v, shut st.ds st.h = some h' ∧ resL P W rs st.env h' = some v ∧ K v h'
section
variable {P : Program} {W : World} {prim : FuncId → Option (List V → H → Option (V × H))}
theorem WpF.x {f : FuncId} {fn : Func} {x : RC} {rs : List ResultVar} {n : Nat} {args : List V} {h : H} {K : V → H → Prop} (hp : prim f = none) (hf : P.funcs[f]? = some fn) (hrs : fn.results.toList = rs) (hn : fn.ntmps = n) (hb : fn.body.map rc = some x)
  (w : WpX P W prim none x (retQ P W rs K) ⟨args ++ List.replicate (n - args.length) .undef, [], h⟩) : WpF P W prim f args h K := by
 subst hrs; subst hn
 cases hc : fn.body with
 | none => rw [hc] at hb; cases hb
 | some c =>
  rw [hc] at hb
  injection hb with hb
  refine WpF.body hp hf hc ((w.go c hb).mono fun e s q => ?_)
  cases e with
  | exit i => exact q.elim
  | norm =>
   obtain ⟨h', v, h1, h2, h3⟩ := q
   simp only [fnQ, h1]
   have : resultsOf P W fn s.env h' = some v := h2
   rw [this]; exact h3
  | ret =>
   obtain ⟨h', v, h1, h2, h3⟩ := q
   simp only [fnQ, h1]
   have : resultsOf P W fn s.env h' = some v := h2
   rw [this]; exact h3
theorem thenQ_norm {K : St → Prop} {Q : Ex → St → Prop} {st : St} (k : K st) : thenQ K Q .norm st := k
theorem thenQ_ret {K : St → Prop} {Q : Ex → St → Prop} {st : St} (k : Q .ret st) : thenQ K Q .ret st := k
theorem thenQ_exit {K : St → Prop} {Q : Ex → St → Prop} {st : St} {i : Nat} (k : Q (.exit i) st) : thenQ K Q (.exit i) st := k
theorem blockQ_norm {id : Nat} {Q : Ex → St → Prop} {st : St} (k : Q .norm st) : blockQ id Q .norm st := k
theorem blockQ_ret {id : Nat} {Q : Ex → St → Prop} {st : St} (k : Q .ret st) : blockQ id Q .ret st := k
theorem blockQ_here {id : Nat} {Q : Ex → St → Prop} {st : St} (k : Q .norm st) : blockQ id Q (.exit id) st := by simp only [blockQ, if_true]; exact k
theorem blockQ_on {id i : Nat} {Q : Ex → St → Prop} {st : St} (hne : (i == id) = false) (k : Q (.exit i) st) : blockQ id Q (.exit i) st := by
 have : i ≠ id := by simpa using hne
 simp only [blockQ, if_neg this]; exact k
theorem retQ_ret {rs : List ResultVar} {K : V → H → Prop} {env : List V} {ds : List Nat} {h h' : H} {v : V} (hs : shut ds h = some h') (hv : resL P W rs env h' = some v) (k : K v h') : retQ P W rs K .ret ⟨env, ds, h⟩ := ⟨h', v, hs, hv, k⟩
theorem retQ_norm {rs : List ResultVar} {K : V → H → Prop} {env : List V} {ds : List Nat} {h h' : H} {v : V} (hs : shut ds h = some h') (hv : resL P W rs env h' = some v) (k : K v h') : retQ P W rs K .norm ⟨env, ds, h⟩ := ⟨h', v, hs, hv, k⟩
theorem WpRs.set {g : Option (Option Tmp × Bool)} {d : Tmp} {o : Op} {os : List RO} {K : St → Prop} {env env' : List V} {ds : List Nat} {h h' : H} {v : V} (hg : rg ⟨g, some d, o⟩ env = true) (hs : opStep P W o env h = .val v h') (he : env.set d v = env') (k : WpRs P W prim os K ⟨env', ds, h'⟩) :
  WpRs P W prim (⟨g, some d, o⟩ :: os) K ⟨env, ds, h⟩ := by
 subst he
 exact WpRs.val hg hs k
theorem WpRs.eff {g : Option (Option Tmp × Bool)} {o : Op} {os : List RO} {K : St → Prop} {env : List V} {ds : List Nat} {h h' : H} {v : V} (hg : rg ⟨g, none, o⟩ env = true) (hs : opStep P W o env h = .val v h') (k : WpRs P W prim os K ⟨env, ds, h'⟩) :
  WpRs P W prim (⟨g, none, o⟩ :: os) K ⟨env, ds, h⟩ := WpRs.val hg hs k
theorem WpRs.off {g : Option (Option Tmp × Bool)} {d : Tmp} {o : Op} {os : List RO} {K : St → Prop} {env env' : List V} {ds : List Nat} {h : H} (hg : rg ⟨g, some d, o⟩ env = false) (he : env.set d .undef = env') (k : WpRs P W prim os K ⟨env', ds, h⟩) :
  WpRs P W prim (⟨g, some d, o⟩ :: os) K ⟨env, ds, h⟩ := by
 subst he
 exact WpRs.idle hg k
theorem WpRs.callSet {g : Option (Option Tmp × Bool)} {d : Tmp} {o : Op} {os : List RO} {K : St → Prop} {env : List V} {ds : List Nat} {h : H} {f : FuncId} {args : List V} (hg : rg ⟨g, some d, o⟩ env = true) (hs : opStep P W o env h = .call f args) (k : WpF P W prim f args h fun v h' => WpRs P W prim os K ⟨env.set d v, ds, h'⟩) :
  WpRs P W prim (⟨g, some d, o⟩ :: os) K ⟨env, ds, h⟩ := WpRs.call hg hs k
theorem WpDs.set {ms : List Nat} {sn : List (Nat × H)} {i : Nat} {g : Option (Option Tmp × Bool)} {d : Tmp} {o : Op} {os : List (Nat × RO)} {K : St → Prop} {env env' : List V} {ds : List Nat} {h h' : H} {v : V} (hg : rg ⟨g, some d, o⟩ env = true) (hc : (cls o == 0) = false) (hs : opStep P W o env h = .val v h') (hq : sameAt P W o env v ms i sn = true) (he : env.set d v = env') (k : WpDs P W prim ms os sn K ⟨env', ds, h'⟩) :
  WpDs P W prim ms ((i, ⟨g, some d, o⟩) :: os) sn K ⟨env, ds, h⟩ := by
 subst he
 exact WpDs.val hg hc hs hq k
theorem WpDs.off {ms : List Nat} {sn : List (Nat × H)} {i : Nat} {g : Option (Option Tmp × Bool)} {d : Tmp} {o : Op} {os : List (Nat × RO)} {K : St → Prop} {env env' : List V} {ds : List Nat} {h : H} (hg : rg ⟨g, some d, o⟩ env = false) (he : env.set d .undef = env') (k : WpDs P W prim ms os sn K ⟨env', ds, h⟩) :
  WpDs P W prim ms ((i, ⟨g, some d, o⟩) :: os) sn K ⟨env, ds, h⟩ := by
 subst he
 exact WpDs.idle hg k
end
end Go.Proofs.YtkhjmgchlbnkjaaDoor.Dg
