import Derived.Test.YtkhjmgchlbnkjaaDoorDgS20
import Derived.Below
import Derived.ChangeSame
import Derived.ChangeCalls
set_option linter.unusedVariables false
set_option linter.unusedSimpArgs false
namespace Go.Proofs.YtkhjmgchlbnkjaaDoor.Dg
open Go Go.RowKit Go.WideShapes Go.ChangeShapes
section
variable {H : Type} {enc : TypeId × Value → H} {P : Program} {W : World}
def ArgsOK (P : Program) (W : World) : List TypeId → List V → Prop
 | [], l => l = []
 | t :: ts, l => ∃ x xs, l = x :: xs ∧ (∃ fuel, Wf P W fuel t x.cells) ∧ (match P.underlying t with | some (.struct _) => ∃ c, x = .agg c | _ => x.cells = [x]) ∧ ArgsOK P W ts xs
theorem agg_not {base : Nat} {t : TypeId} {c : Array Value} (h : Cell.okWide P W .any base t (.agg c)) {ts : List TypeId} (hts : closedT P ts = true) (ht : t ∈ ts) : False := by
 have hk := List.all_eq_true.1 hts t ht
 unfold Cell.okWide Cell.ok at h
 cases hu : P.underlying t with
 | none => rw [hu] at hk; cases hk
 | some d =>
  rw [hu] at hk h
  cases d <;> first | (cases hk; done) | exact h
theorem cells_one {x : V} (h : ∀ c, x ≠ .agg c) : x.cells = [x] := by
 cases x <;> first | rfl | exact absurd rfl (h _)
theorem arg_lift {ts : List TypeId} (hts : closedT P ts = true) {base : Nat} {t : TypeId} (ht : t ∈ ts) {v : Value} {d : DataW H} {ps : List MemPlace} (h : DataW.Trod enc P W 0 (fun _ => true) true t v d ps) (hwt : ∀ n ∈ d.weights P t, n ≤ 140737488351232) (ho : Value.okWide P W .any base t v) :
  ∃ x : V, (∀ μ, VR μ x v) ∧ (∃ fuel, Wf P W fuel t x.cells) ∧ (match P.underlying t with | some (.struct _) => ∃ c, x = .agg c | _ => x.cells = [x]) := by
 obtain ⟨fuel, hf⟩ := h
 obtain ⟨l, hl, hw⟩ := trod_lift hts fuel t _ _ ht hf hwt
 have hk := List.all_eq_true.1 hts t ht
 unfold Value.okWide at ho
 cases hu : P.underlying t with
 | none => rw [hu] at hk; cases hk
 | some d =>
  rw [hu] at hk ho
  have scalar : Cell.okWide P W .any base t v → ∃ x : V, (∀ μ, VR μ x v) ∧ (∃ fuel, Wf P W fuel t x.cells) ∧ x.cells = [x] := fun hc => by
   have hcs : v.cells.toList = [v] := by
    cases v <;> first | rfl | exact (agg_not hc hts ht).elim
   rw [hcs] at hl
   simp only [liftL] at hl
   split at hl
   ·rename_i x hx
    injection hl with hl; subst hl
    have hone : ∀ c, x ≠ .agg c := fun c e => by
     subst e
     have := lift1_one hx
     simp [V.one] at this
    exact ⟨x, fun μ => lift1_VR μ hx, ⟨fuel, by rw [cells_one hone]; exact hw⟩, cells_one hone⟩
   ·cases hl
  cases d with
  | struct fs =>
   obtain ⟨cs, rfl, _⟩ := ho
   refine ⟨.agg l, fun μ => ?_, ⟨fuel, hw⟩, ⟨l, rfl⟩⟩
   simp only [VR]
   exact ⟨cs, rfl, liftL_VRL μ hl⟩
  | array n e => cases hk
  | _ => exact scalar ho
theorem args_lift {ts : List TypeId} (hts : closedT P ts = true) {base : Nat} : ∀ (params : List TypeId) (args : List Value) (ds : List (DataW H)) (ps : List MemPlace), (∀ t ∈ params, t ∈ ts) →
  DataW.TrodAll enc P W 0 (fun _ => true) true params args ds ps → (∀ n ∈ DataW.weightsEach P params ds, n ≤ 140737488351232) → (∀ (j : Nat) t v, params[j]? = some t → args[j]? = some v → Value.okWide P W .any base t v) →
  ∃ l : List V, (∀ μ, VRL μ l args) ∧ ArgsOK P W params l
 | [], args, ds, ps, _, h, _, _ => by
  obtain ⟨rfl, _, _⟩ := trodAll_nil h
  exact ⟨[], fun μ => VRL.nil, rfl⟩
 | t :: params, args, ds, ps, hp, h, hwt, ho => by
  obtain ⟨v, vs, d, ds', p, q, rfl, rfl, rfl, h1, h2⟩ := trodAll_cons h
  obtain ⟨x, hx, hw, hsh⟩ := arg_lift hts (hp t (by simp)) h1 (fun n hn => hwt n (by simp only [DataW.weightsEach, List.mem_append]; exact .inl hn)) (ho 0 t v rfl rfl)
  obtain ⟨l, hl, ha⟩ := args_lift hts params vs ds' q (fun u hu => hp u (List.mem_cons_of_mem _ hu)) h2 (fun n hn => hwt n (by simp only [DataW.weightsEach, List.mem_append]; exact .inr hn)) fun j t' v' h3 h4 => ho (j + 1) t' v' (by simpa using h3) (by simpa using h4)
  exact ⟨x :: l, fun μ => VRL.cons (hx μ) (hl μ), x, l, rfl, hw, hsh, ha⟩
theorem trodAll_keeps (hlo : laidOutB P = true) {W' : World} (hb : Below W.heap.size W W') {sp : Nat → Bool} : ∀ (params : List TypeId) (args : List Value) (ds : List (DataW H)) (ps : List MemPlace),
  (∀ t ∈ params, P.readableRec t = true ∧ t < P.types.size) → DataW.TrodAll enc P W 0 (fun _ => true) true params args ds ps → (∀ x ∈ ps, x.block < W.heap.size) → (∀ x ∈ ps, sp x.block = true) →
  DataW.TrodAll enc P W' 0 sp true params args ds ps
 | [], args, ds, ps, _, h, _, _ => by
  obtain ⟨rfl, rfl, rfl⟩ := trodAll_nil h
  exact rfl
 | t :: params, args, ds, ps, hp, h, hlt, hsp => by
  obtain ⟨v, vs, d, ds', p, q, rfl, rfl, rfl, h1, h2⟩ := trodAll_cons h
  obtain ⟨hr, hs⟩ := hp t (by simp)
  have k1 := WideElems.Trod_stays (sp' := sp) hlo hr hs h1 (fun x hx => hb.same (hlt x (List.mem_append_left _ hx))) (fun x hx => hsp x (List.mem_append_left _ hx))
  have k2 := trodAll_keeps hlo hb params vs ds' q (fun u hu => hp u (List.mem_cons_of_mem _ hu)) h2 (fun x hx => hlt x (List.mem_append_right _ hx)) (fun x hx => hsp x (List.mem_append_right _ hx))
  exact ⟨p, q, k1, k2, rfl⟩
theorem post_below {f : Func} {s : ChangeSpec} {apart fresh handsOn again : Bool} {W W' : World} {args : Array Value} {v : Value} {ds gs : List (DataW H)} {before pa pv : List MemPlace}
  (hW : DataW.Whole enc P f.params.toList s.vars apart W args.toList ds gs before)
  (hres : ∀ (b : Nat) (sp : Nat → Bool) (hd : Bool), DataW.TrodAll enc P W' b sp hd f.resultTypes.toList (v.resultList f.resultTypes.size) (s.fn H (ds ++ gs)).results [])
  (hargs : ∀ sp : Nat → Bool, (∀ p ∈ before, sp p.block = true) → DataW.TrodAll enc P W' 0 sp true f.params.toList args.toList (s.fn H (ds ++ gs)).args pa)
  (hvars : ∀ sp : Nat → Bool, (∀ p ∈ before, sp p.block = true) → DataW.TrodVars enc P W' sp s.vars (s.fn H (ds ++ gs)).vars pv)
  (hps : before = pa ++ pv) (hb : Below W.heap.size W W')
  (hok : ∀ (j : Nat) (t : TypeId) (r : Value), f.resultTypes[j]? = some t → (v.resultList f.resultTypes.size)[j]? = some r → Value.okWide P W' .any 0 t r) :
  s.post enc P f apart fresh handsOn again W args v W' := by
 have hlt : ∀ p ∈ before, p.block < W.heap.size := fun p hp => hW.lt p hp
 have hold : ∀ p ∈ before, (fun b => decide (b < W.heap.size)) p.block = true := fun p hp => by simpa using hlt p hp
 refine ⟨ds, gs, before, [], pa, pv, hW, hres _ _ _, hargs _ hold, hvars _ hold, World.keptBut_mono (fun p hp => ⟨hp, ?_⟩) (hb.frame (· ∈ before)), fun _ => ?_⟩
 ·rw [hps, List.mem_append] at hp
  exact Or.inr hp
 ·obtain ⟨_, _, _, _, _, hz, hn⟩ := hW
  refine ⟨hok, _, _, ([] ++ pa) ++ pv, ⟨[] ++ pa, pv, trodAll_append (hargs _ (fun _ _ => rfl)) (hres _ _ _), hvars _ (fun _ _ => rfl), rfl, ?_, ?_⟩, ?_⟩
  ·intro b off hp
   have hin : MemPlace.cell b off ∈ before := by rw [hps]; simpa using hp
   rw [hb.frozen (hlt _ hin)]
   exact hz b off hin
  ·intro ha
   have := hn ha
   rw [hps] at this
   simpa using this
  ·intro p hp _
   rw [hps]
   simpa using hp
theorem law_calls {prim : FuncId → Option (List V → Dg.H → Option (V × Dg.H))} (hm : P.follows .mixedOrders = true) (hname : (P.funcs.all fun g => g.name != "runtime.NumGoroutine") = true) (hp : PrimOK P W prim)
  {f : FuncId} {n : Nat} {l : List V} {args : Array Value} {h' : Dg.H} (hrun : (run P W prim n).call f l Dg.H.empty = some (.bool true, h')) (ha : ∀ μ, VRL μ l args.toList) :
  Calls P f args W fun e W' => e = .returned (.bool true) ∧ Below W.heap.size W W' := by
 have hname' : ∀ (f : FuncId) (fn : Func), P.funcs[f]? = some fn → fn.name ≠ "runtime.NumGoroutine" := fun f fn hf e => by
  have := Array.all_eq_true_iff_forall_mem.1 hname fn (Array.mem_of_getElem? hf)
  rw [e] at this
  simp at this
 have hr : HR P W (fun _ => none) Dg.H.empty W :=
  ⟨fun i o hi => (by rw [H.get_empty] at hi; cases hi), fun i j oi oj k k' hi => (by rw [H.get_empty] at hi; cases hi), fun i _ => ⟨rfl, H.get_empty i⟩, Below.refl _ _⟩
 have := (run_ok hm hname' hp n).1.call f l _ _ _ hrun _ W args hr (ha _)
 rw [Wd_wide] at this
 refine (callsIn_wide.1 this).mono ?_
 rintro e w' ⟨μ', x, rfl, hv, g⟩
 exact ⟨by rw [hv.bool_of], g.hr.below⟩
theorem law_contract {prim : FuncId → Option (List V → Dg.H → Option (V × Dg.H))} {s : ChangeSpec} {fn : Func} {f : FuncId} {apart fresh handsOn again : Bool} {t : TypeId} {ts : List TypeId}
  (hm : P.follows .mixedOrders = true) (hname : (P.funcs.all fun g => g.name != "runtime.NumGoroutine") = true) (hp : PrimOK P W prim)
  (hvars : s.vars = []) (hspec : ∀ ds : List (DataW H), ds.length = fn.params.size → s.fn H ds = { results := [.lit (.bool true)], args := ds }) (hres : fn.resultTypes = #[t]) (ht : P.underlying t = some .bool)
  (hlo : laidOutB P = true) (hts : closedT P ts = true) (hpar : (fn.params.toList.all fun t => ts.contains t && P.readableRec t && decide (t < P.types.size)) = true)
  (hrun : ∀ l, ArgsOK P W fn.params.toList l → ∃ n h', (run P W prim n).call f l Dg.H.empty = some (.bool true, h'))
  {base : Nat} {args : Array Value} {ds gs : List (DataW H)} {before : List MemPlace} (hval : ∀ (j : Nat) t v, fn.params[j]? = some t → args[j]? = some v → Value.okWide P W .any base t v)
  (hW : DataW.Whole enc P fn.params.toList s.vars apart W args.toList ds gs before) {us : List TypeId} (hreach : (DataW.weightsEach P (fn.params.toList ++ us) (ds ++ gs)).all (· ≤ reachBytes) = true) :
  Calls P f args W fun e W' => ∃ v, e = .returned v ∧ s.post enc P fn apart fresh handsOn again W args v W' := by
 have hpar' : ∀ u ∈ fn.params.toList, u ∈ ts ∧ P.readableRec u = true ∧ u < P.types.size := fun u hu => by
  have := List.all_eq_true.1 hpar u hu
  simpa [and_assoc] using this
 obtain ⟨p, q, hA, hV, rfl, hz, hn⟩ := id hW
 obtain ⟨l, hl, hargs⟩ := args_lift hts fn.params.toList args.toList ds p (fun u hu => (hpar' u hu).1) hA (fun n hn => by
  have := List.all_eq_true.1 hreach n (weightsEach_app (by have := (trodAll_length hA).2; simpa using this.symm) n hn)
  simp only [decide_eq_true_eq] at this
  exact this) fun j t v h1 h2 => hval j t v (by simpa using h1) (by simpa using h2)
 obtain ⟨n, h', hr⟩ := hrun l hargs
 rw [hvars] at hV
 obtain ⟨rfl, rfl⟩ : gs = [] ∧ q = [] := trodVars_none hV
 have hlen : ds.length = fn.params.size := by have := (trodAll_length hA).2; simpa using this
 refine (law_calls hm hname hp hr hl).mono ?_
 rintro e W' ⟨rfl, hb⟩
 refine ⟨_, rfl, post_below (pa := p) (pv := []) hW ?_ ?_ ?_ (by simp) hb ?_⟩
 ·intro b sp hd
  rw [List.append_nil, hspec ds hlen, hres]
  exact trodAll_mk1 (shut_bool ht true)
 ·intro sp hsp
  rw [List.append_nil, hspec ds hlen]
  exact trodAll_keeps hlo hb _ _ _ _ (fun u hu => (hpar' u hu).2) hA (fun x hx => hW.lt x (List.mem_append_left _ hx)) fun x hx => hsp x (List.mem_append_left _ hx)
 ·intro sp hsp
  rw [List.append_nil, hspec ds hlen, hvars]
  exact rfl
 ·exact ok_one hres rfl (okWide_bool_mk ht true)
end
end Go.Proofs.YtkhjmgchlbnkjaaDoor.Dg
