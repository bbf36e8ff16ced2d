import Derived.Test.YtkhjmgchlbnkjaaDoorDgS25
set_option linter.unusedVariables false
set_option linter.unusedSimpArgs false
namespace Go.Proofs.YtkhjmgchlbnkjaaDoor.Dg
open Go Go.RowKit
def Ad.isOld : Ad → Bool
 | .old _ _ => true
 | .new _ _ => false
mutual
def V.isOld : V → Bool
 | .ptr (some a) => a.isOld
 | .slice (some a) _ _ _ => a.isOld
 | .map (some _) => false
 | .yld _ => false
 | .fn _ c => V.isOldL c
 | .agg l => V.isOldL l
 | .tup l => V.isOldL l
 | _ => true
def V.isOldL : List V → Bool
 | [] => true
 | v :: l => V.isOld v && V.isOldL l
end
theorem AR.old {μ μ' : Mu} {a : Ad} {a' : Addr} (h : AR μ a a') (ho : a.isOld = true) : AR μ' a a' := by
 cases a with
 | old b o => exact h
 | new i o => cases ho
mutual
theorem VR.old {μ μ' : Mu} : ∀ (v : V) (x : Value), VR μ v x → v.isOld = true → VR μ' v x
 | .bool _, _, e, _ => by simpa [VR] using e
 | .int _ _, _, e, _ => by simpa [VR] using e
 | .str _, _, e, _ => by simpa [VR] using e
 | .ptr none, _, e, _ => by simpa [VR] using e
 | .ptr (some _), _, e, ho => by
  simp only [VR] at e ⊢
  obtain ⟨a', e, k⟩ := e
  exact ⟨a', e, k.old ho⟩
 | .slice none _ _ _, _, e, _ => by simpa [VR] using e
 | .slice (some a) _ _ _, _, e, ho => by
  simp only [VR] at e ⊢
  obtain ⟨a', c, e, h1, h2, h3, h4, h5⟩ := e
  refine ⟨a', c, e, h1, h2, h3, fun k => ?_, h5.imp (fun k => k.old ho) id⟩
  cases a with
  | old b o => exact h4 k
  | new i o => cases ho
 | .map none, _, e, _ => by simpa [VR] using e
 | .map (some _), _, _, ho => by cases ho
 | .fn _ cap, _, e, ho => by
  simp only [VR] at e ⊢
  obtain ⟨c, e, k⟩ := e
  exact ⟨c, e, VRL.old cap _ k ho⟩
 | .yld _, _, _, ho => by cases ho
 | .nilfn, _, e, _ => by simpa [VR] using e
 | .nilif, _, e, _ => by simpa [VR] using e
 | .agg l, _, e, ho => by
  simp only [VR] at e ⊢
  obtain ⟨c, e, k⟩ := e
  exact ⟨c, e, VRL.old l _ k ho⟩
 | .tup l, _, e, ho => by
  simp only [VR] at e ⊢
  obtain ⟨c, e, k⟩ := e
  exact ⟨c, e, VRL.old l _ k ho⟩
theorem VRL.old {μ μ' : Mu} : ∀ (l : List V) (xs : List Value), VRL μ l xs → V.isOldL l = true → VRL μ' l xs
 | [], xs, e, _ => by simpa [VRL] using e
 | v :: l, xs, e, ho => by
  simp only [V.isOldL, Bool.and_eq_true] at ho
  simp only [VRL] at e ⊢
  obtain ⟨x, ys, e, h1, h2⟩ := e
  exact ⟨x, ys, e, VR.old v x h1 ho.1, VRL.old l ys h2 ho.2⟩
end
section
variable {P : Program} {W : World}
def setPrim (prim : FuncId → Option (List V → H → Option (V × H))) (f : FuncId) (p : List V → Option V) : FuncId → Option (List V → H → Option (V × H)) :=
 fun g => if g = f then some (fun args h => match p args with | some v => some (v, h) | none => none) else prim g
theorem setPrim_same {prim : FuncId → Option (List V → H → Option (V × H))} {f : FuncId} {p : List V → Option V} : setPrim prim f p f = some (fun args h => match p args with | some v => some (v, h) | none => none) := by simp [setPrim]
theorem empty_hr : HR P W (fun _ => none) H.empty W :=
 ⟨fun i o hi => (by rw [H.get_empty] at hi; cases hi), fun i j oi oj k k' hi => (by rw [H.get_empty] at hi; cases hi), fun i _ => ⟨rfl, H.get_empty i⟩, Below.refl _ _⟩
theorem PrimOK.none : PrimOK P W (fun _ => Option.none) := ⟨fun f p h => (by cases h), fun f p h => (by cases h), fun f p h => (by cases h)⟩
structure Base (P : Program) : Prop where
 mixed : P.follows .mixedOrders = true
 names : (P.funcs.all fun g => g.name != "runtime.NumGoroutine") = true
theorem Base.name (B : Base P) : ∀ (f : FuncId) (fn : Func), P.funcs[f]? = some fn → fn.name ≠ "runtime.NumGoroutine" := fun f fn hf e => by
 have := Array.all_eq_true_iff_forall_mem.1 B.names fn (Array.mem_of_getElem? hf)
 rw [e] at this
 simp at this
def Prims (P : Program) (W : World) (prim : FuncId → Option (List V → H → Option (V × H))) : Prop := ∀ w, Below W.heap.size W w → PrimOK P w prim
theorem Prims.none : Prims P W (fun _ => Option.none) := fun _ _ => PrimOK.none
theorem Prims.add (B : Base P) {prim : FuncId → Option (List V → H → Option (V × H))} (hp : Prims P W prim) {f : FuncId} {p : List V → Option V} (hbody : ∃ fn c, P.funcs[f]? = some fn ∧ fn.body = some c)
  (hs : ∀ w, Below W.heap.size W w → ∀ args v, p args = some v → V.isOldL args = true ∧ v.isOld = true ∧ WpF P w prim f args H.empty (fun x _ => x = v)) : Prims P W (setPrim prim f p) := by
 intro w0 hb0
 have h0 := hp w0 hb0
 refine ⟨fun g q hg args h v h' hq μ w args' hr ha => ?_, fun g q hg => ?_, fun g q hg args h v h' hq => ?_⟩
 ·unfold setPrim at hg
  split at hg
  ·rename_i hgf
   subst hgf
   injection hg with hg; subst hg
   simp only at hq
   split at hq
   ·rename_i u hu
    injection hq with hq; injection hq with e1 e2; subst e1; subst e2
    have hbw : Below W.heap.size W w := hb0.trans (hr.below.mono hb0.size)
    obtain ⟨o1, o2, wp⟩ := hs w hbw args u hu
    obtain ⟨n, x, h'', hrun, rfl⟩ := wp.out
    refine ((run_ok B.mixed B.name (hp w hbw) n).1.call g args H.empty x h'' hrun (fun _ => Option.none) w args' empty_hr (VRL.old _ _ ha o1)).mono ?_
    rintro e w' ⟨μ', y, rfl, hv, k⟩
    have hall : ∀ b, b < w.heap.size → w'.heap[b]? = w.heap[b]? := fun b hb => k.frame b hb fun i o kk hi => (by rw [H.get_empty] at hi; cases hi)
    have hbelow : Below w0.heap.size w0 w' := hr.below.trans (k.hr.below.mono hr.below.size)
    refine ⟨μ, y, rfl, VR.old _ _ hv o2, hr.keep (Mu.le_refl _) (fun i hi => (hr.fresh i hi).1) hall hbelow, Mu.le_refl _, Nat.le_refl _, k.size, fun b hb _ => hall b hb, fun i o kk hi hk => .inr ⟨i, o, kk, hi, hk, rfl⟩, fun _ _ => rfl⟩
   ·cases hq
  ·exact h0.ok g q hg args h v h' hq μ w args' hr ha
 ·unfold setPrim at hg
  split at hg
  ·rename_i hgf; subst hgf; exact hbody
  ·exact h0.body g q hg
 ·unfold setPrim at hg
  split at hg
  ·injection hg with hg; subst hg
   simp only at hq
   split at hq
   ·injection hq with hq; injection hq with e1 e2; subst e2; exact Nat.le_refl _
   ·cases hq
  ·exact h0.nx g q hg args h v h' hq
variable {prim : FuncId → Option (List V → H → Option (V × H))}
theorem WpF.found {n : Nat} {f : FuncId} {args : List V} {h : H} {v : V} (e : ((run P W prim n).call f args h).map (·.1) = some v) : WpF P W prim f args h (fun x _ => x = v) := by
 cases hr : (run P W prim n).call f args h with
 | none => rw [hr] at e; cases e
 | some u =>
  rw [hr] at e
  obtain ⟨x, h'⟩ := u
  injection e with e
  exact WpF.at hr e
theorem WpF.givenX {f : FuncId} {p : List V → H → Option (V × H)} {args : List V} {h : H} {K : V → H → Prop} {v : V} {h' : H} (hp : prim f = some p) (he : p args h = some (v, h')) (k : K v h') : WpF P W prim f args h K := WpF.given hp he k
end
theorem WpRs.fork {P : Program} {W : World} {prim : FuncId → Option (List V → H → Option (V × H))} {t : Tmp} {w : Bool} {d : Option Tmp} {o : Op} {os : List RO} {K : St → Prop} {env : List V} {ds : List Nat} {h : H} {b : Bool} (hb : env[t]? = some (.bool b)) (h1 : b = true → WpRs P W prim (⟨some (some t, w), d, o⟩ :: os) K ⟨env, ds, h⟩) (h2 : b = false → WpRs P W prim (⟨some (some t, w), d, o⟩ :: os) K ⟨env, ds, h⟩) : WpRs P W prim (⟨some (some t, w), d, o⟩ :: os) K ⟨env, ds, h⟩ := by
 cases b with
 | true => exact h1 rfl
 | false => exact h2 rfl
theorem WpDs.fork {P : Program} {W : World} {prim : FuncId → Option (List V → H → Option (V × H))} {ms : List Nat} {sn : List (Nat × H)} {i : Nat} {t : Tmp} {w : Bool} {d : Option Tmp} {o : Op} {os : List (Nat × RO)} {K : St → Prop} {env : List V} {ds : List Nat} {h : H} {b : Bool} (hb : env[t]? = some (.bool b)) (h1 : b = true → WpDs P W prim ms ((i, ⟨some (some t, w), d, o⟩) :: os) sn K ⟨env, ds, h⟩) (h2 : b = false → WpDs P W prim ms ((i, ⟨some (some t, w), d, o⟩) :: os) sn K ⟨env, ds, h⟩) : WpDs P W prim ms ((i, ⟨some (some t, w), d, o⟩) :: os) sn K ⟨env, ds, h⟩ := by
 cases b with
 | true => exact h1 rfl
 | false => exact h2 rfl
theorem WpRs.cut {P : Program} {W : World} {prim : FuncId → Option (List V → H → Option (V × H))} {K : St → Prop} (R : St → Prop) : ∀ {os : List RO} {st : St}, WpRs P W prim os R st → (∀ s, R s → K s) → WpRs P W prim os K st
 | [], st, h, k => ⟨k st h.go⟩
 | o :: os, st, ⟨h⟩, k => by
  refine .mk ?_
  simp only [WpRs0] at h ⊢
  exact ⟨fun hg => WpO.mono (h.1 hg) fun v h' q => (WpRs.cut R ⟨q⟩ k).go, fun hg => (WpRs.cut R ⟨h.2 hg⟩ k).go⟩
theorem WpDs.callSet {P : Program} {W : World} {prim : FuncId → Option (List V → H → Option (V × H))} {ms : List Nat} {sn : List (Nat × H)} {i : Nat} {g : Option (Option Tmp × Bool)} {d : Tmp} {o : Op} {os : List (Nat × RO)} {K : St → Prop} {env : List V} {ds : List Nat} {h : H} {f : FuncId} {args : List V} (hg : rg ⟨g, some d, o⟩ env = true) (hc : cls o = 0) (hs : opStep P W o env h = .call f args) (k : WpF P W prim f args h fun v h' => WpDs P W prim ms os ((i, h) :: sn) K ⟨env.set d v, ds, h'⟩) :
  WpDs P W prim ms ((i, ⟨g, some d, o⟩) :: os) sn K ⟨env, ds, h⟩ := WpDs.call hg hc hs k
theorem WpRs.env {P : Program} {W : World} {prim : FuncId → Option (List V → H → Option (V × H))} {l : List RO} {K : St → Prop} {env env' : List V} {ds : List Nat} {h : H} (e : env = env') (k : WpRs P W prim l K ⟨env', ds, h⟩) : WpRs P W prim l K ⟨env, ds, h⟩ := by subst e; exact k
theorem WpDs.env {P : Program} {W : World} {prim : FuncId → Option (List V → H → Option (V × H))} {ms : List Nat} {sn : List (Nat × H)} {l : List (Nat × RO)} {K : St → Prop} {env env' : List V} {ds : List Nat} {h : H} (e : env = env') (k : WpDs P W prim ms l sn K ⟨env', ds, h⟩) : WpDs P W prim ms l sn K ⟨env, ds, h⟩ := by subst e; exact k
mutual
theorem V.beq_refl : ∀ (a : V), V.beq a a = true
 | .bool _ => by simp [V.beq]
 | .int _ _ => by simp [V.beq]
 | .str _ => by simp [V.beq]
 | .ptr _ => by simp [V.beq]
 | .slice _ _ _ _ => by simp [V.beq]
 | .map _ => by simp [V.beq]
 | .fn _ c => by simp [V.beq, V.beqL_refl c]
 | .yld _ => by simp [V.beq]
 | .nilfn => rfl
 | .nilif => rfl
 | .agg l => by simp [V.beq, V.beqL_refl l]
 | .tup l => by simp [V.beq, V.beqL_refl l]
theorem V.beqL_refl : ∀ (l : List V), V.beqL l l = true
 | [] => rfl
 | x :: xs => by simp [V.beqL, V.beq_refl x, V.beqL_refl xs]
end
theorem one_int (k : IntKind) (n : Int) : (V.int k n).one = true := rfl
theorem one_bool (b : Bool) : (V.bool b).one = true := rfl
theorem one_str (s : List UInt8) : (V.str s).one = true := rfl
theorem one_ptr (a : Option Ad) : (V.ptr a).one = true := rfl
theorem one_slice (a : Option Ad) (l c : Nat) (e : Bool) : (V.slice a l c e).one = true := rfl
theorem one_map (a : Option Nat) : (V.map a).one = true := rfl
theorem one_fn (f : FuncId) (l : List V) : (V.fn f l).one = true := rfl
theorem one_nilfn : V.nilfn.one = true := rfl
theorem cells_agg (l : List V) : (V.agg l).cells = l := rfl
theorem cells_int (k : IntKind) (n : Int) : (V.int k n).cells = [V.int k n] := rfl
theorem cells_bool (b : Bool) : (V.bool b).cells = [V.bool b] := rfl
theorem cells_str (s : List UInt8) : (V.str s).cells = [V.str s] := rfl
theorem cells_ptr (a : Option Ad) : (V.ptr a).cells = [V.ptr a] := rfl
theorem cells_slice (a : Option Ad) (l c : Nat) (e : Bool) : (V.slice a l c e).cells = [V.slice a l c e] := rfl
theorem cells_map (a : Option Nat) : (V.map a).cells = [V.map a] := rfl
theorem bTF : (true == false) = false := rfl
theorem bFT : (false == true) = false := rfl
theorem bFF : (false == false) = true := rfl
theorem bTT : (true == true) = true := rfl
theorem WpX.cond_true {P : Program} {W : World} {prim : FuncId → Option (List V → H → Option (V × H))} {r : Option Nat} {o : Operand} {a b : RC} {Q : Ex → St → Prop} {st : St} (ho : ev st.env o = some (.bool true)) (k : WpX P W prim r a Q st) : WpX P W prim r (.cond o a b) Q st := WpX.cond ho (fun _ => k) fun h => by cases h
theorem WpX.cond_false {P : Program} {W : World} {prim : FuncId → Option (List V → H → Option (V × H))} {r : Option Nat} {o : Operand} {a b : RC} {Q : Ex → St → Prop} {st : St} (ho : ev st.env o = some (.bool false)) (k : WpX P W prim r b Q st) : WpX P W prim r (.cond o a b) Q st := WpX.cond ho (fun h => by cases h) fun _ => k
theorem get_alloc (h : H) (o : AO) (i : Nat) : (h.alloc o).get i = if i = h.nx then some o else h.get i := by
 split
 ·rename_i e; subst e; exact H.get_alloc_same h o
 ·rename_i e; exact H.get_alloc_ne h o (Ne.symm e)
theorem get_put (h : H) (j : Nat) (o : Option AO) (i : Nat) : (h.put j o).get i = if i = j then o else h.get i := by
 split
 ·rename_i e; subst e; exact H.get_put_same ..
 ·rename_i e; exact H.get_put_ne h o (Ne.symm e)
theorem nx_empty : H.empty.nx = 0 := rfl
end Go.Proofs.YtkhjmgchlbnkjaaDoor.Dg
