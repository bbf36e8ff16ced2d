import Derived.Test.YtkhjmgchlbnkjaaDoorDgS27
set_option linter.unusedVariables false
set_option linter.unusedSimpArgs false
namespace Go.Proofs.YtkhjmgchlbnkjaaDoor.Dg
open Go Go.RowKit
structure HA (h h' : H) (p : Nat) (o : AO) : Prop where
 eq : p = h.nx
 nx : h'.nx = h.nx + 1
 get : h'.get p = some o
 other : ∀ j, j ≠ p → h'.get j = h.get j
structure HP (h h' : H) (i : Nat) (o : Option AO) : Prop where
 nx : h'.nx = h.nx
 get : h'.get i = o
 other : ∀ j, j ≠ i → h'.get j = h.get j
theorem HA.mk' (h : H) (o : AO) : HA h (h.alloc o) h.nx o := ⟨rfl, rfl, H.get_alloc_same h o, fun j hj => H.get_alloc_ne h o (Ne.symm hj)⟩
theorem HP.mk' (h : H) (i : Nat) (o : Option AO) : HP h (h.put i o) i o := ⟨rfl, H.get_put_same h i o, fun j hj => H.get_put_ne h o (Ne.symm hj)⟩
theorem HA.keep {h h' : H} {p : Nat} {o : AO} (a : HA h h' p o) {j : Nat} {x : AO} (hj : j < h.nx) (hx : h.get j = some x) : h'.get j = some x := (a.other j (by have := a.eq; omega)).trans hx
theorem HP.keep {h h' : H} {p : Nat} {o : Option AO} (a : HP h h' p o) {j : Nat} {x : AO} (hj : j ≠ p) (hx : h.get j = some x) : h'.get j = some x := (a.other j hj).trans hx
theorem HA.lt {h h' : H} {p : Nat} {o : AO} (a : HA h h' p o) : p < h'.nx := by have := a.eq; have := a.nx; omega
theorem HA.le {h h' : H} {p : Nat} {o : AO} (a : HA h h' p o) {j : Nat} (hj : j < h.nx) : j < h'.nx := by have := a.nx; omega
theorem HA.ne {h h' : H} {p : Nat} {o : AO} (a : HA h h' p o) {j : Nat} (hj : j < h.nx) : j ≠ p := by have := a.eq; omega
theorem HP.le {h h' : H} {p : Nat} {o : Option AO} (a : HP h h' p o) {j : Nat} (hj : j < h.nx) : j < h'.nx := by have := a.nx; omega
structure HX (h h' : H) : Prop where
 nx : h.nx ≤ h'.nx
 keep : ∀ {j : Nat} {x : AO}, j < h.nx → h.get j = some x → h'.get j = some x
theorem HX.refl (h : H) : HX h h := ⟨Nat.le_refl _, fun _ e => e⟩
theorem HX.trans {a b c : H} (h : HX a b) (k : HX b c) : HX a c := ⟨Nat.le_trans h.nx k.nx, fun hj e => k.keep (Nat.lt_of_lt_of_le hj h.nx) (h.keep hj e)⟩
theorem HX.le {h h' : H} (a : HX h h') {j : Nat} (hj : j < h.nx) : j < h'.nx := Nat.lt_of_lt_of_le hj a.nx
theorem HX.alloc {h0 h h' : H} {p : Nat} {o : AO} (k : HX h0 h) (a : HA h h' p o) : HX h0 h' := ⟨by have := k.nx; have := a.nx; omega, fun hj e => a.keep (k.le hj) (k.keep hj e)⟩
theorem HX.put {h0 h h' : H} {p : Nat} {o : Option AO} (k : HX h0 h) (a : HP h h' p o) (hp : h0.nx ≤ p) : HX h0 h' := ⟨by have := k.nx; have := a.nx; omega, fun hj e => a.keep (by omega) (k.keep hj e)⟩
def ldL (P : Program) (l : List V) (t : TypeId) (o : Nat) : Option V :=
 match isAgg P t with
 | some true => match sizeOf P t with
  | some n => if n = 0 then some (.agg []) else if o + n ≤ l.length then some (.agg ((l.drop o).take n)) else none
  | none => none
 | some false => if o + 1 ≤ l.length then (match (l.drop o).take 1 with | [v] => some v | _ => none) else none
 | none => none
def stL (P : Program) (l : List V) (t : TypeId) (o : Nat) (v : V) : Option (List V) :=
 match sizeOf P t with
 | some n => if v.cells.length = n then (if v.cells.all V.one then (if o + v.cells.length ≤ l.length then some (splice l o v.cells) else none) else none) else none
 | none => none
section
variable {P : Program} {W : World} {prim : FuncId → Option (List V → H → Option (V × H))} {tab : FuncId → Option (RC × List ResultVar × Nat)} {Q : Ex → St → Prop}
theorem load_new {t : TypeId} {a : Operand} {env : List V} {h : H} {i o : Nat} {l : List V} {t' : TypeId} {v : V} (ha : ev env a = some (.ptr (some (.new i o)))) (hg : h.get i = some (.cells l t')) (hv : ldL P l t o = some v) : opStep P W (.load t a) env h = .val v h := by
 simp only [opStep, ha, ldVar]
 unfold ldL at hv
 split at hv
 ·rename_i hA
  simp only [hA]
  split at hv
  ·rename_i n hn
   simp only [hn, ldCells, hg]
   split at hv
   ·rename_i h0
    subst h0
    injection hv with hv; subst hv; rfl
   ·rename_i h0
    rw [if_neg h0]
    split at hv
    ·rename_i hle
     injection hv with hv; subst hv
     rw [if_pos hle]; rfl
    ·cases hv
  ·cases hv
 ·rename_i hA
  simp only [hA, ldCells, hg]
  split at hv
  ·rename_i hle
   rw [if_neg (by decide), if_pos hle]
   split at hv
   ·rename_i u hu
    injection hv with hv; subst hv
    simp only [hu]; rfl
   ·cases hv
  ·cases hv
 ·cases hv
theorem load_old {t : TypeId} {a : Operand} {env : List V} {h : H} {b o : Nat} {v : V} (ha : ev env a = some (.ptr (some (.old b o)))) (hv : ldVar P W H.empty t (.old b o) = some v) : opStep P W (.load t a) env h = .val v h := by
 simp only [opStep, ha]
 have : ldVar P W h t (.old b o) = ldVar P W H.empty t (.old b o) := by
  unfold ldVar ldCells; rfl
 rw [this, hv]; rfl
theorem store_new {t : TypeId} {a x : Operand} {env : List V} {h : H} {i o : Nat} {l l' : List V} {t' : TypeId} {v : V} (ha : ev env a = some (.ptr (some (.new i o)))) (hx : ev env x = some v) (hg : h.get i = some (.cells l t')) (hv : stL P l t o v = some l') :
  opStep P W (.store t a x) env h = .val .undef (h.put i (some (.cells l' t'))) := by
 simp only [opStep, ha, hx, stVar]
 unfold stL at hv
 split at hv
 ·rename_i n hn
  simp only [hn]
  split at hv
  ·rename_i h1
   rw [if_pos h1]
   split at hv
   ·rename_i h2
    split at hv
    ·rename_i h3
     injection hv with hv; subst hv
     simp only [stCells, hg, h2, if_true, if_pos h3]; rfl
    ·cases hv
   ·cases hv
  ·cases hv
 ·cases hv
theorem WpM.opA {o : RO} {os : List RO} {ks : List KF} {env : List V} {ds : List Nat} {h : H} {r : Option Nat} (vf : Nat → V) (ob : AO) (hg : rg o env = true) (hs : opStep P W o.op env h = .val (vf h.nx) (h.alloc ob))
  (k : ∀ p h', HA h h' p ob → WpM P W prim ⟨.ops os, ks, setD env o.dst (vf p), ds, h', r⟩ Q) : WpM P W prim ⟨.ops (o :: os), ks, env, ds, h, r⟩ Q := WpM.op _ _ hg hs (k _ _ (HA.mk' h ob))
theorem WpM.opS {o : RO} {os : List RO} {ks : List KF} {env : List V} {ds : List Nat} {h : H} {r : Option Nat} (v : V) (i : Nat) (ob : Option AO) (hg : rg o env = true) (hs : opStep P W o.op env h = .val v (h.put i ob))
  (k : ∀ h', HP h h' i ob → WpM P W prim ⟨.ops os, ks, setD env o.dst v, ds, h', r⟩ Q) : WpM P W prim ⟨.ops (o :: os), ks, env, ds, h, r⟩ Q := WpM.op _ _ hg hs (k _ (HP.mk' h i ob))
theorem WpM.opDA {ms : List Nat} {sn : List (Nat × H)} {i : Nat} {o : RO} {os : List (Nat × RO)} {ks : List KF} {env : List V} {ds : List Nat} {h : H} {r : Option Nat} (vf : Nat → V) (ob : AO) (hg : rg o env = true) (hc : (cls o.op == 0) = false) (hs : opStep P W o.op env h = .val (vf h.nx) (h.alloc ob)) (hq : reads env o.op = none)
  (k : ∀ p h', HA h h' p ob → WpM P W prim ⟨.draw ms os sn, ks, setD env o.dst (vf p), ds, h', r⟩ Q) : WpM P W prim ⟨.draw ms ((i, o) :: os) sn, ks, env, ds, h, r⟩ Q := WpM.opD _ _ hg hc hs (by unfold sameAt; rw [hq]) (k _ _ (HA.mk' h ob))
theorem WpM.opDAW {ms : List Nat} {sn : List (Nat × H)} {i : Nat} {o : RO} {os : List (Nat × RO)} {ks : List KF} {env : List V} {ds : List Nat} {h : H} {r : Option Nat} (vf : Nat → V) (ob : AO) (hg : rg o env = true) (hc : cls o.op = 0) (hs : opStep P W o.op env h = .val (vf h.nx) (h.alloc ob))
  (k : ∀ p h', HA h h' p ob → WpM P W prim ⟨.draw ms os ((i, h) :: sn), ks, setD env o.dst (vf p), ds, h', r⟩ Q) : WpM P W prim ⟨.draw ms ((i, o) :: os) sn, ks, env, ds, h, r⟩ Q := WpM.opDW _ _ hg hc hs (k _ _ (HA.mk' h ob))
theorem WpM.opDS {ms : List Nat} {sn : List (Nat × H)} {i : Nat} {o : RO} {os : List (Nat × RO)} {ks : List KF} {env : List V} {ds : List Nat} {h : H} {r : Option Nat} (v : V) (j : Nat) (ob : Option AO) (hg : rg o env = true) (hc : cls o.op = 0) (hs : opStep P W o.op env h = .val v (h.put j ob))
  (k : ∀ h', HP h h' j ob → WpM P W prim ⟨.draw ms os ((i, h) :: sn), ks, setD env o.dst v, ds, h', r⟩ Q) : WpM P W prim ⟨.draw ms ((i, o) :: os) sn, ks, env, ds, h, r⟩ Q := WpM.opDW _ _ hg hc hs (k _ (HP.mk' h j ob))
theorem WpM.given {o : RO} {os : List RO} {ks : List KF} {env : List V} {ds : List Nat} {h : H} {r : Option Nat} {f : FuncId} {args : List V} {p : List V → H → Option (V × H)} (v : V) (h' : H) (hg : rg o env = true) (hs : opStep P W o.op env h = .call f args) (hp : prim f = some p) (he : p args h = some (v, h'))
  (k : WpM P W prim ⟨.ops os, ks, setD env o.dst v, ds, h', r⟩ Q) : WpM P W prim ⟨.ops (o :: os), ks, env, ds, h, r⟩ Q := WpM.call f args hg hs (WpF.given hp he k)
theorem WpM.givenD {ms : List Nat} {sn : List (Nat × H)} {i : Nat} {o : RO} {os : List (Nat × RO)} {ks : List KF} {env : List V} {ds : List Nat} {h : H} {r : Option Nat} {f : FuncId} {args : List V} {p : List V → H → Option (V × H)} (v : V) (h' : H) (hg : rg o env = true) (hc : cls o.op = 0) (hs : opStep P W o.op env h = .call f args) (hp : prim f = some p) (he : p args h = some (v, h'))
  (k : WpM P W prim ⟨.draw ms os ((i, h) :: sn), ks, setD env o.dst v, ds, h', r⟩ Q) : WpM P W prim ⟨.draw ms ((i, o) :: os) sn, ks, env, ds, h, r⟩ Q := WpM.callD f args hg hc hs (WpF.given hp he k)
theorem same_nil {o : Op} {env : List V} {v : V} {ms : List Nat} {i id : Nat} : sameGo P W o env v ms i id [] = true := rfl
theorem same_bit {o : Op} {env : List V} {v : V} {ms : List Nat} {i id j : Nat} {hs : H} {sn : List (Nat × H)} (hb : bit ms i j = true) (k : sameGo P W o env v ms i id sn = true) : sameGo P W o env v ms i id ((j, hs) :: sn) = true := by
 simp only [sameGo, hb, k, Bool.true_or, Bool.and_self]
theorem same_ld {o : Op} {env : List V} {v : V} {ms : List Nat} {i id j : Nat} {hs hs' : H} {sn : List (Nat × H)} (hl : opStep P W o env hs = .val v hs') (k : sameGo P W o env v ms i id sn = true) : sameGo P W o env v ms i id ((j, hs) :: sn) = true := by
 simp only [sameGo, hl, k, V.beq_refl, Bool.or_true, Bool.and_self]
theorem same_fresh {o : Op} {env : List V} {v : V} {ms : List Nat} {i id j : Nat} {hs : H} {sn : List (Nat × H)} (hl : hs.nx ≤ id) (k : sameGo P W o env v ms i id sn = true) : sameGo P W o env v ms i id ((j, hs) :: sn) = true := by
 simp only [sameGo, hl, decide_true, k, Bool.true_or, Bool.or_true, Bool.and_self]
theorem sameAt_of {o : Op} {env : List V} {v : V} {ms : List Nat} {i id : Nat} {sn : List (Nat × H)} (hr : reads env o = some id) (hc : (cls o == 2) = true) (k : sameGo P W o env v ms i id sn = true) : sameAt P W o env v ms i sn = true := by
 simp only [sameAt, hr, hc, k, Bool.and_self]
theorem sameAt_none {o : Op} {env : List V} {v : V} {ms : List Nat} {i : Nat} {sn : List (Nat × H)} (hr : reads env o = none) : sameAt P W o env v ms i sn = true := by
 simp only [sameAt, hr]
def primOf (q : List V → Option V) : List V → H → Option (V × H) := fun args h => match q args with | some v => some (v, h) | none => none
theorem WpM.givenQ {o : RO} {os : List RO} {ks : List KF} {env : List V} {ds : List Nat} {h : H} {r : Option Nat} {f : FuncId} {args : List V} {q : List V → Option V} (v : V) (hg : rg o env = true) (hs : opStep P W o.op env h = .call f args) (hp : prim f = some (primOf q)) (he : q args = some v)
  (k : WpM P W prim ⟨.ops os, ks, setD env o.dst v, ds, h, r⟩ Q) : WpM P W prim ⟨.ops (o :: os), ks, env, ds, h, r⟩ Q := WpM.given v h hg hs hp (by simp only [primOf, he]) k
theorem WpM.givenQD {ms : List Nat} {sn : List (Nat × H)} {i : Nat} {o : RO} {os : List (Nat × RO)} {ks : List KF} {env : List V} {ds : List Nat} {h : H} {r : Option Nat} {f : FuncId} {args : List V} {q : List V → Option V} (v : V) (hg : rg o env = true) (hc : cls o.op = 0) (hs : opStep P W o.op env h = .call f args) (hp : prim f = some (primOf q)) (he : q args = some v)
  (k : WpM P W prim ⟨.draw ms os ((i, h) :: sn), ks, setD env o.dst v, ds, h, r⟩ Q) : WpM P W prim ⟨.draw ms ((i, o) :: os) sn, ks, env, ds, h, r⟩ Q := WpM.givenD v h hg hc hs hp (by simp only [primOf, he]) k
theorem ldVar_newL {t : TypeId} {h : H} {i o : Nat} {l : List V} {t' : TypeId} {v : V} (hg : h.get i = some (.cells l t')) (hv : ldL P l t o = some v) : ldVar P W h t (.new i o) = some v := by
 have := load_new (P := P) (W := W) (t := t) (a := .tmp 0) (env := [.ptr (some (.new i o))]) (h := h) (i := i) (o := o) rfl hg hv
 simp only [opStep, ev] at this
 change Res.pure h (ldVar P W h t (.new i o)) = _ at this
 cases hl : ldVar P W h t (.new i o) with
 | none => rw [hl] at this; cases this
 | some u => rw [hl] at this; injection this with e _; rw [e]
theorem resL_cell1 {a : Tmp} {t : TypeId} {env : List V} {h : H} {i o : Nat} {l : List V} {t' : TypeId} {v : V} (ha : env.getD a .undef = .ptr (some (.new i o))) (hg : h.get i = some (.cells l t')) (hv : ldL P l t o = some v) : resL P W [.cell a t] env h = some v := by
 simp only [resL, resultsL, ha, ldVar_newL hg hv]
theorem resC {a : Tmp} {t : TypeId} {env : List V} {h : H} {i o : Nat} {l : List V} {t' : TypeId} {v : V} {rs : List ResultVar} {vs : List V} (ha : env.getD a .undef = .ptr (some (.new i o))) (hg : h.get i = some (.cells l t')) (hv : ldL P l t o = some v) (k : resultsL P W env h rs = some vs) : resultsL P W env h (.cell a t :: rs) = some (v :: vs) := by
 simp only [resultsL, ha, ldVar_newL hg hv, k]
theorem resT {a : Tmp} {env : List V} {h : H} {v : V} {rs : List ResultVar} {vs : List V} (ha : env.getD a .undef = v) (k : resultsL P W env h rs = some vs) : resultsL P W env h (.tmp a :: rs) = some (v :: vs) := by
 simp only [resultsL, ha, k]
theorem resN {env : List V} {h : H} : resultsL P W env h [] = some [] := rfl
theorem resL_two {rs : List ResultVar} {env : List V} {h : H} {a b : V} {l : List V} (k : resultsL P W env h rs = some (a :: b :: l)) : resL P W rs env h = some (.tup (a :: b :: l)) := by
 simp only [resL, k]
theorem WpM.pop {rs : List ResultVar} {d : Option Tmp} {os : List RO} {env' : List V} {ds' : List Nat} {r' : Option Nat} {ks : List KF} {env : List V} {ds : List Nat} {h : H} {r : Option Nat} (v : V) (hs : shut ds h = some h) (hv : resL P W rs env h = some v)
  (k : WpM P W prim ⟨.ops os, ks, setD env' d v, ds', h, r'⟩ Q) : WpM P W prim ⟨.done .ret, .call rs d os env' ds' r' :: ks, env, ds, h, r⟩ Q :=
 step_done rfl (by simp only [stepDone, hs, hv]) k
theorem WpM.popD {rs : List ResultVar} {d : Option Tmp} {ms : List Nat} {os : List (Nat × RO)} {sn : List (Nat × H)} {env' : List V} {ds' : List Nat} {r' : Option Nat} {ks : List KF} {env : List V} {ds : List Nat} {h : H} {r : Option Nat} (v : V) (hs : shut ds h = some h) (hv : resL P W rs env h = some v)
  (k : WpM P W prim ⟨.draw ms os sn, ks, setD env' d v, ds', h, r'⟩ Q) : WpM P W prim ⟨.done .ret, .callD rs d ms os sn env' ds' r' :: ks, env, ds, h, r⟩ Q :=
 step_done rfl (by simp only [stepDone, hs, hv]) k
theorem WpM.rndP {xb : RC} {l : Nat} {ks : List KF} {env : List V} {h : H} {r : Option Nat} {t : List V} {p : Array Tmp} {a b : Code} {pd : Option Code} {d : Nat} (hg : h.get l = some (.loop t p a b .ready pd d))
  (k : ∀ h', HP h h' l (some (.loop t p a b .busy pd d)) → WpM P W prim ⟨.code xb, ks, env, [], h', r⟩ Q) : WpM P W prim ⟨.done .norm, .rnd xb l :: ks, env, [], h, r⟩ Q := WpM.rnd hg (k _ (HP.mk' _ _ _))
theorem WpM.rnd_norm {l : Nat} {K : V → H → Prop} {env : List V} {h : H} {r : Option Nat} {t : List V} {p : Array Tmp} {a b : Code} {pd : Option Code} {d : Nat} (hg : h.get l = some (.loop t p a b .busy pd d))
  (k : ∀ h', HP h h' l (some (.loop t p a b .ready none d)) → K (.bool true) h') : WpM P W prim ⟨.done .norm, [], env, [], h, r⟩ (rndQ l K) := ⟨⟨rfl, t, p, a, b, pd, d, hg, k _ (HP.mk' _ _ _)⟩⟩
theorem WpM.rnd_ret {l : Nat} {K : V → H → Prop} {env : List V} {h : H} {r : Option Nat} {t : List V} {p : Array Tmp} {a b : Code} {pd : Option Code} {d : Nat} (hg : h.get l = some (.loop t p a b .busy pd d))
  (k : ∀ h', HP h h' l (some (.loop t p a b .done (some .ret) d)) → K (.bool false) h') : WpM P W prim ⟨.done .ret, [], env, [], h, r⟩ (rndQ l K) := ⟨⟨rfl, t, p, a, b, pd, d, hg, k _ (HP.mk' _ _ _)⟩⟩
theorem WpM.rnd_exit {l id : Nat} {K : V → H → Prop} {env : List V} {h : H} {r : Option Nat} {t : List V} {p : Array Tmp} {a b : Code} {pd : Option Code} {d : Nat} (hg : h.get l = some (.loop t p a b .busy pd d))
  (k : ∀ h', HP h h' l (some (.loop t p a b .done (some (.exit id)) d)) → K (.bool false) h') : WpM P W prim ⟨.done (.exit id), [], env, [], h, r⟩ (rndQ l K) := ⟨⟨rfl, t, p, a, b, pd, d, hg, k _ (HP.mk' _ _ _)⟩⟩
theorem WpM.rangeP {g : Operand} {ps : Array Tmp} {a b : Code} {ks : List KF} {env : List V} {ds : List Nat} {h : H} {gf : FuncId} {cap : List V} (hg : ev env g = some (.fn gf cap))
  (k : ∀ d h1 l h2, HA h h1 d .dfr → HA h1 h2 l (.loop env ps a b .ready none d) → WpF P W prim gf (.yld l :: cap) h2 (fun _ h3 => RangeQ P W prim Q ks env (d :: ds) l h3)) : WpM P W prim ⟨.code (.range g ps a b), ks, env, ds, h, none⟩ Q :=
 WpM.range hg (k _ _ _ _ (HA.mk' _ _) (HA.mk' _ _))
theorem RangeQ.norm {ks : List KF} {env : List V} {ds : List Nat} {l : Nat} {h3 : H} {a : List V} {b : Array Tmp} {c e : Code} {g : Nat} (hg : h3.get l = some (.loop a b c e .ready none g)) (k : ∀ h', HP h3 h' l (some (.loop a b c e .exhausted none g)) → WpM P W prim ⟨.done .norm, ks, env, ds, h', none⟩ Q) : RangeQ P W prim Q ks env ds l h3 := .inl ⟨a, b, c, e, g, hg, k _ (HP.mk' _ _ _)⟩
theorem RangeQ.ret {ks : List KF} {env : List V} {ds : List Nat} {l : Nat} {h3 : H} {a : List V} {b : Array Tmp} {c e : Code} {g : Nat} (hg : h3.get l = some (.loop a b c e .done (some .ret) g)) (k : ∀ h', HP h3 h' l (some (.loop a b c e .exhausted (some .ret) g)) → WpM P W prim ⟨.done .ret, ks, env, ds, h', none⟩ Q) : RangeQ P W prim Q ks env ds l h3 := .inr (.inl ⟨a, b, c, e, g, hg, k _ (HP.mk' _ _ _)⟩)
theorem RangeQ.exit {ks : List KF} {env : List V} {ds : List Nat} {l : Nat} {h3 : H} {a : List V} {b : Array Tmp} {c e : Code} {g id : Nat} (hg : h3.get l = some (.loop a b c e .done (some (.exit id)) g)) (k : ∀ h', HP h3 h' l (some (.loop a b c e .exhausted (some (.exit id)) g)) → WpM P W prim ⟨.done (.exit id), ks, env, ds, h', none⟩ Q) : RangeQ P W prim Q ks env ds l h3 := .inr (.inr ⟨a, b, c, e, g, id, hg, k _ (HP.mk' _ _ _)⟩)
theorem WpM.retS {rs : List ResultVar} {K : V → H → Prop} {env : List V} {d : Nat} {h : H} {r : Option Nat} (v : V) (hs : h.get d = some .dfr) (k : ∀ h', HP h h' d none → resL P W rs env h' = some v ∧ K v h') : WpM P W prim ⟨.done .ret, [], env, [d], h, r⟩ (retQ P W rs K) := by
 obtain ⟨k1, k2⟩ := k _ (HP.mk' h d none)
 exact ⟨⟨_, v, by simp only [shut, hs], k1, k2⟩⟩
theorem by_dec {p : Prop} [Decidable p] {A : Prop} (h1 : p → A) (h2 : ¬p → A) : A := (Decidable.em p).elim h1 h2
theorem dec_t {p : Prop} [Decidable p] (h : decide p = true) : p := of_decide_eq_true h
theorem dec_f {p : Prop} [Decidable p] (h : decide p = false) : ¬p := of_decide_eq_false h
theorem beq_t {α : Type} [BEq α] [LawfulBEq α] {a b : α} (h : (a == b) = true) : a = b := eq_of_beq h
theorem beq_f {α : Type} [BEq α] [LawfulBEq α] {a b : α} (h : (a == b) = false) : a ≠ b := ne_of_beq_false h
theorem bne_t {α : Type} [BEq α] [LawfulBEq α] {a b : α} (h : (a != b) = true) : a ≠ b := fun e => by subst e; simp at h
theorem bne_f {α : Type} [BEq α] [LawfulBEq α] {a b : α} (h : (a != b) = false) : a = b := by simpa using h
theorem nbeq_t {α : Type} [BEq α] [LawfulBEq α] {a b : α} (h : (!(a == b)) = true) : a ≠ b := by simpa using h
theorem nbeq_f {α : Type} [BEq α] [LawfulBEq α] {a b : α} (h : (!(a == b)) = false) : a = b := by simpa using h
theorem not_t {b : Bool} (h : (!b) = true) : b = false := by simpa using h
theorem not_f {b : Bool} (h : (!b) = false) : b = true := by simpa using h
theorem not_of_t {b : Bool} (h : b = true) : (!b) = false := by rw [h]; rfl
theorem not_of_f {b : Bool} (h : b = false) : (!b) = true := by rw [h]; rfl
theorem of_not_t {b : Bool} (h : (!b) = true) : b = false := by simpa using h
theorem of_not_f {b : Bool} (h : (!b) = false) : b = true := by simpa using h
theorem beq_sw {α : Type} [BEq α] [LawfulBEq α] {a b : α} {v : Bool} (h : (a == b) = v) : (b == a) = v := by
 subst h
 by_cases e : a = b
 ·subst e; rfl
 ·rw [beq_false_of_ne e, beq_false_of_ne (Ne.symm e)]
abbrev U : V := .tup []
abbrev us (n : Nat) : List V := List.replicate n U
def bt (s : List UInt8) (i : Int) : Int := ((s.getD i.toNat 0).toNat : Int)
theorem index_str {t : TypeId} {x i : Operand} {env : List V} {h : H} {s : List UInt8} {k : IntKind} {n : Int} (ht : P.underlying t = some .string) (hx : ev env x = some (.str s)) (hi : ev env i = some (.int k n)) (hn : 0 ≤ n ∧ n < (s.length : Int)) :
  opStep P W (.index t x i) env h = .val (.int .u8 (bt s n)) h := by
 have h1 : n.toNat < s.length := by omega
 simp only [opStep, ht, hx, hi, if_pos hn.1, List.getElem?_eq_getElem h1, bt, List.getD_eq_getElem?_getD, Option.getD_some]
theorem indexAddr_sl {t e : TypeId} {x i : Operand} {env : List V} {h : H} {a : Ad} {len lb z : Nat} {ex : Bool} {k : IntKind} {n : Int} (ht : P.underlying t = some (.slice e)) (hz : sizeOf P e = some z) (hx : ev env x = some (.slice (some a) len lb ex)) (hi : ev env i = some (.int k n)) (hn : 0 ≤ n ∧ n < (len : Int)) :
  opStep P W (.indexAddr t x i) env h = .val (.ptr (some (a.add (n.toNat * z)))) h := by
 simp only [opStep, ht, hx, hi, hz, if_pos hn]
theorem indexAddr_ar {t e : TypeId} {x i : Operand} {env : List V} {h : H} {a : Ad} {len z : Nat} {k : IntKind} {n : Int} (ht : P.underlying t = some (.array len e)) (hz : sizeOf P e = some z) (hx : ev env x = some (.ptr (some a))) (hi : ev env i = some (.int k n)) (hn : 0 ≤ n ∧ n < (len : Int)) :
  opStep P W (.indexAddr t x i) env h = .val (.ptr (some (a.add (n.toNat * z)))) h := by
 simp only [opStep, ht, hx, hi, hz, if_pos hn]
theorem concat_str {t u : TypeId} {x y : Operand} {env : List V} {h : H} {a b : List UInt8} (hx : ev env x = some (.str a)) (hy : ev env y = some (.str b)) (hn : a.length + b.length ≤ 140737488355328) :
  opStep P W (.binOp .add t x y u) env h = .val (.str (a ++ b)) h := by
 simp only [opStep, hx, hy, binOp, strOp, if_pos hn]; rfl
theorem slice_str {t : TypeId} {x : Operand} {lo hi : Option Operand} {env : List V} {h : H} {s : List UInt8} {l m : Option Nat} {lv hv : Option V} (ht : P.underlying t = some .string) (hx : ev env x = some (.str s)) (hl : evO env lo = some lv) (hh : evO env hi = some hv) (hl' : optNat lv = some l) (hh' : optNat hv = some m)
  (hn : l.getD 0 ≤ m.getD s.length ∧ m.getD s.length ≤ s.length) : opStep P W (.slice t x lo hi none) env h = .val (.str ((s.take (m.getD s.length)).drop (l.getD 0))) h := by
 have hm : evO env none = some none := rfl
 have hm' : optNat none = some none := rfl
 simp only [opStep, hx, hl, hh, hm, sliceOp, hl', hh', hm', ht]
 rw [if_pos ⟨rfl, hn⟩]; rfl
theorem optNat_none : optNat none = some none := rfl
theorem optNat_some {k : IntKind} {n : Int} (hn : 0 ≤ n) : optNat (some (.int k n)) = some (some n.toNat) := by simp only [optNat, natOf, if_pos hn]
theorem wrap_id {n : Int} (h1 : -9223372036854775808 ≤ n) (h2 : n ≤ 9223372036854775807) : IntKind.wrap .i64 n = n := by
 simp only [IntKind.wrap, IntKind.bits, IntKind.signed]; simp; omega
theorem arith_add {t u : TypeId} {x y : Operand} {env : List V} {h : H} {a b : Int} (hx : ev env x = some (.int .i64 a)) (hy : ev env y = some (.int .i64 b)) (hn : -9223372036854775808 ≤ a + b ∧ a + b ≤ 9223372036854775807) :
  opStep P W (.binOp .add t x y u) env h = .val (.int .i64 (a + b)) h := by
 simp only [opStep, hx, hy, binOp, intOp, if_true, wrap_id hn.1 hn.2]; rfl
theorem arith_sub {t u : TypeId} {x y : Operand} {env : List V} {h : H} {a b : Int} (hx : ev env x = some (.int .i64 a)) (hy : ev env y = some (.int .i64 b)) (hn : -9223372036854775808 ≤ a - b ∧ a - b ≤ 9223372036854775807) :
  opStep P W (.binOp .sub t x y u) env h = .val (.int .i64 (a - b)) h := by
 simp only [opStep, hx, hy, binOp, intOp, if_true, wrap_id hn.1 hn.2]; rfl
theorem arith_mul {t u : TypeId} {x y : Operand} {env : List V} {h : H} {a b : Int} (hx : ev env x = some (.int .i64 a)) (hy : ev env y = some (.int .i64 b)) (hn : -9223372036854775808 ≤ a * b ∧ a * b ≤ 9223372036854775807) :
  opStep P W (.binOp .mul t x y u) env h = .val (.int .i64 (a * b)) h := by
 simp only [opStep, hx, hy, binOp, intOp, if_true, wrap_id hn.1 hn.2]; rfl
theorem conv_i64 {t u : TypeId} {x : Operand} {env : List V} {h : H} {a : Int} {k : IntKind} {d : TypeDesc} (ht : P.underlying t = some d) (hu : P.underlying u = some (.int .i64)) (hx : ev env x = some (.int k a)) (hn : -9223372036854775808 ≤ a ∧ a ≤ 9223372036854775807) :
  opStep P W (.convert t u x) env h = .val (.int .i64 a) h := by
 simp only [opStep, hx, convert, ht, hu, wrap_id hn.1 hn.2]; rfl
def bv (s : List UInt8) : List V := s.map fun b => .int .u8 b.toNat
theorem bv_length (s : List UInt8) : (bv s).length = s.length := by simp [bv]
theorem bt_range (s : List UInt8) (i : Int) : 0 ≤ bt s i ∧ bt s i ≤ 255 := by
 unfold bt
 have := (s.getD i.toNat 0).toNat_lt
 omega
theorem bv_ld {bs : List UInt8} {i : Int} {t : TypeId} {off : Nat} (ht : isAgg P t = some false) (hi : 0 ≤ i ∧ i < (bs.length : Int)) (ho : off = i.toNat) : ldL P (bv bs) t off = some (.int .u8 (bt bs i)) := by
 subst ho
 have hl : i.toNat < bs.length := by omega
 have hl' : i.toNat < (bv bs).length := by rw [bv_length]; exact hl
 simp only [ldL, ht]
 rw [if_pos (by omega), List.drop_eq_getElem_cons hl']
 simp [bv, bt, List.getD_eq_getElem?_getD, List.getElem?_eq_getElem hl]
theorem bv_st {bs : List UInt8} {i n : Int} {t : TypeId} {off : Nat} (ht : sizeOf P t = some 1) (hi : 0 ≤ i ∧ i < (bs.length : Int)) (hn : 0 ≤ n ∧ n ≤ 255) (ho : off = i.toNat) : stL P (bv bs) t off (.int .u8 n) = some (bv (bs.set i.toNat (UInt8.ofNat n.toNat))) := by
 subst ho
 have hl : i.toNat < bs.length := by omega
 have hv : (V.int .u8 n).cells = [V.int .u8 n] := rfl
 simp only [stL, ht, hv, List.length_cons, List.length_nil, Nat.zero_add, if_true, List.all_cons, List.all_nil, V.one, Bool.and_self]
 have h1 : i.toNat + 1 ≤ (bv bs).length := by rw [bv_length]; omega
 simp only [h1, if_true]
 congr 1
 unfold splice bv
 rw [List.map_set, List.set_eq_take_append_cons_drop, if_pos (by rw [List.length_map]; exact hl)]
 simp only [List.length_cons, List.length_nil, Nat.zero_add, List.cons_append, List.nil_append]
 have : (UInt8.ofNat n.toNat).toNat = n.toNat := by
  have h256 : n.toNat < 256 := by omega
  exact UInt8.toNat_ofNat_of_lt' h256
 rw [this]
 congr 3
 omega
theorem intsOf_bv : ∀ bs : List UInt8, intsOf (bv bs) = some bs
 | [] => rfl
 | b :: bs => by
  have h := intsOf_bv bs
  unfold bv at h ⊢
  simp only [List.map_cons, intsOf, h]
  simp
theorem conv_str {t u e : TypeId} {x : Operand} {env : List V} {h : H} {i len lb : Nat} {ex : Bool} {bs : List UInt8} {t' : TypeId} (ht : P.underlying t = some (.slice e)) (hu : P.underlying u = some .string) (he : P.underlying e = some (.int .u8)) (hx : ev env x = some (.slice (some (.new i 0)) len lb ex)) (hg : h.get i = some (.cells (bv bs) t')) (hl : len = bs.length) :
  opStep P W (.convert t u x) env h = .val (.str bs) h := by
 subst hl
 simp only [opStep, hx, convert, ht, hu, he, ldCells, hg]
 by_cases h0 : bs.length = 0
 ·have : bs = [] := List.eq_nil_of_length_eq_zero h0
  subst this
  rfl
 ·rw [if_neg h0, if_pos (by rw [bv_length]; omega)]
  rw [List.drop_zero, List.take_of_length_le (by rw [bv_length]; exact Nat.le_refl _)]
  simp only [intsOf_bv]
  rfl
theorem arith_addU {t u : TypeId} {x y : Operand} {env : List V} {h : H} {a b : Int} (hx : ev env x = some (.int .u8 a)) (hy : ev env y = some (.int .u8 b)) (hn : 0 ≤ a + b ∧ a + b ≤ 255) :
  opStep P W (.binOp .add t x y u) env h = .val (.int .u8 (a + b)) h := by
 have : IntKind.wrap .u8 (a + b) = a + b := by simp only [IntKind.wrap, IntKind.bits, IntKind.signed]; simp; omega
 simp only [opStep, hx, hy, binOp, intOp, if_true, this]; rfl
theorem arith_subU {t u : TypeId} {x y : Operand} {env : List V} {h : H} {a b : Int} (hx : ev env x = some (.int .u8 a)) (hy : ev env y = some (.int .u8 b)) (hn : 0 ≤ a - b ∧ a - b ≤ 255) :
  opStep P W (.binOp .sub t x y u) env h = .val (.int .u8 (a - b)) h := by
 have : IntKind.wrap .u8 (a - b) = a - b := by simp only [IntKind.wrap, IntKind.bits, IntKind.signed]; simp; omega
 simp only [opStep, hx, hy, binOp, intOp, if_true, this]; rfl
end
end Go.Proofs.YtkhjmgchlbnkjaaDoor.Dg
