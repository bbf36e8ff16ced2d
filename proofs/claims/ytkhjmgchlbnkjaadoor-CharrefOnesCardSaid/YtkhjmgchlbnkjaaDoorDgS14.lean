import Derived.Test.YtkhjmgchlbnkjaaDoorDgS13
set_option linter.unusedVariables false
set_option linter.unusedSimpArgs false
namespace Go.Proofs.YtkhjmgchlbnkjaaDoor.Dg
open Go Go.RowKit
section
variable {P : Program} {W : World} {ih : IH} {ops : Array Oper} {n : Nat} {L : Nat → Nat} {o : Nat → Oper} {tr : Nat → St} {vl : Nat → V} {bf : Nat → Nat → Bool}
theorem looks_eq (ops : Array Oper) (o : Oper) : looks ops o = o.looksAt ops := rfl
theorem mem_looks {ops : Array Oper} {o : Oper} {t : Tmp} (h : Operand.tmp t ∈ o.op.operands) : t ∈ looks ops o :=
  List.mem_append_left _ (List.mem_filterMap.2 ⟨.tmp t, by simpa using h, rfl⟩)
theorem wanted_agree {ops : Array Oper} {o : Oper} {c c' : Array Value} (h : ∀ t ∈ looks ops o, c[t]? = c'[t]?) : Region.wanted o (yielded ops c) = Region.wanted o (yielded ops c') := by
  unfold Region.wanted
  cases hg : o.guard with
  | none => rfl
  | some jw =>
    obtain ⟨j, want⟩ := jw
    simp only [yielded]
    cases ht : (ops[j]?).bind (·.dst) with
    | none => rfl
    | some t => simp only [Option.bind_some, h t (by simp [looks, hg, ht])]
theorem guardOk_agree {ops : Array Oper} {o : Oper} {c c' : List V} (h : ∀ t ∈ looks ops o, c[t]? = c'[t]?) : guardOk ops o c = guardOk ops o c' := by
  unfold guardOk
  cases hg : o.guard with
  | none => rfl
  | some jw =>
    obtain ⟨j, want⟩ := jw
    simp only
    cases ht : (ops[j]?).bind (·.dst) with
    | none => rfl
    | some t => simp only [h t (by simp [looks, hg, ht])]
theorem ev_agree {ops : Array Oper} {o : Oper} {c c' : List V} (h : ∀ t ∈ looks ops o, c[t]? = c'[t]?) : ∀ y ∈ o.op.operands, ev c y = ev c' y := fun y hy => by
  cases y with
  | tmp t => simp only [ev, List.getD_eq_getElem?_getD, h t (mem_looks hy)]
  | _ => rfl
theorem eval_agree {ops : Array Oper} {o : Oper} {a a' : Act} (h : ∀ t ∈ looks ops o, a.tmps[t]? = a'.tmps[t]?) : ∀ y ∈ o.op.operands, a.eval y = a'.eval y := fun y hy => by
  cases y with
  | tmp t => simp only [Act.eval, Array.getD_eq_getD_getElem?, h t (mem_looks hy)]
  | _ => rfl
theorem agreeA (C : Canon P W ih ops n L o tr vl bf) {a0 : Act} {x : Nat → Value} {S : Nat → Bool} {e : Nat} (he : e < n) (hS : S e = false) (hcl : ∀ p, S p = true → ∀ q, bf p q = true → S q = true) :
    ∀ m, e ≤ m → m ≤ n → ∀ t ∈ looks ops (o e), (acx o a0 x S m).tmps[t]? = (acx o a0 x S e).tmps[t]? := by
  intro m
  induction m with
  | zero => intro h _ t _; have : e = 0 := by omega
            subst this; rfl
  | succ m ih' =>
    intro hm hn t ht
    rcases Nat.lt_or_ge m e with h | h
    · have : e = m + 1 := by omega
      subst this; rfl
    · have e1 := ih' h (by omega) t ht
      rw [← e1]
      conv => lhs; unfold acx
      split
      · rename_i hSm
        have hne : m ≠ e := fun hh => by subst hh; rw [hSm] at hS; cases hS
        cases hd : (o m).dst with
        | none => rfl
        | some d =>
          have hdt : d ≠ t := fun hh => by
            subst hh
            have := (C.tmp e m he (by omega) (Ne.symm hne) d hd (.inl ht)).2 (by omega)
            rw [hcl m hSm e this] at hS
            cases hS
          simp [Act.put, Array.getElem?_setIfInBounds_ne hdt]
      · rfl
theorem agreeE (C : Canon P W ih ops n L o tr vl bf) {S : Nat → Bool} {e : Nat} (he : e < n) (hbf : ∀ q, bf e q = true → S q = true) :
    ∀ m, m ≤ e → ∀ t ∈ looks ops (o e), (envx o tr vl S m)[t]? = (tr m).env[t]? := by
  intro m
  induction m with
  | zero => intro _ t _; rfl
  | succ m ih' =>
    intro hm t ht
    have e1 := ih' (by omega) t ht
    rw [(C.step m (by omega)).env]
    unfold envx
    have len : ∀ p, p ≤ m → (envx o tr vl S p).length = (tr p).env.length := by
      intro p
      induction p with
      | zero => intro _; rfl
      | succ p ihp =>
        intro hp
        rw [(C.step p (by omega)).env]
        unfold envx
        have := ihp (by omega)
        split <;> cases (o p).dst <;> simp [putE, this]
    cases hd : (o m).dst with
    | none => split <;> simpa [putE] using e1
    | some d =>
      by_cases hdt : d = t
      · subst hdt
        have := (C.tmp e m he (by omega) (by omega) d hd (.inl ht)).1 (by omega)
        rw [if_pos (hbf m this)]
        simp only [putE, List.getElem?_set, len m (Nat.le_refl _), if_true]
      · split
        · simp only [putE, List.getElem?_set_ne hdt]; exact e1
        · simp only [putE, List.getElem?_set_ne hdt]; exact e1
theorem stage {pm e : Nat} (hpe : pm ≤ e) {id : Nat} (h1 : nxa tr pm ≤ id) (h2 : id < nxa tr e) : ∃ p, pm ≤ p ∧ p < e ∧ nxa tr p ≤ id ∧ id < nxa tr (p + 1) := by
  induction e with
  | zero => have : pm = 0 := by omega
            subst this; omega
  | succ e ih' =>
    rcases Nat.lt_or_ge e pm with h | h
    · have : pm = e + 1 := by omega
      subst this; omega
    · rcases Nat.lt_or_ge id (nxa tr e) with h3 | h3
      · obtain ⟨p, a, b, c⟩ := ih' h h3
        exact ⟨p, a, by omega, c⟩
      · exact ⟨e, h, by omega, h3, h2⟩
theorem scan (C : Canon P W ih ops n L o tr vl bf) {q0 id : Nat} {X : Option AO} (hX : (tr q0).h.get id = X) (hid : id < nxa tr q0) :
    ∀ q, q0 ≤ q → q ≤ n → (tr q).h.get id = X ∨ ∃ q1, q0 ≤ q1 ∧ q1 < q ∧ cls (o q1).op = 0 ∧ guardOk ops (o q1) (tr q1).env = true ∧ (tr q1).h.get id = X := by
  intro q
  induction q with
  | zero => intro h _; have : q0 = 0 := by omega
            subst this; exact .inl hX
  | succ q ih' =>
    intro h hn
    rcases Nat.lt_or_ge q q0 with h' | h'
    · have : q0 = q + 1 := by omega
      subst this; exact .inl hX
    · rcases ih' h' (by omega) with h1 | ⟨q1, a, b, c⟩
      · by_cases hc : cls (o q).op = 0
        · rcases (C.step q (by omega)).how with ⟨_, _, e⟩ | ⟨hg, _, _⟩ | ⟨_, e, _⟩
          · left; rw [e]; exact h1
          · exact .inr ⟨q, h', by omega, hc, hg, h1⟩
          · exact absurd hc e
        · left
          rw [C.hstep (by omega) hc, alm_get]
          · exact h1
          · have := C.nx_le h' (by omega); unfold nxa at this hid; omega
      · exact .inr ⟨q1, a, by omega, c⟩
theorem Inv.value (C : Canon P W ih ops n L o tr vl bf) {μ0 : Mu} {w0 : World} {a0 : Act} {S : Nat → Bool} {pm : Nat} {ν : Mu} {x : Nat → Value} {w : World} (I : Inv P W n o tr vl bf μ0 w0 a0 S pm ν x w) {e : Nat} (he : e < n) (hS : S e = false) (hpe : pm ≤ e)
    (hbf : ∀ q, bf e q = true → S q = true) (hg : guardOk ops (o e) (tr e).env = true) (hc : cls (o e).op ≠ 0) (hs : opStep P W (o e).op (tr e).env (tr e).h = .val (vl e) (tr (e + 1)).h)
    (hr : ∀ id, reads (tr e).env (o e).op = some id → cls (o e).op = 2) :
    opStep P W (o e).op (envx o tr vl S e) (hx tr S pm e) = .val (vl e) (alm tr e (hx tr S pm e)) := by
  have hag := agreeE C he hbf e (Nat.le_refl _)
  have hev : ∀ y ∈ (o e).op.operands, ev (envx o tr vl S e) y = ev (tr e).env y := ev_agree hag
  rw [opStep_congr (o e).op (hx tr S pm e) hev]
  have hcl : cls (o e).op = 1 ∨ cls (o e).op = 2 ∨ cls (o e).op = 3 := by
    revert hc
    generalize (o e).op = op
    cases op <;> simp [cls]
    split <;> simp
  have alnone : (tr (e + 1)).h = (tr e).h → alm tr e (hx tr S pm e) = hx tr S pm e := fun h1 => by
    have : al tr e = none := by simp [al, h1]
    simp only [alm, this]
  rcases hcl with hcl | hcl | hcl
  · have hrn : reads (tr e).env (o e).op = none := by
      cases hh : reads (tr e).env (o e).op with
      | none => rfl
      | some id => have := hr id hh; omega
    obtain ⟨h1, h2⟩ := pure_step hcl hrn hs
    rw [alnone h1]; exact h2 _
  · obtain ⟨h1, h2⟩ := load_step hcl hs
    rw [alnone h1]
    cases hrd : reads (tr e).env (o e).op with
    | none => exact h2 _ fun id hid => by rw [hrd] at hid; cases hid
    | some id =>
      -- the number is known: it is of those ahead
      have hk : ∃ k, ν.cut (nxa tr e) id = some k := by
        have hrd' : reads (envx o tr vl S e) (o e).op = some id := by rw [reads_congr _ hev]; exact hrd
        have hE := I.env e hpe (by omega)
        revert hrd' hcl
        generalize (o e).op = op
        cases op <;> simp only [cls] <;> intro hcl hrd' <;> try (cases hcl; done)
        case call c => split at hcl <;> cases hcl
        case load t y =>
          simp only [reads] at hrd'
          split at hrd'
          · rename_i i off hev'
            injection hrd' with hrd'; subst hrd'
            have := ev_spec hE hev'
            simp only [VR, AR] at this
            obtain ⟨a', _, k, hk, _⟩ := this
            exact ⟨k, hk⟩
          · cases hrd'
      obtain ⟨k, hk⟩ := hk
      obtain ⟨hlt, hk⟩ := Mu.cut_some hk
      -- from where on it lies as it lies
      have hq : ∃ q0, pm ≤ q0 ∧ q0 ≤ e ∧ id < nxa tr q0 ∧ (tr q0).h.get id = (hx tr S pm e).get id := by
        rcases Nat.lt_or_ge id (nxa tr pm) with h | h
        · refine ⟨pm, Nat.le_refl _, hpe, h, ?_⟩
          rw [hx_get C I.nw (Nat.le_refl pm) e hpe (by omega) id h, hx_all C pm I.le I.nw I.low]
        · obtain ⟨p, p1, p2, p3, p4⟩ := stage (tr := tr) hpe h hlt
          have hSp : S p = true := by
            cases hh : S p with
            | true => rfl
            | false => rw [I.out p p1 (by omega) hh id p3 p4] at hk; cases hk
          have hcp := I.nw p p1 hSp
          have hst := C.hstep (m := p) (by omega) hcp
          have hpn : (hx tr S pm p).nx = nxa tr p := hx_nx C p (by omega) I.nw
          refine ⟨p + 1, by omega, by omega, p4, ?_⟩
          rw [hx_get C I.nw (show pm ≤ p + 1 by omega) e (by omega) (by omega) id p4]
          conv => rhs; unfold hx
          rw [if_neg (by omega), if_pos hSp, hst]
          unfold alm
          cases hal : al tr p with
          | none =>
            exfalso
            have : (tr (p + 1)).h = (tr p).h := by rw [hst]; simp only [alm, hal]
            unfold nxa at p3 p4
            rw [this] at p4
            omega
          | some ob =>
            have hnx : nxa tr (p + 1) = nxa tr p + 1 := by unfold nxa; rw [hst]; simp only [alm, hal, H.nx_alloc]
            have hid : id = nxa tr p := by omega
            simp only
            rw [show id = (tr p).h.nx from hid, H.get_alloc_same, show (tr p).h.nx = (hx tr S pm p).nx from hpn.symm, H.get_alloc_same]
      obtain ⟨q0, a1, a2, a3, a4⟩ := hq
      rcases scan C a4 a3 e a2 (by omega) with h3 | ⟨q1, b1, b2, b3, b4, b5⟩
      · refine h2 _ fun id' hid' => ?_
        rw [hrd] at hid'; injection hid' with hid'; subst hid'
        exact h3.symm
      · rcases C.same e he hg id hrd hc q1 b2 b3 b4 with c1 | c1 | ⟨hh, c1⟩
        · exact absurd b3 (I.nw q1 (by omega) (hbf q1 c1))
        · have := C.nx_le b1 (by omega)
          unfold nxa at this a3
          omega
        · refine (load_step hcl c1).2 _ fun id' hid' => ?_
          rw [hrd] at hid'; injection hid' with hid'; subst hid'
          exact b5.symm
  · obtain ⟨ob, f, e1, e2, e3⟩ := alloc_step hcl hs
    have hal : al tr e = some ob := by
      simp only [al, e1, H.nx_alloc]
      rw [if_neg (by omega)]
      exact H.get_alloc_same _ _
    rw [e3, hx_nx C e (by omega) I.nw, show f (nxa tr e) = vl e from e2.symm]
    simp only [alm, hal]
theorem Inv.step (C : Canon P W ih ops n L o tr vl bf) (H0 : IHOK P W ih) {μ0 : Mu} {w0 : World} {a0 : Act} {S : Nat → Bool} {pm : Nat} {ν : Mu} {x : Nat → Value} {w : World} (I : Inv P W n o tr vl bf μ0 w0 a0 S pm ν x w) {e : Nat} (he : e < n) (hS : S e = false)
    (hbf : ∀ q, bf e q = true → S q = true) (rr : Option Nat) {K : Act → World → Prop} {Q : Exit → Act → World → Prop}
    (hK : ∀ pm' ν' x' w', Inv P W n o tr vl bf μ0 w0 a0 (upd S e) pm' ν' x' w' → K (acx o a0 x' (upd S e) n) w') :
    wpOpIn (Wd rr) 0 P ops Q (L e) K (acx o a0 x S n) w := by
  have hpe : pm ≤ e := by
    rcases Nat.lt_or_ge e pm with h | h
    · rw [I.low e h] at hS; cases hS
    · exact h
  have hA := agreeA C (a0 := a0) (x := x) he hS I.cl n (by omega) (Nat.le_refl _)
  have hE := agreeE C he hbf e (Nat.le_refl _)
  have hwant : Region.wanted (o e) (yielded ops (acx o a0 x S n).tmps) = guardOk ops (o e) (tr e).env := by
    rw [wanted_agree hA, guard_eq (I.env e hpe (by omega)) ops (o e), guardOk_agree hE]
  have put : ∀ xv, (acx o a0 x S n).put (o e).dst xv = acx o a0 (updx x e xv) (upd S e) n := fun xv => (acx_put C he hS I.cl n (by omega) (Nat.le_refl _)).symm
  have hlow : hx tr (upd S e) pm e = hx tr S pm e := hx_low e fun p hp => upd_ne S (by omega)
  unfold wpOpIn
  simp only [C.op e he]
  rw [hwant]
  rcases (C.step e he).how with ⟨hg, hv, hh⟩ | ⟨hg, hc, hrun⟩ | ⟨hg, hc, hs, hr⟩
  · -- not wanted
    rw [hg]
    simp only [Bool.false_eq_true, if_false]
    refine ⟨fun _ _ => trivial, ?_⟩
    rw [put]
    refine hK (if cls (o e).op = 0 then e + 1 else pm) _ _ w (I.next C he hS hbf rfl (μ1 := ν.cut (nxa tr e)) (by rw [hv]; exact VR.undef _) ?_ fun _ _ _ => rfl)
    have : hx tr (upd S e) (if cls (o e).op = 0 then e + 1 else pm) (e + 1) = hx tr S pm e := by
      by_cases hc : cls (o e).op = 0
      · rw [if_pos hc, hx_all C e (by omega) I.nw fun p hp => hbf p (C.wall e he hc p hp)]
        unfold hx
        rw [if_pos (by omega)]; exact hh
      · rw [if_neg hc]
        conv => lhs; unfold hx
        rw [if_neg (by omega), if_pos (upd_same S e), hlow]
        have : al tr e = none := by simp [al, hh]
        simp only [alm, this]
    rw [this]
    exact Go1.refl (I.hr e hpe (by omega))
  · -- it writes
    rw [hg]
    simp only [if_true]
    have hall : ∀ p, p < e → S p = true := fun p hp => hbf p (C.wall e he hc p hp)
    have hh : hx tr S pm e = (tr e).h := hx_all C e (by omega) I.nw hall
    have henv : envx o tr vl S e = (tr e).env := by
      have : ∀ m, m ≤ e → envx o tr vl S m = (tr m).env := by
        intro m
        induction m with
        | zero => intro _; rfl
        | succ m ihm =>
          intro hm
          unfold envx
          rw [if_pos (hall m (by omega)), ihm (by omega), (C.step m (by omega)).env]
      exact this e (Nat.le_refl _)
    have h1 := I.hr e hpe (by omega)
    have h2 := I.env e hpe (by omega)
    rw [hh] at h1
    rw [henv] at h2
    have hns : ∀ cs b, (o e).op ≠ .select cs b := fun cs b hsel => by
      rw [hsel] at hrun
      simp only [runOp, opStep] at hrun
      cases hrun
    refine op_wpIn H0 hrun rr h1 h2 _ (execOp_congr (o e) hns (eval_agree hA)) ?_
    intro μ1 w1 xv hv g
    rw [put]
    refine hK (if cls (o e).op = 0 then e + 1 else pm) _ _ w1 (I.next C he hS hbf rfl (μ1 := μ1) hv ?_ fun h => absurd hc h)
    rw [if_pos hc, hh]
    unfold hx
    rw [if_pos (by omega)]
    exact g
  · -- it does not write
    rw [hg]
    simp only [if_true]
    have hval := I.value C he hS hpe hbf hg hc hs hr
    have hns : ∀ cs b, (o e).op ≠ .select cs b := fun cs b hsel => by
      rw [hsel] at hs
      simp only [opStep] at hs
      cases hs
    have hev : ∀ y ∈ (o e).op.operands, ev (envx o tr vl S e) y = ev (tr e).env y := ev_agree hE
    obtain ⟨μ1, w1, r, xv, k1, k2, k3, k4, k5⟩ := nw_run (I.hr e hpe (by omega)) (I.env e hpe (by omega)) hc (fun id hid => hr id (by rw [← reads_congr _ hev]; exact hid)) hval
    refine ⟨fun _ _ => trivial, ?_⟩
    have hnd : ∀ c, (o e).op ≠ .defer c := opStep_noDefer (P := P) (W := W) (env := (tr e).env) (h := (tr e).h) (by rw [hs]; simp)
    rw [Oper.semAt_eq (Wd rr).round _ (o e) hnd, execOp_congr (o e) hns (eval_agree hA), k1]
    have fin : K ((acx o a0 x S n).put (o e).dst xv) w1 := by
      rw [put]
      refine hK (if cls (o e).op = 0 then e + 1 else pm) _ _ w1 (I.next C he hS hbf rfl (μ1 := μ1) k3 ?_ fun _ => k5)
      rw [if_neg hc]
      conv => arg 7; unfold hx
      rw [if_neg (by omega), if_pos (upd_same S e), hlow]
      exact k4
    rcases k2 with rfl | ⟨rfl, rfl⟩
    · exact fin
    · exact fin
def Sched (n : Nat) (L : Nat → Nat) (bf : Nat → Nat → Bool) : (Nat → Bool) → List Nat → Prop
  | S, [] => ∀ p, p < n → S p = true
  | S, i :: is => ∃ e, e < n ∧ L e = i ∧ S e = false ∧ (∀ q, bf e q = true → S q = true) ∧ Sched n L bf (upd S e) is
theorem sched_wp (C : Canon P W ih ops n L o tr vl bf) (H0 : IHOK P W ih) (rr : Option Nat) {μ0 : Mu} {w0 : World} {a0 : Act} {Q : Exit → Act → World → Prop}
    (hQ : ∀ S pm ν x w, (∀ p, p < n → S p = true) → Inv P W n o tr vl bf μ0 w0 a0 S pm ν x w → Q .normal (acx o a0 x S n) w) :
    ∀ (is : List Nat) (S : Nat → Bool) (pm : Nat) (ν : Mu) (x : Nat → Value) (w : World), Sched n L bf S is → Inv P W n o tr vl bf μ0 w0 a0 S pm ν x w → wpOpsIn (Wd rr) 0 P ops Q is (acx o a0 x S n) w
  | [], S, pm, ν, x, w, hs, I => hQ S pm ν x w hs I
  | i :: is, S, pm, ν, x, w, hs, I => by
    obtain ⟨e, he, rfl, hS, hbf, hs⟩ := hs
    rw [wpOpsIn_cons]
    exact I.step C H0 he hS hbf rr fun pm' ν' x' w' I' => sched_wp C H0 rr hQ is _ pm' ν' x' w' hs I'
theorem cut_all {μ : Mu} {k m : Nat} (h : ∀ i, k ≤ i → μ i = none) (hm : k ≤ m) : μ.cut m = μ := by
  funext i
  unfold Mu.cut
  split
  · rfl
  · exact (h i (by omega)).symm
theorem Inv.start (C : Canon P W ih ops n L o tr vl bf) {μ0 : Mu} {w0 : World} {a0 : Act} (hr : HR P W μ0 (tr 0).h w0) (he : VRL μ0 (tr 0).env a0.tmps.toList) (x : Nat → Value) :
    Inv P W n o tr vl bf μ0 w0 a0 (fun _ => false) 0 μ0 x w0 := by
  have hcut : ∀ m, m ≤ n → μ0.cut (nxa tr m) = μ0 := fun m hm => cut_all (fun i hi => (hr.fresh i hi).1) (C.nx_le (Nat.zero_le m) hm)
  have hh : ∀ m, m ≤ n → hx tr (fun _ => false) 0 m = ⟨(tr 0).h.tr, nxa tr m⟩ := by
    intro m
    induction m with
    | zero => intro _; rfl
    | succ m ihm =>
      intro hm
      unfold hx
      rw [if_neg (by omega), ihm (by omega)]
      rfl
  have hHR : ∀ m, m ≤ n → HR P W μ0 ⟨(tr 0).h.tr, nxa tr m⟩ w0 := fun m hm =>
    ⟨hr.obj, hr.inj, fun i hi => hr.fresh i (Nat.le_trans (C.nx_le (Nat.zero_le m) hm) hi), hr.below⟩
  refine ⟨Nat.zero_le _, fun p hp => absurd hp (Nat.not_lt_zero _), fun p hp => (by cases hp), fun p _ hp => (by cases hp), fun p hp => (by cases hp), fun m _ hm => ?_, fun m h00 hm => ?_, fun p hp => (by cases hp), fun p _ hp _ i h1 h2 => ?_, ?_, fun _ _ => rfl⟩
  · rw [hcut m hm, hh m hm]; exact hHR m hm
  · rw [hcut m hm]
    have h1 : envx o tr vl (fun _ => false) m = (tr 0).env := by
      clear hm h00
      induction m with
      | zero => rfl
      | succ m ihm => unfold envx; simp only [Bool.false_eq_true, if_false]; exact ihm
    have h2 : acx o a0 x (fun _ => false) m = a0 := by
      clear hm h1 h00
      induction m with
      | zero => rfl
      | succ m ihm => unfold acx; simp only [Bool.false_eq_true, if_false]; exact ihm
    rw [h1, h2]; exact he
  · exact (hr.fresh i (Nat.le_trans (C.nx_le (Nat.zero_le p) (by omega)) h1)).1
  · rw [hcut n (Nat.le_refl _), hh n (Nat.le_refl _)]
    exact ⟨hHR n (Nat.le_refl _), Mu.le_refl _, C.nx_le (Nat.zero_le n) (Nat.le_refl _), Nat.le_refl _, fun _ _ _ => rfl, fun i oi k hi hk => .inr ⟨i, oi, k, hi, hk, rfl⟩⟩
theorem canon_wp (C : Canon P W ih ops n L o tr vl bf) (H0 : IHOK P W ih) (rr : Option Nat) {μ0 : Mu} {w0 : World} {a0 : Act} (hr : HR P W μ0 (tr 0).h w0) (he : AOK μ0 (tr 0).env (tr 0).ds a0) {Q : Exit → Act → World → Prop}
    (hQ : ∀ μ' w' a', Go1 P W μ0 (tr 0).h w0 μ' (tr n).h w' → AOK μ' (tr n).env (tr n).ds a' → Q .normal a' w') (is : List Nat) (hs : Sched n L bf (fun _ => false) is) : wpOpsIn (Wd rr) 0 P ops Q is a0 w0 := by
  have key := sched_wp C H0 rr (μ0 := μ0) (w0 := w0) (a0 := a0) (Q := Q) (fun S pm ν x w hall I => ?_) is _ 0 μ0 (fun _ => undef) w0 hs (Inv.start C hr he.env _)
  · have h2 : acx o a0 (fun _ => undef) (fun _ => false) n = a0 := by
      clear key hs
      have : ∀ m, acx o a0 (fun _ => undef) (fun _ => false) m = a0 := by
        intro m
        induction m with
        | zero => rfl
        | succ m ihm => unfold acx; simp only [Bool.false_eq_true, if_false]; exact ihm
      exact this n
    rw [h2] at key
    exact key
  · have hh : hx tr S pm n = (tr n).h := hx_all C n (Nat.le_refl _) I.nw hall
    have henv : ∀ m, m ≤ n → envx o tr vl S m = (tr m).env := by
      intro m
      induction m with
      | zero => intro _; rfl
      | succ m ihm =>
        intro hm
        unfold envx
        rw [if_pos (hall m (by omega)), ihm (by omega), (C.step m (by omega)).env]
    have hds : ∀ m, m ≤ n → (tr m).ds = (tr 0).ds := by
      intro m
      induction m with
      | zero => intro _; rfl
      | succ m ihm => intro hm; rw [(C.step m (by omega)).ds]; exact ihm (by omega)
    have hdf : ∀ m, (acx o a0 x S m).defers = a0.defers := by
      intro m
      induction m with
      | zero => rfl
      | succ m ihm =>
        unfold acx
        split
        · cases hd : (o m).dst <;> simp only [Act.put] <;> exact ihm
        · exact ihm
    have hgo := I.go
    rw [hh] at hgo
    have hold : ∀ i, i < (tr 0).h.nx → ν.cut (nxa tr n) i = μ0 i := fun i hi => by
      have := C.nx_le (Nat.zero_le n) (Nat.le_refl _)
      unfold nxa at this
      rw [Mu.cut_lt (by unfold nxa; omega)]
      exact I.old i hi
    refine hQ (ν.cut (nxa tr n)) w _ ⟨hgo.hr, hgo.mono, hgo.nx, hgo.size, hgo.frame, hgo.foot, hold⟩ ⟨?_, ?_⟩
    · have := I.env n I.le (Nat.le_refl _)
      rw [henv n (Nat.le_refl _)] at this
      exact this
    · rw [hds n (Nat.le_refl _), hdf]
      exact he.ds.mono hgo.mono
end
end Go.Proofs.YtkhjmgchlbnkjaaDoor.Dg
