import Derived.Test.YtkhjmgchlbnkjaaDoorDgS12
set_option linter.unusedVariables false
set_option linter.unusedSimpArgs false
namespace Go.Proofs.YtkhjmgchlbnkjaaDoor.Dg
open Go Go.RowKit
def putE (dst : Option Tmp) (v : V) (env : List V) : List V :=
  match dst with
  | some d => env.set d v
  | none => env
structure CS (P : Program) (W : World) (ih : IH) (ops : Array Oper) (o : Oper) (st st' : St) (v : V) : Prop where
  env : st'.env = putE o.dst v st.env
  ds : st'.ds = st.ds
  how : (guardOk ops o st.env = false ∧ v = .undef ∧ st'.h = st.h) ∨
    (guardOk ops o st.env = true ∧ cls o.op = 0 ∧ runOp P W ih o.op st.env st.h = some (v, st'.h)) ∨
    (guardOk ops o st.env = true ∧ cls o.op ≠ 0 ∧ opStep P W o.op st.env st.h = .val v st'.h ∧ ∀ id, reads st.env o.op = some id → cls o.op = 2)
structure Canon (P : Program) (W : World) (ih : IH) (ops : Array Oper) (n : Nat) (L : Nat → Nat) (o : Nat → Oper) (tr : Nat → St) (vl : Nat → V) (bf : Nat → Nat → Bool) : Prop where
  op : ∀ p, p < n → ops[L p]? = some (o p)
  step : ∀ p, p < n → CS P W ih ops (o p) (tr p) (tr (p + 1)) (vl p)
  nx : ∀ p, p < n → (tr p).h.nx ≤ (tr (p + 1)).h.nx
  wall : ∀ p, p < n → cls (o p).op = 0 → ∀ q, q < p → bf p q = true
  tmp : ∀ p q, p < n → q < n → p ≠ q → ∀ t, (o q).dst = some t → (t ∈ looks ops (o p) ∨ (o p).dst = some t) → (q < p → bf p q = true) ∧ (p < q → bf q p = true)
  same : ∀ p, p < n → guardOk ops (o p) (tr p).env = true → ∀ id, reads (tr p).env (o p).op = some id → cls (o p).op ≠ 0 → ∀ q, q < p → cls (o q).op = 0 → guardOk ops (o q) (tr q).env = true →
    bf p q = true ∨ (tr q).h.nx ≤ id ∨ ∃ hh, opStep P W (o p).op (tr p).env (tr q).h = .val (vl p) hh
section
variable (o : Nat → Oper) (tr : Nat → St) (vl : Nat → V)
def nxa (p : Nat) : Nat := (tr p).h.nx
def envx (S : Nat → Bool) : Nat → List V
  | 0 => (tr 0).env
  | m + 1 => if S m then putE (o m).dst (vl m) (envx S m) else envx S m
def acx (a0 : Act) (x : Nat → Value) (S : Nat → Bool) : Nat → Act
  | 0 => a0
  | m + 1 => if S m then (acx a0 x S m).put (o m).dst (x m) else acx a0 x S m
def al (m : Nat) : Option AO := if (tr (m + 1)).h.nx = (tr m).h.nx then none else (tr (m + 1)).h.get (tr m).h.nx
def alm (m : Nat) (h : H) : H := match al tr m with | some ob => h.alloc ob | none => h
def hx (S : Nat → Bool) (pm : Nat) : Nat → H
  | 0 => (tr 0).h
  | m + 1 => if m < pm then (tr (m + 1)).h else if S m then alm tr m (hx S pm m) else ⟨(hx S pm m).tr, (tr (m + 1)).h.nx⟩
end
def upd (S : Nat → Bool) (e : Nat) : Nat → Bool := fun p => if p = e then true else S p
def updx (x : Nat → Value) (e : Nat) (v : Value) : Nat → Value := fun p => if p = e then v else x p
theorem upd_same (S : Nat → Bool) (e : Nat) : upd S e e = true := by simp [upd]
theorem upd_ne (S : Nat → Bool) {e p : Nat} (h : p ≠ e) : upd S e p = S p := by simp [upd, h]
theorem updx_same (S : Nat → Value) (e : Nat) (v : Value) : updx S e v e = v := by simp [updx]
theorem updx_ne (S : Nat → Value) {e p : Nat} (v : Value) (h : p ≠ e) : updx S e v p = S p := by simp [updx, h]
section
variable {P : Program} {W : World} {ih : IH} {ops : Array Oper} {n : Nat} {L : Nat → Nat} {o : Nat → Oper} {tr : Nat → St} {vl : Nat → V} {bf : Nat → Nat → Bool}
theorem Canon.nx_le (C : Canon P W ih ops n L o tr vl bf) {p q : Nat} (h : p ≤ q) (hq : q ≤ n) : nxa tr p ≤ nxa tr q := by
  induction q with
  | zero => have : p = 0 := by omega
            subst this; exact Nat.le_refl _
  | succ q ih' =>
    rcases Nat.lt_or_ge q p with h' | h'
    · have : p = q + 1 := by omega
      subst this; exact Nat.le_refl _
    · exact Nat.le_trans (ih' h' (by omega)) (C.nx q (by omega))
theorem Canon.hstep (C : Canon P W ih ops n L o tr vl bf) {m : Nat} (hm : m < n) (hc : cls (o m).op ≠ 0) : (tr (m + 1)).h = alm tr m (tr m).h := by
  have same : (tr (m + 1)).h = (tr m).h → (tr (m + 1)).h = alm tr m (tr m).h := fun e => by
    have : al tr m = none := by simp [al, e]
    simp only [alm, this]; exact e
  rcases (C.step m hm).how with ⟨_, _, e⟩ | ⟨_, e, _⟩ | ⟨_, _, e, hr⟩
  · exact same e
  · exact absurd e hc
  · have hcl : cls (o m).op = 1 ∨ cls (o m).op = 2 ∨ cls (o m).op = 3 := by
      revert hc
      generalize (o m).op = op
      cases op <;> simp [cls]
      split <;> simp
    rcases hcl with hcl | hcl | hcl
    · have hrn : reads (tr m).env (o m).op = none := by
        cases hh : reads (tr m).env (o m).op with
        | none => rfl
        | some id => have := hr id hh; omega
      exact same (pure_step hcl hrn e).1
    · exact same (load_step hcl e).1
    · obtain ⟨ob, f, e1, e2, e3⟩ := alloc_step hcl e
      have : al tr m = some ob := by
        simp only [al, e1, H.nx_alloc]
        rw [if_neg (by omega)]
        exact H.get_alloc_same _ _
      simp only [alm, this]; exact e1
theorem alm_nx (C : Canon P W ih ops n L o tr vl bf) {m : Nat} (hm : m < n) (hc : cls (o m).op ≠ 0) {h : H} (e : h.nx = nxa tr m) : (alm tr m h).nx = nxa tr (m + 1) := by
  have := C.hstep hm hc
  unfold nxa
  rw [this]
  unfold alm
  cases al tr m with
  | none => exact e
  | some ob => simp only [H.nx_alloc]; rw [e]; rfl
theorem alm_get {m : Nat} {h : H} {i : Nat} (hi : i ≠ h.nx) : (alm tr m h).get i = h.get i := by
  unfold alm
  cases al tr m with
  | none => rfl
  | some ob => exact H.get_alloc_ne h ob (Ne.symm hi)
theorem hx_nx (C : Canon P W ih ops n L o tr vl bf) {S : Nat → Bool} {pm : Nat} : ∀ m, m ≤ n → (∀ p, pm ≤ p → S p = true → cls (o p).op ≠ 0) → (hx tr S pm m).nx = nxa tr m
  | 0, _, _ => rfl
  | m + 1, hm, hS => by
    unfold hx
    split
    · rfl
    · split
      · rename_i h1 h2
        exact alm_nx C (by omega) (hS m (by omega) h2) (hx_nx C m (by omega) hS)
      · rfl
theorem hx_all (C : Canon P W ih ops n L o tr vl bf) {S : Nat → Bool} {pm : Nat} : ∀ m, m ≤ n → (∀ p, pm ≤ p → S p = true → cls (o p).op ≠ 0) → (∀ p, p < m → S p = true) → hx tr S pm m = (tr m).h
  | 0, _, _, _ => rfl
  | m + 1, hm, hS, ha => by
    unfold hx
    split
    · rfl
    · rw [if_pos (ha m (by omega)), hx_all C m (by omega) hS fun p hp => ha p (by omega)]
      rename_i h1
      exact (C.hstep (by omega) (hS m (by omega) (ha m (by omega)))).symm
theorem hx_get (C : Canon P W ih ops n L o tr vl bf) {S : Nat → Bool} {pm e : Nat} (hS : ∀ p, pm ≤ p → S p = true → cls (o p).op ≠ 0) (hpe : pm ≤ e) :
    ∀ m, e ≤ m → m ≤ n → ∀ i, i < nxa tr e → (hx tr S pm m).get i = (hx tr S pm e).get i := by
  intro m
  induction m with
  | zero => intro h _ i _; have : e = 0 := by omega
            subst this; rfl
  | succ m ih' =>
    intro hm hn i hi
    rcases Nat.lt_or_ge m e with h | h
    · have : e = m + 1 := by omega
      subst this; rfl
    · have e1 := ih' h (by omega) i hi
      have e2 := C.nx_le h (by omega)
      rw [← e1]
      conv => lhs; unfold hx
      rw [if_neg (by omega)]
      split
      · refine alm_get ?_
        rw [hx_nx C m (by omega) hS]; omega
      · rfl
theorem hx_low {S S' : Nat → Bool} {pm : Nat} : ∀ m, (∀ p, p < m → S p = S' p) → hx tr S pm m = hx tr S' pm m
  | 0, _ => rfl
  | m + 1, h => by
    unfold hx
    rw [hx_low m fun p hp => h p (by omega), h m (by omega)]
theorem envx_low {S S' : Nat → Bool} : ∀ m, (∀ p, p < m → S p = S' p) → envx o tr vl S m = envx o tr vl S' m
  | 0, _ => rfl
  | m + 1, h => by
    unfold envx
    rw [envx_low m fun p hp => h p (by omega), h m (by omega)]
theorem acx_low {a0 : Act} {x x' : Nat → Value} {S S' : Nat → Bool} : ∀ m, (∀ p, p < m → S p = S' p ∧ x p = x' p) → acx o a0 x S m = acx o a0 x' S' m
  | 0, _ => rfl
  | m + 1, h => by
    unfold acx
    rw [acx_low m fun p hp => h p (by omega), (h m (by omega)).1, (h m (by omega)).2]
theorem hx_getr (C : Canon P W ih ops n L o tr vl bf) {S : Nat → Bool} {pm pm' e : Nat} (hS : ∀ p, pm ≤ p → S p = true → cls (o p).op ≠ 0) (hS' : ∀ p, pm' ≤ p → upd S e p = true → cls (o p).op ≠ 0) (h1 : pm ≤ e + 1) (h2 : pm' ≤ e + 1)
    (b1 : ∀ i, nxa tr (e + 1) ≤ i → (hx tr S pm (e + 1)).get i = none) (b2 : ∀ i, nxa tr (e + 1) ≤ i → (hx tr (upd S e) pm' (e + 1)).get i = none) :
    ∀ m, e + 1 ≤ m → m ≤ n → ∀ i, nxa tr (e + 1) ≤ i → (hx tr (upd S e) pm' m).get i = (hx tr S pm m).get i := by
  intro m
  induction m with
  | zero => intro h; omega
  | succ m ih' =>
    intro hm hn i hi
    rcases Nat.lt_or_ge e m with h | h
    · have e1 := ih' h (by omega) i hi
      unfold hx
      rw [if_neg (show ¬ m < pm' by omega), if_neg (show ¬ m < pm by omega), upd_ne S (by omega)]
      split
      · rename_i hSm
        have n1 := hx_nx C m (by omega) hS
        have n2 := hx_nx C m (by omega) hS'
        unfold alm
        cases al tr m with
        | none => exact e1
        | some ob =>
          simp only
          by_cases hii : i = nxa tr m
          · subst hii
            rw [show nxa tr m = (hx tr (upd S e) pm' m).nx from n2.symm, H.get_alloc_same, n2, ← n1, H.get_alloc_same]
          · rw [H.get_alloc_ne _ _ (by rw [n2]; exact Ne.symm hii), H.get_alloc_ne _ _ (by rw [n1]; exact Ne.symm hii)]
            exact e1
      · exact e1
    · have : m = e := by omega
      subst this
      rw [b1 i hi, b2 i hi]
structure Inv (P : Program) (W : World) (n : Nat) (o : Nat → Oper) (tr : Nat → St) (vl : Nat → V) (bf : Nat → Nat → Bool) (μ0 : Mu) (w0 : World) (a0 : Act) (S : Nat → Bool) (pm : Nat) (ν : Mu) (x : Nat → Value) (w : World) : Prop where
  le : pm ≤ n
  low : ∀ p, p < pm → S p = true
  hi : ∀ p, S p = true → p < n
  nw : ∀ p, pm ≤ p → S p = true → cls (o p).op ≠ 0
  cl : ∀ p, S p = true → ∀ q, bf p q = true → S q = true
  hr : ∀ m, pm ≤ m → m ≤ n → HR P W (ν.cut (nxa tr m)) (hx tr S pm m) w
  env : ∀ m, pm ≤ m → m ≤ n → VRL (ν.cut (nxa tr m)) (envx o tr vl S m) (acx o a0 x S m).tmps.toList
  val : ∀ p, S p = true → VR (ν.cut (nxa tr (p + 1))) (vl p) (x p)
  out : ∀ p, pm ≤ p → p < n → S p = false → ∀ i, nxa tr p ≤ i → i < nxa tr (p + 1) → ν i = none
  go : Go0 P W μ0 (tr 0).h w0 (ν.cut (nxa tr n)) (hx tr S pm n) w
  old : ∀ i, i < nxa tr 0 → ν i = μ0 i
theorem HR.keep {μ μ' : Mu} {h : H} {w w1 : World} (hr : HR P W μ h w) (hle : μ.le μ') (hf : ∀ i, h.nx ≤ i → μ' i = Option.none) (hk : ∀ b, b < w.heap.size → w1.heap[b]? = w.heap[b]?) (hb : Below W.heap.size W w1) : HR P W μ' h w1 := by
  have tk : ∀ i oi k, h.get i = some oi → μ' i = some k → μ i = some k := fun i oi k hi hk => by
    obtain ⟨k', hk', _⟩ := hr.obj i oi hi
    have := hle _ _ hk'
    rw [hk] at this; injection this with this; subst this; exact hk'
  refine ⟨fun i oi hi => ?_, fun i j oi oj k k' hi hj h1 h2 e => hr.inj i j oi oj k k' hi hj (tk i oi k hi h1) (tk j oj k' hj h2) e, fun i hi => ⟨hf i hi, (hr.fresh i hi).2⟩, hb⟩
  obtain ⟨k, hk1, hW, o', ho', hor⟩ := hr.obj i oi hi
  exact ⟨k, hle _ _ hk1, hW, o', by rw [hk _ (hr.lt hi hk1)]; exact ho', hor.mono hle⟩
theorem VRL.putE {μ : Mu} {env : List V} {a : Act} (h : VRL μ env a.tmps.toList) (dst : Option Tmp) {v : V} {x : Value} (hv : VR μ v x) : VRL μ (putE dst v env) (a.put dst x).tmps.toList := by
  cases dst with
  | none => exact h
  | some d => simpa [Dg.putE, Act.put] using h.set d hv
theorem acx_put (C : Canon P W ih ops n L o tr vl bf) {a0 : Act} {x : Nat → Value} {S : Nat → Bool} {e : Nat} {xv : Value} (he : e < n) (hS : S e = false) (hcl : ∀ p, S p = true → ∀ q, bf p q = true → S q = true) :
    ∀ m, e + 1 ≤ m → m ≤ n → acx o a0 (updx x e xv) (upd S e) m = (acx o a0 x S m).put (o e).dst xv := by
  intro m
  induction m with
  | zero => intro h; omega
  | succ m ih' =>
    intro hm hn
    rcases Nat.lt_or_ge e m with h | h
    · have e1 := ih' h (by omega)
      unfold acx
      rw [upd_ne S (by omega), updx_ne x xv (by omega), e1]
      split
      · rename_i hSm
        refine Act.put_comm _ _ _ fun d hd hd' => ?_
        have := (C.tmp e m he (by omega) (by omega) d hd' (.inr hd)).2 h
        rw [hcl m hSm e this] at hS
        cases hS
      · rfl
    · have : m = e := by omega
      subst this
      conv => lhs; unfold acx
      conv => rhs; unfold acx
      rw [upd_same, updx_same, if_pos rfl, hS]
      simp only [Bool.false_eq_true, if_false]
      congr 1
      exact acx_low m fun p hp => ⟨upd_ne S (by omega), updx_ne x xv (by omega)⟩
theorem Inv.next (C : Canon P W ih ops n L o tr vl bf) {μ0 : Mu} {w0 : World} {a0 : Act} {S : Nat → Bool} {pm pm' : Nat} {ν : Mu} {x : Nat → Value} {w : World} (I : Inv P W n o tr vl bf μ0 w0 a0 S pm ν x w) {e : Nat} (he : e < n) (hS : S e = false)
    (hbf : ∀ q, bf e q = true → S q = true) (hpm : pm' = if cls (o e).op = 0 then e + 1 else pm) {μ1 : Mu} {w1 : World} {xv : Value} (hv : VR μ1 (vl e) xv) (g : Go1 P W (ν.cut (nxa tr e)) (hx tr S pm e) w μ1 (hx tr (upd S e) pm' (e + 1)) w1)
    (keep : cls (o e).op ≠ 0 → ∀ b, b < w.heap.size → w1.heap[b]? = w.heap[b]?) :
    Inv P W n o tr vl bf μ0 w0 a0 (upd S e) pm' (glue (nxa tr (e + 1)) μ1 ν) (updx x e xv) w1 := by
  have hpe : pm ≤ e := by
    rcases Nat.lt_or_ge e pm with h | h
    · rw [I.low e h] at hS; cases hS
    · exact h
  have hpm' : pm' ≤ e + 1 := by rw [hpm]; split <;> omega
  have hpp : pm ≤ pm' := by rw [hpm]; split <;> omega
  have nw' : ∀ p, pm' ≤ p → upd S e p = true → cls (o p).op ≠ 0 := fun p hp hSp => by
    by_cases hpe' : p = e
    · subst hpe'
      intro hc
      rw [hpm, if_pos hc] at hp
      omega
    · rw [upd_ne S hpe'] at hSp
      exact I.nw p (by omega) hSp
  have hxe : (hx tr S pm e).nx = nxa tr e := hx_nx C e (by omega) I.nw
  have hxe1 : (hx tr (upd S e) pm' (e + 1)).nx = nxa tr (e + 1) := hx_nx C _ (by omega) nw'
  have hle : ν.le (glue (nxa tr (e + 1)) μ1 ν) := fun i k hi => by
    unfold glue
    split
    · rename_i hl1
      rcases Nat.lt_or_ge i (nxa tr e) with h | h
      · rw [g.old i (by rw [hxe]; exact h), Mu.cut_lt h]; exact hi
      · rw [I.out e hpe he hS i h hl1] at hi; cases hi
    · exact hi
  have mg : ∀ m, e + 1 ≤ m → m ≤ n → Go0 P W (ν.cut (nxa tr m)) (hx tr S pm m) w ((glue (nxa tr (e + 1)) μ1 ν).cut (nxa tr m)) (hx tr (upd S e) pm' m) w1 := fun m hm hmn =>
    merge (c0 := nxa tr e) (c1 := nxa tr (e + 1)) (I.hr m (by omega) hmn) (I.hr e hpe (by omega)) g hxe hxe1 (hx_nx C m hmn I.nw) (C.nx_le hm hmn) (fun i hi => hx_get C I.nw hpe m (by omega) hmn i hi)
      (fun i h1 h2 => I.out e hpe he hS i h1 h2) (hx_nx C m hmn nw') (fun i hi => hx_get C nw' hpm' m hm hmn i hi)
      (fun i hi => hx_getr C I.nw nw' (by omega) hpm'
        (fun i hi => ((I.hr (e + 1) (by omega) (by omega)).fresh i (by rw [hx_nx C (e + 1) (by omega) I.nw]; exact hi)).2)
        (fun i hi => (g.hr.fresh i (by rw [hxe1]; exact hi)).2) m hm hmn i hi)
  have cut1 : μ1.le ((glue (nxa tr (e + 1)) μ1 ν).cut (nxa tr (e + 1))) := fun i k hi => by
    rcases Nat.lt_or_ge i (nxa tr (e + 1)) with h | h
    · rw [Mu.cut_lt h]; simp only [glue, if_pos h]; exact hi
    · rw [(g.hr.fresh i (by rw [hxe1]; exact h)).1] at hi; cases hi
  have lowS : ∀ m, m ≤ e → ∀ p, p < m → upd S e p = S p := fun m hm p hp => upd_ne S (by omega)
  have val' : ∀ p, upd S e p = true → VR ((glue (nxa tr (e + 1)) μ1 ν).cut (nxa tr (p + 1))) (vl p) (updx x e xv p) := fun p hp => by
    by_cases hpe' : p = e
    · subst hpe'
      rw [updx_same]
      exact hv.mono cut1
    · rw [upd_ne S hpe'] at hp
      rw [updx_ne x xv hpe']
      exact (I.val p hp).mono (Mu.cut_mono hle (Nat.le_refl _))
  have envE : VRL ((glue (nxa tr (e + 1)) μ1 ν).cut (nxa tr e)) (envx o tr vl (upd S e) e) (acx o a0 (updx x e xv) (upd S e) e).tmps.toList := by
    rw [envx_low e (lowS e (Nat.le_refl _)), acx_low e fun p hp => ⟨upd_ne S (by omega), updx_ne x xv (by omega)⟩]
    exact (I.env e hpe (by omega)).mono (Mu.cut_mono hle (Nat.le_refl _))
  refine ⟨?_, ?_, ?_, nw', ?_, ?_, ?_, val', ?_, ?_, ?_⟩
  · have := I.le; rw [hpm]; split <;> omega
  · intro p hp
    by_cases hpe' : p = e
    · subst hpe'; exact upd_same S p
    · rw [upd_ne S hpe']
      rw [hpm] at hp
      split at hp
      · rename_i hc
        exact hbf p (C.wall e he hc p (by omega))
      · exact I.low p hp
  · intro p hp
    by_cases hpe' : p = e
    · omega
    · rw [upd_ne S hpe'] at hp; exact I.hi p hp
  · intro p hp q hq
    have : S q = true := by
      by_cases hpe' : p = e
      · subst hpe'; exact hbf q hq
      · rw [upd_ne S hpe'] at hp; exact I.cl p hp q hq
    by_cases hqe : q = e
    · subst hqe; exact upd_same S q
    · rw [upd_ne S hqe]; exact this
  · intro m h1 h2
    rcases Nat.lt_or_ge e m with h | h
    · exact (mg m h h2).hr
    · have hc : cls (o e).op ≠ 0 := fun hc => by rw [hpm, if_pos hc] at h1; omega
      have hpmq : pm' = pm := by rw [hpm, if_neg hc]
      rw [hpmq] at h1 ⊢
      rw [hx_low m (lowS m h)]
      refine (I.hr m h1 h2).keep (Mu.cut_mono hle (Nat.le_refl _)) (fun i hi => ?_) (keep hc) g.hr.below
      rw [hx_nx C m h2 I.nw] at hi
      exact Mu.cut_ge hi
  · intro m h1 h2
    rcases Nat.lt_or_ge e m with h | h
    · clear h1
      induction m with
      | zero => omega
      | succ m ih' =>
        have hstep : nxa tr m ≤ nxa tr (m + 1) := C.nx m (by omega)
        rcases Nat.lt_or_ge e m with h' | h'
        · have e1 := (ih' (by omega) h').mono (Mu.cut_mono (Mu.le_refl _) hstep)
          unfold envx acx
          split
          · rename_i hSm
            exact e1.putE _ (val' m hSm)
          · exact e1
        · have : m = e := by omega
          subst this
          unfold envx acx
          rw [if_pos (upd_same S m), if_pos (upd_same S m)]
          exact (envE.mono (Mu.cut_mono (Mu.le_refl _) hstep)).putE _ (val' m (upd_same S m))
    · have hc : cls (o e).op ≠ 0 := fun hc => by rw [hpm, if_pos hc] at h1; omega
      have hpmq : pm' = pm := by rw [hpm, if_neg hc]
      rw [hpmq] at h1
      rw [envx_low m (lowS m h), acx_low m fun p hp => ⟨upd_ne S (by omega), updx_ne x xv (by omega)⟩]
      exact (I.env m h1 h2).mono (Mu.cut_mono hle (Nat.le_refl _))
  · intro p hp hpn hSp i h1 h2
    have hpe' : p ≠ e := fun h => by subst h; rw [upd_same] at hSp; cases hSp
    rw [upd_ne S hpe'] at hSp
    have hn := I.out p (by omega) hpn hSp i h1 h2
    rcases Nat.lt_or_ge p e with h | h
    · have := C.nx_le (p := p + 1) (q := e) (by omega) (by omega)
      unfold glue
      split
      · rw [g.old i (by rw [hxe]; omega), Mu.cut_lt (by omega)]; exact hn
      · exact hn
    · have := C.nx_le (p := e + 1) (q := p) (by omega) (by omega)
      unfold glue
      rw [if_neg (by omega)]
      exact hn
  · exact I.go.trans (mg n (by omega) (Nat.le_refl _))
  · intro i hi
    have h1 := C.nx_le (p := 0) (q := e) (by omega) (by omega)
    rw [← I.old i hi]
    unfold glue
    split
    · rw [g.old i (by rw [hxe]; omega), Mu.cut_lt (by omega)]
    · rfl
end
end Go.Proofs.YtkhjmgchlbnkjaaDoor.Dg
