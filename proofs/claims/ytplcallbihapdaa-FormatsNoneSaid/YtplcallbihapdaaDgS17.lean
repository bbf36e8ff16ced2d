/-
  A region that leaves its order open: the evaluator's answer holds.
-/
import Derived.Test.YtplcallbihapdaaDgS16
set_option linter.unusedVariables false
set_option linter.unusedSimpArgs false
namespace Go.Proofs.Ytplcallbihapdaa.Dg
open Go Go.RowKit

section
variable {ops : Array Oper} {ms : List Nat} {L : List Nat}

def bfOf (ms L : List Nat) (p q : Nat) : Bool := decide (q < L.length) && bit ms (L.getD p 0) (L.getD q 0)

theorem getD_lt_false {listed : Array Bool} {i : Nat} (h : listed.getD i true = false) : i < listed.size := by
  rcases Nat.lt_or_ge i listed.size with h' | h'
  · exact h'
  · simp [Array.getElem?_eq_none h'] at h
theorem getD_ft {listed : Array Bool} {i : Nat} (h : listed.getD i false = true) : listed.getD i true = true := by
  rcases Nat.lt_or_ge i listed.size with h' | h'
  · simp [h'] at h ⊢; exact h
  · simp [Array.getElem?_eq_none h'] at h
theorem getD_tf {listed : Array Bool} {i : Nat} (hi : i < listed.size) (h : listed.getD i true = true) : listed.getD i false = true := by
  simp [hi] at h ⊢; exact h

theorem sched_go (G : Good ops.toList ms) (inj : ∀ p q, p < L.length → q < L.length → L.getD p 0 = L.getD q 0 → p = q) (onto : ∀ j, j < ops.size → ∃ p, p < L.length ∧ L.getD p 0 = j)
    (range : ∀ p, p < L.length → L.getD p 0 < ops.size) (back : ∀ (i : Nat) (o : Oper), ops[i]? = some o → ∀ e ∈ o.after, Region.binds .any e = true → e.on < i) :
    ∀ (fuel t : Nat) (listed : Array Bool) (S : Nat → Bool) (U : List Nat), listed.size = ops.size → (∀ p, p < L.length → S p = listed.getD (L.getD p 0) true) →
      (∀ i j, listed.getD i false = true → bit ms i j = true → listed.getD j false = true) → U.Nodup → (∀ i, i ∈ U ↔ i < ops.size ∧ listed.getD i true = false) → U.length = fuel →
      Sched L.length (fun p => L.getD p 0) (bfOf ms L) S (Region.linearise.go .any ops fuel t listed []) := by
  intro fuel
  induction fuel with
  | zero =>
    intro t listed S U hsz hS hcl hnd hU hl
    have hUn : U = [] := List.length_eq_zero_iff.1 hl
    simp only [Region.linearise.go, List.reverse_nil, Sched]
    intro p hp
    rw [hS p hp]
    cases hh : listed.getD (L.getD p 0) true with
    | true => rfl
    | false =>
      have := (hU (L.getD p 0)).2 ⟨range p hp, hh⟩
      rw [hUn] at this; cases this
  | succ fuel ih =>
    intro t listed S U hsz hS hcl hnd hU hl
    simp only [Region.linearise.go]
    change Sched L.length (fun p => L.getD p 0) (bfOf ms L) S (match (Region.ready .any ops listed)[t % (Region.ready .any ops listed).length]? with
      | some i => Region.linearise.go .any ops fuel (t / (Region.ready .any ops listed).length) (listed.setIfInBounds i true) [i]
      | none => [].reverse)
    cases hi : (Region.ready .any ops listed)[t % (Region.ready .any ops listed).length]? with
    | none =>
      have hnil : Region.ready .any ops listed = [] := by
        cases hr : Region.ready .any ops listed with
        | nil => rfl
        | cons x xs =>
          rw [hr] at hi
          have hlt : t % (x :: xs).length < (x :: xs).length := Nat.mod_lt _ (by simp)
          simp at hi
          simp at hlt
          omega
      have hall : ∀ i, i < ops.size → listed.getD i true = true := by
        intro i
        induction i using Nat.strongRecOn with
        | _ i ihi =>
          intro hlt
          cases hh : listed.getD i true with
          | true => rfl
          | false =>
            exfalso
            have hmem : i ∈ Region.ready .any ops listed := by
              rw [mem_ready]
              refine ⟨hh, ops[i], by simp [hlt], fun e he hb => ?_⟩
              have hb' := back i ops[i] (by simp [hlt]) e he hb
              exact getD_tf (by omega) (ihi e.on hb' (by omega))
            rw [hnil] at hmem; cases hmem
      simp only [List.reverse_nil, Sched]
      intro p hp
      rw [hS p hp]
      exact hall _ (range p hp)
    | some i =>
      simp only []
      rw [linearise_go_acc, List.reverse_singleton, List.singleton_append]
      have hmem := List.mem_of_getElem? hi
      rw [mem_ready] at hmem
      obtain ⟨h0, oi, hoi, hedges⟩ := hmem
      have hil := getD_lt_false h0
      obtain ⟨e, he, hLe⟩ := onto i (by omega)
      have reach : ∀ j, bit ms i j = true → listed.getD j false = true := fun j hj => by
        obtain ⟨o', e', k1, k2, k3, k4⟩ := G i j hj
        have : o' = oi := by
          rw [Array.getElem?_toList] at k1
          rw [hoi] at k1; injection k1 with k1; exact k1.symm
        subst this
        have k5 := hedges e' k2 k3
        rcases k4 with rfl | k4
        · exact k5
        · exact hcl _ _ k5 k4
      refine ⟨e, he, hLe, ?_, ?_, ?_⟩
      · rw [hS e he, hLe]; exact h0
      · intro q hq
        simp only [bfOf, Bool.and_eq_true, decide_eq_true_eq] at hq
        rw [hS q hq.1]
        rw [hLe] at hq
        exact getD_ft (reach _ hq.2)
      · refine ih _ (listed.setIfInBounds i true) (upd S e) (U.erase i) (by simpa using hsz) ?_ ?_ (hnd.erase i) ?_ ?_
        · intro p hp
          by_cases hpe : p = e
          · subst hpe
            rw [upd_same, hLe]
            simp [hil]
          · rw [upd_ne S hpe, hS p hp, getD_set_ne]
            intro hh
            exact hpe (inj p e hp he (by rw [hLe, hh]))
        · intro i' j h1 h2
          by_cases hii : i' = i
          · subst hii
            exact getD_set_true (reach j h2)
          · rw [getD_set_ne _ (Ne.symm hii)] at h1
            exact getD_set_true (hcl i' j h1 h2)
        · intro j
          rw [hnd.mem_erase_iff, hU]
          constructor
          · rintro ⟨h1, h2, h3⟩
            exact ⟨h2, by rw [getD_set_ne _ (Ne.symm h1)]; exact h3⟩
          · rintro ⟨h1, h2⟩
            have hji : j ≠ i := fun hh => by
              subst hh
              simp [hil] at h2
            exact ⟨hji, h1, by rw [getD_set_ne _ (Ne.symm hji)] at h2; exact h2⟩
        · rw [List.length_erase_of_mem ((hU i).2 ⟨by omega, h0⟩), hl]; rfl

/-- What the check says of the order. -/
structure Ord (ops : Array Oper) (ms L : List Nat) : Prop where
  chk : ∀ p, p < L.length → ∃ o, Chk ops ms L 0 p (L.getD p 0) o
  onto : ∀ j, j < ops.size → ∃ p, p < L.length ∧ L.getD p 0 = j
  inj : ∀ p q, p < L.length → q < L.length → L.getD p 0 = L.getD q 0 → p = q
  range : ∀ p, p < L.length → L.getD p 0 < ops.size

theorem Ord.of (h : okGo ops ms L 0 = true) : Ord ops ms L := by
  obtain ⟨h1, h2⟩ := okGo_spec L 0 h
  have lt : ∀ p q, q < p → p < L.length → L.getD q 0 ≠ L.getD p 0 := fun p q hq hp e => by
    obtain ⟨o, c⟩ := h1 p hp
    exact c.new (.inr ⟨q, hq, e⟩)
  refine ⟨h1, fun j hj => ?_, fun p q hp hq e => ?_, fun p hp => ?_⟩
  · rcases h2 j hj with h | ⟨q, hq, e⟩
    · simp at h
    · exact ⟨q, hq, e⟩
  · rcases Nat.lt_trichotomy p q with h | h | h
    · exact absurd e (lt q p h hq)
    · exact h
    · exact absurd e.symm (lt p q h hp)
  · obtain ⟨o, c⟩ := h1 p hp
    exact (Array.getElem?_eq_some_iff.1 c.op).1

theorem Ord.notin (O : Ord ops ms L) {p q : Nat} (hp : p < L.length) (hq : q < L.length) (h : p ≤ q) : ¬ inD 0 L p (L.getD q 0) := by
  rintro (h' | ⟨r, hr, e⟩)
  · simp at h'
  · have := O.inj r q (by omega) hq e
    omega

variable {P : Program} {W : World} {ih : IH}

theorem canon_of (N : NX ih) (O : Ord ops ms L) {st st' : St} (h : drawGo P W ih ops ms L [] st = some st') :
    ∃ o tr vl, Canon P W ih ops L.length (fun p => L.getD p 0) o tr vl (bfOf ms L) ∧ tr 0 = st ∧ tr L.length = st' := by
  obtain ⟨o, tr, vl, t0, t1, hall⟩ := drawGo_trace N L [] st st' h
  have bf_lt : ∀ p q, q < L.length → bit ms (L.getD p 0) (L.getD q 0) = true → bfOf ms L p q = true := fun p q hq hb => by
    unfold bfOf
    rw [hb, decide_eq_true hq]; rfl
  have same : ∀ p (hp : p < L.length) o', Chk ops ms L 0 p (L.getD p 0) o' → o' = o p := fun p hp o' c => by
    have := c.op
    rw [(hall p hp).1] at this; injection this with this; exact this.symm
  refine ⟨o, tr, vl, ⟨fun p hp => (hall p hp).1, fun p hp => (hall p hp).2.1, fun p hp => (hall p hp).2.2.1, fun p hp hc q hq => ?_, fun p q hp hq hne t ht hts => ?_, fun p hp hg id hid hc q hq hc0 hg0 => ?_⟩, t0, t1⟩
  · obtain ⟨o', c⟩ := O.chk p hp
    have := same p hp o' c; subst this
    exact bf_lt p q (by omega) (c.wall hc _ (.inr ⟨q, hq, rfl⟩))
  · obtain ⟨o', c⟩ := O.chk p hp
    have := same p hp o' c; subst this
    have hne' : L.getD q 0 ≠ L.getD p 0 := fun e => hne (O.inj q p hq hp e).symm
    have hb : (ops[L.getD q 0]?).bind (·.dst) = some t := by rw [(hall q hq).1]; exact ht
    obtain ⟨k1, k2⟩ := c.tmp (L.getD q 0) (O.range q hq) hne' t hb hts
    exact ⟨fun hqp => bf_lt p q hq (k1 (.inr ⟨q, hqp, rfl⟩)), fun hpq => bf_lt q p hp (k2 (O.notin hp hq (by omega)))⟩
  · obtain ⟨h1, h2⟩ := (hall p hp).2.2.2 hg hc id hid
    rcases h2 q hq hc0 hg0 with k | k | k
    · exact .inl (bf_lt p q (by omega) k)
    · exact .inr (.inl k)
    · exact .inr (.inr k)

theorem plan_spec {x : Option (Nat × Nat)} (h : plan ops x = some (L, ms)) : ms = withEdge (masksGo ops.toList []) x ∧ Ord ops ms L := by
  unfold plan at h
  simp only at h
  split at h
  · rename_i hok
    injection h with h
    injection h with e1 e2
    subst e1; subst e2
    exact ⟨rfl, Ord.of hok⟩
  · cases h

/-- A region that leaves its order open. -/
theorem draw_wpIn (hm : P.follows .mixedOrders = true) (H0 : IHOK P W ih) (N : NX ih) {id : Nat} {st st' : St} (hs : doDraw P W ih ops st = some st') {μ : Mu} {w : World} {a : Act} (rr : Option Nat) {Q : Exit → Act → World → Prop}
    (hr : HR P W μ st.h w) (ha : AOK μ st.env st.ds a) (hQ : ∀ μ' w' a', Go1 P W μ st.h w μ' st'.h w' → AOK μ' st'.env st'.ds a' → Q .normal a' w') : (Code.region id ops true).wpIn (Wd rr) 0 P Q a w := by
  unfold doDraw at hs
  split at hs
  · rename_i L ms hp
    obtain ⟨hms, O⟩ := plan_spec hp
    obtain ⟨o, tr, vl, C, t0, t1⟩ := canon_of N O hs
    refine wpIn_region_draw fun t => ?_
    simp only [Region.schedule, hm, Bool.true_or, if_true]
    refine canon_wp C H0 rr (μ0 := μ) (w0 := { w with drawn := w.drawn + 1 }) (a0 := a) (by rw [t0]; exact hr.drawn _) (by rw [t0]; exact ha) (fun μ' w' a' g k => ?_) _ ?_
    · rw [t0, t1] at g
      rw [t1] at k
      exact hQ μ' w' a' g.of_drawn k
    · have G : Good ops.toList ms := by rw [hms]; exact masks_good ops
      refine sched_go G O.inj O.onto O.range ?_ ops.size t (Array.replicate ops.size false) (fun _ => false) (List.range ops.size) (by simp) ?_ ?_ List.nodup_range ?_ (by simp)
      · intro i oi hoi e he hb
        obtain ⟨p, hp', hLp⟩ := O.onto i (Array.getElem?_eq_some_iff.1 hoi).1
        obtain ⟨o', c⟩ := O.chk p hp'
        have := c.op
        rw [hLp, hoi] at this; injection this with this; subst this
        have := c.back e he hb
        rw [hLp] at this; exact this
      · intro p hp'
        have := O.range p hp'
        generalize L.getD p 0 = i at this
        simp [this]
      · intro i j h1
        rcases Nat.lt_or_ge i ops.size with h' | h'
        · simp [h'] at h1
        · rw [Array.getD_eq_getD_getElem?, Array.getElem?_eq_none (by simpa using h')] at h1
          simp at h1
      · intro i
        simp only [List.mem_range]
        constructor
        · intro h'; exact ⟨h', by simp [h']⟩
        · intro h'; exact h'.1
  · cases hs
end
end Go.Proofs.Ytplcallbihapdaa.Dg
