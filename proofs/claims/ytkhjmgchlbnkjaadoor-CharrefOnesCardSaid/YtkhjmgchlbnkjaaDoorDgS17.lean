import Derived.Test.YtkhjmgchlbnkjaaDoorDgS16
set_option linter.unusedVariables false
set_option linter.unusedSimpArgs false
namespace Go.Proofs.YtkhjmgchlbnkjaaDoor.Dg
open Go Go.RowKit
section
variable {ops : Array Oper} {ms : List Nat} {L : List Nat}
def bfOf (ms L : List Nat) (p q : Nat) : Bool := decide (q < L.length) && bit ms (L.getD p 0) (L.getD q 0)
theorem getD_lt_false {listed : Array Bool} {i : Nat} (h : listed.getD i true = false) : i < listed.size := by
 rcases Nat.lt_or_ge i listed.size with h' | h'
 ·exact h'
 ·simp [Array.getElem?_eq_none h'] at h
theorem getD_ft {listed : Array Bool} {i : Nat} (h : listed.getD i false = true) : listed.getD i true = true := by
 rcases Nat.lt_or_ge i listed.size with h' | h'
 ·simp [h'] at h ⊢; exact h
 ·simp [Array.getElem?_eq_none h'] at h
theorem getD_tf {listed : Array Bool} {i : Nat} (hi : i < listed.size) (h : listed.getD i true = true) : listed.getD i false = true := by
 simp [hi] at h ⊢; exact h
theorem sched_go (G : Good ops.toList ms) (inj : ∀ p q, p < L.length → q < L.length → L.getD p 0 = L.getD q 0 → p = q) (onto : ∀ j, j < ops.size → ∃ p, p < L.length ∧ L.getD p 0 = j)
  (range : ∀ p, p < L.length → L.getD p 0 < ops.size) (back : ∀ (i : Nat) (o : Oper), ops[i]? = some o → ∀ e ∈ o.after, Region.binds .any e = true → e.on < i) :
  ∀ (fuel t : Nat) (listed : Array Bool) (S : Nat → Bool) (U : List Nat), listed.size = ops.size → (∀ p, p < L.length → S p = listed.getD (L.getD p 0) true) →
   (∀ i j, listed.getD i false = true → bit ms i j = true → listed.getD j false = true) → U.Nodup → (∀ i, i ∈ U ↔ i < ops.size ∧ listed.getD i true = false) → U.length = fuel →
   Sched L.length (fun p => L.getD p 0) (bfOf ms L) S (Region.linearise.go .any ops fuel t listed []) := by
 intro fuel
 induction fuel with
 | zero =>
  intro t listed S U hsz hS hcl hnd hU hl
  have hUn : U = [] := List.length_eq_zero_iff.1 hl
  simp only [Region.linearise.go, List.reverse_nil, Sched]
  intro p hp
  rw [hS p hp]
  cases hh : listed.getD (L.getD p 0) true with
  | true => rfl
  | false =>
   have := (hU (L.getD p 0)).2 ⟨range p hp, hh⟩
   rw [hUn] at this; cases this
 | succ fuel ih =>
  intro t listed S U hsz hS hcl hnd hU hl
  simp only [Region.linearise.go]
  change Sched L.length (fun p => L.getD p 0) (bfOf ms L) S (match (Region.ready .any ops listed)[t % (Region.ready .any ops listed).length]? with
   | some i => Region.linearise.go .any ops fuel (t / (Region.ready .any ops listed).length) (listed.setIfInBounds i true) [i]
   | none => [].reverse)
  cases hi : (Region.ready .any ops listed)[t % (Region.ready .any ops listed).length]? with
  | none =>
   have hnil : Region.ready .any ops listed = [] := by
    cases hr : Region.ready .any ops listed with
    | nil => rfl
    | cons x xs =>
     rw [hr] at hi
     have hlt : t % (x :: xs).length < (x :: xs).length := Nat.mod_lt _ (by simp)
     simp at hi
     simp at hlt
     omega
   have hall : ∀ i, i < ops.size → listed.getD i true = true := by
    intro i
    induction i using Nat.strongRecOn with
    | _ i ihi =>
     intro hlt
     cases hh : listed.getD i true with
     | true => rfl
     | false =>
      exfalso
      have hmem : i ∈ Region.ready .any ops listed := by
       rw [mem_ready]
       refine ⟨hh, ops[i], by simp [hlt], fun e he hb => ?_⟩
       have hb' := back i ops[i] (by simp [hlt]) e he hb
       exact getD_tf (by omega) (ihi e.on hb' (by omega))
      rw [hnil] at hmem; cases hmem
   simp only [List.reverse_nil, Sched]
   intro p hp
   rw [hS p hp]
   exact hall _ (range p hp)
  | some i =>
   simp only []
   rw [linearise_go_acc, List.reverse_singleton, List.singleton_append]
   have hmem := List.mem_of_getElem? hi
   rw [mem_ready] at hmem
   obtain ⟨h0, oi, hoi, hedges⟩ := hmem
   have hil := getD_lt_false h0
   obtain ⟨e, he, hLe⟩ := onto i (by omega)
   have reach : ∀ j, bit ms i j = true → listed.getD j false = true := fun j hj => by
    obtain ⟨o', e', k1, k2, k3, k4⟩ := G i j hj
    have : o' = oi := by
     rw [Array.getElem?_toList] at k1
     rw [hoi] at k1; injection k1 with k1; exact k1.symm
    subst this
    have k5 := hedges e' k2 k3
    rcases k4 with rfl | k4
    ·exact k5
    ·exact hcl _ _ k5 k4
   refine ⟨e, he, hLe, ?_, ?_, ?_⟩
   ·rw [hS e he, hLe]; exact h0
   ·intro q hq
    simp only [bfOf, Bool.and_eq_true, decide_eq_true_eq] at hq
    rw [hS q hq.1]
    rw [hLe] at hq
    exact getD_ft (reach _ hq.2)
   ·refine ih _ (listed.setIfInBounds i true) (upd S e) (U.erase i) (by simpa using hsz) ?_ ?_ (hnd.erase i) ?_ ?_
    ·intro p hp
     by_cases hpe : p = e
     ·subst hpe
      rw [upd_same, hLe]
      simp [hil]
     ·rw [upd_ne S hpe, hS p hp, getD_set_ne]
      intro hh
      exact hpe (inj p e hp he (by rw [hLe, hh]))
    ·intro i' j h1 h2
     by_cases hii : i' = i
     ·subst hii
      exact getD_set_true (reach j h2)
     ·rw [getD_set_ne _ (Ne.symm hii)] at h1
      exact getD_set_true (hcl i' j h1 h2)
    ·intro j
     rw [hnd.mem_erase_iff, hU]
     constructor
     ·rintro ⟨h1, h2, h3⟩
      exact ⟨h2, by rw [getD_set_ne _ (Ne.symm h1)]; exact h3⟩
     ·rintro ⟨h1, h2⟩
      have hji : j ≠ i := fun hh => by
       subst hh
       simp [hil] at h2
      exact ⟨hji, h1, by rw [getD_set_ne _ (Ne.symm hji)] at h2; exact h2⟩
    ·rw [List.length_erase_of_mem ((hU i).2 ⟨by omega, h0⟩), hl]; rfl
structure Ord (ops : Array Oper) (ms L : List Nat) : Prop where
 chk : ∀ p, p < L.length → ∃ o, Chk ops ms L 0 p (L.getD p 0) o
 onto : ∀ j, j < ops.size → ∃ p, p < L.length ∧ L.getD p 0 = j
 inj : ∀ p q, p < L.length → q < L.length → L.getD p 0 = L.getD q 0 → p = q
 range : ∀ p, p < L.length → L.getD p 0 < ops.size
theorem Ord.of (h : okGo ops ms L 0 = true) : Ord ops ms L := by
 obtain ⟨h1, h2⟩ := okGo_spec L 0 h
 have lt : ∀ p q, q < p → p < L.length → L.getD q 0 ≠ L.getD p 0 := fun p q hq hp e => by
  obtain ⟨o, c⟩ := h1 p hp
  exact c.new (.inr ⟨q, hq, e⟩)
 refine ⟨h1, fun j hj => ?_, fun p q hp hq e => ?_, fun p hp => ?_⟩
 ·rcases h2 j hj with h | ⟨q, hq, e⟩
  ·simp at h
  ·exact ⟨q, hq, e⟩
 ·rcases Nat.lt_trichotomy p q with h | h | h
  ·exact absurd e (lt q p h hq)
  ·exact h
  ·exact absurd e.symm (lt p q h hp)
 ·obtain ⟨o, c⟩ := h1 p hp
  exact (Array.getElem?_eq_some_iff.1 c.op).1
theorem Ord.notin (O : Ord ops ms L) {p q : Nat} (hp : p < L.length) (hq : q < L.length) (h : p ≤ q) : ¬ inD 0 L p (L.getD q 0) := by
 rintro (h' | ⟨r, hr, e⟩)
 ·simp at h'
 ·have := O.inj r q (by omega) hq e
  omega
variable {P : Program} {W : World} {ih : IH}
theorem canon_of (N : NX ih) (O : Ord ops ms L) {st st' : St} (h : drawGo P W ih ops ms L [] st = some st') :
  ∃ o tr vl, Canon P W ih ops L.length (fun p => L.getD p 0) o tr vl (bfOf ms L) ∧ tr 0 = st ∧ tr L.length = st' := by
 obtain ⟨o, tr, vl, t0, t1, hall⟩ := drawGo_trace N L [] st st' h
 have bf_lt : ∀ p q, q < L.length → bit ms (L.getD p 0) (L.getD q 0) = true → bfOf ms L p q = true := fun p q hq hb => by
  unfold bfOf
  rw [hb, decide_eq_true hq]; rfl
 have same : ∀ p (hp : p < L.length) o', Chk ops ms L 0 p (L.getD p 0) o' → o' = o p := fun p hp o' c => by
  have := c.op
  rw [(hall p hp).1] at this; injection this with this; exact this.symm
 refine ⟨o, tr, vl, ⟨fun p hp => (hall p hp).1, fun p hp => (hall p hp).2.1, fun p hp => (hall p hp).2.2.1, fun p hp hc q hq => ?_, fun p q hp hq hne t ht hts => ?_, fun p hp hg id hid hc q hq hc0 hg0 => ?_⟩, t0, t1⟩
 ·obtain ⟨o', c⟩ := O.chk p hp
  have := same p hp o' c; subst this
  exact bf_lt p q (by omega) (c.wall hc _ (.inr ⟨q, hq, rfl⟩))
 ·obtain ⟨o', c⟩ := O.chk p hp
  have := same p hp o' c; subst this
  have hne' : L.getD q 0 ≠ L.getD p 0 := fun e => hne (O.inj q p hq hp e).symm
  have hb : (ops[L.getD q 0]?).bind (·.dst) = some t := by rw [(hall q hq).1]; exact ht
  obtain ⟨k1, k2⟩ := c.tmp (L.getD q 0) (O.range q hq) hne' t hb hts
  exact ⟨fun hqp => bf_lt p q hq (k1 (.inr ⟨q, hqp, rfl⟩)), fun hpq => bf_lt q p hp (k2 (O.notin hp hq (by omega)))⟩
 ·obtain ⟨h1, h2⟩ := (hall p hp).2.2.2 hg hc id hid
  rcases h2 q hq hc0 hg0 with k | k | k
  ·exact .inl (bf_lt p q (by omega) k)
  ·exact .inr (.inl k)
  ·exact .inr (.inr k)
theorem plan_spec {x : Option (Nat × Nat)} (h : plan ops x = some (L, ms)) : ms = withEdge (masksGo ops.toList []) x ∧ Ord ops ms L := by
 unfold plan at h
 simp only at h
 split at h
 ·rename_i hok
  injection h with h
  injection h with e1 e2
  subst e1; subst e2
  exact ⟨rfl, Ord.of hok⟩
 ·cases h
theorem Tr.set_comm (p : List Bool) : ∀ (t : Tr) (v u : Option AO) (q : List Bool), p ≠ q → (t.set p v).set q u = (t.set q u).set p v := by
 induction p with
 | nil =>
  intro t v u q hne
  cases q with
  | nil => exact absurd rfl hne
  | cons c q => cases t <;> cases c <;> simp [Tr.set]
 | cons b p ih =>
  intro t v u q hne
  cases q with
  | nil => cases t <;> cases b <;> simp [Tr.set]
  | cons c q =>
   have go : b = c → p ≠ q := fun e h => hne (by rw [e, h])
   cases t <;> cases b <;> cases c <;> simp [Tr.set] <;> exact ih _ _ _ _ (go rfl)
theorem H.put_comm (h : H) {i j : Nat} (x y : Option AO) (hne : i ≠ j) : (h.put i x).put j y = (h.put j y).put i x := by
 simp only [H.put, Tr.set_comm _ _ _ _ _ (path_ne hne)]
theorem stVar_new {h h' : H} {t : TypeId} {i o : Nat} {v : V} (hs : stVar P h t (.new i o) v = some h') :
  ∃ ob, h' = h.put i ob ∧ ∀ g : H, g.get i = h.get i → stVar P g t (.new i o) v = some (g.put i ob) := by
 unfold stVar at hs
 split at hs
 ·rename_i n hn
  split at hs
  ·rename_i hl
   unfold stCells at hs
   simp only at hs
   split at hs
   ·rename_i l t' hg
    split at hs
    ·rename_i h1
     split at hs
     ·rename_i h2
      injection hs with hs
      refine ⟨_, hs.symm, fun g hgg => ?_⟩
      unfold stVar
      simp only [hn, if_pos hl]
      unfold stCells
      simp only [hgg, hg, if_pos h1, if_pos h2]
     ·cases hs
    ·cases hs
   ·cases hs
  ·cases hs
 ·cases hs
theorem stVar_comm {h h1 h2 : H} {t t' : TypeId} {i o j q : Nat} {v v' : V} (hne : i ≠ j) (e1 : stVar P h t (.new i o) v = some h1) (e2 : stVar P h1 t' (.new j q) v' = some h2) :
  ∃ h1', stVar P h t' (.new j q) v' = some h1' ∧ stVar P h1' t (.new i o) v = some h2 := by
 obtain ⟨oa, ea, ga⟩ := stVar_new e1
 obtain ⟨ob, eb, gb⟩ := stVar_new e2
 subst ea
 refine ⟨h.put j ob, gb h (H.get_put_ne _ _ hne).symm, ?_⟩
 rw [ga _ (H.get_put_ne _ _ (Ne.symm hne)), eb, H.put_comm _ _ _ hne]
theorem step_store {i : Nat} {pa : Operand} (h : isStore ops i = some pa) : ∃ t x, ∀ (ms r : List Nat) (sn : List (Nat × H)) (st : St), drawGo P W ih ops ms (i :: r) sn st =
  match ev st.env pa, ev st.env x with
  | some (.ptr (some a)), some v => (match stVar P st.h t a v with
   | some h' => drawGo P W ih ops ms r ((i, st.h) :: sn) { st with h := h' }
   | none => none)
  | _, _ => none := by
 unfold isStore at h
 split at h
 ·rename_i o ho
  obtain ⟨oop, og, od, oa⟩ := o
  simp only at h
  split at h
  ·rename_i t a x
   injection h with h; subst h
   refine ⟨t, x, fun ms r sn st => ?_⟩
   simp only [drawGo, ho, guardOk, cls, if_true, runOp, opStep]
   cases h1 : ev st.env a with
   | none => rfl
   | some va =>
    cases va with
    | ptr p =>
     cases p with
     | none => cases ev st.env x <;> rfl
     | some p =>
      cases h2 : ev st.env x with
      | none => rfl
      | some v =>
       simp only
       cases h3 : stVar P st.h t p v with
       | none => rfl
       | some h' => rfl
    | _ => cases ev st.env x <;> rfl
  ·cases h
 ·cases h
theorem tie_swap {a b : Nat} {pa pb : Operand} (ha : isStore ops a = some pa) (hb : isStore ops b = some pb) {st st2 : St} (ht : tieB st.env pa pb = true) {ms : List Nat} {sn : List (Nat × H)} (hs : drawGo P W ih ops ms [a, b] sn st = some st2) :
  ∀ (ms' : List Nat) (sn' : List (Nat × H)), drawGo P W ih ops ms' [a, b] sn' st = some st2 ∧ drawGo P W ih ops ms' [b, a] sn' st = some st2 := by
 obtain ⟨t, x, fa⟩ := step_store (P := P) (W := W) (ih := ih) ha
 obtain ⟨t', x', fb⟩ := step_store (P := P) (W := W) (ih := ih) hb
 intro ms' sn'
 rw [fa] at hs
 rw [fa, fb]
 unfold tieB at ht
 split at ht
 ·rename_i i o j q e1 e2
  have hne : i ≠ j := by
   intro e; subst e; simp at ht
  simp only [e1, e2] at hs ⊢
  cases hx : ev st.env x with
  | none => rw [hx] at hs; cases hs
  | some v =>
   simp only [hx] at hs ⊢
   cases h1 : stVar P st.h t (.new i o) v with
   | none => rw [h1] at hs; cases hs
   | some g1 =>
    simp only [h1] at hs ⊢
    rw [fb] at hs
    simp only [e2] at hs
    cases hx' : ev st.env x' with
    | none => rw [hx'] at hs; cases hs
    | some v' =>
     simp only [hx'] at hs ⊢
     cases h2 : stVar P g1 t' (.new j q) v' with
     | none => rw [h2] at hs; cases hs
     | some g2 =>
      simp only [h2, drawGo] at hs
      injection hs with hs; subst hs
      obtain ⟨g3, k1, k2⟩ := stVar_comm hne h1 h2
      refine ⟨?_, ?_⟩
      ·rw [fb]; simp only [e2, hx', h2, drawGo]
      ·simp only [k1]; rw [fa]; simp only [e1, hx, k2, drawGo]
 ·cases ht
theorem sameGo_ms {ms ms' : List Nat} (hm : ∀ i j, bit ms i j = true → bit ms' i j = true) {o : Op} {env : List V} {v : V} {i id : Nat} : ∀ sn : List (Nat × H), sameGo P W o env v ms i id sn = true → sameGo P W o env v ms' i id sn = true
 | [], h => h
 | (j, hs) :: r, h => by
  simp only [sameGo, Bool.and_eq_true, Bool.or_eq_true] at h ⊢
  refine ⟨?_, sameGo_ms hm r h.2⟩
  rcases h.1 with (h | h) | h
  ·exact .inl (.inl (hm _ _ h))
  ·exact .inl (.inr h)
  ·exact .inr h
theorem sameAt_ms {ms ms' : List Nat} (hm : ∀ i j, bit ms i j = true → bit ms' i j = true) {o : Op} {env : List V} {v : V} {i : Nat} {sn : List (Nat × H)} (h : sameAt P W o env v ms i sn = true) : sameAt P W o env v ms' i sn = true := by
 unfold sameAt at h ⊢
 split at h
 ·rfl
 ·simp only [Bool.and_eq_true] at h ⊢
  exact ⟨h.1, sameGo_ms hm sn h.2⟩
theorem drawGo_ms {ms ms' : List Nat} (hm : ∀ i j, bit ms i j = true → bit ms' i j = true) {R : List Nat} {st1 st2 : St} (hR : ∀ sn, drawGo P W ih ops ms' R sn st1 = some st2) :
  ∀ (L : List Nat) (sn : List (Nat × H)) (st : St), drawGo P W ih ops ms L sn st = some st1 → drawGo P W ih ops ms' (L ++ R) sn st = some st2
 | [], sn, st, h => by
  simp only [drawGo] at h; injection h with h; subst h
  exact hR sn
 | i :: L, sn, st, h => by
  simp only [List.cons_append, drawGo] at h ⊢
  split at h
  ·cases h
  ·split at h
   ·rename_i hg
    simp only [if_pos hg]
    split at h
    ·rename_i hc
     simp only [if_pos hc]
     split at h
     ·rename_i v h1 hr
      exact drawGo_ms hm hR L _ _ h
     ·cases h
    ·rename_i hc
     simp only [if_neg hc]
     split at h
     ·split at h
      ·rename_i hq
       rw [if_pos (sameAt_ms hm hq)]
       exact drawGo_ms hm hR L _ _ h
      ·cases h
     ·cases h
   ·rename_i hg
    simp only [if_neg hg]
    exact drawGo_ms hm hR L _ _ h
theorem bit_edge {ms : List Nat} {a b i j : Nat} : bit (withEdge ms (some (a, b))) i j = true ↔ bit ms i j = true ∨ (i < ms.length ∧ (i = b ∨ bit ms i b = true) ∧ (j = a ∨ bit ms a j = true)) := by
 rcases Nat.lt_or_ge i ms.length with hi | hi
 ·have e : (withEdge ms (some (a, b))).getD i 0 = if i = b ∨ bit ms i b = true then ms.getD i 0 ||| (2 ^ a ||| ms.getD a 0) else ms.getD i 0 := by
   simp only [withEdge]
   rw [List.getD_eq_getElem?_getD, List.getElem?_map, List.getElem?_range hi]; rfl
  unfold bit
  rw [e]
  by_cases hc : i = b ∨ bit ms i b = true
  ·rw [if_pos hc]
   have hc' : i = b ∨ (ms.getD i 0).testBit b = true := hc
   simp only [Nat.testBit_or, Nat.testBit_two_pow, Bool.or_eq_true, decide_eq_true_eq, hi, true_and]
   constructor
   ·rintro (h | h | h)
    ·exact .inl h
    ·exact .inr ⟨hc', .inl h.symm⟩
    ·exact .inr ⟨hc', .inr h⟩
   ·rintro (h | ⟨_, h | h⟩)
    ·exact .inl h
    ·exact .inr (.inl h.symm)
    ·exact .inr (.inr h)
  ·rw [if_neg hc]
   have hc' : ¬ (i = b ∨ (ms.getD i 0).testBit b = true) := hc
   constructor
   ·exact .inl
   ·rintro (h | ⟨_, h, _⟩)
    ·exact h
    ·exact absurd h hc'
 ·have z : ∀ l : List Nat, l.length ≤ i → ∀ k, (l.getD i 0).testBit k = false := fun l hl k => by
   rw [List.getD_eq_getElem?_getD, List.getElem?_eq_none hl]; simp
  unfold bit
  rw [z _ (by simpa [withEdge] using hi), z _ hi]
  simp only [Bool.false_eq_true, false_or, or_false, false_iff]
  rintro ⟨h, _⟩
  omega
def Lin (n : Nat) (ms : List Nat) : (Nat → Bool) → List Nat → Prop
 | S, [] => ∀ i, i < n → S i = true
 | S, i :: is => i < n ∧ S i = false ∧ (∀ j, j < n → bit ms i j = true → S j = true) ∧ Lin n ms (upd S i) is
def Closed (n : Nat) (ms : List Nat) (S : Nat → Bool) : Prop := ∀ i j, S i = true → j < n → bit ms i j = true → S j = true
theorem upd_true {S : Nat → Bool} {e p : Nat} (h : S p = true) : upd S e p = true := by
 unfold upd; split
 ·rfl
 ·exact h
theorem Closed.upd {n : Nat} {ms : List Nat} {S : Nat → Bool} (c : Closed n ms S) {i : Nat} (h : ∀ j, j < n → bit ms i j = true → S j = true) : Closed n ms (upd S i) := fun k j hk hj hb => by
 by_cases e : k = i
 ·subst e; exact upd_true (h j hj hb)
 ·rw [upd_ne _ e] at hk
  exact upd_true (c k j hk hj hb)
theorem lin_edge_after {n : Nat} {ms : List Nat} {a b : Nat} : ∀ (is : List Nat) (S : Nat → Bool), Closed n ms S → S a = true → Lin n ms S is → Lin n (withEdge ms (some (a, b))) S is
 | [], S, c, h, l => l
 | i :: is, S, c, h, ⟨h1, h2, h3, h4⟩ => by
  refine ⟨h1, h2, fun j hj hb => ?_, lin_edge_after is _ (c.upd h3) (upd_true h) h4⟩
  rcases bit_edge.1 hb with hb | ⟨_, _, rfl | hb⟩
  ·exact h3 j hj hb
  ·exact h
  ·exact c a j h hj hb
theorem lin_edge {n : Nat} {ms : List Nat} {a b : Nat} (ha : a < n) (hb : b < n) (hab : a ≠ b) : ∀ (is : List Nat) (S : Nat → Bool), Closed n ms S → S a = false → S b = false → Lin n ms S is →
  Lin n (withEdge ms (some (a, b))) S is ∨ Lin n (withEdge ms (some (b, a))) S is
 | [], S, c, h, h', l => by rw [l a ha] at h; cases h
 | i :: is, S, c, h, h', ⟨h1, h2, h3, h4⟩ => by
  have na : bit ms i a = true → False := fun k => by have := h3 a ha k; rw [h] at this; cases this
  have nb : bit ms i b = true → False := fun k => by have := h3 b hb k; rw [h'] at this; cases this
  by_cases ea : i = a
  ·subst ea
   left
   refine ⟨h1, h2, fun j hj hbt => ?_, lin_edge_after is _ (c.upd h3) (upd_same S i) h4⟩
   rcases bit_edge.1 hbt with k | ⟨_, e | k, _⟩
   ·exact h3 j hj k
   ·exact absurd e hab
   ·exact (nb k).elim
  ·by_cases eb : i = b
   ·subst eb
    right
    refine ⟨h1, h2, fun j hj hbt => ?_, lin_edge_after is _ (c.upd h3) (upd_same S i) h4⟩
    rcases bit_edge.1 hbt with k | ⟨_, e | k, _⟩
    ·exact h3 j hj k
    ·exact absurd e.symm hab
    ·exact (na k).elim
   ·rcases lin_edge ha hb hab is (upd S i) (c.upd h3) (by rw [upd_ne _ (Ne.symm ea)]; exact h) (by rw [upd_ne _ (Ne.symm eb)]; exact h') h4 with k | k
    ·refine .inl ⟨h1, h2, fun j hj hbt => ?_, k⟩
     rcases bit_edge.1 hbt with k | ⟨_, e | k, _⟩
     ·exact h3 j hj k
     ·exact absurd e eb
     ·exact (nb k).elim
    ·refine .inr ⟨h1, h2, fun j hj hbt => ?_, k⟩
     rcases bit_edge.1 hbt with k | ⟨_, e | k, _⟩
     ·exact h3 j hj k
     ·exact absurd e ea
     ·exact (na k).elim
theorem sched_of_lin (O : Ord ops ms L) : ∀ (is : List Nat) (S S' : Nat → Bool), (∀ p, p < L.length → S' p = S (L.getD p 0)) → Lin ops.size ms S is → Sched L.length (fun p => L.getD p 0) (bfOf ms L) S' is
 | [], S, S', h, l => fun p hp => by rw [h p hp]; exact l _ (O.range p hp)
 | i :: is, S, S', h, ⟨h1, h2, h3, h4⟩ => by
  obtain ⟨e, he, hLe⟩ := O.onto i h1
  refine ⟨e, he, hLe, ?_, ?_, sched_of_lin O is (upd S i) _ ?_ h4⟩
  ·rw [h e he, hLe]; exact h2
  ·intro q hq
   simp only [bfOf, Bool.and_eq_true, decide_eq_true_eq] at hq
   rw [h q hq.1]
   exact h3 _ (O.range q hq.1) (by rw [← hLe]; exact hq.2)
  ·intro p hp
   by_cases hpe : p = e
   ·subst hpe; rw [upd_same, hLe, upd_same]
   ·rw [upd_ne _ hpe, upd_ne _ (fun hh => hpe (O.inj p e hp he (by rw [hLe, hh]))), h p hp]
theorem range_getD {n p : Nat} (h : p < n) : (List.range n).getD p 0 = p := by
 rw [List.getD_eq_getElem?_getD, List.getElem?_range h]; rfl
theorem lin_of_sched {n : Nat} : ∀ (is : List Nat) (S : Nat → Bool), Sched n (fun p => (List.range n).getD p 0) (bfOf ms (List.range n)) S is → Lin n ms S is
 | [], S, h => h
 | i :: is, S, ⟨e, he, hLe, h2, h3, h4⟩ => by
  have : e = i := by simp only [range_getD he] at hLe; exact hLe
  subst this
  refine ⟨he, h2, fun j hj hb => h3 j ?_, lin_of_sched is _ h4⟩
  unfold bfOf
  rw [range_getD he, range_getD hj, hb]
  simp [hj]
theorem back_of (O : Ord ops ms L) : ∀ (i : Nat) (o : Oper), ops[i]? = some o → ∀ e ∈ o.after, Region.binds .any e = true → e.on < i := by
 intro i oi hoi e he hb
 obtain ⟨p, hp', hLp⟩ := O.onto i (Array.getElem?_eq_some_iff.1 hoi).1
 obtain ⟨o', c⟩ := O.chk p hp'
 have := c.op
 rw [hLp, hoi] at this; injection this with this; subst this
 have := c.back e he hb
 rw [hLp] at this; exact this
theorem lin_go (back : ∀ (i : Nat) (o : Oper), ops[i]? = some o → ∀ e ∈ o.after, Region.binds .any e = true → e.on < i) (t : Nat) :
  Lin ops.size (masksGo ops.toList []) (fun _ => false) (Region.linearise.go .any ops ops.size t (Array.replicate ops.size false) []) := by
 have e : (List.range ops.size).length = ops.size := List.length_range
 refine lin_of_sched _ _ ?_
 have key := sched_go (L := List.range ops.size) (ms := masksGo ops.toList []) (masks_good ops) ?_ ?_ ?_ back ops.size t (Array.replicate ops.size false) (fun _ => false) (List.range ops.size) (by simp) ?_ ?_ List.nodup_range ?_ (by simp)
 ·rw [e] at key; exact key
 ·intro p q hp hq h
  rw [e] at hp hq
  rw [range_getD hp, range_getD hq] at h; exact h
 ·intro j hj
  exact ⟨j, by rw [e]; exact hj, range_getD hj⟩
 ·intro p hp
  rw [e] at hp
  rw [range_getD hp]; exact hp
 ·intro p hp
  rw [e] at hp
  rw [range_getD hp]
  simp [hp]
 ·intro i j h1
  rcases Nat.lt_or_ge i ops.size with h' | h'
  ·simp [h'] at h1
  ·rw [Array.getD_eq_getD_getElem?, Array.getElem?_eq_none (by simpa using h')] at h1
   simp at h1
 ·intro i
  simp only [List.mem_range]
  constructor
  ·intro h'; exact ⟨h', by simp [h']⟩
  ·intro h'; exact h'.1
def stepT (P : Program) (W : World) (ops : Array Oper) (i : Nat) (st : St) : Option St := match ops[i]? with
 | some o => match opStep P W o.op st.env st.h with
  | .val v h => some (putTmp o.dst v { st with h := h })
  | _ => none
 | none => none
def runT (P : Program) (W : World) (ops : Array Oper) : List Nat → St → Option St
 | [], st => some st
 | i :: r, st => match stepT P W ops i st with
  | some st' => runT P W ops r st'
  | none => none
def isTail (ops : Array Oper) (i : Nat) : Bool := match ops[i]? with
 | some o => calm o || (isStore ops i).isSome
 | none => false
theorem calm_spec {o : Oper} (h : calm o = true) : o.guard = none ∧ cls o.op = 1 ∧ ∀ env, reads env o.op = none := by
 unfold calm at h
 simp only [Bool.and_eq_true, Option.isNone_iff_eq_none, beq_iff_eq] at h
 refine ⟨h.1.1, h.1.2, fun env => ?_⟩
 have h1 := h.1.2
 have h2 := h.2
 generalize o.op = op at h1 h2
 cases op <;> first | rfl | (simp [cls] at h1; done) | cases h2
theorem drawGo_tail : ∀ (T : List Nat), (∀ i ∈ T, isTail ops i = true) → ∀ (ms : List Nat) (sn : List (Nat × H)) (st : St), drawGo P W ih ops ms T sn st = runT P W ops T st
 | [], _, ms, sn, st => rfl
 | i :: T, h, ms, sn, st => by
  have hi := h i (.head _)
  have ih' := fun sn st => drawGo_tail T (fun k hk => h k (.tail _ hk)) ms sn st
  unfold isTail at hi
  simp only [runT, stepT]
  cases ho : ops[i]? with
  | none => rw [ho] at hi; cases hi
  | some o =>
   rw [ho] at hi
   simp only [Bool.or_eq_true] at hi
   rcases hi with hc | hc
   ·obtain ⟨g, c, rd⟩ := calm_spec hc
    have hg : guardOk ops o st.env = true := by unfold guardOk; rw [g]
    have hne : ¬ cls o.op = 0 := by omega
    simp only [drawGo, ho, hg, if_true, if_neg hne, sameAt, rd, ih']
    cases opStep P W o.op st.env st.h <;> rfl
   ·unfold isStore at hc
    rw [ho] at hc
    obtain ⟨oop, og, od, oa⟩ := o
    simp only at hc
    split at hc
    ·rename_i t a x
     simp only [drawGo, ho, guardOk, cls, if_true, runOp, ih']
     cases hv : opStep P W (.store t a x) st.env st.h with
     | val v h' => rfl
     | bad => rfl
     | call f args =>
      exfalso
      simp only [opStep] at hv
      split at hv
      ·unfold Res.unit at hv
       split at hv <;> cases hv
      ·cases hv
     | round l args =>
      exfalso
      simp only [opStep] at hv
      split at hv
      ·unfold Res.unit at hv
       split at hv <;> cases hv
      ·cases hv
    ·cases hc
theorem dstApart_spec {o o' : Oper} (h : dstApart o o' = true) : (∀ t, o.dst = some t → o'.dst ≠ some t) ∧ ∀ (env : List V) (v : V) (x : Operand), x ∈ o'.op.operands → ev (putE o.dst v env) x = ev env x := by
 unfold dstApart at h
 cases hd : o.dst with
 | none => exact ⟨fun t ht => (by cases ht), fun env v x hx => rfl⟩
 | some t =>
  rw [hd] at h
  simp only [Bool.and_eq_true, List.all_eq_true] at h
  refine ⟨fun u hu => ?_, fun env v x hx => ?_⟩
  ·injection hu with hu; subst hu
   intro e
   have := h.2
   rw [e] at this
   simp at this
  ·have := h.1 x (by simpa using hx)
   cases x with
   | tmp u =>
    simp only [Bool.not_eq_true', beq_eq_false_iff_ne, ne_eq] at this
    simp only [ev, putE]
    simp only [List.getD_eq_getElem?_getD, List.getElem?_set_ne (Ne.symm this)]
   | _ => rfl
theorem putTmp_env (d : Option Tmp) (v : V) (st : St) : (putTmp d v st).env = putE d v st.env ∧ (putTmp d v st).h = st.h := by cases d <;> exact ⟨rfl, rfl⟩
theorem put2 {d d' : Option Tmp} (hne : ∀ t, d = some t → d' ≠ some t) (v u : V) (st : St) (h2 : H) :
  putTmp d v ⟨putE d' u st.env, (putTmp d' u ⟨st.env, st.ds, h2⟩).ds, h2⟩ = putTmp d' u ⟨putE d v st.env, (putTmp d v ⟨st.env, st.ds, st.h⟩).ds, h2⟩ := by
 cases d with
 | none => cases d' <;> rfl
 | some t =>
  cases d' with
  | none => rfl
  | some t' =>
   have : t ≠ t' := fun e => hne t rfl (by rw [e])
   simp only [putTmp, putE]
   rw [List.set_comm _ _ this]
theorem runT_swap {i j : Nat} (h : swapOk ops i j = true) {Y : List Nat} {st x : St} (hs : runT P W ops (i :: j :: Y) st = some x) : runT P W ops (j :: i :: Y) st = some x := by
 unfold swapOk at h
 split at h
 ·rename_i o o' ho ho'
  simp only [Bool.and_eq_true] at h
  obtain ⟨⟨⟨hc, _⟩, h1⟩, h2⟩ := h
  obtain ⟨g, c, rd⟩ := calm_spec hc
  obtain ⟨n1, p1⟩ := dstApart_spec h1
  obtain ⟨n2, p2⟩ := dstApart_spec h2
  simp only [runT, stepT, ho, ho'] at hs ⊢
  cases e1 : opStep P W o.op st.env st.h with
  | val v h1 =>
   obtain ⟨rfl, pv⟩ := pure_step c (rd _) e1
   simp only [e1] at hs
   obtain ⟨q1, q2⟩ := putTmp_env o.dst v { st with h := st.h }
   rw [q1, q2] at hs
   rw [opStep_congr o'.op st.h (fun x hx => p1 st.env v x hx)] at hs
   cases e2 : opStep P W o'.op st.env st.h with
   | val u h2 =>
    simp only [e2] at hs ⊢
    obtain ⟨q3, q4⟩ := putTmp_env o'.dst u { st with h := h2 }
    rw [q3, q4, opStep_congr o.op h2 (fun x hx => p2 st.env u x hx), pv h2]
    simp only
    rw [← hs]
    congr 1
    exact put2 n1 v u st h2
   | bad => rw [e2] at hs; cases hs
   | call f args => rw [e2] at hs; cases hs
   | round l args => rw [e2] at hs; cases hs
  | bad => rw [e1] at hs; cases hs
  | call f args => rw [e1] at hs; cases hs
  | round l args => rw [e1] at hs; cases hs
 ·cases h
theorem runT_cons {i : Nat} {R : List Nat} {st x : St} (h : runT P W ops (i :: R) st = some x) : ∃ st', stepT P W ops i st = some st' ∧ runT P W ops R st' = some x := by
 simp only [runT] at h
 cases e : stepT P W ops i st with
 | none => rw [e] at h; cases h
 | some st' => rw [e] at h; exact ⟨st', rfl, h⟩
theorem runT_of {i : Nat} {R : List Nat} {st st' x : St} (h1 : stepT P W ops i st = some st') (h2 : runT P W ops R st' = some x) : runT P W ops (i :: R) st = some x := by
 simp only [runT, h1, h2]
theorem runT_split : ∀ (X : List Nat) {Y : List Nat} {st x : St}, runT P W ops (X ++ Y) st = some x → ∃ st', runT P W ops X st = some st' ∧ runT P W ops Y st' = some x
 | [], Y, st, x, h => ⟨st, rfl, h⟩
 | i :: X, Y, st, x, h => by
  obtain ⟨st1, h1, h2⟩ := runT_cons h
  obtain ⟨st2, h3, h4⟩ := runT_split X h2
  exact ⟨st2, runT_of h1 h3, h4⟩
theorem runT_join : ∀ (X : List Nat) {Y : List Nat} {st st' x : St}, runT P W ops X st = some st' → runT P W ops Y st' = some x → runT P W ops (X ++ Y) st = some x
 | [], Y, st, st', x, h, h' => by simp only [runT] at h; injection h with h; subst h; exact h'
 | i :: X, Y, st, st', x, h, h' => by
  obtain ⟨st1, h1, h2⟩ := runT_cons h
  exact runT_of h1 (runT_join X h2 h')
theorem runT_left {j : Nat} {Y : List Nat} : ∀ (X : List Nat) {st x : St}, (∀ i ∈ X, swapOk ops i j = true) → runT P W ops (X ++ j :: Y) st = some x → runT P W ops (j :: (X ++ Y)) st = some x
 | [], st, x, h, hs => hs
 | i :: X, st, x, h, hs => by
  obtain ⟨st1, h1, h2⟩ := runT_cons hs
  exact runT_swap (h i (.head _)) (runT_of h1 (runT_left X (fun k hk => h k (.tail _ hk)) h2))
theorem runT_lefts {X Y : List Nat} : ∀ (Z : List Nat) {st x : St}, (∀ i ∈ X, ∀ j ∈ Z, swapOk ops i j = true) → runT P W ops (X ++ (Z ++ Y)) st = some x → runT P W ops (Z ++ (X ++ Y)) st = some x
 | [], st, x, h, hs => hs
 | j :: Z, st, x, h, hs => by
  have h1 := runT_left X (fun i hi => h i hi j (.head _)) hs
  obtain ⟨st1, h2, h3⟩ := runT_cons h1
  exact runT_of h2 (runT_lefts Z (fun i hi k hk => h i hi k (.tail _ hk)) h3)
theorem drawGo_split {ms R : List Nat} : ∀ (L : List Nat) (sn : List (Nat × H)) (st x : St), drawGo P W ih ops ms (L ++ R) sn st = some x → ∃ st1 sn1, drawGo P W ih ops ms L sn st = some st1 ∧ drawGo P W ih ops ms R sn1 st1 = some x
 | [], sn, st, x, h => ⟨st, sn, rfl, h⟩
 | i :: L, sn, st, x, h => by
  simp only [List.cons_append, drawGo] at h ⊢
  split at h
  ·cases h
  ·split at h
   ·rename_i hg
    simp only [if_pos hg]
    split at h
    ·rename_i hc
     simp only [if_pos hc]
     split at h
     ·exact drawGo_split L _ _ _ h
     ·cases h
    ·rename_i hc
     simp only [if_neg hc]
     split at h
     ·split at h
      ·rename_i hq
       simp only [if_pos hq]
       exact drawGo_split L _ _ _ h
      ·cases h
     ·cases h
   ·rename_i hg
    simp only [if_neg hg]
    exact drawGo_split L _ _ _ h
structure TieOK (ops : Array Oper) (t : Tie) : Prop where
 ms : t.ms = masksGo ops.toList []
 sa : isStore ops t.a = some t.pa
 sb : isStore ops t.b = some t.pb
 o1 : Ord ops (withEdge (masksGo ops.toList []) (some (t.a, t.b))) (t.M ++ (t.A ++ t.a :: (t.B ++ [t.b])))
 o2 : Ord ops (withEdge (masksGo ops.toList []) (some (t.b, t.a))) (t.M ++ (t.B ++ t.b :: (t.A ++ [t.a])))
 ab : ∀ i ∈ t.A, ∀ j ∈ t.B, swapOk ops i j = true
 ba : ∀ i ∈ t.B, swapOk ops i t.a = true
 bb : ∀ i ∈ t.A, swapOk ops i t.b = true
theorem tie_spec {t : Tie} (h : tieOf ops = some t) : TieOK ops t := by
 unfold tieOf at h
 simp only at h
 split at h
 ·split at h
  ·rename_i pa pb ha hb
   split at h
   ·rename_i hok
    simp only [Bool.and_eq_true] at hok
    injection h with h; subst h
    obtain ⟨k1, k2, k3, k4, k5⟩ := hok
    exact ⟨rfl, ha, hb, Ord.of k1, Ord.of k2, fun i hi j hj => List.all_eq_true.1 (List.all_eq_true.1 k3 i hi) j hj, List.all_eq_true.1 k4, List.all_eq_true.1 k5⟩
   ·cases h
  ·cases h
 ·cases h
theorem isTail_swap {i j : Nat} (h : swapOk ops i j = true) : isTail ops i = true := by
 unfold swapOk at h
 split at h
 ·rename_i o o' ho ho'
  simp only [Bool.and_eq_true] at h
  simp only [isTail, ho, h.1.1.1, Bool.true_or]
 ·cases h
theorem isTail_store {i : Nat} {pa : Operand} (h : isStore ops i = some pa) : isTail ops i = true := by
 unfold isTail
 cases ho : ops[i]? with
 | none => unfold isStore at h; rw [ho] at h; cases h
 | some o => simp only [h, Option.isSome_some, Bool.or_true]
theorem TieOK.ne {t : Tie} (T : TieOK ops t) {st : St} (ht : tieB st.env t.pa t.pb = true) : t.a < ops.size ∧ t.b < ops.size ∧ t.a ≠ t.b := by
 have lt : ∀ {i : Nat} {p : Operand}, isStore ops i = some p → i < ops.size := fun {i p} h => by
  rcases Nat.lt_or_ge i ops.size with k | k
  ·exact k
  ·unfold isStore at h; rw [Array.getElem?_eq_none k] at h; cases h
 refine ⟨lt T.sa, lt T.sb, fun e => ?_⟩
 have h1 := T.sa
 rw [e, T.sb] at h1
 injection h1 with h1
 rw [h1] at ht
 unfold tieB at ht
 split at ht
 ·rename_i e1 e2
  rw [e1] at e2
  injection e2 with e2; injection e2 with e2; injection e2 with e2; injection e2 with e2
  subst e2
  simp at ht
 ·cases ht
theorem canon_lin (H0 : IHOK P W ih) (N : NX ih) (O : Ord ops ms L) {st st' : St} (hs : drawGo P W ih ops ms L [] st = some st') {is : List Nat} (hl : Lin ops.size ms (fun _ => false) is) {μ : Mu} {w : World} {a : Act} (rr : Option Nat) {Q : Exit → Act → World → Prop}
  (hr : HR P W μ st.h w) (ha : AOK μ st.env st.ds a) (hQ : ∀ μ' w' a', Go1 P W μ st.h w μ' st'.h w' → AOK μ' st'.env st'.ds a' → Q .normal a' w') : wpOpsIn (Wd rr) 0 P ops Q is a { w with drawn := w.drawn + 1 } := by
 obtain ⟨o, tr, vl, C, t0, t1⟩ := canon_of N O hs
 refine canon_wp C H0 rr (μ0 := μ) (w0 := { w with drawn := w.drawn + 1 }) (a0 := a) (by rw [t0]; exact hr.drawn _) (by rw [t0]; exact ha) (fun μ' w' a' g k => ?_) _ ?_
 ·rw [t0, t1] at g
  rw [t1] at k
  exact hQ μ' w' a' g.of_drawn k
 ·exact sched_of_lin O is _ _ (fun _ _ => rfl) hl
theorem tie_runs {t : Tie} (T : TieOK ops t) {st st1 st2 : St} (h1 : drawGo P W ih ops t.ms (t.M ++ (t.A ++ t.B)) [] st = some st1) (ht : tieB st1.env t.pa t.pb = true) (h2 : drawGo P W ih ops t.ms [t.a, t.b] [] st1 = some st2) :
  drawGo P W ih ops (withEdge (masksGo ops.toList []) (some (t.a, t.b))) (t.M ++ (t.A ++ t.a :: (t.B ++ [t.b]))) [] st = some st2 ∧ drawGo P W ih ops (withEdge (masksGo ops.toList []) (some (t.b, t.a))) (t.M ++ (t.B ++ t.b :: (t.A ++ [t.a]))) [] st = some st2 := by
 have sw := (tie_swap T.sa T.sb ht h2 t.ms []).2
 have ta := isTail_store T.sa
 have tb := isTail_store T.sb
 have tA : ∀ i ∈ t.A, isTail ops i = true := fun i hi => isTail_swap (T.bb i hi)
 have tB : ∀ i ∈ t.B, isTail ops i = true := fun i hi => isTail_swap (T.ba i hi)
 have all2 : ∀ i ∈ [t.a, t.b], isTail ops i = true := fun i hi => by simp at hi; rcases hi with rfl | rfl <;> assumption
 have all3 : ∀ i ∈ [t.b, t.a], isTail ops i = true := fun i hi => by simp at hi; rcases hi with rfl | rfl <;> assumption
 rw [drawGo_tail _ all2] at h2
 rw [drawGo_tail _ all3] at sw
 obtain ⟨stM, sn, k1, k2⟩ := drawGo_split _ _ _ _ h1
 rw [drawGo_tail _ (fun i hi => (List.mem_append.1 hi).elim (tA i) (tB i))] at k2
 rw [T.ms] at k1
 obtain ⟨stA, a1, a2⟩ := runT_split _ k2
 refine ⟨drawGo_ms (fun i j hb => bit_edge.2 (.inl hb)) (fun sn => ?_) _ _ _ k1, drawGo_ms (fun i j hb => bit_edge.2 (.inl hb)) (fun sn => ?_) _ _ _ k1⟩
 ·rw [drawGo_tail _ (fun i hi => by
   simp only [List.mem_append, List.mem_cons, List.not_mem_nil, or_false] at hi
   rcases hi with hi | rfl | hi | rfl
   ·exact tA i hi
   ·exact ta
   ·exact tB i hi
   ·exact tb)]
  exact runT_join _ a1 (runT_left _ T.ba (runT_join _ a2 h2))
 ·rw [drawGo_tail _ (fun i hi => by
   simp only [List.mem_append, List.mem_cons, List.not_mem_nil, or_false] at hi
   rcases hi with hi | rfl | hi | rfl
   ·exact tB i hi
   ·exact tb
   ·exact tA i hi
   ·exact ta)]
  obtain ⟨stB, b1, b2⟩ := runT_split _ (runT_lefts t.B T.ab (runT_join _ a1 (runT_join _ a2 sw)))
  exact runT_join _ b1 (runT_left _ T.bb b2)
theorem draw_wpIn (hm : P.follows .mixedOrders = true) (H0 : IHOK P W ih) (N : NX ih) {id : Nat} {st st' : St} (hs : doDraw P W ih ops st = some st') {μ : Mu} {w : World} {a : Act} (rr : Option Nat) {Q : Exit → Act → World → Prop}
  (hr : HR P W μ st.h w) (ha : AOK μ st.env st.ds a) (hQ : ∀ μ' w' a', Go1 P W μ st.h w μ' st'.h w' → AOK μ' st'.env st'.ds a' → Q .normal a' w') : (Code.region id ops true).wpIn (Wd rr) 0 P Q a w := by
 unfold doDraw at hs
 refine wpIn_region_draw fun t => ?_
 simp only [Region.schedule, hm, Bool.true_or, if_true]
 split at hs
 ·rename_i L ms hp
  obtain ⟨hms, O⟩ := plan_spec hp
  simp only [withEdge] at hms
  subst hms
  exact canon_lin H0 N O hs (lin_go (back_of O) t) rr hr ha hQ
 ·split at hs
  ·rename_i te hte
   split at hs
   ·rename_i st1 h1
    split at hs
    ·rename_i htb
     have T := tie_spec hte
     obtain ⟨r1, r2⟩ := tie_runs T h1 htb hs
     obtain ⟨la, lb, lab⟩ := T.ne htb
     rcases lin_edge la lb lab _ (fun _ => false) (fun i j h => by cases h) rfl rfl (lin_go (back_of T.o1) t) with k | k
     ·exact canon_lin H0 N T.o1 r1 k rr hr ha hQ
     ·exact canon_lin H0 N T.o2 r2 k rr hr ha hQ
    ·cases hs
   ·cases hs
  ·cases hs
end
end Go.Proofs.YtkhjmgchlbnkjaaDoor.Dg
