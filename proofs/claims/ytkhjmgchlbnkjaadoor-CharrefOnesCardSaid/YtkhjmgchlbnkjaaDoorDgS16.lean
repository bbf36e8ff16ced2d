import Derived.Test.YtkhjmgchlbnkjaaDoorDgS15
set_option linter.unusedVariables false
set_option linter.unusedSimpArgs false
namespace Go.Proofs.YtkhjmgchlbnkjaaDoor.Dg
open Go Go.RowKit
mutual
theorem V.beq_eq : ∀ (a b : V), V.beq a b = true → a = b
 | .bool a, b, h => by cases b <;> simp [V.beq] at h; rw [h]
 | .int k a, b, h => by cases b <;> simp [V.beq] at h; rw [h.1, h.2]
 | .str a, b, h => by cases b <;> simp [V.beq] at h; rw [h]
 | .ptr a, b, h => by cases b <;> simp [V.beq] at h; rw [h]
 | .slice a l c e, b, h => by cases b <;> simp [V.beq] at h; rw [h.1, h.2.1, h.2.2.1, h.2.2.2]
 | .map a, b, h => by cases b <;> simp [V.beq] at h; rw [h]
 | .fn f c, b, h => by
  cases b <;> simp [V.beq] at h
  rw [h.1, V.beqL_eq _ _ h.2]
 | .yld a, b, h => by cases b <;> simp [V.beq] at h; rw [h]
 | .nilfn, b, h => by cases b <;> simp [V.beq] at h; rfl
 | .nilif, b, h => by cases b <;> simp [V.beq] at h; rfl
 | .agg l, b, h => by
  cases b <;> simp [V.beq] at h
  rw [V.beqL_eq _ _ h]
 | .tup l, b, h => by
  cases b <;> simp [V.beq] at h
  rw [V.beqL_eq _ _ h]
theorem V.beqL_eq : ∀ (a b : List V), V.beqL a b = true → a = b
 | [], b, h => by cases b <;> simp [V.beqL] at h; rfl
 | x :: xs, b, h => by
  cases b <;> simp [V.beqL] at h
  rw [V.beq_eq _ _ h.1, V.beqL_eq _ _ h.2]
end
def Good (os : List Oper) (ms : List Nat) : Prop :=
 ∀ i j, bit ms i j = true → ∃ o e, os[i]? = some o ∧ e ∈ o.after ∧ Region.binds .any e = true ∧ (j = e.on ∨ bit ms e.on j = true)
theorem maskOf_bit {acc : List Nat} {j : Nat} : ∀ (es : List Edge) (m0 : Nat), (es.foldl (fun m e => if Region.binds .any e then m ||| 2 ^ e.on ||| acc.getD e.on 0 else m) m0).testBit j = true →
  m0.testBit j = true ∨ ∃ e ∈ es, Region.binds .any e = true ∧ (j = e.on ∨ (acc.getD e.on 0).testBit j = true)
 | [], m0, h => .inl h
 | e :: es, m0, h => by
  simp only [List.foldl_cons] at h
  rcases maskOf_bit es _ h with h1 | ⟨e', he', hb, hj⟩
  ·split at h1
   ·rename_i hb
    rw [Nat.testBit_or, Nat.testBit_or, Nat.testBit_two_pow] at h1
    simp only [Bool.or_eq_true, decide_eq_true_eq] at h1
    rcases h1 with (h1 | h1) | h1
    ·exact .inl h1
    ·exact .inr ⟨e, by simp, hb, .inl h1.symm⟩
    ·exact .inr ⟨e, by simp, hb, .inr h1⟩
   ·exact .inl h1
  ·exact .inr ⟨e', by simp [he'], hb, hj⟩
theorem masksGo_good : ∀ (r pre : List Oper) (acc : List Nat), acc.length = pre.length → Good pre acc → Good (pre ++ r) (masksGo r acc)
 | [], pre, acc, _, hg => by simpa [masksGo] using hg
 | o :: r, pre, acc, hl, hg => by
  have := masksGo_good r (pre ++ [o]) (acc ++ [maskOf acc o.after.toList]) (by simp [hl]) ?_
  ·simpa [masksGo] using this
  ·have old : ∀ i j, i < pre.length → bit (acc ++ [maskOf acc o.after.toList]) i j = bit acc i j := fun i j hi => by
    unfold bit
    rw [List.getD_eq_getElem?_getD, List.getD_eq_getElem?_getD, List.getElem?_append_left (by omega)]
   have grow : ∀ i j, bit acc i j = true → bit (acc ++ [maskOf acc o.after.toList]) i j = true := fun i j h => by
    rcases Nat.lt_or_ge i pre.length with hi | hi
    ·rw [old i j hi]; exact h
    ·unfold bit at h
     rw [List.getD_eq_getElem?_getD, List.getElem?_eq_none (by omega)] at h
     simp at h
   intro i j hij
   rcases Nat.lt_or_ge i pre.length with hi | hi
   ·rw [old i j hi] at hij
    obtain ⟨o', e, h1, h2, h3, h4⟩ := hg i j hij
    exact ⟨o', e, by rw [List.getElem?_append_left hi]; exact h1, h2, h3, h4.imp id (grow _ _)⟩
   ·rcases Nat.lt_or_ge pre.length i with hi' | hi'
    ·unfold bit at hij
     rw [List.getD_eq_getElem?_getD, List.getElem?_eq_none (by simp; omega)] at hij
     simp at hij
    ·have : i = pre.length := by omega
     subst this
     unfold bit at hij
     rw [List.getD_eq_getElem?_getD, List.getElem?_append_right (by omega)] at hij
     simp only [hl, Nat.sub_self, List.getElem?_cons_zero, Option.getD_some] at hij
     unfold maskOf at hij
     rcases maskOf_bit _ _ hij with h | ⟨e, he, hb, hj⟩
     ·simp at h
     ·exact ⟨o, e, by simp, by simpa using he, hb, hj.imp id fun h => grow _ _ h⟩
theorem masks_good (ops : Array Oper) : Good ops.toList (masksGo ops.toList []) := by
 have := masksGo_good ops.toList [] [] rfl (fun i j h => by simp [bit] at h)
 simpa using this
theorem tmpsOk_spec {ops : Array Oper} {ms : List Nat} {D i : Nat} {ts : List Tmp} : ∀ {js : List Nat}, tmpsOk ops ms D i ts js = true → ∀ j ∈ js, j ≠ i → ∀ t, (ops[j]?).bind (·.dst) = some t → t ∈ ts → (D.testBit j = true → bit ms i j = true) ∧ (D.testBit j = false → bit ms j i = true)
 | [], _, j, hj => by cases hj
 | k :: js, h, j, hj => by
  simp only [tmpsOk, Bool.and_eq_true] at h
  intro hne t ht hts
  rcases List.mem_cons.1 hj with rfl | hj
  ·have h1 := h.1
   rw [ht] at h1
   simp only [if_pos (And.intro hne hts)] at h1
   constructor <;> intro hd <;> rw [hd] at h1 <;> simpa using h1
  ·exact tmpsOk_spec h.2 j hj hne t ht hts
def inD (D : Nat) (L : List Nat) (p j : Nat) : Prop := D.testBit j = true ∨ ∃ q, q < p ∧ L.getD q 0 = j
structure Chk (ops : Array Oper) (ms L : List Nat) (D p i : Nat) (o : Oper) : Prop where
 op : ops[i]? = some o
 new : ¬ inD D L p i
 wall : cls o.op = 0 → ∀ j, inD D L p j → bit ms i j = true
 tmp : ∀ j, j < ops.size → j ≠ i → ∀ t, (ops[j]?).bind (·.dst) = some t → (t ∈ looks ops o ∨ o.dst = some t) → (inD D L p j → bit ms i j = true) ∧ (¬ inD D L p j → bit ms j i = true)
 back : ∀ e ∈ o.after, Region.binds .any e = true → e.on < i
theorem inD_zero {D : Nat} {L : List Nat} {j : Nat} : inD D L 0 j ↔ D.testBit j = true := by
 constructor
 ·rintro (h | ⟨q, hq, _⟩)
  ·exact h
  ·omega
 ·exact .inl
theorem inD_succ {D i : Nat} {L : List Nat} {p j : Nat} : inD D (i :: L) (p + 1) j ↔ inD (D ||| 2 ^ i) L p j := by
 unfold inD
 rw [Nat.testBit_or, Nat.testBit_two_pow]
 simp only [Bool.or_eq_true, decide_eq_true_eq]
 constructor
 ·rintro (h | ⟨q, hq, h⟩)
  ·exact .inl (.inl h)
  ·cases q with
   | zero => exact .inl (.inr (by simpa using h))
   | succ q => exact .inr ⟨q, by omega, by simpa using h⟩
 ·rintro ((h | h) | ⟨q, hq, h⟩)
  ·exact .inl h
  ·exact .inr ⟨0, by omega, by simpa using h⟩
  ·exact .inr ⟨q + 1, by omega, by simpa using h⟩
theorem okGo_spec {ops : Array Oper} {ms : List Nat} : ∀ (L : List Nat) (D : Nat), okGo ops ms L D = true →
  (∀ p, p < L.length → ∃ o, Chk ops ms L D p (L.getD p 0) o) ∧ ∀ j, j < ops.size → inD D L L.length j
 | [], D, h => by
  simp only [okGo, decide_eq_true_eq] at h
  refine ⟨fun p hp => by simp at hp, fun j hj => .inl ?_⟩
  have : D = 2 ^ ops.size - 1 := by omega
  rw [this, Nat.testBit_two_pow_sub_one]
  simpa using hj
 | i :: L, D, h => by
  simp only [okGo] at h
  split at h
  ·cases h
  ·rename_i o ho
   simp only [Bool.and_eq_true] at h
   obtain ⟨⟨⟨⟨h1, h2⟩, h3⟩, h4⟩, h5⟩ := h
   obtain ⟨g1, g2⟩ := okGo_spec L _ h5
   refine ⟨fun p hp => ?_, fun j hj => ?_⟩
   ·cases p with
    | zero =>
     refine ⟨o, ho, ?_, ?_, ?_, ?_⟩
     ·rw [inD_zero]; simpa using h1
     ·intro hc j hj
      rw [inD_zero] at hj
      rw [hc] at h2
      simp only [beq_self_eq_true, Bool.not_true, Bool.false_or, decide_eq_true_eq] at h2
      have : (D &&& ms.getD i 0).testBit j = true := by rw [h2]; exact hj
      rw [Nat.testBit_and] at this
      simp only [Bool.and_eq_true] at this
      exact this.2
     ·intro j hj hne t ht hts
      have := tmpsOk_spec h3 j (by simpa using hj) hne t ht (by
       rcases hts with hts | hts
       ·exact List.mem_append_right _ hts
       ·exact List.mem_append_left _ (by simp [hts]))
      rw [inD_zero]
      exact ⟨this.1, fun hn => this.2 (by simpa using hn)⟩
     ·intro e he hb
      have := List.all_eq_true.1 h4 e (by simpa using he)
      rw [hb] at this
      simpa using this
    | succ p =>
     obtain ⟨o', c⟩ := g1 p (by simpa using hp)
     refine ⟨o', c.op, ?_, ?_, ?_, c.back⟩
     ·rw [inD_succ]; exact c.new
     ·intro hc j hj; rw [inD_succ] at hj; exact c.wall hc j hj
     ·intro j hj hne t ht hts; rw [inD_succ]; exact c.tmp j hj hne t ht hts
   ·rw [List.length_cons, inD_succ]; exact g2 j hj
section
variable {P : Program} {W : World} {ih : IH} {ops : Array Oper} {ms : List Nat}
def OkS (P : Program) (W : World) (ms : List Nat) (i : Nat) (o : Op) (env : List V) (v : V) (id : Nat) (y : Nat × H) : Prop :=
 bit ms i y.1 = true ∨ y.2.nx ≤ id ∨ ∃ hh, opStep P W o env y.2 = .val v hh
theorem sameGo_spec {i : Nat} {o : Op} {env : List V} {v : V} {id : Nat} : ∀ {sn : List (Nat × H)}, sameGo P W o env v ms i id sn = true → ∀ y ∈ sn, OkS P W ms i o env v id y
 | [], _, y, hy => by cases hy
 | (j, hs) :: sn, h, y, hy => by
  simp only [sameGo, Bool.and_eq_true, Bool.or_eq_true, decide_eq_true_eq] at h
  rcases List.mem_cons.1 hy with rfl | hy
  ·rcases h.1 with (h1 | h1) | h1
   ·exact .inl h1
   ·exact .inr (.inl h1)
   ·right; right
    split at h1
    ·rename_i v' hh he
     exact ⟨hh, by rw [← V.beq_eq _ _ h1]; exact he⟩
    ·cases h1
  ·exact sameGo_spec h.2 y hy
theorem CS.of {o : Oper} {st : St} {v : V} {h : H}
  (how : (guardOk ops o st.env = false ∧ v = .undef ∧ h = st.h) ∨ (guardOk ops o st.env = true ∧ cls o.op = 0 ∧ runOp P W ih o.op st.env st.h = some (v, h)) ∨
   (guardOk ops o st.env = true ∧ cls o.op ≠ 0 ∧ opStep P W o.op st.env st.h = .val v h ∧ ∀ id, reads st.env o.op = some id → cls o.op = 2)) :
  CS P W ih ops o st (putTmp o.dst v { st with h := h }) v := by
 refine ⟨?_, ?_, ?_⟩
 ·cases o.dst <;> rfl
 ·cases o.dst <;> rfl
 ·rw [putTmp_h]; exact how
theorem drawGo_trace (N : NX ih) : ∀ (L : List Nat) (sn : List (Nat × H)) (st st' : St), drawGo P W ih ops ms L sn st = some st' →
  ∃ (o : Nat → Oper) (tr : Nat → St) (vl : Nat → V), tr 0 = st ∧ tr L.length = st' ∧ ∀ p, p < L.length →
   ops[L.getD p 0]? = some (o p) ∧ CS P W ih ops (o p) (tr p) (tr (p + 1)) (vl p) ∧ (tr p).h.nx ≤ (tr (p + 1)).h.nx ∧
   (guardOk ops (o p) (tr p).env = true → cls (o p).op ≠ 0 → ∀ id, reads (tr p).env (o p).op = some id →
    (∀ y ∈ sn, OkS P W ms (L.getD p 0) (o p).op (tr p).env (vl p) id y) ∧
    ∀ q, q < p → cls (o q).op = 0 → guardOk ops (o q) (tr q).env = true → OkS P W ms (L.getD p 0) (o p).op (tr p).env (vl p) id (L.getD q 0, (tr q).h))
 | [], sn, st, st', h => by
  simp only [drawGo] at h; injection h with h; subst h
  exact ⟨fun _ => default, fun _ => st, fun _ => default, rfl, rfl, fun p hp => by simp at hp⟩
 | i :: L, sn, st, st', h => by
  simp only [drawGo] at h
  split at h
  ·cases h
  ·rename_i o0 ho
   -- one step, then the others
   have glue : ∀ (st1 : St) (v0 : V) (sn' : List (Nat × H)), CS P W ih ops o0 st st1 v0 → st.h.nx ≤ st1.h.nx → drawGo P W ih ops ms L sn' st1 = some st' → (∀ y ∈ sn, y ∈ sn') →
     (cls o0.op = 0 → guardOk ops o0 st.env = true → (i, st.h) ∈ sn') →
     (guardOk ops o0 st.env = true → cls o0.op ≠ 0 → ∀ id, reads st.env o0.op = some id → ∀ y ∈ sn, OkS P W ms i o0.op st.env v0 id y) →
     ∃ (o : Nat → Oper) (tr : Nat → St) (vl : Nat → V), tr 0 = st ∧ tr (i :: L).length = st' ∧ ∀ p, p < (i :: L).length →
      ops[(i :: L).getD p 0]? = some (o p) ∧ CS P W ih ops (o p) (tr p) (tr (p + 1)) (vl p) ∧ (tr p).h.nx ≤ (tr (p + 1)).h.nx ∧
      (guardOk ops (o p) (tr p).env = true → cls (o p).op ≠ 0 → ∀ id, reads (tr p).env (o p).op = some id →
       (∀ y ∈ sn, OkS P W ms ((i :: L).getD p 0) (o p).op (tr p).env (vl p) id y) ∧
       ∀ q, q < p → cls (o q).op = 0 → guardOk ops (o q) (tr q).env = true → OkS P W ms ((i :: L).getD p 0) (o p).op (tr p).env (vl p) id ((i :: L).getD q 0, (tr q).h)) := by
    intro st1 v0 sn' hcs hnx hgo hsub hmem hok
    obtain ⟨o, tr, vl, t0, t1, hall⟩ := drawGo_trace N L sn' st1 st' hgo
    refine ⟨fun p => match p with | 0 => o0 | p + 1 => o p, fun p => match p with | 0 => st | p + 1 => tr p, fun p => match p with | 0 => v0 | p + 1 => vl p, rfl, t1, fun p hp => ?_⟩
    cases p with
    | zero =>
     refine ⟨ho, ?_, ?_, fun hg hc id hid => ⟨hok hg hc id hid, fun q hq => by omega⟩⟩
     ·simp only [t0]; exact hcs
     ·simp only [t0]; exact hnx
    | succ p =>
     obtain ⟨h1, h2, h3, h4⟩ := hall p (by simpa using hp)
     refine ⟨h1, h2, h3, fun hg hc id hid => ?_⟩
     obtain ⟨g1, g2⟩ := h4 hg hc id hid
     refine ⟨fun y hy => g1 y (hsub y hy), fun q hq => ?_⟩
     cases q with
     | zero => intro hc0 hg0; exact g1 _ (hmem hc0 hg0)
     | succ q => exact g2 q (by omega)
   split at h
   ·rename_i hg
    split at h
    ·rename_i hc
     split at h
     ·rename_i v h1 hrun
      have hcs : CS P W ih ops o0 st (putTmp o0.dst v { st with h := h1 }) v := CS.of (.inr (.inl ⟨hg, hc, hrun⟩))
      exact glue _ v _ hcs (by rw [putTmp_h]; exact runOp_nx N hrun) h (fun y hy => List.mem_cons_of_mem _ hy) (fun _ _ => List.mem_cons_self ..) (fun _ hc' => absurd hc hc')
     ·cases h
    ·rename_i hc
     split at h
     ·rename_i v h1 hop
      split at h
      ·rename_i hsame
       have hrd : ∀ id, reads st.env o0.op = some id → cls o0.op = 2 ∧ sameGo P W o0.op st.env v ms i id sn = true := fun id hid => by
        unfold sameAt at hsame
        rw [hid] at hsame
        simpa using hsame
       have hcs : CS P W ih ops o0 st (putTmp o0.dst v { st with h := h1 }) v := CS.of (.inr (.inr ⟨hg, hc, hop, fun id hid => (hrd id hid).1⟩))
       exact glue _ v _ hcs (by rw [putTmp_h]; exact opStep_nx hop) h (fun y hy => hy) (fun hc' => absurd hc' hc) (fun _ _ id hid => sameGo_spec (hrd id hid).2)
      ·cases h
     ·cases h
   ·rename_i hg
    have hgf : guardOk ops o0 st.env = false := by simpa using hg
    have hcs : CS P W ih ops o0 st (putTmp o0.dst .undef { st with h := st.h }) .undef := CS.of (.inl ⟨hgf, rfl, rfl⟩)
    exact glue _ .undef _ hcs (by rw [putTmp_h]; exact Nat.le_refl _) h (fun y hy => hy) (fun _ hg' => by rw [hgf] at hg'; cases hg') (fun hg' => by rw [hgf] at hg'; cases hg')
end
end Go.Proofs.YtkhjmgchlbnkjaaDoor.Dg
