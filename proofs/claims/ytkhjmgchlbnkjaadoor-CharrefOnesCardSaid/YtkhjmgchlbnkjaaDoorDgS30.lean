import Derived.Test.YtkhjmgchlbnkjaaDoorDgS29
set_option linter.unusedVariables false
set_option linter.unusedSimpArgs false
namespace Go.Proofs.YtkhjmgchlbnkjaaDoor.Dg
open Go Go.RowKit
structure SlV (α : Type) where
 a : Option Ad
 l : List α
 cap : Nat
abbrev SlV.v {α : Type} (s : SlV α) : V := .slice s.a s.l.length s.cap true
instance {α : Type} : Inhabited (SlV α) := ⟨⟨none, [], 0⟩⟩
def Arr {α : Type} (W : World) (z : Nat) (f : α → List V) (a : Option Ad) (l : List α) : Prop :=
 (a = none ∧ l = []) ∨ ∃ b o, a = some (.old b o) ∧ ∀ i (h : i < l.length), oldCells W b (o + i * z) z = some (f l[i])
def adr (a : Option Ad) : Ad := a.getD (.old 0 0)
def gt {α : Type} [Inhabited α] (l : List α) (i : Int) : α := l.getD i.toNat default
theorem gt_get {α : Type} [Inhabited α] {l : List α} {i : Int} (h0 : 0 ≤ i) (h : i < (l.length : Int)) : ∃ hl : i.toNat < l.length, gt l i = l[i.toNat] := by
 have hl : i.toNat < l.length := by omega
 exact ⟨hl, by simp [gt, List.getD_eq_getElem?_getD, List.getElem?_eq_getElem hl]⟩
theorem gt_mem {α : Type} [Inhabited α] {l : List α} {i : Int} (h0 : 0 ≤ i) (h : i < (l.length : Int)) : gt l i ∈ l := by
 obtain ⟨hl, e⟩ := gt_get h0 h
 rw [e]; exact List.getElem_mem hl
theorem gt_take {α : Type} [Inhabited α] {l : List α} {i : Int} (h0 : 0 ≤ i) (h : i < (l.length : Int)) : l.take (i.toNat + 1) = l.take i.toNat ++ [gt l i] := by
 obtain ⟨hl, e⟩ := gt_get h0 h
 rw [e]; exact (List.take_append_getElem hl).symm
theorem gt_drop {α : Type} [Inhabited α] {l : List α} {i : Int} (h0 : 0 ≤ i) (h : i < (l.length : Int)) : l.drop i.toNat = gt l i :: l.drop (i.toNat + 1) := by
 obtain ⟨hl, e⟩ := gt_get h0 h
 rw [e]; exact List.drop_eq_getElem_cons hl
theorem Arr.some {α : Type} {W : World} {z : Nat} {f : α → List V} {a : Option Ad} {l : List α} (h : Arr W z f a l) (hne : 0 < l.length) : a = some (adr a) ∧ (adr a).isOld = true := by
 rcases h with ⟨_, e⟩ | ⟨b, o, e, _⟩
 ·rw [e] at hne; simp at hne
 ·rw [e]; exact ⟨rfl, rfl⟩
theorem Arr.old {α : Type} {W : World} {z : Nat} {f : α → List V} {a : Option Ad} {l : List α} (h : Arr W z f a l) {n c : Nat} {e : Bool} : V.isOld (.slice a n c e) = true := by
 rcases h with ⟨h, _⟩ | ⟨b, o, h, _⟩ <;> subst h <;> rfl
theorem oldCells_get {W : World} {b : Nat} : ∀ (n o : Nat) (l : List V), oldCells W b o n = some l → ∀ k, k < n → ∃ v, l[k]? = some v ∧ oldCells W b (o + k) 1 = some [v] ∧ l.length = n
 | 0, o, l, h, k, hk => by omega
 | n + 1, o, l, h, k, hk => by
  simp only [oldCells] at h
  split at h
  ·rename_i x hx
   split at h
   ·rename_i y hy
    split at h
    ·rename_i xs hxs
     injection h with h; subst h
     cases k with
     | zero =>
      refine ⟨y, rfl, ?_, ?_⟩
      ·simp only [oldCells, Nat.add_zero, hx, hy]
      ·cases n with
       | zero => simp only [oldCells] at hxs; injection hxs with hxs; subst hxs; rfl
       | succ n =>
        obtain ⟨_, _, _, e⟩ := oldCells_get (n + 1) (o + 1) xs hxs 0 (by omega)
        simp [e]
     | succ k =>
      obtain ⟨v, h1, h2, h3⟩ := oldCells_get n (o + 1) xs hxs k (by omega)
      refine ⟨v, by simpa using h1, ?_, by simp [h3]⟩
      rw [← h2]; congr 1; omega
    ·cases h
   ·cases h
  ·cases h
theorem oldCells_part {W : World} {b : Nat} : ∀ (m n o k : Nat) (l : List V), oldCells W b o n = some l → k + m ≤ n → oldCells W b (o + k) m = some ((l.drop k).take m)
 | 0, n, o, k, l, h, hk => by simp [oldCells]
 | m + 1, n, o, k, l, h, hk => by
  obtain ⟨v, h1, h2, h3⟩ := oldCells_get n o l h k (by omega)
  have h4 := oldCells_part m n o (k + 1) l h (by omega)
  have hl : k < l.length := by omega
  have hv : l[k] = v := by rw [List.getElem?_eq_getElem hl] at h1; injection h1
  rw [List.drop_eq_getElem_cons hl, List.take_succ_cons, hv]
  simp only [oldCells] at h2 ⊢
  split at h2
  ·rename_i x hx
   split at h2
   ·rename_i y hy
    injection h2 with h2
    injection h2 with h2 _; subst h2
    have e : o + k + 1 = o + (k + 1) := by omega
    simp only [e, h4]
   ·cases h2
  ·cases h2
section
variable {P : Program} {W : World}
theorem arr_ld {α : Type} [Inhabited α] {z : Nat} {f : α → List V} {a : Option Ad} {l : List α} (h : Arr W z f a l) {i : Int} (hi : 0 ≤ i ∧ i < (l.length : Int)) {t : TypeId} {off : Nat} {x : V} (ht : isAgg P t = some false) (ho : off + 1 ≤ z) (hx : (f (gt l i))[off]? = some x) {ad : Ad} (e : ad = ((adr a).add (i.toNat * z)).add off) :
  ldVar P W H.empty t ad = some x := by
 subst e
 rcases h with ⟨_, e⟩ | ⟨b, o, e, hc⟩
 ·rw [e] at hi; simp at hi; omega
 ·obtain ⟨hl, e2⟩ := gt_get hi.1 hi.2
  have := oldCells_part 1 z (o + i.toNat * z) off _ (hc _ hl) ho
  rw [← e2] at this
  have e3 : ((f (gt l i)).drop off).take 1 = [x] := by
   have hlen : off < (f (gt l i)).length := (List.getElem?_eq_some_iff.1 hx).1
   rw [List.drop_eq_getElem_cons hlen]
   rw [List.getElem?_eq_getElem hlen] at hx
   injection hx with hx
   simp [hx]
  rw [e3] at this
  subst e
  simp only [ldVar, ht, ldCells, adr, Option.getD_some, Ad.add, this]
  rfl
theorem arr_ldA {α : Type} [Inhabited α] {z : Nat} {f : α → List V} {a : Option Ad} {l : List α} (h : Arr W z f a l) {i : Int} (hi : 0 ≤ i ∧ i < (l.length : Int)) {t : TypeId} {off n : Nat} {x : List V} (ht : isAgg P t = some true) (hn : sizeOf P t = some n) (h0 : n ≠ 0) (ho : off + n ≤ z) (hx : ((f (gt l i)).drop off).take n = x) {ad : Ad} (e : ad = ((adr a).add (i.toNat * z)).add off) :
  ldVar P W H.empty t ad = some (.agg x) := by
 subst e
 rcases h with ⟨_, e⟩ | ⟨b, o, e, hc⟩
 ·rw [e] at hi; simp at hi; omega
 ·obtain ⟨hl, e2⟩ := gt_get hi.1 hi.2
  have := oldCells_part n z (o + i.toNat * z) off _ (hc _ hl) ho
  rw [← e2, hx] at this
  subst e
  simp only [ldVar, ht, hn, ldCells, if_neg h0, adr, Option.getD_some, Ad.add, this]
theorem Ad.add_zero (a : Ad) : a.add 0 = a := by cases a <;> rfl
theorem indexAddr_arr {α : Type} {f : α → List V} {a : Option Ad} {l : List α} {z : Nat} (hA : Arr W z f a l) {t e : TypeId} {x i : Operand} {env : List V} {h : H} {cap : Nat} {k : IntKind} {n : Int} (ht : P.underlying t = some (.slice e)) (hz : sizeOf P e = some z) (hx : ev env x = some (.slice a l.length cap true)) (hi : ev env i = some (.int k n)) (hn : 0 ≤ n ∧ n < (l.length : Int)) :
  opStep P W (.indexAddr t x i) env h = .val (.ptr (some ((adr a).add (n.toNat * z)))) h := by
 have := (hA.some (by omega)).1
 rw [this] at hx
 exact indexAddr_sl ht hz hx hi hn
theorem Ad.add_add (a : Ad) (m n : Nat) : (a.add m).add n = a.add (m + n) := by cases a <;> simp [Ad.add, Nat.add_assoc]
theorem Ad.old_add (a : Ad) (n : Nat) : (a.add n).isOld = a.isOld := by cases a <;> rfl
theorem load_old2 {t : TypeId} {a : Operand} {env : List V} {h : H} {ad : Ad} {v : V} (ha : ev env a = some (.ptr (some ad))) (hv : ldVar P W H.empty t ad = some v) (ho : ad.isOld = true) : opStep P W (.load t a) env h = .val v h := by
 cases ad with
 | old b o => exact load_old ha hv
 | new i o => cases ho
theorem arr_load {α : Type} [Inhabited α] {z : Nat} {f : α → List V} {a : Option Ad} {l : List α} {o : Operand} {env : List V} {hh : H} (h : Arr W z f a l) {i : Int} (hi : 0 ≤ i ∧ i < (l.length : Int)) {t : TypeId} {off : Nat} {x : V} {ad : Ad} (ha : ev env o = some (.ptr (some ad))) (ht : isAgg P t = some false) (ho : off + 1 ≤ z) (hx : (f (gt l i))[off]? = some x) (e : ad = ((adr a).add (i.toNat * z)).add off) :
  opStep P W (.load t o) env hh = .val x hh :=
 load_old2 ha (arr_ld h hi ht ho hx e) (by rw [e, Ad.old_add, Ad.old_add]; exact (h.some (by omega)).2)
theorem arr_loadA {α : Type} [Inhabited α] {z : Nat} {f : α → List V} {a : Option Ad} {l : List α} {o : Operand} {env : List V} {hh : H} (h : Arr W z f a l) {i : Int} (hi : 0 ≤ i ∧ i < (l.length : Int)) {t : TypeId} {off n : Nat} {x : List V} {ad : Ad} (ha : ev env o = some (.ptr (some ad))) (ht : isAgg P t = some true) (hn : sizeOf P t = some n) (h0 : n ≠ 0) (ho : off + n ≤ z) (hx : ((f (gt l i)).drop off).take n = x) (e : ad = ((adr a).add (i.toNat * z)).add off) :
  opStep P W (.load t o) env hh = .val (.agg x) hh :=
 load_old2 ha (arr_ldA h hi ht hn h0 ho hx e) (by rw [e, Ad.old_add, Ad.old_add]; exact (h.some (by omega)).2)
theorem sameAt_arr {α : Type} {z : Nat} {f : α → List V} {a : Option Ad} {l : List α} {o : Operand} {env : List V} (h : Arr W z f a l) {i : Int} (hi : 0 ≤ i ∧ i < (l.length : Int)) {t : TypeId} {off : Nat} {ad : Ad} (ha : ev env o = some (.ptr (some ad))) (e : ad = ((adr a).add (i.toNat * z)).add off) {v : V} {ms : List Nat} {j : Nat} {sn : List (Nat × H)} :
  sameAt P W (.load t o) env v ms j sn = true := by
 have h1 : ad.isOld = true := by rw [e, Ad.old_add, Ad.old_add]; exact (h.some (by omega)).2
 apply sameAt_none
 simp only [reads, ha]
 cases ad with
 | old b o => rfl
 | new i o => cases h1
theorem wf_intR {n : Nat} {t : TypeId} {c : V} {k : IntKind} (ht : P.underlying t = some (.int k)) (h : Wf P W n t [c]) : ∃ z, c = .int k z ∧ (Lit.int k z).wf = true := by
 cases n with
 | zero => exact h.elim
 | succ n =>
  simp only [Wf, ht] at h
  obtain ⟨z, e, hw⟩ := h
  injection e with e
  exact ⟨z, e, hw⟩
theorem wf_i64 {n : Nat} {t : TypeId} {c : V} (ht : P.underlying t = some (.int .i64)) (h : Wf P W n t [c]) : ∃ z, c = .int .i64 z ∧ -9223372036854775808 ≤ z ∧ z ≤ 9223372036854775807 := by
 obtain ⟨z, e, hw⟩ := wf_intR ht h
 refine ⟨z, e, ?_⟩
 simp [Lit.wf, IntKind.min, IntKind.max, IntKind.bits, IntKind.signed] at hw
 omega
theorem wf_boolR {n : Nat} {t : TypeId} {c : V} (ht : P.underlying t = some .bool) (h : Wf P W n t [c]) : ∃ z, c = .bool z := by
 cases n with
 | zero => exact h.elim
 | succ n =>
  simp only [Wf, ht] at h
  obtain ⟨z, e⟩ := h
  injection e with e
  exact ⟨z, e⟩
theorem wf_strR {n : Nat} {t : TypeId} {c : V} (ht : P.underlying t = some .string) (h : Wf P W n t [c]) : ∃ z, c = .str z ∧ z.length ≤ 140737488351232 := by
 cases n with
 | zero => exact h.elim
 | succ n =>
  simp only [Wf, ht] at h
  obtain ⟨z, e, hl⟩ := h
  injection e with e
  exact ⟨z, e, hl⟩
theorem mk_list {α : Type} {Q : Nat → α → Prop} : ∀ n, (∀ i, i < n → ∃ x, Q i x) → ∃ l : List α, l.length = n ∧ ∀ i (h : i < l.length), Q i l[i]
 | 0, _ => ⟨[], rfl, fun i h => by simp at h⟩
 | n + 1, h => by
  obtain ⟨l, e, hl⟩ := mk_list n fun i hi => h i (by omega)
  obtain ⟨x, hx⟩ := h n (by omega)
  refine ⟨l ++ [x], by simp [e], fun i hi => ?_⟩
  rcases Nat.lt_or_ge i l.length with h1 | h1
  ·rw [List.getElem_append_left h1]; exact hl i h1
  ·have : i = l.length := by simp at hi; omega
   subst this
   simp only [List.getElem_concat_length]
   rw [e]; exact hx
theorem wf_arr {α : Type} {f : α → List V} {G : α → Prop} {n : Nat} {t e : TypeId} {c : V} (ht : P.underlying t = some (.slice e)) (hE : ∀ m cs, Wf P W m e cs → ∃ x, cs = f x ∧ G x) (h : Wf P W n t [c]) :
  ∃ s : SlV α, c = s.v ∧ Arr W (P.cellsOf e) f s.a s.l ∧ (∀ x ∈ s.l, G x) ∧ s.l.length ≤ s.cap ∧ s.cap ≤ 9223372036854775807 ∧ s.cap * P.bytesOf e ≤ 140737488351232 := by
 cases n with
 | zero => exact h.elim
 | succ n =>
  simp only [Wf, ht] at h
  rcases h with e1 | ⟨b, o, len, cap, e1, h1, h2, h4, h3⟩
  ·injection e1 with e1
   exact ⟨⟨none, [], 0⟩, e1, .inl ⟨rfl, rfl⟩, (fun x hx => by cases hx), Nat.le_refl _, Nat.zero_le _, by simp⟩
  ·injection e1 with e1
   obtain ⟨l, hl, hq⟩ := mk_list (Q := fun i x => oldCells W b (o + i * P.cellsOf e) (P.cellsOf e) = some (f x) ∧ G x) len fun i hi => by
    obtain ⟨cs, hc, hw⟩ := h3 i (by omega)
    obtain ⟨x, rfl, hg⟩ := hE _ _ hw
    exact ⟨x, hc, hg⟩
   subst hl
   refine ⟨⟨some (.old b o), l, cap⟩, e1, .inr ⟨b, o, rfl, fun i hi => (hq i hi).1⟩, (fun x hx => ?_), h1, h2, h4⟩
   obtain ⟨i, hi, rfl⟩ := List.getElem_of_mem hx
   exact (hq i hi).2
theorem wf_opq {n : Nat} {t e : TypeId} {c : V} (ht : P.underlying t = some (.slice e)) (h : Wf P W n t [c]) : ∃ (a : Option Ad) (l cap : Nat), c = .slice a l cap true ∧ V.isOld (.slice a l cap true) = true ∧ l ≤ cap ∧ cap ≤ 9223372036854775807 ∧ (a = none → l = 0 ∧ cap = 0) := by
 cases n with
 | zero => exact h.elim
 | succ n =>
  simp only [Wf, ht] at h
  rcases h with e | ⟨b, o, len, cap, e, h1, h2, _, h3⟩
  ·injection e with e
   exact ⟨none, 0, 0, e, rfl, Nat.le_refl _, by simp, fun _ => ⟨rfl, rfl⟩⟩
  ·injection e with e
   exact ⟨some (.old b o), len, cap, e, rfl, h1, h2, fun h => by cases h⟩
structure OpV where
 a : Option Ad
 n : Nat
 cap : Nat
abbrev OpV.v (s : OpV) : V := .slice s.a s.n s.cap true
instance : Inhabited OpV := ⟨⟨none, 0, 0⟩⟩
structure OpV.ok (s : OpV) : Prop where
 old : V.isOld (.slice s.a s.n s.cap true) = true
 le : s.n ≤ s.cap
 cap : s.cap ≤ 9223372036854775807
 nil : s.a = none → s.n = 0 ∧ s.cap = 0
structure SlV.ok {α : Type} (W : World) (z B : Nat) (f : α → List V) (G : α → Prop) (s : SlV α) : Prop where
 arr : Arr W z f s.a s.l
 all : ∀ x ∈ s.l, G x
 le : s.l.length ≤ s.cap
 cap : s.cap ≤ 9223372036854775807
 reach : s.cap * B ≤ 140737488351232
theorem wf_sl {α : Type} {f : α → List V} {G : α → Prop} {n z B : Nat} {t e : TypeId} {c : V} (ht : P.underlying t = some (.slice e)) (hz : P.cellsOf e = z) (hB : P.bytesOf e = B) (hE : ∀ m cs, Wf P W m e cs → ∃ x, cs = f x ∧ G x) (h : Wf P W n t [c]) : ∃ s : SlV α, c = s.v ∧ s.ok W z B f G := by
 subst hz; subst hB
 obtain ⟨s, e, h1, h2, h3, h4, h5⟩ := wf_arr ht hE h
 exact ⟨s, e, h1, h2, h3, h4, h5⟩
theorem wf_opV {n : Nat} {t e : TypeId} {c : V} (ht : P.underlying t = some (.slice e)) (h : Wf P W n t [c]) : ∃ s : OpV, c = s.v ∧ s.ok := by
 obtain ⟨a, l, cap, e, h1, h2, h3, h4⟩ := wf_opq ht h
 exact ⟨⟨a, l, cap⟩, e, h1, h2, h3, h4⟩
theorem wf_boolT {n : Nat} {t : TypeId} {c : V} (ht : P.underlying t = some .bool) (h : Wf P W n t [c]) : ∃ z, c = .bool z ∧ True := by
 obtain ⟨z, e⟩ := wf_boolR ht h
 exact ⟨z, e, trivial⟩
theorem wf_intT {n : Nat} {t : TypeId} {c : V} {k : IntKind} (ht : P.underlying t = some (.int k)) (h : Wf P W n t [c]) : ∃ z, c = .int k z ∧ True := by
 obtain ⟨z, e, _⟩ := wf_intR ht h
 exact ⟨z, e, trivial⟩
theorem wf_one {m : Nat} {e : TypeId} {cs : List V} (hk : (match P.underlying e with | some (.struct _) => false | _ => true) = true) (h : Wf P W m e cs) : ∃ c, cs = [c] := by
 cases m with
 | zero => exact h.elim
 | succ m =>
  simp only [Wf] at h
  split at h
  ·obtain ⟨b, e⟩ := h; exact ⟨_, e⟩
  ·obtain ⟨b, e, _⟩ := h; exact ⟨_, e⟩
  ·obtain ⟨b, e, _⟩ := h; exact ⟨_, e⟩
  ·rcases h with e | ⟨b, o, c, e, _⟩ <;> exact ⟨_, e⟩
  ·rcases h with e | ⟨b, o, l, c, e, _⟩ <;> exact ⟨_, e⟩
  ·rename_i hu; rw [hu] at hk; cases hk
  ·exact h.elim
theorem wf_cell {α : Type} {g : α → V} {G : α → Prop} {m : Nat} {e : TypeId} {cs : List V} (hk : (match P.underlying e with | some (.struct _) => false | _ => true) = true) (hE : ∀ m c, Wf P W m e [c] → ∃ x, c = g x ∧ G x) (h : Wf P W m e cs) : ∃ x, cs = [g x] ∧ G x := by
 obtain ⟨c, rfl⟩ := wf_one hk h
 obtain ⟨x, rfl, k⟩ := hE m c h
 exact ⟨x, rfl, k⟩
structure LdA {α : Type} [Inhabited α] (P : Program) (W : World) (f : α → List V) (t : TypeId) (z : Nat) (a : Option Ad) (l : List α) (h : H) : Prop where
 nn : 0 < l.length → a = Option.some (adr a)
 ld : ∀ i : Int, 0 ≤ i → i < (l.length : Int) → ldVar P W h t ((adr a).add (i.toNat * z)) = some (.agg (f (gt l i)))
theorem arr_all {α : Type} [Inhabited α] {z : Nat} {f : α → List V} {a : Option Ad} {l : List α} (hA : Arr W z f a l) {t : TypeId} (ht : isAgg P t = some true) (hn : sizeOf P t = some z) (h0 : z ≠ 0) (hf : ∀ x, (f x).length = z) (h : H) : LdA P W f t z a l h := by
 refine ⟨fun hl => (hA.some hl).1, fun i h1 h2 => ?_⟩
 have e := arr_ldA (P := P) hA ⟨h1, h2⟩ (t := t) (off := 0) (n := z) ht hn h0 (by omega) rfl rfl
 rw [Ad.add_zero] at e
 have hi : ((adr a).add (i.toNat * z)).isOld = true := by rw [Ad.old_add]; exact (hA.some (by omega)).2
 have : ldVar P W h t ((adr a).add (i.toNat * z)) = ldVar P W H.empty t ((adr a).add (i.toNat * z)) := by
  generalize (adr a).add (i.toNat * z) = ad at hi ⊢
  cases ad with
  | old b o => unfold ldVar ldCells; rfl
  | new i o => cases hi
 rw [this, e, List.drop_zero, List.take_of_length_le (by rw [hf]; exact Nat.le_refl _)]
theorem indexAddr_ld {α : Type} [Inhabited α] {f : α → List V} {a : Option Ad} {l : List α} {z : Nat} {t' : TypeId} {hh : H} (hA : LdA P W f t' z a l hh) {t e : TypeId} {x i : Operand} {env : List V} {h : H} {cap : Nat} {ex : Bool} {k : IntKind} {n : Int} (ht : P.underlying t = some (.slice e)) (hz : sizeOf P e = some z) (hx : ev env x = some (.slice a l.length cap ex)) (hi : ev env i = some (.int k n)) (hn : 0 ≤ n ∧ n < (l.length : Int)) :
  opStep P W (.indexAddr t x i) env h = .val (.ptr (some ((adr a).add (n.toNat * z)))) h := by
 have := hA.nn (by omega)
 rw [this] at hx
 exact indexAddr_sl ht hz hx hi hn
theorem load_ld {α : Type} [Inhabited α] {f : α → List V} {a : Option Ad} {l : List α} {z : Nat} {t : TypeId} {h : H} (hA : LdA P W f t z a l h) {o : Operand} {env : List V} {n : Int} (ha : ev env o = some (.ptr (some ((adr a).add (n.toNat * z))))) (hn : 0 ≤ n ∧ n < (l.length : Int)) : opStep P W (.load t o) env h = .val (.agg (f (gt l n))) h := by
 simp only [opStep, ha, hA.ld n hn.1 hn.2]; rfl
end
end Go.Proofs.YtkhjmgchlbnkjaaDoor.Dg
