import Derived.Test.YtkhjmgchlbnkjaaDoorDgS19
import Derived.ProofKit
set_option linter.unusedVariables false
set_option linter.unusedSimpArgs false
namespace Go.Proofs.YtkhjmgchlbnkjaaDoor.Dg
open Go Go.RowKit Go.WideShapes Go.ChangeShapes
section
variable {H : Type} {enc : TypeId × Value → H} {P : Program} {W : World}
def tiles (P : Program) : List Field → Nat → Nat → Bool
 | [], o, n => decide (o = n)
 | f :: fs, o, n => decide (f.offset = o) && tiles P fs (o + P.cellsOf f.type) n
def closedT (P : Program) (ts : List TypeId) : Bool :=
 ts.all fun t => match P.underlying t with
  | some .bool | some (.int _) | some .string => true
  | some (.slice e) => ts.contains e && decide (0 < P.cellsOf e)
  | some (.pointer e) => ts.contains e && decide (0 < P.cellsOf e)
  | some (.struct fs) => (fs.toList.all fun f => ts.contains f.type) && tiles P fs.toList 0 (P.cellsOf t)
  | _ => false
def Wf (P : Program) (W : World) : Nat → TypeId → List V → Prop
 | 0, _, _ => False
 | fuel + 1, t, l => match P.underlying t with
  | some .bool => ∃ b, l = [.bool b]
  | some (.int k) => ∃ z, l = [.int k z] ∧ (Lit.int k z).wf = true
  | some .string => ∃ s : List UInt8, l = [.str s] ∧ s.length ≤ 140737488351232
  | some (.pointer e) => l = [.ptr none] ∨ ∃ b o c, l = [.ptr (some (.old b o))] ∧ oldCells W b o (P.cellsOf e) = some c ∧ Wf P W fuel e c
  | some (.slice e) => l = [.slice none 0 0 true] ∨ ∃ b o len cap, l = [.slice (some (.old b o)) len cap true] ∧ len ≤ cap ∧ cap ≤ maxLen ∧ cap * P.bytesOf e ≤ 140737488351232 ∧
    ∀ i, i < cap → ∃ c, oldCells W b (o + i * P.cellsOf e) (P.cellsOf e) = some c ∧ Wf P W fuel e c
  | some (.struct fs) => l.length = P.cellsOf t ∧ ∀ f ∈ fs.toList, Wf P W fuel f.type ((l.drop f.offset).take (P.cellsOf f.type))
  | _ => False
theorem liftL_length : ∀ {vs : List Value} {l : List V}, liftL vs = some l → l.length = vs.length
 | [], l, h => by simp only [liftL] at h; injection h with h; subst h; rfl
 | v :: vs, l, h => by
  simp only [liftL] at h
  split at h
  ·split at h
   ·rename_i xs hxs
    injection h with h; subst h
    simp [liftL_length hxs]
   ·cases h
  ·cases h
theorem liftL_take : ∀ (n : Nat) {vs : List Value} {l : List V}, liftL vs = some l → liftL (vs.take n) = some (l.take n)
 | 0, vs, l, h => by simp [liftL]
 | n + 1, [], l, h => by simp only [liftL] at h; injection h with h; subst h; simp [liftL]
 | n + 1, v :: vs, l, h => by
  simp only [liftL] at h
  split at h
  ·rename_i x hx
   split at h
   ·rename_i xs hxs
    injection h with h; subst h
    simp [liftL, hx, liftL_take n hxs]
   ·cases h
  ·cases h
theorem liftL_drop : ∀ (n : Nat) {vs : List Value} {l : List V}, liftL vs = some l → liftL (vs.drop n) = some (l.drop n)
 | 0, vs, l, h => h
 | n + 1, [], l, h => by simp only [liftL] at h; injection h with h; subst h; simp [liftL]
 | n + 1, v :: vs, l, h => by
  simp only [liftL] at h
  split at h
  ·split at h
   ·rename_i xs hxs
    injection h with h; subst h
    simpa using liftL_drop n hxs
   ·cases h
  ·cases h
theorem liftL_of_all : ∀ {vs : List Value}, (∀ v ∈ vs, (lift1 v).isSome = true) → ∃ l, liftL vs = some l
 | [], _ => ⟨[], rfl⟩
 | v :: vs, h => by
  obtain ⟨x, hx⟩ := Option.isSome_iff_exists.1 (h v (by simp))
  obtain ⟨l, hl⟩ := liftL_of_all (vs := vs) fun u hu => h u (List.mem_cons_of_mem _ hu)
  exact ⟨x :: l, by simp [liftL, hx, hl]⟩
theorem all_of_liftL : ∀ {vs : List Value} {l : List V}, liftL vs = some l → ∀ v ∈ vs, (lift1 v).isSome = true
 | [], _, _, v, hv => by cases hv
 | u :: vs, l, h, v, hv => by
  simp only [liftL] at h
  split at h
  ·rename_i x hx
   split at h
   ·rename_i xs hxs
    rcases List.mem_cons.1 hv with rfl | hv
    ·simp [hx]
    ·exact all_of_liftL hxs v hv
   ·cases h
  ·cases h
theorem cells_old {a : Addr} {n : Nat} {cs : List Value} {l : List V} (h : W.cells? 0 a n = some cs) (hl : liftL cs = some l) (hn : 0 < n) : a.spot = none ∧ oldCells W a.block a.off n = some l := by
 obtain ⟨b, o, s⟩ := a
 unfold World.cells? at h
 rw [if_pos (Nat.zero_le _)] at h
 have hspot : s = none := by
  obtain ⟨m, rfl⟩ : ∃ m, n = m + 1 := ⟨n - 1, by omega⟩
  rw [List.range_succ_eq_map, List.mapM_cons] at h
  rw [show (⟨b, o, s⟩ : Addr).add 0 = ⟨b, o, s⟩ by simp [Addr.add]] at h
  simp only [Option.bind_eq_bind] at h
  cases hc : W.cell? ⟨b, o, s⟩ with
  | none => rw [hc] at h; cases h
  | some v =>
   unfold World.cell? at hc
   simp only at hc
   split at hc
   ·split at hc
    ·cases hc
    ·rename_i hs; simpa using hs
   ·cases hc
 subst hspot
 refine ⟨rfl, ?_⟩
 have key : ∀ (m k : Nat) (cs : List Value) (l : List V), (List.range' k m).mapM (fun i => W.cell? ((⟨b, o, none⟩ : Addr).add i)) = some cs → liftL cs = some l → oldCells W b (o + k) m = some l := by
  intro m
  induction m with
  | zero =>
   intro k cs l h hl
   simp at h; subst h
   simp only [liftL] at hl; injection hl with hl; subst hl; rfl
  | succ m ih =>
   intro k cs l h hl
   rw [List.range'_succ, List.mapM_cons] at h
   simp only [Option.bind_eq_bind] at h
   cases hc : W.cell? ((⟨b, o, none⟩ : Addr).add k) with
   | none => rw [hc] at h; cases h
   | some v =>
    rw [hc] at h
    simp only [Option.bind_some] at h
    cases hr : (List.range' (k + 1) m).mapM (fun i => W.cell? ((⟨b, o, none⟩ : Addr).add i)) with
    | none => rw [hr] at h; cases h
    | some rs =>
     rw [hr] at h
     simp only [Option.bind_some] at h
     injection h with h; subst h
     simp only [liftL] at hl
     split at hl
     ·rename_i x hx
      split at hl
      ·rename_i xs hxs
       injection hl with hl; subst hl
       have := ih (k + 1) rs xs hr hxs
       simp only [oldCells]
       rw [show (⟨b, o + k, none⟩ : Addr) = (⟨b, o, none⟩ : Addr).add k from (addr_add b o k).symm, hc]
       simp only [hx]
       rw [show o + k + 1 = o + (k + 1) by omega, this]
      ·cases hl
     ·cases hl
 have := key n 0 cs l (by rw [← List.range_eq_range']; exact h) hl
 simpa using this
theorem add_block (a : Addr) (k : Nat) : (a.add k).block = a.block := by unfold Addr.add; split <;> rfl
theorem add_off (a : Addr) (k : Nat) : (a.add k).off = a.off + k := by
 unfold Addr.add
 split
 ·rename_i h; rw [h]; rfl
 ·rfl
theorem tiles_lift {fs : List Field} : ∀ {o n : Nat}, tiles P fs o n = true → ∀ {cs : List Value}, cs.length = n → (∀ f ∈ fs, ∀ v ∈ (cs.drop f.offset).take (P.cellsOf f.type), (lift1 v).isSome = true) → ∀ v ∈ cs.drop o, (lift1 v).isSome = true := by
 induction fs with
 | nil =>
  intro o n ht cs hl _ v hv
  simp only [tiles, decide_eq_true_eq] at ht
  rw [List.drop_eq_nil_of_le (by omega)] at hv
  cases hv
 | cons f fs ih =>
  intro o n ht cs hl hp v hv
  simp only [tiles, Bool.and_eq_true, decide_eq_true_eq] at ht
  obtain ⟨h1, h2⟩ := ht
  rw [← List.take_append_drop (P.cellsOf f.type) (cs.drop o), List.mem_append] at hv
  rcases hv with hv | hv
  ·exact hp f (by simp) v (by rw [h1]; exact hv)
  ·rw [List.drop_drop] at hv
   exact ih h2 hl (fun g hg => hp g (List.mem_cons_of_mem _ hg)) v hv
theorem weightsAll_mem {e : TypeId} : ∀ {l : List (DataW H)} {d : DataW H}, d ∈ l → ∀ n ∈ d.weights P e, n ∈ DataW.weightsAll P e l
 | [], _, h, _, _ => by cases h
 | x :: l, d, h, n, hn => by
  simp only [DataW.weightsAll, List.mem_append]
  rcases List.mem_cons.1 h with rfl | h
  ·exact .inl hn
  ·exact .inr (weightsAll_mem h n hn)
theorem weightsEach_get : ∀ {ts : List TypeId} {l : List (DataW H)} {i : Nat} {t : TypeId} {d : DataW H}, ts[i]? = some t → l[i]? = some d → ∀ n ∈ d.weights P t, n ∈ DataW.weightsEach P ts l
 | [], _, _, _, _, h, _, _, _ => by simp at h
 | _ :: _, [], _, _, _, _, h, _, _ => by simp at h
 | t' :: ts, x :: l, 0, t, d, h1, h2, n, hn => by
  simp at h1 h2
  subst h1; subst h2
  simp only [DataW.weightsEach, List.mem_append]
  exact .inl hn
 | t' :: ts, x :: l, i + 1, t, d, h1, h2, n, hn => by
  simp only [DataW.weightsEach, List.mem_append]
  exact .inr (weightsEach_get (by simpa using h1) (by simpa using h2) n hn)
theorem weightsEach_app : ∀ {ts us : List TypeId} {l m : List (DataW H)}, ts.length = l.length → ∀ n ∈ DataW.weightsEach P ts l, n ∈ DataW.weightsEach P (ts ++ us) (l ++ m)
 | [], _, _, _, _, n, h => by simp [DataW.weightsEach] at h
 | _ :: _, _, [], _, _, n, h => by simp [DataW.weightsEach] at h
 | t :: ts, us, d :: l, m, hl, n, h => by
  simp only [DataW.weightsEach, List.mem_append, List.cons_append] at h ⊢
  exact h.imp id (weightsEach_app (by simpa using hl) n)
theorem trod_lift {ts : List TypeId} (hts : closedT P ts = true) : ∀ (fuel : Nat) (t : TypeId) (cs : List Value) (x : DataW H × List MemPlace), t ∈ ts → DataW.trod enc P W 0 (fun _ => true) true fuel t cs = some x → (∀ n ∈ x.1.weights P t, n ≤ 140737488351232) →
  ∃ l, liftL cs = some l ∧ Wf P W fuel t l := by
 intro fuel
 induction fuel with
 | zero => intro t cs x _ h; simp [DataW.trod] at h
 | succ fuel ih =>
  intro t cs x ht h hwt
  have hk := List.all_eq_true.1 hts t ht
  have piece : ∀ (a : Addr) (e : TypeId) (c : List Value) (y : DataW H × List MemPlace), e ∈ ts → 0 < P.cellsOf e → W.cells? 0 a (P.cellsOf e) = some c → DataW.trod enc P W 0 (fun _ => true) true fuel e c = some y → (∀ n ∈ y.1.weights P e, n ≤ 140737488351232) →
    a.spot = none ∧ ∃ l, oldCells W a.block a.off (P.cellsOf e) = some l ∧ Wf P W fuel e l := fun a e c y he hn hc hy hw => by
   obtain ⟨l, h1, h2⟩ := ih e c y he hy hw
   obtain ⟨h3, h4⟩ := cells_old hc h1 hn
   exact ⟨h3, l, h4, h2⟩
  cases hu : P.underlying t with
  | none => rw [hu] at hk; cases hk
  | some d =>
   rw [hu] at hk
   cases d with
   | bool =>
    obtain ⟨b, rfl, _⟩ := DataW.trod_bool hu h
    exact ⟨[.bool b], rfl, by simp only [Wf, hu]; exact ⟨b, rfl⟩⟩
   | int k =>
    obtain ⟨n, rfl, _, hw⟩ := DataW.trod_int hu h
    exact ⟨[.int k n], rfl, by simp only [Wf, hu]; exact ⟨n, rfl, hw⟩⟩
   | string =>
    obtain ⟨s, rfl, rfl, hw⟩ := DataW.trod_string hu h
    exact ⟨[.str s.data.toList], rfl, by simp only [Wf, hu]; exact ⟨_, rfl, hwt _ (by simp [DataW.weights])⟩⟩
   | pointer e =>
    simp only [Bool.and_eq_true, decide_eq_true_eq, List.contains_iff_mem] at hk
    rcases DataW.trod_pointer hu h with ⟨rfl, _⟩ | ⟨a, cs', y, n, hn, rfl, rfl, hc, hy⟩
    ·exact ⟨[.ptr none], rfl, by simp only [Wf, hu]; exact .inl trivial⟩
    ·injection hn with hn; subst hn
     obtain ⟨hs, l, h1, h2⟩ := piece a e cs' y hk.1 hk.2 hc hy (fun m hm => hwt m (by simp only [DataW.weights, hu]; exact hm))
     obtain ⟨b, o, s⟩ := a
     simp only at hs; subst hs
     exact ⟨[.ptr (some (.old b o))], rfl, by simp only [Wf, hu]; exact .inr ⟨b, o, l, rfl, h1, h2⟩⟩
   | slice e =>
    simp only [Bool.and_eq_true, decide_eq_true_eq, List.contains_iff_mem] at hk
    rcases DataW.trod_slice hu h with ⟨rfl, _⟩ | ⟨a, len, cap, elems, rest, n, hn, rfl, rfl, _, hlc, hcap, hel, hall, hsp, _⟩
    ·exact ⟨[.slice none 0 0 true], rfl, by simp only [Wf, hu]; exact .inl trivial⟩
    ·injection hn with hn; subst hn
     obtain ⟨hrl, hrest⟩ := hsp rfl
     have hreach : cap * P.bytesOf e ≤ 140737488351232 := by
      have := hwt ((elems.length + rest.length) * P.bytesOf e) (by simp [DataW.weights, hu])
      rwa [hel, hrl, show len + (cap - len) = cap by omega] at this
     have each : ∀ i, i < cap → (a.add (i * P.cellsOf e)).spot = none ∧ ∃ c, oldCells W a.block (a.off + i * P.cellsOf e) (P.cellsOf e) = some c ∧ Wf P W fuel e c := fun i hi => by
      have : ∃ y, (W.cells? 0 (a.add (i * P.cellsOf e)) (P.cellsOf e)).bind (DataW.trod enc P W 0 (fun _ => true) true fuel e) = some y ∧ (y ∈ elems ∨ y ∈ rest) := by
       rcases Nat.lt_or_ge i len with h' | h'
       ·rw [hall i h']
        exact ⟨elems[i]'(by omega), by simp [hel, h'], .inl (List.getElem_mem _)⟩
       ·have := hrest (i - len) (by omega)
        rw [show len + (i - len) = i by omega] at this
        rw [this]
        exact ⟨rest[i - len]'(by omega), by rw [List.getElem?_eq_getElem (by omega)], .inr (List.getElem_mem _)⟩
      obtain ⟨y, hy, hmem⟩ := this
      rw [Option.bind_eq_some_iff] at hy
      obtain ⟨c, hc, hy⟩ := hy
      have := piece _ e c y hk.1 hk.2 hc hy (fun m hm => hwt m (by
       simp only [DataW.weights, hu, List.mem_cons, List.mem_append]
       rcases hmem with h | h
       ·exact .inr (.inl (weightsAll_mem (List.mem_map_of_mem h) m hm))
       ·exact .inr (.inr (weightsAll_mem (List.mem_map_of_mem h) m hm))))
      rw [add_block, add_off] at this
      exact this
     obtain ⟨b, o, s⟩ := a
     have hspot : s.isNone = true ∨ cap = 0 := by
      rcases Nat.eq_zero_or_pos cap with h' | h'
      ·exact .inr h'
      ·have := (each 0 h').1
       rw [Nat.zero_mul] at this
       left
       simp only [Addr.add, if_true] at this
       rw [this]; rfl
     refine ⟨[.slice (some (.old b o)) len cap true], ?_, ?_⟩
     ·simp only [liftL, lift1, if_pos (And.intro hlc hspot)]
     ·simp only [Wf, hu]
      exact .inr ⟨b, o, len, cap, rfl, hlc, hcap, hreach, fun i hi => (each i hi).2⟩
   | struct fs =>
    simp only [Bool.and_eq_true] at hk
    obtain ⟨xs, n, hn, rfl, hlen, hxl, hf⟩ := DataW.trod_struct hu h
    injection hn with hn; subst hn
    have each : ∀ f ∈ fs.toList, ∃ l, liftL ((cs.drop f.offset).take (P.cellsOf f.type)) = some l ∧ Wf P W fuel f.type l := fun f hmem => by
     obtain ⟨i, hi, rfl⟩ := List.getElem_of_mem hmem
     have hi' : i < fs.size := by simpa using hi
     have := hf i fs[i] (by simp [hi'])
     have hxi : xs[i]? = some (xs[i]'(by omega)) := List.getElem?_eq_getElem (by omega)
     rw [hxi] at this
     refine ih _ _ _ ?_ (by simpa using this) (fun m hm => hwt m ?_)
     ·have := List.all_eq_true.1 hk.1 _ hmem
      simpa using this
     ·simp only [DataW.weights, hu]
      refine weightsEach_get (i := i) (t := fs[i].type) (d := (xs[i]'(by omega)).1) ?_ ?_ m (by simpa using hm)
      ·rw [List.getElem?_map]; simp [hi']
      ·rw [List.getElem?_map, hxi]; rfl
    have hall : ∀ v ∈ cs, (lift1 v).isSome = true := by
     have := tiles_lift hk.2 hlen fun f hmem => by
      obtain ⟨l, h1, _⟩ := each f hmem
      exact all_of_liftL h1
     simpa using this
    obtain ⟨l, hl⟩ := liftL_of_all hall
    refine ⟨l, hl, ?_⟩
    simp only [Wf, hu]
    refine ⟨by rw [liftL_length hl]; exact hlen, fun f hmem => ?_⟩
    obtain ⟨l', h1, h2⟩ := each f hmem
    have h3 := liftL_take (P.cellsOf f.type) (liftL_drop f.offset hl)
    rw [h1] at h3; injection h3 with h3
    rw [← h3]; exact h2
   | _ => cases hk
end
end Go.Proofs.YtkhjmgchlbnkjaaDoor.Dg
