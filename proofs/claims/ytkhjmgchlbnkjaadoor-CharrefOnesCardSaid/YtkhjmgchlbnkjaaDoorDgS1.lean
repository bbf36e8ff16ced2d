import Derived.Test.YtkhjmgchlbnkjaaDoorDgE
import Derived.Below
import Derived.Laws.Sem
import Derived.Laws.Entries
set_option linter.unusedVariables false
set_option linter.unusedSimpArgs false
namespace Go.Proofs.YtkhjmgchlbnkjaaDoor.Dg
open Go Go.RowKit
theorem Tr.get_leaf (p : List Bool) : Tr.get .leaf p = none := by cases p <;> rfl
theorem Tr.get_set_same (p : List Bool) : ∀ (t : Tr) (v : Option AO), (t.set p v).get p = v := by
  induction p with
  | nil => intro t v; cases t <;> rfl
  | cons b p ih =>
    intro t v
    cases t <;> cases b <;> simp [Tr.set, Tr.get, ih]
theorem Tr.get_set_ne (p : List Bool) : ∀ (t : Tr) (v : Option AO) (q : List Bool), p ≠ q → (t.set p v).get q = t.get q := by
  induction p with
  | nil =>
    intro t v q hq
    cases q with
    | nil => exact absurd rfl hq
    | cons c q => cases t <;> cases c <;> simp [Tr.set, Tr.get, Tr.get_leaf]
  | cons b p ih =>
    intro t v q hq
    cases q with
    | nil => cases t <;> cases b <;> simp [Tr.set, Tr.get]
    | cons c q =>
      cases t <;> cases b <;> cases c <;> simp [Tr.set, Tr.get, Tr.get_leaf] <;>
        (have hn : p ≠ q := fun e => hq (by rw [e]); simp [ih _ _ _ hn, Tr.get_leaf])
def pval : List Bool → Nat
  | [] => 0
  | b :: p => (if b then 1 else 0) + 2 * pval p
theorem pval_path : ∀ (f n : Nat), n ≤ f → pval (path f n) = n := by
  intro f
  induction f with
  | zero => intro n hn; simp [path, pval]; omega
  | succ f ih =>
    intro n hn
    unfold path
    by_cases h0 : n = 0
    · simp [h0, pval]
    · rw [if_neg h0]
      simp only [pval]
      rw [ih (n / 2) (by omega)]
      by_cases h1 : n % 2 = 1
      · simp [h1]; omega
      · have : n % 2 = 0 := by omega
        simp [this]; omega
theorem path_ne {i j : Nat} (h : i ≠ j) : path i i ≠ path j j := fun e => h (by
  have := congrArg pval e
  rwa [pval_path _ _ (Nat.le_refl _), pval_path _ _ (Nat.le_refl _)] at this)
theorem H.get_put_same (h : H) (i : Nat) (o : Option AO) : (h.put i o).get i = o := Tr.get_set_same ..
theorem H.get_put_ne (h : H) {i j : Nat} (o : Option AO) (hne : i ≠ j) : (h.put i o).get j = h.get j := Tr.get_set_ne _ _ _ _ (path_ne hne)
theorem H.get_alloc_same (h : H) (o : AO) : (h.alloc o).get h.nx = some o := Tr.get_set_same ..
theorem H.get_alloc_ne (h : H) {j : Nat} (o : AO) (hne : h.nx ≠ j) : (h.alloc o).get j = h.get j := Tr.get_set_ne _ _ _ _ (path_ne hne)
@[simp] theorem H.nx_put (h : H) (i : Nat) (o : Option AO) : (h.put i o).nx = h.nx := rfl
@[simp] theorem H.nx_alloc (h : H) (o : AO) : (h.alloc o).nx = h.nx + 1 := rfl
theorem H.get_empty (i : Nat) : H.empty.get i = none := Tr.get_leaf _
structure Bk where
  b : Nat
  sz : Nat
  es : Nat
abbrev Mu := Nat → Option Bk
def Mu.le (μ μ' : Mu) : Prop := ∀ i k, μ i = some k → μ' i = some k
theorem Mu.le_refl (μ : Mu) : μ.le μ := fun _ _ h => h
theorem Mu.le_trans {a b c : Mu} (h : a.le b) (k : b.le c) : a.le c := fun i x hx => k i x (h i x hx)
def AR (μ : Mu) : Ad → Addr → Prop
  | .old b o, a => a = ⟨b, o, none⟩
  | .new i o, a => ∃ k, μ i = some k ∧ a = ⟨k.b, o, none⟩
def SB (μ : Mu) : Ad → Nat → Prop
  | .old _ _, _ => True
  | .new i o, c => o = 0 → ∃ k, μ i = some k ∧ c * k.es ≤ k.sz
mutual
def VR (μ : Mu) : V → Value → Prop
  | .bool a, v => v = .bool a
  | .int k n, v => v = .int k n
  | .str s, v => ∃ b : ByteArray, v = .string b ∧ b.data.toList = s
  | .ptr none, v => v = .pointer none
  | .ptr (some a), v => ∃ a', v = .pointer (some a') ∧ AR μ a a'
  | .slice none len lb _, v => len = 0 ∧ lb = 0 ∧ v = .slice none 0 0
  | .slice (some a) len lb ex, v => ∃ a' c, v = .slice (some a') len c ∧ len ≤ lb ∧ lb ≤ c ∧ (ex = true → c = lb) ∧ (ex = false → SB μ a c) ∧ (AR μ a a' ∨ (len = 0 ∧ c = 0))
  | .map none, v => v = .map none
  | .map (some i), v => ∃ k, μ i = some k ∧ v = .map (some k.b)
  | .fn f cap, v => ∃ c, v = .func (.func f) #[] c ∧ VRL μ cap c.toList
  | .yld l, v => ∃ k, μ l = some k ∧ v = .func (.yield k.b) #[] #[]
  | .nilfn, v => v = .nilFunc
  | .nilif, v => v = .nilIface
  | .agg l, v => ∃ c, v = .agg c ∧ VRL μ l c.toList
  | .tup l, v => ∃ c, v = .tuple c ∧ VRL μ l c.toList
def VRL (μ : Mu) : List V → List Value → Prop
  | [], vs => vs = []
  | v :: l, vs => ∃ x xs, vs = x :: xs ∧ VR μ v x ∧ VRL μ l xs
end
theorem AR.mono {μ μ' : Mu} (h : μ.le μ') : ∀ {a : Ad} {a' : Addr}, AR μ a a' → AR μ' a a'
  | .old _ _, _, e => e
  | .new _ _, _, ⟨k, hk, e⟩ => ⟨k, h _ _ hk, e⟩
theorem SB.mono {μ μ' : Mu} (h : μ.le μ') : ∀ {a : Ad} {c : Nat}, SB μ a c → SB μ' a c
  | .old _ _, _, _ => trivial
  | .new _ _, _, g => fun e => let ⟨k, hk, e⟩ := g e; ⟨k, h _ _ hk, e⟩
mutual
theorem VR.mono {μ μ' : Mu} (h : μ.le μ') : ∀ (v : V) (x : Value), VR μ v x → VR μ' v x
  | .bool _, _, e => by simpa [VR] using e
  | .int _ _, _, e => by simpa [VR] using e
  | .str _, _, e => by simpa [VR] using e
  | .ptr none, _, e => by simpa [VR] using e
  | .ptr (some _), _, e => by
    simp only [VR] at e ⊢
    obtain ⟨a', e, k⟩ := e
    exact ⟨a', e, k.mono h⟩
  | .slice none _ _ _, _, e => by simpa [VR] using e
  | .slice (some _) _ _ _, _, e => by
    simp only [VR] at e ⊢
    obtain ⟨a', c, e, h1, h2, h3, h4, h5⟩ := e
    exact ⟨a', c, e, h1, h2, h3, fun k => (h4 k).mono h, h5.imp (fun k => k.mono h) id⟩
  | .map none, _, e => by simpa [VR] using e
  | .map (some _), _, e => by
    simp only [VR] at e ⊢
    obtain ⟨k, hk, e⟩ := e
    exact ⟨k, h _ _ hk, e⟩
  | .fn _ cap, _, e => by
    simp only [VR] at e ⊢
    obtain ⟨c, e, k⟩ := e
    exact ⟨c, e, VRL.mono h cap _ k⟩
  | .yld _, _, e => by
    simp only [VR] at e ⊢
    obtain ⟨k, hk, e⟩ := e
    exact ⟨k, h _ _ hk, e⟩
  | .nilfn, _, e => by simpa [VR] using e
  | .nilif, _, e => by simpa [VR] using e
  | .agg l, _, e => by
    simp only [VR] at e ⊢
    obtain ⟨c, e, k⟩ := e
    exact ⟨c, e, VRL.mono h l _ k⟩
  | .tup l, _, e => by
    simp only [VR] at e ⊢
    obtain ⟨c, e, k⟩ := e
    exact ⟨c, e, VRL.mono h l _ k⟩
theorem VRL.mono {μ μ' : Mu} (h : μ.le μ') : ∀ (l : List V) (xs : List Value), VRL μ l xs → VRL μ' l xs
  | [], _, e => by simpa [VRL] using e
  | v :: l, _, e => by
    simp only [VRL] at e ⊢
    obtain ⟨x, xs, e, h1, h2⟩ := e
    exact ⟨x, xs, e, VR.mono h v x h1, VRL.mono h l xs h2⟩
end
theorem VR.undef (μ : Mu) : VR μ .undef Go.undef := by simp only [VR]; exact ⟨#[], rfl, by simp [VRL]⟩
namespace VRL
variable {μ : Mu}
theorem nil : VRL μ [] [] := by simp [VRL]
theorem cons {v : V} {x : Value} {l : List V} {xs : List Value} (h : VR μ v x) (k : VRL μ l xs) : VRL μ (v :: l) (x :: xs) := by
  simp only [VRL]; exact ⟨x, xs, rfl, h, k⟩
theorem length : ∀ {l : List V} {xs : List Value}, VRL μ l xs → l.length = xs.length
  | [], _, e => by simp only [VRL] at e; simp [e]
  | v :: l, _, e => by
    simp only [VRL] at e
    obtain ⟨x, xs, rfl, _, h⟩ := e
    simp [length h]
theorem get : ∀ {l : List V} {xs : List Value} {i : Nat} {v : V}, VRL μ l xs → l[i]? = some v → ∃ x, xs[i]? = some x ∧ VR μ v x
  | [], _, _, _, _, h => by simp at h
  | v :: l, _, i, u, e, h => by
    simp only [VRL] at e
    obtain ⟨x, xs, rfl, h1, h2⟩ := e
    cases i with
    | zero => simp at h; subst h; exact ⟨x, rfl, h1⟩
    | succ i => simp at h; obtain ⟨y, hy, hv⟩ := get h2 h; exact ⟨y, by simpa using hy, hv⟩
theorem get_none {l : List V} {xs : List Value} {i : Nat} (e : VRL μ l xs) (h : l[i]? = none) : xs[i]? = none := by
  rw [List.getElem?_eq_none_iff] at h ⊢
  rw [← e.length]; exact h
theorem getD {l : List V} {xs : List Value} (e : VRL μ l xs) (i : Nat) : VR μ (l.getD i .undef) (xs.getD i Go.undef) := by
  simp only [List.getD_eq_getElem?_getD]
  cases h : l[i]? with
  | none => simp [e.get_none h]; exact VR.undef μ
  | some v => obtain ⟨x, hx, hv⟩ := e.get h; simpa [hx] using hv
theorem append : ∀ {l k : List V} {xs ys : List Value}, VRL μ l xs → VRL μ k ys → VRL μ (l ++ k) (xs ++ ys)
  | [], _, _, _, e, h => by simp only [VRL] at e; subst e; simpa using h
  | v :: l, _, _, _, e, h => by
    simp only [VRL] at e
    obtain ⟨x, xs, rfl, h1, h2⟩ := e
    exact cons h1 (append h2 h)
theorem take : ∀ {l : List V} {xs : List Value} (n : Nat), VRL μ l xs → VRL μ (l.take n) (xs.take n)
  | _, _, 0, _ => by simp [VRL]
  | [], _, n + 1, e => by simp only [VRL] at e; subst e; simp [VRL]
  | v :: l, _, n + 1, e => by
    simp only [VRL] at e
    obtain ⟨x, xs, rfl, h1, h2⟩ := e
    simp only [List.take_succ_cons]
    exact cons h1 (take n h2)
theorem drop : ∀ {l : List V} {xs : List Value} (n : Nat), VRL μ l xs → VRL μ (l.drop n) (xs.drop n)
  | _, _, 0, e => by simpa using e
  | [], _, n + 1, e => by simp only [VRL] at e; subst e; simp [VRL]
  | v :: l, _, n + 1, e => by
    simp only [VRL] at e
    obtain ⟨x, xs, rfl, h1, h2⟩ := e
    simpa using drop n h2
theorem set : ∀ {l : List V} {xs : List Value} {v : V} {x : Value} (n : Nat), VRL μ l xs → VR μ v x → VRL μ (l.set n v) (xs.set n x)
  | [], _, _, _, _, e, _ => by simp only [VRL] at e; subst e; simp [VRL]
  | u :: l, _, v, x, 0, e, h => by
    simp only [VRL] at e
    obtain ⟨y, xs, rfl, h1, h2⟩ := e
    exact cons h h2
  | u :: l, _, v, x, n + 1, e, h => by
    simp only [VRL] at e
    obtain ⟨y, xs, rfl, h1, h2⟩ := e
    exact cons h1 (set n h2 h)
theorem replicate {v : V} {x : Value} (h : VR μ v x) : ∀ n, VRL μ (List.replicate n v) (List.replicate n x)
  | 0 => by simp [VRL]
  | n + 1 => by simp only [List.replicate_succ]; exact cons h (replicate h n)
theorem splice {l k : List V} {xs ys : List Value} (o : Nat) (h : VRL μ l xs) (h' : VRL μ k ys) : VRL μ (Dg.splice l o k) (xs.take o ++ (ys ++ xs.drop (o + ys.length))) := by
  unfold Dg.splice
  rw [h'.length]
  exact (h.take o).append (h'.append (h.drop _))
theorem rep {z : List V} {zs : List Value} (h : VRL μ z zs) : ∀ n, VRL μ (Dg.rep z n) (List.replicate n zs).flatten
  | 0 => by simp [Dg.rep, VRL]
  | n + 1 => by simp only [Dg.rep, List.replicate_succ, List.flatten_cons]; exact h.append (rep h n)
end VRL
theorem V.cells_one {v : V} (h : v.one = true) : v.cells = [v] := by cases v <;> first | rfl | (simp [V.one] at h)
theorem VR.one {μ : Mu} : ∀ {v : V} {x : Value}, VR μ v x → v.one = true → x.oneCell' = true
  | .bool _, _, h, _ => by simp only [VR] at h; subst h; rfl
  | .int _ _, _, h, _ => by simp only [VR] at h; subst h; rfl
  | .str _, _, h, _ => by simp only [VR] at h; obtain ⟨b, rfl, e⟩ := h; rfl
  | .ptr none, _, h, _ => by simp only [VR] at h; subst h; rfl
  | .ptr (some _), _, h, _ => by simp only [VR] at h; obtain ⟨b, rfl, e⟩ := h; rfl
  | .slice none _ _ _, _, h, _ => by simp only [VR] at h; obtain ⟨h1, h2, rfl⟩ := h; rfl
  | .slice (some _) _ _ _, _, h, _ => by simp only [VR] at h; obtain ⟨a', c', rfl, r⟩ := h; rfl
  | .map none, _, h, _ => by simp only [VR] at h; subst h; rfl
  | .map (some _), _, h, _ => by simp only [VR] at h; obtain ⟨a', e, rfl⟩ := h; rfl
  | .fn _ _, _, h, _ => by simp only [VR] at h; obtain ⟨b, rfl, e⟩ := h; rfl
  | .yld _, _, h, _ => by simp only [VR] at h; obtain ⟨b, e, rfl⟩ := h; rfl
  | .nilfn, _, h, _ => by simp only [VR] at h; subst h; rfl
  | .nilif, _, h, _ => by simp only [VR] at h; subst h; rfl
  | .agg _, _, _, h1 => by simp [V.one] at h1
  | .tup _, _, _, h1 => by simp [V.one] at h1
theorem cells_of_one {x : Value} (h : x.oneCell' = true) : x.cells.toList = [x] := by cases x <;> first | rfl | (simp [Value.oneCell'] at h)
theorem VR.cells {μ : Mu} : ∀ {v : V} {x : Value}, VR μ v x → VRL μ v.cells x.cells.toList
  | .agg l, _, h => by simp only [VR] at h; obtain ⟨c, rfl, k⟩ := h; exact k
  | .tup l, _, h => by
    have h' := h
    simp only [VR] at h; obtain ⟨c, rfl, k⟩ := h; exact VRL.cons h' VRL.nil
  | .bool a, _, h => by rw [V.cells_one rfl, cells_of_one (h.one rfl)]; exact VRL.cons h VRL.nil
  | .int k n, _, h => by rw [V.cells_one rfl, cells_of_one (h.one rfl)]; exact VRL.cons h VRL.nil
  | .str s, _, h => by rw [V.cells_one rfl, cells_of_one (h.one rfl)]; exact VRL.cons h VRL.nil
  | .ptr a, _, h => by rw [V.cells_one rfl, cells_of_one (h.one rfl)]; exact VRL.cons h VRL.nil
  | .slice a b c d, _, h => by rw [V.cells_one rfl, cells_of_one (h.one rfl)]; exact VRL.cons h VRL.nil
  | .map a, _, h => by rw [V.cells_one rfl, cells_of_one (h.one rfl)]; exact VRL.cons h VRL.nil
  | .fn f c, _, h => by rw [V.cells_one rfl, cells_of_one (h.one rfl)]; exact VRL.cons h VRL.nil
  | .yld l, _, h => by rw [V.cells_one rfl, cells_of_one (h.one rfl)]; exact VRL.cons h VRL.nil
  | .nilfn, _, h => by rw [V.cells_one rfl, cells_of_one (h.one rfl)]; exact VRL.cons h VRL.nil
  | .nilif, _, h => by rw [V.cells_one rfl, cells_of_one (h.one rfl)]; exact VRL.cons h VRL.nil
theorem VRL.one {μ : Mu} : ∀ {l : List V} {xs : List Value}, VRL μ l xs → l.all V.one = true → ∀ x ∈ xs, x.oneCell' = true
  | [], _, e, _ => by simp only [VRL] at e; subst e; simp
  | v :: l, _, e, h => by
    simp only [VRL] at e
    obtain ⟨x, xs, rfl, h1, h2⟩ := e
    simp only [List.all_cons, Bool.and_eq_true] at h
    intro y hy
    rcases List.mem_cons.1 hy with rfl | hy
    · exact h1.one h.1
    · exact VRL.one h2 h.2 y hy
theorem lift1_VR (μ : Mu) {v : Value} {x : V} (h : lift1 v = some x) : VR μ x v := by
  unfold lift1 at h
  split at h <;> first
    | (injection h with h; subst h; simp [VR, VRL, AR, SB]; done)
    | (split at h
       · rename_i b o s l c hc
         obtain ⟨hle, hs⟩ := hc
         injection h with h; subst h; simp only [VR]
         refine ⟨_, _, rfl, hle, Nat.le_refl _, fun _ => rfl, fun e => (by cases e), ?_⟩
         rcases hs with hs | hs
         · left
           rw [Option.isNone_iff_eq_none.1 hs]; rfl
         · right
           exact ⟨by omega, hs⟩
       · cases h)
    | cases h
theorem lift1_one {v : Value} {x : V} (h : lift1 v = some x) : x.one = true := by
  unfold lift1 at h
  split at h <;> first
    | (injection h with h; subst h; rfl)
    | (split at h
       · injection h with h; subst h; rfl
       · cases h)
    | cases h
theorem liftL_VRL (μ : Mu) : ∀ {vs : List Value} {l : List V}, liftL vs = some l → VRL μ l vs
  | [], l, h => by simp [liftL] at h; subst h; simp [VRL]
  | v :: vs, l, h => by
    simp only [liftL] at h
    split at h
    · rename_i x hx
      split at h
      · rename_i xs hxs
        injection h with h
        subst h
        exact VRL.cons (lift1_VR μ hx) (liftL_VRL μ hxs)
      · cases h
    · cases h
theorem lift_VR (μ : Mu) {v : Value} {x : V} (h : lift v = some x) : VR μ x v := by
  unfold lift at h
  split at h
  · split at h
    · rename_i l hl
      injection h with h; subst h
      simp only [VR]; exact ⟨_, rfl, liftL_VRL μ hl⟩
    · cases h
  · split at h
    · rename_i l hl
      injection h with h; subst h
      simp only [VR]; exact ⟨_, rfl, liftL_VRL μ hl⟩
    · cases h
  · exact lift1_VR μ h
def unfrozen (n : Nat) (fz : Nat × Nat) : Prop := fz.2 = 0 ∨ n ≤ fz.1
def MR (μ : Mu) : List (V × V) → List MapEntry → Prop
  | [], es => es = []
  | (k, v) :: l, es => ∃ e es', es = e :: es' ∧ VR μ k e.key ∧ VR μ v e.val ∧ MR μ l es'
def OR (P : Program) (μ : Mu) : AO → Bk → Obj → Prop
  | .cells l t, k, o => ∃ c fz, o = .cells c t fz ∧ c.size = k.sz ∧ unfrozen c.size fz ∧ l.length ≤ c.size ∧ (P.cellsOf t = k.es ∧ ((fz.2 = 0 ∧ k.sz ≤ 9223372036854775807) ∨ P.underlying t ≠ some (.int .i64) ∨ k.es ≠ 1)) ∧ VRL μ l (c.toList.take l.length)
  | .map es, _, o => ∃ es' cl, o = .map es' cl ∧ MR μ es es'.toList
  | .siter s pos, _, o => ∃ b : ByteArray, o = .stringIter b pos ∧ b.data.toList = s
  | .loop tmps ps as_ bd st pd d, _, o => ∃ fn tm kd, o = .loop ⟨st, pd, fn, tm, ps, as_, bd, kd.b⟩ ∧ VRL μ tmps tm.toList ∧ μ d = some kd
  | .dfr, _, o => o = .deferred (some [])
theorem MR.mono {μ μ' : Mu} (h : μ.le μ') : ∀ {l : List (V × V)} {es : List MapEntry}, MR μ l es → MR μ' l es
  | [], _, e => e
  | (k, v) :: l, _, ⟨e, es', he, h1, h2, h3⟩ => ⟨e, es', he, h1.mono h, h2.mono h, MR.mono h h3⟩
theorem OR.mono {P : Program} {μ μ' : Mu} (h : μ.le μ') : ∀ {o : AO} {k : Bk} {o' : Obj}, OR P μ o k o' → OR P μ' o k o'
  | .cells _ _, _, _, ⟨c, fz, e, h1, h2, h3, h4, h5⟩ => ⟨c, fz, e, h1, h2, h3, h4, h5.mono h⟩
  | .map _, _, _, ⟨es, cl, e, k⟩ => ⟨es, cl, e, k.mono h⟩
  | .siter _ _, _, _, e => e
  | .loop .., _, _, ⟨fn, tm, kd, e, h1, h2⟩ => ⟨fn, tm, kd, e, h1.mono h, h _ _ h2⟩
  | .dfr, _, _, e => e
structure HR (P : Program) (W : World) (μ : Mu) (h : H) (w : World) : Prop where
  obj : ∀ i o, h.get i = some o → ∃ k, μ i = some k ∧ W.heap.size ≤ k.b ∧ ∃ o', w.heap[k.b]? = some o' ∧ OR P μ o k o'
  inj : ∀ i j oi oj k k', h.get i = some oi → h.get j = some oj → μ i = some k → μ j = some k' → k.b = k'.b → i = j
  fresh : ∀ i, h.nx ≤ i → μ i = none ∧ h.get i = none
  below : Below W.heap.size W w
structure Go1 (P : Program) (W : World) (μ : Mu) (h : H) (w : World) (μ' : Mu) (h' : H) (w' : World) : Prop where
  hr : HR P W μ' h' w'
  mono : μ.le μ'
  nx : h.nx ≤ h'.nx
  size : w.heap.size ≤ w'.heap.size
  frame : ∀ b, b < w.heap.size → (∀ i o k, h.get i = some o → μ i = some k → k.b ≠ b) → w'.heap[b]? = w.heap[b]?
  foot : ∀ i o k, h'.get i = some o → μ' i = some k → w.heap.size ≤ k.b ∨ ∃ j oj kj, h.get j = some oj ∧ μ j = some kj ∧ kj.b = k.b
  old : ∀ i, i < h.nx → μ' i = μ i
section
variable {P : Program} {W : World} {μ : Mu} {h : H} {w : World}
theorem Go1.refl (hr : HR P W μ h w) : Go1 P W μ h w μ h w :=
  ⟨hr, Mu.le_refl μ, Nat.le_refl _, Nat.le_refl _, fun _ _ _ => rfl, fun i o k hi hk => .inr ⟨i, o, k, hi, hk, rfl⟩, fun _ _ => rfl⟩
theorem HR.lt (hr : HR P W μ h w) {i : Nat} {o : AO} {k : Bk} (hi : h.get i = some o) (hk : μ i = some k) : k.b < w.heap.size := by
  obtain ⟨k', hk', _, o', ho, _⟩ := hr.obj i o hi
  rw [hk] at hk'; injection hk' with hk'; subst hk'
  exact (Array.getElem?_eq_some_iff.1 ho).1
theorem Go1.trans {μ1 μ2 : Mu} {h1 h2 : H} {w1 w2 : World} (a : Go1 P W μ h w μ1 h1 w1) (b : Go1 P W μ1 h1 w1 μ2 h2 w2) : Go1 P W μ h w μ2 h2 w2 := by
  refine ⟨b.hr, Mu.le_trans a.mono b.mono, Nat.le_trans a.nx b.nx, Nat.le_trans a.size b.size, fun x hx hn => ?_, fun i o k hi hk => ?_, fun i hi => (b.old i (Nat.lt_of_lt_of_le hi a.nx)).trans (a.old i hi)⟩
  · rw [b.frame x (Nat.lt_of_lt_of_le hx a.size) (fun i o k hi hk e => ?_), a.frame x hx hn]
    rcases a.foot i o k hi hk with h1 | ⟨j, oj, kj, hj, hkj, e'⟩
    · omega
    · exact hn j oj kj hj hkj (e'.trans e)
  · rcases b.foot i o k hi hk with h1 | ⟨j, oj, kj, hj, hkj, e'⟩
    · exact .inl (Nat.le_trans a.size h1)
    · rcases a.foot j oj kj hj hkj with h2 | ⟨j', oj', kj', hj', hkj', e''⟩
      · exact .inl (by omega)
      · exact .inr ⟨j', oj', kj', hj', hkj', e''.trans e'⟩
theorem HR.drawn (hr : HR P W μ h w) (n : Nat) : HR P W μ h { w with drawn := n } :=
  ⟨hr.obj, hr.inj, hr.fresh, ⟨hr.below.os, hr.below.tape, hr.below.output, hr.below.size, hr.below.block⟩⟩
theorem Go1.drawn {μ1 : Mu} {h1 : H} {w1 : World} (a : Go1 P W μ h w μ1 h1 w1) (n : Nat) : Go1 P W μ h w μ1 h1 { w1 with drawn := n } :=
  ⟨a.hr.drawn n, a.mono, a.nx, a.size, a.frame, a.foot, a.old⟩
theorem Go1.of_drawn {μ1 : Mu} {h1 : H} {w1 : World} {n : Nat} (a : Go1 P W μ h { w with drawn := n } μ1 h1 w1) : Go1 P W μ h w μ1 h1 w1 :=
  ⟨a.hr, a.mono, a.nx, a.size, a.frame, a.foot, a.old⟩
def Mu.put (μ : Mu) (i : Nat) (k : Bk) : Mu := fun j => if j = i then some k else μ j
theorem Mu.put_same (μ : Mu) (i : Nat) (k : Bk) : μ.put i k i = some k := by simp [Mu.put]
theorem Mu.put_ne (μ : Mu) {i j : Nat} (k : Bk) (hne : j ≠ i) : μ.put i k j = μ j := by simp [Mu.put, hne]
theorem Mu.le_put {μ : Mu} {i : Nat} (k : Bk) (hf : μ i = none) : μ.le (μ.put i k) := fun j x hx => by
  by_cases e : j = i
  · subst e; rw [hf] at hx; cases hx
  · rw [Mu.put_ne _ _ e]; exact hx
theorem Go1.alloc (hr : HR P W μ h w) (o : AO) (o' : Obj) (k : Bk) (hk : k.b = w.heap.size) (ho : OR P (μ.put h.nx k) o k o') :
    Go1 P W μ h w (μ.put h.nx k) (h.alloc o) { w with heap := w.heap.push o' } := by
  have hle : μ.le (μ.put h.nx k) := Mu.le_put k (hr.fresh _ (Nat.le_refl _)).1
  have hnew : ∀ i x, (h.alloc o).get i = some x → i ≠ h.nx → h.get i = some x := fun i x hi hne => by
    rwa [H.get_alloc_ne h o (Ne.symm hne)] at hi
  have hpush : ∀ b, b < w.heap.size → (w.heap.push o')[b]? = w.heap[b]? := fun b hb => by
    rw [Array.getElem?_push_lt hb, Array.getElem?_eq_getElem hb]
  refine ⟨⟨fun i x hi => ?_, fun i j oi oj ki kj hi hj hki hkj e => ?_, fun i hi => ?_, ?_⟩, hle, by simp, by simp, fun b hb _ => hpush b hb, fun i x k' hi hk' => ?_, fun i hi => Mu.put_ne _ _ (Nat.ne_of_lt hi)⟩
  · by_cases e : i = h.nx
    · subst e
      rw [H.get_alloc_same] at hi
      injection hi with hi; subst hi
      exact ⟨k, Mu.put_same _ _ _, by rw [hk]; exact hr.below.size, o', by simp [hk], ho⟩
    · obtain ⟨k', hk', hW, x', hx', hor⟩ := hr.obj i x (hnew i x hi e)
      refine ⟨k', hle _ _ hk', hW, x', ?_, hor.mono hle⟩
      rw [← hx']; exact hpush _ (hr.lt (hnew i x hi e) hk')
  · by_cases ei : i = h.nx <;> by_cases ej : j = h.nx
    · rw [ei, ej]
    · subst ei
      rw [Mu.put_same] at hki; injection hki with hki; subst hki
      rw [Mu.put_ne _ _ ej] at hkj
      have := hr.lt (hnew j oj hj ej) hkj
      omega
    · subst ej
      rw [Mu.put_same] at hkj; injection hkj with hkj; subst hkj
      rw [Mu.put_ne _ _ ei] at hki
      have := hr.lt (hnew i oi hi ei) hki
      omega
    · rw [Mu.put_ne _ _ ei] at hki
      rw [Mu.put_ne _ _ ej] at hkj
      exact hr.inj i j oi oj ki kj (hnew i oi hi ei) (hnew j oj hj ej) hki hkj e
  · have h1 : h.nx + 1 ≤ i := hi
    refine ⟨?_, ?_⟩
    · rw [Mu.put_ne _ _ (by omega)]; exact (hr.fresh i (by omega)).1
    · rw [H.get_alloc_ne h o (by omega)]; exact (hr.fresh i (by omega)).2
  · exact hr.below.alloc hr.below.size o'
  · by_cases e : i = h.nx
    · subst e
      rw [Mu.put_same] at hk'; injection hk' with hk'; subst hk'
      exact .inl (by omega)
    · rw [Mu.put_ne _ _ e] at hk'
      exact .inr ⟨i, x, k', hnew i x hi e, hk', rfl⟩
theorem Go1.change (hr : HR P W μ h w) {i : Nat} {o : AO} {k : Bk} (hi : h.get i = some o) (hk : μ i = some k) (o2 : AO) (o' : Obj) (w' : World)
    (hw : w'.heap[k.b]? = some o') (hsz : w'.heap.size = w.heap.size) (hoth : ∀ b, b ≠ k.b → w'.heap[b]? = w.heap[b]?) (hos : w'.os = w.os) (htp : w'.tape = w.tape) (hout : w'.output = w.output)
    (ho : OR P μ o2 k o') : Go1 P W μ h w μ (h.put i (some o2)) w' := by
  have hold : ∀ j x, (h.put i (some o2)).get j = some x → j ≠ i → h.get j = some x := fun j x hj hne => by
    rwa [H.get_put_ne h _ (Ne.symm hne)] at hj
  have hex : ∀ j x, (h.put i (some o2)).get j = some x → ∃ y, h.get j = some y := fun j x hj => by
    by_cases e : j = i
    · subst e; exact ⟨o, hi⟩
    · exact ⟨x, hold j x hj e⟩
  have hWk : W.heap.size ≤ k.b := by
    obtain ⟨k', hk', hW, _⟩ := hr.obj i o hi
    rw [hk] at hk'; injection hk' with hk'; subst hk'; exact hW
  refine ⟨⟨fun j x hj => ?_, fun j l oj ol kj kl hj hl hkj hkl e => ?_, fun j hj => ?_, ?_⟩, Mu.le_refl _, Nat.le_refl _, Nat.le_of_eq hsz.symm, fun b hb hn => ?_, fun j x kj hj hkj => ?_, fun _ _ => rfl⟩
  · by_cases e : j = i
    · subst e
      rw [H.get_put_same] at hj
      injection hj with hj; subst hj
      exact ⟨k, hk, hWk, o', hw, ho⟩
    · obtain ⟨k', hk', hW, x', hx', hor⟩ := hr.obj j x (hold j x hj e)
      refine ⟨k', hk', hW, x', ?_, hor⟩
      rw [hoth _ (fun eb => e (hr.inj j i x o k' k (hold j x hj e) hi hk' hk eb))]
      exact hx'
  · obtain ⟨y, hy⟩ := hex j oj hj
    obtain ⟨z, hz⟩ := hex l ol hl
    exact hr.inj j l y z kj kl hy hz hkj hkl e
  · refine ⟨(hr.fresh j hj).1, ?_⟩
    by_cases e : j = i
    · subst e; rw [(hr.fresh j hj).2] at hi; cases hi
    · rw [H.get_put_ne h _ (Ne.symm e)]; exact (hr.fresh j hj).2
  · refine ⟨hos.trans hr.below.os, htp.trans hr.below.tape, hout.trans hr.below.output, by rw [hsz]; exact hr.below.size, fun b hb => ?_⟩
    rw [hoth b (by omega)]; exact hr.below.block b hb
  · exact hoth b (fun e => hn i o k hi hk e.symm)
  · obtain ⟨y, hy⟩ := hex j x hj
    exact .inr ⟨j, y, kj, hy, hkj, rfl⟩
theorem HR.forget (hr : HR P W μ h w) (i : Nat) : Go1 P W μ h w μ (h.put i none) w := by
  have hold : ∀ j x, (h.put i none).get j = some x → h.get j = some x := fun j x hj => by
    by_cases e : j = i
    · subst e; rw [H.get_put_same] at hj; cases hj
    · rwa [H.get_put_ne h _ (Ne.symm e)] at hj
  refine ⟨⟨fun j x hj => hr.obj j x (hold j x hj), fun j l oj ol kj kl hj hl hkj hkl e => hr.inj j l oj ol kj kl (hold j oj hj) (hold l ol hl) hkj hkl e, fun j hj => ⟨(hr.fresh j hj).1, ?_⟩, hr.below⟩,
    Mu.le_refl _, Nat.le_refl _, Nat.le_refl _, fun _ _ _ => rfl, fun j x kj hj hkj => .inr ⟨j, x, kj, hold j x hj, hkj, rfl⟩, fun _ _ => rfl⟩
  by_cases e : j = i
  · subst e; exact H.get_put_same ..
  · rw [H.get_put_ne h _ (Ne.symm e)]; exact (hr.fresh j hj).2
end
end Go.Proofs.YtkhjmgchlbnkjaaDoor.Dg
