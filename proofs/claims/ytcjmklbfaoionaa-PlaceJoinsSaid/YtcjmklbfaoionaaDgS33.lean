/-
  slices.Insert at whole numbers: an answer given, from the shelf's roads.
-/
import Derived.Test.YtcjmklbfaoionaaDgS32
import Derived.Shelf.Spec.SlicesInsertGrow
set_option linter.unusedVariables false
set_option linter.unusedSimpArgs false
namespace Go.Proofs.Ytcjmklbfaoionaa.Dg
open Go Go.RowKit

section
variable {P : Program} {W : World}

def setPrimH (prim : FuncId → Option (List V → H → Option (V × H))) (f : FuncId) (p : List V → H → Option (V × H)) : FuncId → Option (List V → H → Option (V × H)) :=
  fun g => if g = f then some p else prim g
theorem setPrimH_same {prim : FuncId → Option (List V → H → Option (V × H))} {f : FuncId} {p : List V → H → Option (V × H)} : setPrimH prim f p f = some p := by simp [setPrimH]

/-- A function's answer, the heap changed. -/
theorem Prims.addH {prim : FuncId → Option (List V → H → Option (V × H))} (hp : Prims P W prim) {f : FuncId} {p : List V → H → Option (V × H)} (hbody : ∃ fn c, P.funcs[f]? = some fn ∧ fn.body = some c)
    (hnx : ∀ args h v h', p args h = some (v, h') → h.nx ≤ h'.nx)
    (hs : ∀ (W0 w : World) (μ : Mu) (h : H), Below W.heap.size W W0 → HR P W0 μ h w → ∀ args v h', p args h = some (v, h') → ∀ (args' : Array Value), VRL μ args args'.toList → Calls P f args' w fun e w' => ∃ μ' x, e = .returned x ∧ VR μ' v x ∧ Go1 P W0 μ h w μ' h' w') : Prims P W (setPrimH prim f p) := by
  intro w0 hb0
  have h0 := hp w0 hb0
  refine ⟨fun g q hg args h v h' hq μ w args' hr ha => ?_, fun g q hg => ?_, fun g q hg args h v h' hq => ?_⟩
  · unfold setPrimH at hg
    split at hg
    · rename_i hgf
      subst hgf
      injection hg with hg; subst hg
      have := hs w0 w μ h hb0 hr args v h' hq args' ha
      rw [Wd_wide]
      exact callsIn_wide.2 this
    · exact h0.ok g q hg args h v h' hq μ w args' hr ha
  · unfold setPrimH at hg
    split at hg
    · rename_i hgf; subst hgf; exact hbody
    · exact h0.body g q hg
  · unfold setPrimH at hg
    split at hg
    · injection hg with hg; subst hg
      exact hnx args h v h' hq
    · exact h0.nx g q hg args h v h' hq

/-- Cells laid, the block whole. -/
theorem setCells_heap (P : Program) {w : World} {b : Nat} {c : Array Value} {t : TypeId} {fz : Nat × Nat} (hb : w.heap[b]? = some (.cells c t fz)) (hu : unfrozen c.size fz) {o : Nat} {vs : List Value} (hl : o + vs.length ≤ c.size) (h1 : ∀ v ∈ vs, v.oneCell' = true) :
    ∃ c', (w.setCells b o vs).heap[b]? = some (.cells c' t fz) ∧ c'.size = c.size ∧ c'.toList = c.toList.take o ++ (vs ++ c.toList.drop (o + vs.length)) ∧ (w.setCells b o vs).heap.size = w.heap.size ∧
      (∀ x, x ≠ b → (w.setCells b o vs).heap[x]? = w.heap[x]?) ∧ (w.setCells b o vs).os = w.os ∧ (w.setCells b o vs).tape = w.tape ∧ (w.setCells b o vs).output = w.output := by
  obtain ⟨w', c', hrun, k1, k2, k3, k4, k5, k6, k7⟩ := run_storeCells_list (P := P) b o t fz vs 0 w c hb hu (by omega) h1
  have h2 := run_storeCells_cells (P := P) b o vs 0 w (fun j hj => by rw [cell_block hb, Array.getElem?_eq_getElem (by omega)]; rfl) (fun j hj => frozen_block hb hu (by omega)) h1
  rw [hrun] at h2
  injection h2 with h2 h3
  rw [Nat.add_zero] at h3 k2
  rw [h3] at k1 k3 k4 k5 k6 k7
  have hsz : c'.size = c.size := by
    have := congrArg List.length k2
    simp at this
    omega
  exact ⟨c', k1, hsz, k2, k3, k4, k5, k6, k7⟩

theorem Go1.like {μ μ1 : Mu} {h h1 : H} {w w1 w2 : World} (g : Go1 P W μ h w μ1 h1 w1) (e1 : w2.heap = w1.heap) (e2 : w2.os = w1.os) (e3 : w2.tape = w1.tape) (e4 : w2.output = w1.output) : Go1 P W μ h w μ1 h1 w2 := by
  refine ⟨⟨?_, g.hr.inj, g.hr.fresh, ⟨?_, ?_, ?_, ?_, ?_⟩⟩, g.mono, g.nx, ?_, ?_, ?_, g.old⟩
  · rw [e1]; exact g.hr.obj
  · rw [e2]; exact g.hr.below.os
  · rw [e3]; exact g.hr.below.tape
  · rw [e4]; exact g.hr.below.output
  · rw [e1]; exact g.hr.below.size
  · rw [e1]; exact g.hr.below.block
  · rw [e1]; exact g.size
  · rw [e1]; exact g.frame
  · exact g.foot

theorem alloc_put (h : H) (o : AO) {j : Nat} (hj : j ≠ h.nx) : (h.alloc o).put j none = (h.put j none).alloc o := by
  simp only [H.alloc, H.put, Tr.set_comm _ _ _ _ _ (path_ne (Ne.symm hj))]

/-- A new row, the old one forgotten. -/
theorem ins_new {μ : Mu} {h : H} {w w' : World} (hr : HR P W μ h w) {j : Nat} {oj : AO} (hj : h.get j = some oj) {nl : List V} {e es : Nat} {c2 : Array Value} (hb : w'.heap[w.heap.size]? = some (.cells c2 e (0, 0))) (hsz : w'.heap.size = w.heap.size + 1)
    (hoth : ∀ b, b < w.heap.size → w'.heap[b]? = w.heap[b]?) (hos : w'.os = w.os) (htp : w'.tape = w.tape) (hout : w'.output = w.output) (hle : nl.length ≤ c2.size) (hes : P.cellsOf e = es) (hs63 : c2.size ≤ 9223372036854775807) (hv : VRL μ nl (c2.toList.take nl.length)) :
    Go1 P W μ h w (μ.put h.nx ⟨w.heap.size, c2.size, es⟩) ((h.put j none).alloc (.cells nl e)) w' := by
  have hle' : μ.le (μ.put h.nx ⟨w.heap.size, c2.size, es⟩) := Mu.le_put _ (hr.fresh _ (Nat.le_refl _)).1
  have g1 := Go1.alloc hr (.cells nl e) (.cells c2 e (0, 0)) ⟨w.heap.size, c2.size, es⟩ rfl ⟨c2, (0, 0), rfl, rfl, .inl rfl, hle, ⟨hes, .inl ⟨rfl, hs63⟩⟩, hv.mono hle'⟩
  have hjn : j ≠ h.nx := fun e => by rw [e, (hr.fresh _ (Nat.le_refl _)).2] at hj; cases hj
  have g2 := g1.trans (g1.hr.forget j)
  rw [alloc_put h _ hjn] at g2
  refine g2.like ?_ hos htp hout
  apply Array.ext
  · simp [hsz]
  · intro n h1 h2
    have h3 : w'.heap[n]? = (w.heap.push (.cells c2 e (0, 0)))[n]? := by
      rcases Nat.lt_or_ge n w.heap.size with k | k
      · rw [hoth n k, Array.getElem?_push_lt k, Array.getElem?_eq_getElem k]
      · have : n = w.heap.size := by omega
        subst this
        rw [hb]; simp
    rw [Array.getElem?_eq_getElem h1, Array.getElem?_eq_getElem h2] at h3
    injection h3

/-- The answer: one number put in. -/
def insAns (e : TypeId) (args : List V) (h : H) : Option (V × H) :=
  match args with
  | [.slice (some (.new j 0)) n lb ex, .int .i64 i, .slice (some (.new q 0)) 1 mb mex] =>
    match h.get j, h.get q with
    | some (.cells l t), some (.cells (x :: lv) tv) =>
      if t = e ∧ tv = e ∧ j ≠ q ∧ 0 ≤ i ∧ i ≤ n ∧ n ≤ l.length ∧ l.all V.one = true ∧ V.one x = true ∧ (n + 1) * 8 ≤ 140737488355328 ∧ (ex = false ∨ lb ≤ l.length) then
        some (.slice (some (.new h.nx 0)) (n + 1) (n + 1) false, (h.put j none).alloc (.cells (l.take i.toNat ++ x :: (l.take n).drop i.toNat) e))
      else none
    | _, _ => none
  | [.slice none 0 lb ex, .int .i64 i, .slice (some (.new q 0)) 1 mb mex] =>
    match h.get q with
    | some (.cells (x :: lv) tv) =>
      if tv = e ∧ i = 0 ∧ V.one x = true then
        some (.slice (some (.new h.nx 0)) 1 1 false, h.alloc (.cells [x] e))
      else none
    | _ => none
  | _ => none

theorem args3 {μ : Mu} {a b c : V} {args : Array Value} (h : VRL μ [a, b, c] args.toList) : ∃ x y z, args = #[x, y, z] ∧ VR μ a x ∧ VR μ b y ∧ VR μ c z := by
  simp only [VRL] at h
  obtain ⟨x, xs, e1, h1, y, ys, e2, h2, z, zs, e3, h3, e4⟩ := h
  subst e4; subst e3; subst e2
  exact ⟨x, y, z, by rw [← Array.toList_inj]; exact e1, h1, h2, h3⟩

theorem insAns_nx {e : TypeId} {args : List V} {h h' : H} {v : V} (hs : insAns e args h = some (v, h')) : h.nx ≤ h'.nx := by
  unfold insAns at hs
  split at hs
  · split at hs
    · split at hs
      · injection hs with hs; injection hs with e1 e2; subst e2
        simp
      · cases hs
    · cases hs
  · split at hs
    · split at hs
      · injection hs with hs; injection hs with e1 e2; subst e2
        simp
      · cases hs
    · cases hs
  · cases hs
end
end Go.Proofs.Ytcjmklbfaoionaa.Dg
