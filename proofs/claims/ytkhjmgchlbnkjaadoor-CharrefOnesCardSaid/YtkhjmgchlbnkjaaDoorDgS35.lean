import Derived.Test.YtkhjmgchlbnkjaaDoorDgS32
set_option linter.unusedVariables false
set_option linter.unusedSimpArgs false
namespace Go.Proofs.YtkhjmgchlbnkjaaDoor.Dg
open Go Go.RowKit
section
variable {α : Type} {f : α → List V} {z : Nat} {P : Program} {W : World}
theorem first_at {h : H} {size n q o : Nat} {l nc : List V} {t : TypeId} {len lb : Nat} {ex : Bool} (hg : h.get q = some (.cells l t)) (h0 : n * size ≠ 0) (hl : o + n * size ≤ l.length) (hc : (l.drop o).take (n * size) = nc) : firstCells W h size n (.slice (some (.new q o)) len lb ex) = some nc := by
 simp only [firstCells, ldCells, hg, if_neg h0, if_pos hl, hc]
theorem first_none {h : H} {size lb : Nat} {ex : Bool} : firstCells W h size 0 (.slice none 0 lb ex) = some [] := rfl
theorem app_exact {e t : TypeId} {size bytes n len lb o : Nat} {nc l oc r : List V} {h : H} {p : Nat} (hg : h.get p = some (.cells l t)) (hn : 0 < n) (hlb : lb < len + n) (hl : o + len * size ≤ l.length) (hoc : (l.drop o).take (len * size) = oc) (h1 : nc.length = n * size) (h2 : nc.all V.one = true) (h3 : (len + n) * bytes ≤ 140737488355328) (h4 : len + n ≤ 140737488355328) (hr : oc ++ nc = r) :
  appendTo W e size bytes (.slice (some (.new p o)) len lb true) n nc h = some (.slice (some (.new h.nx 0)) (len + n) (len + n) false, h.alloc (.cells r e)) := by
 subst hr
 simp only [appendTo]
 rw [if_pos ⟨h1, h2, h3, h4⟩, if_neg (by omega), if_neg (by omega)]
 simp only [if_true, ldCells]
 by_cases h0 : len * size = 0
 ·rw [if_pos h0]
  rw [h0] at hoc
  simp at hoc
  subst hoc
  rfl
 ·rw [if_neg h0, hg]
  simp only [if_pos hl, hoc]
theorem app_growR {e : TypeId} {size bytes n len lb : Nat} {nc l r : List V} {h : H} {p : Nat} (hg : h.get p = some (.cells l e)) (hn : 0 < n) (hlb : lb < len + n) (hl : len * size ≤ l.length) (h1 : nc.length = n * size) (h2 : nc.all V.one = true) (h3 : (len + n) * bytes ≤ 140737488355328) (h4 : len + n ≤ 140737488355328) (hr : l.take (len * size) ++ nc = r) :
  appendTo W e size bytes (.slice (some (.new p 0)) len lb false) n nc h = some (.slice (some (.new h.nx 0)) (len + n) (len + n) false, (h.put p none).alloc (.cells r e)) := by
 subst hr
 simp only [appendTo]
 rw [if_pos ⟨h1, h2, h3, h4⟩, if_neg (by omega), if_neg (by omega)]
 simp only [Bool.false_eq_true, if_false, hg, hl, and_self, if_true]
theorem app_room {e t : TypeId} {size bytes n len lb o : Nat} {nc l r : List V} {h : H} {p : Nat} {ex : Bool} (hg : h.get p = some (.cells l t)) (hn : 0 < n) (hlb : len + n ≤ lb) (hl : o + (len * size) + nc.length ≤ l.length) (h1 : nc.length = n * size) (h2 : nc.all V.one = true) (h3 : (len + n) * bytes ≤ 140737488355328) (h4 : len + n ≤ 140737488355328) (hr : splice l (o + len * size) nc = r) :
  appendTo W e size bytes (.slice (some (.new p o)) len lb ex) n nc h = some (.slice (some (.new p o)) (len + n) lb ex, h.put p (some (.cells r t))) := by
 subst hr
 simp only [appendTo]
 rw [if_pos ⟨h1, h2, h3, h4⟩, if_neg (by omega), if_pos hlb]
 simp only [Ad.add, stCells, hg, if_pos h2, if_pos hl]
theorem app_nilR {e : TypeId} {size bytes n : Nat} {nc : List V} {h : H} {lb : Nat} {ex : Bool} (hn : 0 < n) (h1 : nc.length = n * size) (h2 : nc.all V.one = true) (h3 : n * bytes ≤ 140737488355328) (h4 : n ≤ 140737488355328) :
  appendTo W e size bytes (.slice none 0 lb ex) n nc h = some (.slice (some (.new h.nx 0)) n n false, h.alloc (.cells nc e)) := by
 simp only [appendTo, Nat.zero_add]
 rw [if_pos ⟨h1, h2, h3, h4⟩, if_neg (by omega)]
 rfl
theorem rep_rv {d : α} {zc : List V} (hd : f d = zc) (n : Nat) : rep zc n = rv f (List.replicate n d) := by
 induction n with
 | zero => rfl
 | succ n ih => rw [List.replicate_succ, rv_cons, rep, ih, hd]
theorem make_rows {t e : TypeId} {n size bytes : Nat} {z0 : V} {d : α} {lo co : Operand} {env : List V} {h : H} (hl : ev env lo = some (.int .i64 (n : Int))) (hc : ev env co = some (.int .i64 (n : Int))) (hu : P.underlying t = some (.slice e)) (hs : sizeOf P e = some size) (hb : bytesOf P e = some bytes) (hz : zeroOf P e = some z0) (hzl : z0.cells.length = size) (hd : f d = z0.cells)
  (h3 : n * bytes ≤ 140737488355328) (h4 : n ≤ 140737488355328) : opStep P W (.makeSlice t lo co) env h = .val (.slice (some (.new h.nx 0)) n n true) (h.alloc (.cells (rv f (List.replicate n d)) e)) := by
 simp only [opStep, hl, hc, makeSlice, hu, hs, hb, hz, Int.toNat_natCast]
 rw [if_pos ⟨by omega, by omega, h3, by omega, hzl⟩, rep_rv hd]
 rfl
theorem splice_all {l cs : List V} (h : l.length = cs.length) : splice l 0 cs = cs := by
 unfold splice
 rw [List.take_zero, List.nil_append, List.drop_eq_nil_of_le (by omega), List.append_nil]
theorem copy_put {at0 at1 e t : TypeId} {size dl lb sl n i o : Nat} {ex : Bool} {x : V} {cs l r : List V} {xo yo : Operand} {env : List V} {h : H} (hd : ev env xo = some (.slice (some (.new i o)) dl lb ex)) (hx : ev env yo = some x) (hu : P.underlying at0 = some (.slice e)) (hs : sizeOf P e = some size) (hl : lenOf x = some sl) (hst : strSrc x = false) (hn : Nat.min sl dl = n)
  (hf : firstCells W h size n x = some cs) (h0 : n ≠ 0) (hg : h.get i = some (.cells l t)) (h1 : cs.all V.one = true) (hb : o + cs.length ≤ l.length) (hr : splice l o cs = r) :
  opStep P W (.call ⟨.builtin .copy, #[xo, yo], #[at0, at1]⟩) env h = .val (.int .i64 n) (h.put i (some (.cells r t))) := by
 subst hr
 simp only [opStep, evL, hd, hx, builtinOp, copyOp, hu, hs, hl, hn, hst]
 simp only [Bool.false_eq_true, false_implies, if_true, hf, if_neg h0, stCells, hg, h1, hb]
 rfl
theorem copy_zero {at0 at1 e : TypeId} {size dl lb sl : Nat} {ex : Bool} {x : V} {a : Option Ad} {cs : List V} {xo yo : Operand} {env : List V} {h : H} (hd : ev env xo = some (.slice a dl lb ex)) (hx : ev env yo = some x) (hu : P.underlying at0 = some (.slice e)) (hs : sizeOf P e = some size) (hl : lenOf x = some sl) (hst : strSrc x = false) (hn : Nat.min sl dl = 0)
  (hf : firstCells W h size 0 x = some cs) : opStep P W (.call ⟨.builtin .copy, #[xo, yo], #[at0, at1]⟩) env h = .val (.int .i64 0) h := by
 simp only [opStep, evL, hd, hx, builtinOp, copyOp, hu, hs, hl, hn, hst]
 simp only [Bool.false_eq_true, false_implies, if_true, hf]
 cases a <;> rfl
theorem Prims.addFrom (B : Base P) {prim prim2 : FuncId → Option (List V → H → Option (V × H))} (hp : Prims P W prim) (hp2 : Prims P W prim2) {f : FuncId} {p : List V → Option V} (hbody : ∃ fn c, P.funcs[f]? = some fn ∧ fn.body = some c)
  (hs : ∀ w, Below W.heap.size W w → ∀ args v, p args = some v → V.isOldL args = true ∧ v.isOld = true ∧ WpF P w prim f args H.empty (fun x _ => x = v)) : Prims P W (setPrim prim2 f p) := by
 intro w0 hb0
 have h0 := hp2 w0 hb0
 refine ⟨fun g q hg args h v h' hq μ w args' hr ha => ?_, fun g q hg => ?_, fun g q hg args h v h' hq => ?_⟩
 ·unfold setPrim at hg
  split at hg
  ·rename_i hgf
   subst hgf
   injection hg with hg; subst hg
   simp only at hq
   split at hq
   ·rename_i u hu
    injection hq with hq; injection hq with e1 e2; subst e1; subst e2
    have hbw : Below W.heap.size W w := hb0.trans (hr.below.mono hb0.size)
    obtain ⟨o1, o2, wp⟩ := hs w hbw args u hu
    obtain ⟨n, x, h'', hrun, rfl⟩ := wp.out
    refine ((run_ok B.mixed B.name (hp w hbw) n).1.call g args H.empty x h'' hrun (fun _ => Option.none) w args' empty_hr (VRL.old _ _ ha o1)).mono ?_
    rintro e w' ⟨μ', y, rfl, hv, k⟩
    have hall : ∀ b, b < w.heap.size → w'.heap[b]? = w.heap[b]? := fun b hb => k.frame b hb fun i o kk hi => (by rw [H.get_empty] at hi; cases hi)
    have hbelow : Below w0.heap.size w0 w' := hr.below.trans (k.hr.below.mono hr.below.size)
    refine ⟨μ, y, rfl, VR.old _ _ hv o2, hr.keep (Mu.le_refl _) (fun i hi => (hr.fresh i hi).1) hall hbelow, Mu.le_refl _, Nat.le_refl _, k.size, fun b hb _ => hall b hb, fun i o kk hi hk => .inr ⟨i, o, kk, hi, hk, rfl⟩, fun _ _ => rfl⟩
   ·cases hq
  ·exact h0.ok g q hg args h v h' hq μ w args' hr ha
 ·unfold setPrim at hg
  split at hg
  ·rename_i hgf; subst hgf; exact hbody
  ·exact h0.body g q hg
 ·unfold setPrim at hg
  split at hg
  ·injection hg with hg; subst hg
   simp only at hq
   split at hq
   ·injection hq with hq; injection hq with e1 e2; subst e2; exact Nat.le_refl _
   ·cases hq
  ·exact h0.nx g q hg args h v h' hq
variable {prim : FuncId → Option (List V → H → Option (V × H))}
end
end Go.Proofs.YtkhjmgchlbnkjaaDoor.Dg
