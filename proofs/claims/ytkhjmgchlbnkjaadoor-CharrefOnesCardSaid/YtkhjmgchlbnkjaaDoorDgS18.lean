import Derived.Test.YtkhjmgchlbnkjaaDoorDgS17
import Derived.LoopNIn
import Derived.Scope
import Derived.RangeFuncLeaves
set_option linter.unusedVariables false
set_option linter.unusedSimpArgs false
namespace Go.Proofs.YtkhjmgchlbnkjaaDoor.Dg
open Go Go.RowKit
section rules
variable {F : Fence} {n : Nat} {P : Program} {Q : Exit → Act → World → Prop} {a : Act} {w : World} {b : Frame} {k : List Item} {cs : List Frame}
theorem stepR_scope' {c : Code} : step P (lone (b.atR a (.code (.scope c) :: k)) cs w) = .next (lone (b.atR a (.code c :: .inScope c :: k)) cs w) :=
 step_lone_go (by simp [stepG, stepG.exec, Frame.atR])
theorem stepR_inScope' {c : Code} : step P (lone (b.atR a (.inScope c :: k)) cs w) = .next (lone (b.atR a k) cs w) :=
 step_lone_go (by simp [stepG, stepG.exec, Frame.atR])
theorem wpIn_scope' {c : Code} (h : c.wpIn F n P (Exit.noGoto Q) a w) : (Code.scope c).wpIn F n P Q a w := by
 intro b k cs hro hb hr
 have h0 : (lone (b.atR a (.code (.scope c) :: k)) cs w).fenced P F := fenced_calm hb hr rfl
 obtain ⟨e, a₁, w₁, hq, harr⟩ := h b (.inScope c :: k) cs hro hb hr
 cases e with
 | normal => exact ⟨.normal, a₁, w₁, hq, .head h0 stepR_scope' (StepsIn.trans harr (.one (fenced_calm hb hr rfl) stepR_inScope'))⟩
 | exit id =>
  have hx : exitTo id (.inScope c :: k) = exitTo id k := by simp [exitTo]
  exact ⟨.exit id, a₁, w₁, hq, fun k' hk => .head h0 stepR_scope' (harr.1 k' (by rw [hx]; exact hk)),
   fun hr' hk => let ⟨k₁, h1, h2⟩ := harr.2 hr' (by rw [hx]; exact hk); ⟨k₁, h1, .head h0 stepR_scope' h2⟩⟩
 | goto l => exact hq.elim
 | ret => exact ⟨_, a₁, w₁, hq, .of_steps (.one h0 stepR_scope') harr⟩
 | panic ch => exact ⟨_, a₁, w₁, hq, .of_steps (.one h0 stepR_scope') harr⟩
 | outgrown => exact ⟨_, a₁, w₁, hq, .of_steps (.one h0 stepR_scope') harr⟩
end rules
section
variable {P : Program} {W : World} {ih : IH}
def CodeOK (P : Program) (W : World) (f : St → Option (Ex × St)) (c : Code) (r : Option Nat) : Prop :=
 ∀ (st : St) (ex : Ex) (st' : St), f st = some (ex, st') → ∀ (μ : Mu) (w : World) (a : Act) (rr : Option Nat) (Q : Exit → Act → World → Prop),
  RR μ r rr → HR P W μ st.h w → AOK μ st.env st.ds a → (∀ μ' w' a', Go1 P W μ st.h w μ' st'.h w' → AOK μ' st'.env st'.ds a' → Q ex.to a' w') → c.wpIn (Wd rr) 0 P Q a w
theorem IHOK.codeOK (H0 : IHOK P W ih) (r : Option Nat) (c : Code) : CodeOK P W (ih.code r c) c r := fun st ex st' h => H0.code r c st ex st' h
theorem map_range (ops : Array Oper) : (List.range ops.size).map (ops[·]?) = ops.toList.map some := by
 apply List.ext_getElem?
 intro i
 simp only [List.getElem?_map, Array.getElem?_toList]
 rcases Nat.lt_or_ge i ops.size with h | h
 ·simp [h]
 ·simp [h, Array.getElem?_eq_none h]
theorem seq_ok {r : Option Nat} {x y : Code} {f g : St → Option (Ex × St)} (hf : CodeOK P W f x r) (hg : CodeOK P W g y r) :
  CodeOK P W (fun st => match f st with | some (.norm, st') => g st' | u => u) (.seq x y) r := by
 intro st ex st' hs μ w a rr Q hrr hr ha hQ
 refine wpIn_seq ?_
 dsimp only at hs
 split at hs
 ·rename_i st1 h1
  refine hf st .norm st1 h1 μ w a rr _ hrr hr ha fun μ1 w1 a1 g1 k1 => ?_
  exact hg st1 ex st' hs μ1 w1 a1 rr Q (hrr.mono g1.mono) g1.hr k1 fun μ2 w2 a2 g2 k2 => hQ μ2 w2 a2 (g1.trans g2) k2
 ·rename_i hne
  refine hf st ex st' hs μ w a rr _ hrr hr ha fun μ1 w1 a1 g1 k1 => ?_
  have := hQ μ1 w1 a1 g1 k1
  cases ex with
  | norm => exact absurd hs (hne st')
  | ret => exact this
  | exit id => exact this
theorem block_ok {r : Option Nat} {x : Code} {id : Nat} {f : St → Option (Ex × St)} (hf : CodeOK P W f x r) :
  CodeOK P W (fun st => match f st with | some (.exit i, st') => if i = id then some (.norm, st') else some (.exit i, st') | u => u) (.block id x) r := by
 intro st ex st' hs μ w a rr Q hrr hr ha hQ
 refine wpIn_block ?_
 dsimp only at hs
 split at hs
 ·rename_i i st1 h1
  refine hf st (.exit i) st1 h1 μ w a rr _ hrr hr ha fun μ1 w1 a1 g1 k1 => ?_
  simp only [Ex.to, Exit.inBlock]
  split at hs
  ·rename_i hi
   injection hs with hs; injection hs with e1 e2; subst e1; subst e2
   rw [if_pos hi]
   exact hQ μ1 w1 a1 g1 k1
  ·rename_i hi
   injection hs with hs; injection hs with e1 e2; subst e1; subst e2
   rw [if_neg hi]
   exact hQ μ1 w1 a1 g1 k1
 ·rename_i hne
  refine hf st ex st' hs μ w a rr _ hrr hr ha fun μ1 w1 a1 g1 k1 => ?_
  have := hQ μ1 w1 a1 g1 k1
  cases ex with
  | norm => exact this
  | ret => exact this
  | exit i => exact absurd hs (hne i st')
theorem loop_ok {r : Option Nat} {x : Code} {f : St → Option (Ex × St)} (hf : CodeOK P W f x r) (k : Nat) : CodeOK P W (loopGo f k) (.loop x) r := by
 intro st ex st' hs μ w a rr Q hrr hr ha hQ
 refine wpIn_loop_rounds k ?_
 induction k generalizing st μ w a with
 | zero => cases hs
 | succ k ihk =>
  rw [roundsIn_succ]
  have hs : (match f st with | some (.norm, st') => loopGo f k st' | u => u) = some (ex, st') := hs
  split at hs
  ·rename_i st1 h1
   refine hf st .norm st1 h1 μ w a rr _ hrr hr ha fun μ1 w1 a1 g1 k1 => ?_
   exact ihk st1 hs μ1 w1 a1 (hrr.mono g1.mono) g1.hr k1 (fun μ2 w2 a2 g2 k2 => hQ μ2 w2 a2 (g1.trans g2) k2)
  ·rename_i hne
   refine hf st ex st' hs μ w a rr _ hrr hr ha fun μ1 w1 a1 g1 k1 => ?_
   have := hQ μ1 w1 a1 g1 k1
   cases ex with
   | norm => exact absurd hs (hne st')
   | ret => exact this
   | exit id => exact this
theorem world_alloc (w : World) (o : Obj) : w.alloc o = { w with heap := w.heap.push o } := rfl
theorem range_ok (H0 : IHOK P W ih) {r : Option Nat} {g : Operand} {ps : Array Tmp} {assign body : Code} : CodeOK P W (doRange ih r g ps assign body) (.rangeFunc g ps assign body) r := by
 intro st ex st' hs μ w a rr Q hrr hr ha hQ
 unfold doRange at hs
 split at hs
 ·rename_i gf cap hg
  have hgv := ev_spec ha.env hg
  simp only [VR] at hgv
  obtain ⟨c, hc, hcap⟩ := hgv
  dsimp only at hs
  split at hs
  ·cases hs
  ·rename_i d ds h1 hstart
   split at hs
   ·rename_i u h3 hcall
    refine wpIn_rangeFunc fun fn _ => ?_
    obtain ⟨fnc, cb, hf, hb, hn⟩ := H0.body _ _ _ _ _ hcall
    -- the loop's record
    have enter : ∃ (lw : Nat) (mark : List Deferred) (w1 : World) (μ1 : Mu) (kl : Bk),
      (Instr.enterLoop fn a.tmps ps assign body (Wd rr).round).run P w = .ok (lw, mark) w1 ∧ Go1 P W μ st.h w μ1 (h1.alloc (.loop st.env ps assign body .ready none d)) w1 ∧
      μ1 h1.nx = some kl ∧ kl.b = lw ∧ DR μ1 ds (mark ++ a.defers) := by
     cases r with
     | none =>
      have hrr' : rr = none := hrr
      subst hrr'
      dsimp only at hstart
      injection hstart with e; injection e with e1 e2; injection e2 with e2 e3
      subst e1; subst e2; subst e3
      have g1 := Go1.alloc hr .dfr (.deferred (some [])) ⟨w.heap.size, 0, 0⟩ rfl rfl
      have hkd : (μ.put st.h.nx ⟨w.heap.size, 0, 0⟩) st.h.nx = some ⟨w.heap.size, 0, 0⟩ := Mu.put_same _ _ _
      have g2 := Go1.alloc g1.hr (.loop st.env ps assign body .ready none st.h.nx) (.loop ⟨.ready, none, fn, a.tmps, ps, assign, body, w.heap.size⟩) ⟨w.heap.size + 1, 0, 0⟩ (by simp)
       ⟨fn, a.tmps, ⟨w.heap.size, 0, 0⟩, rfl, (ha.env.mono g1.mono).mono (Mu.le_put _ (g1.hr.fresh _ (Nat.le_refl _)).1), Mu.le_put _ (g1.hr.fresh _ (Nat.le_refl _)).1 _ _ hkd⟩
      refine ⟨_, _, _, _, ⟨w.heap.size + 1, 0, 0⟩, run_enterLoop_outer fn a.tmps ps assign body, g1.trans g2, Mu.put_same _ _ _, rfl, ?_⟩
      exact ⟨⟨w.heap.size, 0, 0⟩, a.defers, g2.mono _ _ hkd, rfl, (ha.ds.mono g1.mono).mono g2.mono⟩
     | some l =>
      obtain ⟨k, hk, rfl⟩ := hrr
      dsimp only at hstart
      split at hstart
      ·rename_i t1 t2 t3 t4 t5 t6 d' hl
       injection hstart with e; injection e with e1 e2; injection e2 with e2 e3
       subst e1; subst e2; subst e3
       obtain ⟨fn0, tm0, kd, hL, htm, hkd⟩ := loop_of hr hl hk
       have g2 := Go1.alloc hr (.loop st.env ps assign body .ready none d') (.loop ⟨.ready, none, fn, a.tmps, ps, assign, body, kd.b⟩) ⟨w.heap.size, 0, 0⟩ rfl
        ⟨fn, a.tmps, kd, rfl, ha.env.mono (Mu.le_put _ (hr.fresh _ (Nat.le_refl _)).1), Mu.le_put _ (hr.fresh _ (Nat.le_refl _)).1 _ _ hkd⟩
       refine ⟨_, _, _, _, ⟨w.heap.size, 0, 0⟩, run_enterLoop_inner hL fn a.tmps ps assign body, g2, Mu.put_same _ _ _, rfl, ?_⟩
       exact ha.ds.mono g2.mono
      ·cases hstart
    obtain ⟨lw, mark, w1, μ1, kl, he, g1, hkl, hlw, hdr⟩ := enter
    refine ⟨lw, mark, w1, { target := .fn (.func gf) c, args := #[.func (.yield lw) #[] #[]] }, w1, gf, (#[Value.func (.yield lw) #[] #[]] ++ c), w1, he, ?_, fun _ _ => trivial, ?_, fun h => (by cases h), ?_⟩
    ·simp only [resolve, hc]
     simp [go_sem]
    ·simp [invoke, go_sem, callFunc, hf, hn, hb]
    ·have hargs : VRL μ1 (.yld h1.nx :: cap) (#[Value.func (.yield lw) #[] #[]] ++ c).toList := by
      simp only [Array.toList_append, List.cons_append, List.nil_append]
      refine VRL.cons ?_ (hcap.mono g1.mono)
      simp only [VR]
      exact ⟨kl, hkl, by rw [hlw]⟩
     refine (callsIn_Wd (H0.call _ _ _ _ _ hcall μ1 w1 _ g1.hr hargs)).mono ?_
     rintro e w3 ⟨μ3, x, rfl, _, g3⟩
     have gg := g1.trans g3
     have hkl3 := g3.mono _ _ hkl
     split at hs
     ·rename_i sa sb sc se sg hg3
      injection hs with hs; injection hs with e1 e2; subst e1; subst e2
      obtain ⟨fn3, tm3, kd3, hL3, htm3, hkd3⟩ := loop_of g3.hr hg3 hkl3
      have g4 := go1_setObj g3.hr hg3 hkl3 hL3 (.loop sa sb sc se .exhausted none sg) (.loop ⟨.exhausted, none, fn3, tm3, sb, sc, se, kd3.b⟩) ⟨fn3, tm3, kd3, rfl, htm3, hkd3⟩
      refine ⟨none, _, by rw [← hlw]; exact run_endLoop hL3 (by simp), ?_⟩
      refine hQ _ _ _ (gg.trans g4) ⟨?_, ?_⟩
      ·exact (ha.env.mono gg.mono).mono g4.mono
      ·exact (hdr.mono g3.mono).mono g4.mono
     ·rename_i sa sb sc se j sg hg3
      obtain ⟨fn3, tm3, kd3, hL3, htm3, hkd3⟩ := loop_of g3.hr hg3 hkl3
      have g4 := go1_setObj g3.hr hg3 hkl3 hL3 (.loop sa sb sc se .exhausted (some j) sg) (.loop ⟨.exhausted, some j, fn3, tm3, sb, sc, se, kd3.b⟩) ⟨fn3, tm3, kd3, rfl, htm3, hkd3⟩
      refine ⟨some j, _, by rw [← hlw]; exact run_endLoop hL3 (by simp), ?_⟩
      refine H0.code r j _ ex st' hs _ _ _ rr Q ((hrr.mono gg.mono).mono g4.mono) g4.hr ⟨(ha.env.mono gg.mono).mono g4.mono, (hdr.mono g3.mono).mono g4.mono⟩ fun μ5 w5 a5 g5 k5 => ?_
      exact hQ μ5 w5 a5 ((gg.trans g4).trans g5) k5
     ·cases hs
   ·cases hs
 ·cases hs
theorem codeStep_ok (hm : P.follows .mixedOrders = true) (H0 : IHOK P W ih) (N : NX ih) (k : Nat) (r : Option Nat) (c : Code) : CodeOK P W (codeStep P W k ih r c) c r := by
 cases c with
 | skip =>
  intro st ex st' hs μ w a rr Q hrr hr ha hQ
  simp only [codeStep] at hs; injection hs with hs; injection hs with e1 e2; subst e1; subst e2
  exact wpIn_skip (hQ μ w a (Go1.refl hr) ha)
 | label l =>
  intro st ex st' hs μ w a rr Q hrr hr ha hQ
  simp only [codeStep] at hs; injection hs with hs; injection hs with e1 e2; subst e1; subst e2
  exact wpIn_label (hQ μ w a (Go1.refl hr) ha)
 | region id ops dr =>
  intro st ex st' hs μ w a rr Q hrr hr ha hQ
  cases dr with
  | false =>
   simp only [codeStep] at hs
   split at hs
   ·rename_i st1 h1
    injection hs with hs; injection hs with e1 e2; subst e1; subst e2
    exact wpIn_region (ops_wpIn H0 ops rr ops.toList (List.range ops.size) st st1 (map_range ops) h1 μ w a hr ha hQ)
   ·cases hs
  | true =>
   simp only [codeStep] at hs
   split at hs
   ·rename_i st1 h1
    injection hs with hs; injection hs with e1 e2; subst e1; subst e2
    exact draw_wpIn hm H0 N h1 rr hr ha hQ
   ·cases hs
 | seq x y => exact seq_ok (H0.codeOK r x) (H0.codeOK r y)
 | cond o x y =>
  intro st ex st' hs μ w a rr Q hrr hr ha hQ
  simp only [codeStep] at hs
  split at hs
  ·rename_i t ht
   refine wpIn_cond (t := t) ((ev_spec ha.env ht).bool_of) ?_
   exact H0.code r _ st ex st' hs μ w a rr Q hrr hr ha hQ
  ·cases hs
 | block id x => exact block_ok (H0.codeOK r x)
 | loop x => exact loop_ok (H0.codeOK r x) k
 | rangeFunc g ps assign body => exact range_ok H0
 | exit id =>
  intro st ex st' hs μ w a rr Q hrr hr ha hQ
  simp only [codeStep] at hs; injection hs with hs; injection hs with e1 e2; subst e1; subst e2
  exact wpIn_exit (hQ μ w a (Go1.refl hr) ha)
 | scope x =>
  intro st ex st' hs μ w a rr Q hrr hr ha hQ
  simp only [codeStep] at hs
  refine wpIn_scope' (H0.code r x st ex st' hs μ w a rr _ hrr hr ha fun μ1 w1 a1 g1 k1 => ?_)
  have := hQ μ1 w1 a1 g1 k1
  cases ex <;> exact this
 | ret =>
  intro st ex st' hs μ w a rr Q hrr hr ha hQ
  simp only [codeStep] at hs; injection hs with hs; injection hs with e1 e2; subst e1; subst e2
  exact wpIn_ret (hQ μ w a (Go1.refl hr) ha)
 | goto l => intro st ex st' hs; simp only [codeStep] at hs; cases hs
 | refuse m => intro st ex st' hs; simp only [codeStep] at hs; cases hs
end
end Go.Proofs.YtkhjmgchlbnkjaaDoor.Dg
