/-
  'taffraillaw06.CharrefOnes' answers true for every text; what came in reads as it did.
-/
import Derived.Test.YtkhjmgchlbnkjaaDoorRows
import Derived.Test.YtkhjmgchlbnkjaaDoorOY0
import Derived.Test.YtkhjmgchlbnkjaaDoorTie
import Derived.Test.YtkhjmgchlbnkjaaDoorCards
import Derived.ProofKit
import Derived.HandedShaped
import Derived.OpenShut
import Derived.LaidMore
import Derived.Lay
import Derived.SevenTiedAt
import Derived.Stop.Joined
set_option linter.unusedVariables false
set_option linter.unusedSimpArgs false
namespace Go.Proofs.YtkhjmgchlbnkjaaDoor
open Go Go.RowKit Go.WideShapes Go.ChangeShapes Go.ChangeAt
theorem charrefOnes_ownGo : ownKnob Tryd.prog.godebug = none := by kernel_rfl
theorem charrefOnes_laidGo : laidOutB Tryd.prog = true := by kernel_rfl
def charrefOnes_laidV : List (String × DataW Unit) := Rows.charrefOnesRow.laid
set_option maxRecDepth 100000 in
theorem charrefOnes_lifted (os : Os) (started : os.Started) (H : Type) (enc : TypeId × Value → H) :
    ReturnsInHanded {} Tryd.checked os 4 .any (fun w args => (Rows.charrefOnesSpec.pre enc Tryd.prog Tryd.f4 Rows.charrefOnesRow.domain false w args ∧ laidMetH Tryd.prog Rows.charrefOnesRow.laid w) ∧ sizedMet enc Tryd.prog Tryd.f4 (OpenSpec.ofChange Rows.charrefOnesSpec) false w args)
      (Rows.charrefOnesSpec.post enc Tryd.prog Tryd.f4 Rows.charrefOnesRow.apart Rows.charrefOnesRow.fresh Rows.charrefOnesRow.handsOn Rows.charrefOnesRow.again) := by
  refine returnsInHanded_of_calls charrefOnes_ownGo started (by kernel_rfl)
    (ChangeSpec.witness_shaped (enc := enc) (C := Tryd.checked) (os := os) (fn := Tryd.f4) (s := Rows.charrefOnesSpec) (conds := Rows.charrefOnesRow.domain) (apart := false) (X := fun w _ => laidMetH Tryd.prog Rows.charrefOnesRow.laid w) false (World.laidAll Tryd.prog os Rows.charrefOnesRow.laid) #[.string ⟨#[]⟩, .bool false] 8 (World.laidAll_os _ _ _)
      (World.shaped_of_ZipB (by kernel_rfl) (by kernel_rfl)) (by kernel_rfl) (by kernel_rfl) (by kernel_rfl)
      (by rw [MakeChecks.laidMetH_plain _ _ _ (by kernel_rfl)]; exact laidMet_laidAll _ (by kernel_rfl) (by kernel_rfl))) ?_
  intro w tape i _ hsh0 _ hok hpre hholds
  obtain ⟨_, _, _, fn', hfn', _, _, _, _, hval⟩ := hok
  have e : fn' = Tryd.f4 := Option.some.inj (hfn'.symm.trans Tryd.func4)
  subst e
  obtain ⟨⟨⟨ds, gs, before, hw, hc⟩, hx⟩, hz⟩ := hpre
  have hw' := DataW.Whole.of_heap (w' := w.forCall tape i) (by rfl) hw
  have contract : ∀ (W : World) (base : Nat) (args : Array Value) (ds gs : List (DataW H)) (before : List MemPlace),
      (∀ (j : Nat) t v, Tryd.f4.params[j]? = some t → args[j]? = some v → Value.okWide Tryd.prog W .any base t v) →
      DataW.Whole enc Tryd.prog Tryd.f4.params.toList Rows.charrefOnesSpec.vars false W args.toList ds gs before →
      (DataW.weightsEach Tryd.prog (Tryd.f4.params.toList ++ Rows.charrefOnesSpec.plain.varTypes Tryd.prog) (ds ++ gs)).all (· ≤ reachBytes) = true →
      W.ShapedOpen Tryd.prog →
      Calls Tryd.prog 4 args W fun e W' => ∃ v, e = .returned v ∧ Rows.charrefOnesSpec.post enc Tryd.prog Tryd.f4 Rows.charrefOnesRow.apart Rows.charrefOnesRow.fresh Rows.charrefOnesRow.handsOn Rows.charrefOnesRow.again W args v W' := ?_
  · refine (contract (w.forCall tape i) w.heap.size i.args ds gs before hval hw' (hz.weights hw) hsh0).mono fun e W' ⟨v, he, hp⟩ => ?_
    subst he
    exact ChangeSpec.post_blind hp
  intro W base args ds gs before hval hW hreach hsh
  refine Dg.law_contract (P := Tryd.prog) (prim := Dg.prim2) (fn := Tryd.f4) (t := 4) (ts := [4, 9]) Dg.base.mixed Dg.base.names (Dg.prim2s W (Dg.wok_of hsh) W (Below.refl _ _)) rfl ?_ rfl Tryd.underlying4 charrefOnes_laidGo (by kernel_rfl) (by kernel_rfl) ?_ hval hW hreach
  · intro ds hds
    match ds, hds with
    | [d0, d1], _ => rfl
  · intro l hl
    obtain ⟨x0, xs0, rfl, ⟨fuel0, hw0⟩, hs0, hl0⟩ := hl
    simp only [Tryd.underlying9] at hs0
    rw [hs0] at hw0
    obtain ⟨y0, rfl, k0⟩ := Dg.wf_strR Tryd.underlying9 hw0
    obtain ⟨x1, xs1, rfl, ⟨fuel1, hw1⟩, hs1, hl1⟩ := hl0
    simp only [Tryd.underlying4] at hs1
    rw [hs1] at hw1
    obtain ⟨y1, rfl, k1⟩ := Dg.wf_boolT Tryd.underlying4 hw1
    have hx : xs1 = [] := hl1
    subst hx
    obtain ⟨n, v, h', hr, rfl⟩ := (Dg.ones_ok (W := W) k0 k1).out
    exact ⟨n, h', hr⟩
theorem charrefOnes_holds0 : Rows.CharrefOnesSaid :=
  OpenClaim.holds_of_wide 4 Tryd.f4 rfl rfl rfl rfl rfl rfl rfl ⟨rfl, rfl, rfl, rfl, rfl⟩ rfl rfl rfl rfl rfl (by kernel_rfl) Tryd.func4 (by kernel_rfl)
    (of_decide_eq_true (by kernel_rfl)) (by unfold Func.isWrapper; first | (rw [if_pos (by decide +kernel)]; kernel_rfl) | (rw [if_neg (by decide +kernel)]; exact ⟨rfl, rfl⟩))
    (fun os started H enc _ => charrefOnes_lifted os started H enc)
theorem charrefOnes_holds : Rows.CharrefOnesCardSaid :=
  Claim7.holds_tied_plain_at .later [] [.data, .pinned] true (true, "eb05fdb028fb190ab49aeacdfa8876e87fe62d97cbd79137b2d398db56e9faa5") false charrefOnes_holds0 (fun _ h => by cases h) (by kernel_rfl) (fun _ h => by cases h) charrefOnes_row_tie rfl ⟨rfl, rfl⟩ (by kernel_rfl) rfl
    (fun f fn hf hfn => by
      obtain rfl : f = 4 := Option.some.inj ((show Tryd.prog.funcNamed "taffrail/taffraillaw06.CharrefOnes" = some 4 by kernel_rfl).symm.trans hf) |>.symm
      obtain rfl : fn = Tryd.f4 := (Option.some.inj (Tryd.func4.symm.trans hfn)).symm
      exact ⟨by kernel_rfl, fun j t ht => by
        rw [Tryd.params4] at ht
        have hm : t ∈ [9, 4] := by simpa using Array.mem_of_getElem? ht
        have hall : ([9, 4].all fun u => !Tryd.prog.wantsStandIn u) = true := by kernel_rfl
        exact (show Tryd.prog.wantsStandIn t = false by simpa using List.all_eq_true.1 hall t hm)⟩)
    (by kernel_rfl)
end Go.Proofs.YtkhjmgchlbnkjaaDoor
