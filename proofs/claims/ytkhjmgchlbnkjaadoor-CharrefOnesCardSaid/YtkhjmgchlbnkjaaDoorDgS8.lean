import Derived.Test.YtkhjmgchlbnkjaaDoorDgS7
set_option linter.unusedVariables false
set_option linter.unusedSimpArgs false
namespace Go.Proofs.YtkhjmgchlbnkjaaDoor.Dg
open Go Go.RowKit
theorem decode_eq (b : ByteArray) (pos : Nat) : Dg.decode (b.data.toList.drop pos) = Utf8.decode b pos := by
 have h1 : ∀ k, decAt (b.data.toList.drop pos) k = (b.get! (pos + k)).toNat := by
  intro k
  unfold decAt
  rw [List.getD_eq_getElem?_getD, List.getElem?_drop]
  show _ = (b.data[pos + k]!).toNat
  simp [Array.getElem!_eq_getD, Array.getD_eq_getD_getElem?]
  rfl
 have h2 : ∀ k, decide (k < (b.data.toList.drop pos).length) = decide (pos + k < b.size) := by
  intro k
  have : b.data.toList.length = b.size := by rw [Array.length_toList]; rfl
  rw [List.length_drop, this]
  congr 1
  apply propext
  omega
 unfold Dg.decode Utf8.decode
 simp only [h1, h2]
section
variable {P : Program} {W : World} {μ : Mu} {h : H} {w : World}
theorem next_spec (hr : HR P W μ h w) {it : V} {it' : Value} {ty : TypeId} {v : V} {h' : H} (hi : VR μ it it') (hs : nextOp it h = some (v, h')) : VOK P W μ h w (Instr.next it' true ty) v h' := by
 unfold nextOp at hs
 split at hs
 ·rename_i i
  split at hs
  ·rename_i s pos hg
   simp only [VR] at hi
   obtain ⟨a', rfl, k, hk, rfl⟩ := hi
   obtain ⟨k', hk', _, o', ho', hor⟩ := hr.obj i _ hg
   rw [hk] at hk'; injection hk' with hk'; subst hk'
   obtain ⟨b, rfl, rfl⟩ := hor
   have hlen : b.data.toList.length = b.size := by rw [Array.length_toList]; rfl
   rw [hlen] at hs
   split at hs
   ·rename_i hlt
    simp only at hs
    injection hs with hs
    injection hs with e1 e2
    subst e1; subst e2
    rw [decode_eq]
    refine ⟨μ, _, .tuple #[.bool true, goInt pos, .int .i32 (Utf8.decode b pos).1], ?_, ?_, Go1.setObj hr hg hk ho' (.siter b.data.toList (pos + (Utf8.decode b pos).2)) (.stringIter b (pos + (Utf8.decode b pos).2)) ⟨b, rfl, rfl⟩⟩
    ·simp [Instr.next, run_getObj_of ho' (by simp), hlt, run_setObj_of ho' (by simp)]
    ·simp only [VR]
     exact ⟨_, rfl, VRL.cons (VR.mk_bool _) (VRL.cons (VR.mk_int _ _) (VRL.cons (VR.mk_int _ _) VRL.nil))⟩
   ·rename_i hlt
    injection hs with hs
    injection hs with e1 e2
    subst e1; subst e2
    refine VOK.pure hr (x := .tuple #[.bool false]) ?_ (by simp only [VR]; exact ⟨_, rfl, VRL.cons (VR.mk_bool _) VRL.nil⟩)
    simp [Instr.next, run_getObj_of ho' (by simp), hlt]
  ·cases hs
 ·cases hs
theorem intsOf_spec : ∀ {l : List V} {s : List UInt8} {xs : List Value}, intsOf l = some s → VRL μ l xs → ∃ ns : List Int, xs = ns.map (Value.int .u8) ∧ s = ns.map fun n => UInt8.ofNat n.toNat
 | [], s, xs, h, hv => by
  simp only [intsOf] at h; injection h with h; subst h
  simp only [VRL] at hv; subst hv
  exact ⟨[], rfl, rfl⟩
 | v :: l, s, xs, h, hv => by
  cases v with
  | int k n =>
   cases k <;> simp only [intsOf] at h <;> (try (cases h; done))
   split at h
   ·rename_i s' hs'
    injection h with h; subst h
    simp only [VRL] at hv
    obtain ⟨x, xs', rfl, h1, h2⟩ := hv
    obtain ⟨ns, rfl, rfl⟩ := intsOf_spec hs' h2
    exact ⟨n :: ns, by rw [h1.int_of]; rfl, rfl⟩
   ·cases h
  | _ => simp [intsOf] at h
theorem convert_spec (hr : HR P W μ h w) {src dst : TypeId} {x : V} {x' : Value} {v : V} {h' : H} (hx : VR μ x x') (hs : Dg.convert P W src dst x h = some (v, h')) : VOK P W μ h w (Go.convert src dst x') v h' := by
 unfold Dg.convert at hs
 split at hs
 ·rename_i d k q n hus hud
  injection hs with hs
  injection hs with e1 e2
  subst e1; subst e2
  rw [hx.int_of]
  refine VOK.pure hr (x := .int k (k.wrap n)) ?_ (VR.mk_int _ _)
  simp [Go.convert, run_underlying hus, run_underlying hud, Conv.intToInt]
 ·rename_i d q n hus hud
  injection hs with hs
  injection hs with e1 e2
  subst e1; subst e2
  rw [hx.int_of]
  refine VOK.pure hr (x := .string (Utf8.encode n)) ?_ (VR.mk_str _)
  simp [Go.convert, run_underlying hus, run_underlying hud, Conv.intToString]
 ·rename_i d s hus hud
  injection hs with hs
  injection hs with e1 e2
  subst e1; subst e2
  have hx2 := hx
  simp only [VR] at hx; obtain ⟨b, rfl, _⟩ := hx
  refine VOK.pure hr (x := .string b) ?_ hx2
  simp [Go.convert, run_underlying hus, run_underlying hud]
 ·rename_i d e s hus hud
  split at hs
  ·rename_i hue hse
   injection hs with hs
   injection hs with e1 e2
   subst e1; subst e2
   simp only [VR] at hx; obtain ⟨b, rfl, rfl⟩ := hx
   have hbs : b.data.toList.length = b.size := by rw [Array.length_toList]; rfl
   obtain ⟨cap, hcap, hrunc⟩ : ∃ cap, b.size ≤ cap ∧ (choose (.appendCap b.size 0 e)).run P w = .ok cap { w with drawn := w.drawn + 1 } :=
    ⟨grownCap w b.size 0 e, grownCap_ge w b.size 0 e, by simp [Question.forced, grownCap]⟩
   obtain ⟨c, hc⟩ : ∃ c : Array Value, (b.data.map fun x => Value.int .u8 x.toNat) ++ Array.replicate (cap - b.size) (.int .u8 0) = c := ⟨_, rfl⟩
   have hcsz : c.size = cap := by rw [← hc]; simp; have : b.data.size = b.size := rfl; omega
   have hctl : c.toList.take b.data.toList.length = b.data.toList.map fun x => Value.int .u8 x.toNat := by
    rw [← hc, Array.toList_append, List.take_left' (by simp)]; simp
   have hvr : VRL μ (b.data.toList.map fun b => V.int .u8 b.toNat) (b.data.toList.map fun x => Value.int .u8 x.toNat) := by
    generalize b.data.toList = l
    induction l with
    | nil => exact VRL.nil
    | cons x l ih => exact VRL.cons (VR.mk_int _ _) ih
   let k : Bk := ⟨w.heap.size, c.size, 1⟩
   have hg := Go1.alloc (P := P) (W := W) (hr.drawn (w.drawn + 1)) (.cells (b.data.toList.map fun b => .int .u8 b.toNat) e) (.cells c e (c.size, c.size + 1)) k rfl
    ⟨c, _, rfl, rfl, .inr (Nat.le_refl _), by simp; rw [hcsz]; have : b.data.size = b.size := rfl; omega, ⟨cellsOf_of hse, .inr (.inl (by rw [hue]; simp))⟩, by
     rw [List.length_map, hctl]; exact hvr.mono (Mu.le_put _ (hr.fresh _ (Nat.le_refl _)).1)⟩
   refine ⟨_, _, .slice (some ⟨w.heap.size, 0, none⟩) b.size cap, ?_, ?_, Go1.of_drawn hg⟩
   ·have hfr : (World.freeze { w with heap := w.heap.push (.cells c e), drawn := w.drawn + 1 } ⟨w.heap.size, c.size, none⟩ 1) = { w with heap := w.heap.push (.cells c e (c.size, c.size + 1)), drawn := w.drawn + 1 } := by
     unfold World.freeze
     simp only [Nat.succ_ne_self, if_false, Nat.one_ne_zero]
     congr 1
     apply Array.ext
     ·simp
     ·intro i h1 h2
      simp only [Array.getElem_modify, Array.getElem_push]
      split
      ·rename_i hi
       subst hi
       simp
      ·rename_i hi
       have : i < w.heap.size := by simp at h2; omega
       simp [this]
    have hnr : (newRow e c).run P { w with drawn := w.drawn + 1 } = .ok ⟨w.heap.size, 0, none⟩ { w with heap := w.heap.push (.cells c e), drawn := w.drawn + 1 } := rfl
    have hmk : (markStringish ⟨w.heap.size, 0, none⟩).run P { w with heap := w.heap.push (.cells c e), drawn := w.drawn + 1 } = .ok () { w with heap := w.heap.push (.cells c e (c.size, c.size + 1)), drawn := w.drawn + 1 } := by
     rw [← hfr]
     simp [markStringish, World.shape?]
    simp only [Go.convert, Sem.run_bind, run_underlying hus, run_underlying hud, run_underlying hue, Result.andThen_ok, Conv.stringToBytes, hrunc, hc, hnr, hmk, Sem.run_pure]
   ·simp only [VR]
    refine ⟨_, cap, by rw [hbs], Nat.le_refl _, by omega, fun e => (by cases e), fun _ _ => ⟨k, Mu.put_same _ _ _, ?_⟩, .inl ⟨k, Mu.put_same _ _ _, rfl⟩⟩
    show cap * 1 ≤ c.size
    omega
  ·cases hs
 ·rename_i e ln lbn exn hus hud
  split at hs
  ·rename_i hue
   injection hs with hs
   injection hs with e1 e2
   subst e1; subst e2
   simp only [VR] at hx; obtain ⟨_, _, rfl⟩ := hx
   refine VOK.pure hr (x := .string .empty) ?_ (VR.mk_str _)
   exact run_convert_bytes_nil w src e hus hue 0 0 dst hud
  ·cases hs
 ·rename_i e a len lb ex hus hud
  split at hs
  ·rename_i hue
   split at hs
   ·rename_i l hl
    split at hs
    ·rename_i s hints
     injection hs with hs
     injection hs with e1 e2
     subst e1; subst e2
     simp only [VR] at hx
     obtain ⟨a', c, rfl, _, _, _, _, har⟩ := hx
     have ha : len = 0 ∨ AR μ a a' := by
      rcases har with h | ⟨h, _⟩
      ·exact .inr h
      ·exact .inl h
     obtain ⟨cs, hrun, hv, hsz⟩ := run_loadCells_spec hr ha hl
     obtain ⟨ns, hns, rfl⟩ := intsOf_spec hints hv
     have hcs : cs = (ns.map (Value.int .u8)).toArray := by rw [← hns]
     rw [hcs] at hrun
     refine VOK.pure hr (x := .string (ns.foldl (fun r n => r.push (UInt8.ofNat n.toNat)) ByteArray.empty)) ?_ ?_
     ·rw [run_convert_bytes_string w src dst e _ len c hus hue hud, run_bytesToString w a' len c ns hrun]
     ·simp only [VR]
      refine ⟨_, rfl, ?_⟩
      rw [foldl_push_bytes]
      simp [ByteArray.empty, ByteArray.emptyWithCapacity]
      rfl
    ·cases hs
   ·cases hs
  ·cases hs
 ·cases hs
end
end Go.Proofs.YtkhjmgchlbnkjaaDoor.Dg
