import Derived.Test.YtkhjmgchlbnkjaaDoorDgS5
import Derived.Deep.Upon
set_option linter.unusedVariables false
set_option linter.unusedSimpArgs false
namespace Go.Proofs.YtkhjmgchlbnkjaaDoor.Dg
open Go Go.RowKit
theorem Tr.set_set (p : List Bool) : ∀ (t : Tr) (v u : Option AO), (t.set p v).set p u = t.set p u := by
 induction p with
 | nil => intro t v u; cases t <;> rfl
 | cons b p ih => intro t v u; cases t <;> cases b <;> simp [Tr.set, ih]
theorem H.put_put (h : H) (i : Nat) (o p : Option AO) : (h.put i o).put i p = h.put i p := by simp [H.put, Tr.set_set]
section
variable {P : Program} {W : World} {μ : Mu} {h : H} {w : World}
theorem Go1.move (hr : HR P W μ h w) {i : Nat} {o : AO} {k : Bk} (hi : h.get i = some o) (hk : μ i = some k) :
  Go1 P W μ h w (μ.put h.nx k) ((h.put i none).alloc o) w := by
 have hle : μ.le (μ.put h.nx k) := Mu.le_put k (hr.fresh _ (Nat.le_refl _)).1
 have hinx : i ≠ h.nx := fun e => by rw [e, (hr.fresh _ (Nat.le_refl _)).2] at hi; cases hi
 have hold : ∀ j x, ((h.put i none).alloc o).get j = some x → j ≠ h.nx → h.get j = some x ∧ j ≠ i := fun j x hj hne => by
  rw [H.get_alloc_ne _ _ (Ne.symm (by simpa using hne))] at hj
  by_cases e : j = i
  ·subst e; rw [H.get_put_same] at hj; cases hj
  ·rw [H.get_put_ne h _ (Ne.symm e)] at hj; exact ⟨hj, e⟩
 have hnew : ((h.put i none).alloc o).get h.nx = some o := by
  have := H.get_alloc_same (h.put i none) o
  simpa using this
 obtain ⟨k0, hk0, hWk, o', ho', hor⟩ := hr.obj i o hi
 rw [hk] at hk0; injection hk0 with hk0; subst hk0
 refine ⟨⟨fun j x hj => ?_, fun j l oj ol kj kl hj hl hkj hkl e => ?_, fun j hj => ?_, hr.below⟩, hle, by simp, Nat.le_refl _, fun _ _ _ => rfl, fun j x kj hj hkj => ?_, fun j hj => Mu.put_ne _ _ (Nat.ne_of_lt hj)⟩
 ·by_cases e : j = h.nx
  ·subst e
   rw [hnew] at hj; injection hj with hj; subst hj
   exact ⟨k, Mu.put_same _ _ _, hWk, o', ho', hor.mono hle⟩
  ·obtain ⟨hj', _⟩ := hold j x hj e
   obtain ⟨k', hk', hW, x', hx', hor'⟩ := hr.obj j x hj'
   exact ⟨k', hle _ _ hk', hW, x', hx', hor'.mono hle⟩
 ·by_cases ej : j = h.nx <;> by_cases el : l = h.nx
  ·rw [ej, el]
  ·subst ej
   rw [Mu.put_same] at hkj; injection hkj with hkj; subst hkj
   rw [Mu.put_ne _ _ el] at hkl
   obtain ⟨hl', hli⟩ := hold l ol hl el
   exact absurd (hr.inj l i ol o kl k hl' hi hkl hk e.symm) hli
  ·subst el
   rw [Mu.put_same] at hkl; injection hkl with hkl; subst hkl
   rw [Mu.put_ne _ _ ej] at hkj
   obtain ⟨hj', hji⟩ := hold j oj hj ej
   exact absurd (hr.inj j i oj o kj k hj' hi hkj hk e) hji
  ·rw [Mu.put_ne _ _ ej] at hkj
   rw [Mu.put_ne _ _ el] at hkl
   exact hr.inj j l oj ol kj kl (hold j oj hj ej).1 (hold l ol hl el).1 hkj hkl e
 ·have h1 : h.nx + 1 ≤ j := hj
  refine ⟨?_, ?_⟩
  ·rw [Mu.put_ne _ _ (by omega)]; exact (hr.fresh j (by omega)).1
  ·rw [H.get_alloc_ne _ _ (by simp; omega)]
   by_cases e : j = i
   ·subst e; exact H.get_put_same ..
   ·rw [H.get_put_ne h _ (Ne.symm e)]; exact (hr.fresh j (by omega)).2
 ·by_cases e : j = h.nx
  ·subst e
   rw [Mu.put_same] at hkj; injection hkj with hkj; subst hkj
   exact .inr ⟨i, o, k, hi, hk, rfl⟩
  ·rw [Mu.put_ne _ _ e] at hkj
   exact .inr ⟨j, x, kj, (hold j x hj e).1, hkj, rfl⟩
theorem Go1.change_move (hr : HR P W μ h w) {i : Nat} {o : AO} {k : Bk} (hi : h.get i = some o) (hk : μ i = some k) (o2 : AO) (o' : Obj) (w' : World)
  (hw : w'.heap[k.b]? = some o') (hsz : w'.heap.size = w.heap.size) (hoth : ∀ b, b ≠ k.b → w'.heap[b]? = w.heap[b]?) (hos : w'.os = w.os) (htp : w'.tape = w.tape) (hout : w'.output = w.output)
  (ho : OR P μ o2 k o') : Go1 P W μ h w (μ.put h.nx k) ((h.put i none).alloc o2) w' := by
 have g1 := Go1.change hr hi hk o2 o' w' hw hsz hoth hos htp hout ho
 have g2 := Go1.move g1.hr (i := i) (o := o2) (k := k) (H.get_put_same ..) hk
 have := g1.trans g2
 rw [H.put_put] at this
 exact this
theorem src_spec (hr : HR P W μ h w) {at1 : TypeId} {size n : Nat} {x : V} {x' : Value} {nc : List V} (hx : VR μ x x') (hk : srcOk P at1 size x = true) (hl : lenOf x = some n) (hc : firstCells W h size n x = some nc) (h1 : nc.all V.one = true) :
  ∃ news : List Value, Src P size at1 x' n news w ∧ VRL μ nc news := by
 unfold srcOk at hk
 split at hk
 ·rename_i e a len lb ex hu
  simp only [lenOf] at hl; injection hl with hl; subst hl
  cases a with
  | none =>
   simp only [VR] at hx; obtain ⟨rfl, rfl, rfl⟩ := hx
   simp only [firstCells, if_true] at hc
   injection hc with hc; subst hc
   exact ⟨[], Src.ofNil w hu 0, VRL.nil⟩
  | some a =>
   simp only [VR] at hx
   obtain ⟨a', c, rfl, _, _, _, _, har⟩ := hx
   simp only [firstCells] at hc
   have ha : len * size = 0 ∨ AR μ a a' := by
    rcases har with h | ⟨h, _⟩
    ·exact .inr h
    ·exact .inl (by rw [h, Nat.zero_mul])
   obtain ⟨xs, e1, e2, e3⟩ := ldCells_spec hr ha hc
   exact ⟨xs, Src.ofSlice w hu a' len c xs e1 e3 (VRL.one e2 h1), e2⟩
 ·rename_i s hu
  simp only [lenOf] at hl; injection hl with hl; subst hl
  simp only [firstCells, List.take_length] at hc
  injection hc with hc; subst hc
  simp only [VR] at hx
  obtain ⟨b, rfl, rfl⟩ := hx
  have hs1 : size = 1 := by simpa using hk
  subst hs1
  have hsz : b.data.toList.length = b.size := by rw [Array.length_toList]; rfl
  rw [hsz]
  refine ⟨byteCells b, Src.ofString w hu b, ?_⟩
  unfold byteCells
  generalize b.data.toList = l
  induction l with
  | nil => exact VRL.nil
  | cons x l ih => exact VRL.cons (VR.mk_int _ _) ih
 ·cases hk
theorem zeroCells_size (z : Array Value) (n : Nat) : (Builtin.zeroCells z n).size = n * z.size := by simp [Builtin.zeroCells]
theorem run_info {e : TypeId} {size bytes : Nat} {z : V} (hs : sizeOf P e = some size) (hb : bytesOf P e = some bytes) (hz : zeroOf P e = some z) :
  ∃ (i : TypeInfo) (zv : Value), P.info? e = some i ∧ i.size = size ∧ i.bytes = bytes ∧ i.zero = some zv ∧ ∀ μ, VR μ z zv := by
 obtain ⟨i, hi, hib⟩ := bytesOf_spec hb
 unfold sizeOf at hs
 rw [hi] at hs
 simp at hs
 unfold zeroOf at hz
 rw [hi] at hz
 simp only [Option.bind_some] at hz
 cases hzz : i.zero with
 | none => rw [hzz] at hz; cases hz
 | some zv => rw [hzz] at hz; exact ⟨i, zv, hi, hs, hib, hzz, fun μ => lift_VR μ hz⟩
theorem append_grow (hr : HR P W μ h w) {at0 at1 ty e : TypeId} {i : TypeInfo} {zv : Value} (hu : P.underlying at0 = some (.slice e)) (hi : P.info? e = some i) (hz : i.zero = some zv) (hzs : zv.cells.size = i.size)
  {base : Option Addr} {len c n : Nat} {oc nc : List V} {olds news : List Value} {x' : Value} (hold : (Builtin.firstCells i.size len (.slice base len c)).run P w.drew = .ok olds.toArray w.drew) (hol : olds.length = len * i.size)
  (hs : Src P i.size at1 x' n news w) (hvo : VRL μ oc olds) (hvn : VRL μ nc news) (hg : c < len + n) (h63 : len + n ≤ 140737488355328) (hb : (len + n) * i.bytes ≤ 140737488355328) :
  VOK P W μ h w (Builtin.append_ #[at0, at1] ty #[.slice base len c, x']) (.slice (some (.new h.nx 0)) (len + n) (len + n) false) (h.alloc (.cells (oc ++ nc) e)) := by
 have hrun := run_append_grow_src w at0 at1 ty e i zv hu hi hz base len c olds hold x' n news hs hg (by omega) (growslice_fits hg hb)
 have hge := grownCap_ge w (len + n) c e
 let k : Bk := ⟨w.heap.size, ((olds ++ news).toArray ++ Builtin.zeroCells zv.cells (grownCap w (len + n) c e - (len + n))).size, i.size⟩
 have hcs : P.cellsOf e = i.size := by simp [Program.cellsOf, hi]
 have hle : μ.le (μ.put h.nx k) := Mu.le_put _ (hr.fresh _ (Nat.le_refl _)).1
 have hvv := hvo.append hvn
 have hlen := hvv.length
 have hr' : HR P W μ h w.drew := hr.drawn (w.drawn + 1)
 have hg1 := Go1.alloc hr' (.cells (oc ++ nc) e) (.cells ((olds ++ news).toArray ++ Builtin.zeroCells zv.cells (grownCap w (len + n) c e - (len + n))) e) k rfl (by
  refine ⟨_, (0, 0), rfl, rfl, .inl rfl, ?_, ⟨hcs, ?_⟩, ?_⟩
  ·simp at hlen ⊢; omega
  ·by_cases hi1 : i.size = 1
   ·refine .inl ⟨rfl, ?_⟩
    have hnl := hs.newsLen
    have hgm : grownCap w (len + n) c e ≤ 9223372036854775807 := grownCap_le_maxLen w (len + n) c e (by unfold maxLen; omega)
    show ((olds ++ news).toArray ++ Builtin.zeroCells zv.cells (grownCap w (len + n) c e - (len + n))).size ≤ 9223372036854775807
    rw [Array.size_append, zeroCells_size, hzs]
    simp only [List.size_toArray, List.length_append, hol, hnl, hi1]
    omega
   ·exact .inr (.inr hi1)
  ·have : ((olds ++ news).toArray ++ Builtin.zeroCells zv.cells (grownCap w (len + n) c e - (len + n))).toList.take (oc ++ nc).length = olds ++ news := by
    rw [hlen, Array.toList_append, List.toList_toArray, List.take_left' rfl]
   rw [this]
   exact hvv.mono hle)
 refine ⟨_, _, _, hrun, ?_, Go1.of_drawn (n := w.drawn + 1) hg1⟩
 simp only [VR]
 refine ⟨_, _, rfl, Nat.le_refl _, hge, fun e => (by cases e), fun _ _ => ⟨k, Mu.put_same _ _ _, ?_⟩, .inl ⟨k, Mu.put_same _ _ _, rfl⟩⟩
 show grownCap w (len + n) c e * i.size ≤ ((olds ++ news).toArray ++ Builtin.zeroCells zv.cells (grownCap w (len + n) c e - (len + n))).size
 rw [Array.size_append, zeroCells_size, hzs]
 have hnl := hs.newsLen
 simp only [List.size_toArray, List.length_append, hol, hnl]
 rw [← Nat.add_mul, ← Nat.add_mul]
 exact Nat.mul_le_mul_right _ (by omega)
theorem append_spec (hr : HR P W μ h w) {at0 at1 ty : TypeId} {s x : V} {s' x' : Value} {v : V} {h' : H} (hs : VR μ s s') (hx : VR μ x x') (hap : appendOp P W at0 at1 s x h = some (v, h')) :
  VOK P W μ h w (Builtin.append_ #[at0, at1] ty #[s', x']) v h' := by
 unfold appendOp at hap
 split at hap
 ·rename_i e hu
  split at hap
  ·rename_i size bytes z hsz hby hz
   split at hap
   ·rename_i n hn
    split at hap
    ·rename_i hsrc
     split at hap
     ·rename_i nc hnc
      obtain ⟨i, zv, hi, rfl, rfl, hzv, hvz⟩ := run_info hsz hby hz
      have hzs : zv.cells.size = i.size := by rw [(hvz μ).cells_size]; exact hsrc.2
      unfold appendTo at hap
      split at hap
      ·rename_i base len lb ex
       split at hap
       ·rename_i hcond
        obtain ⟨hcl, hone, hbytes, hmax⟩ := hcond
        obtain ⟨news, hsr, hvn⟩ := src_spec hr hx hsrc.1 hn hnc hone
        split at hap
        ·-- nothing is appended
         rename_i hn0
         subst hn0
         injection hap with hap
         injection hap with e1 e2
         subst e1; subst e2
         have hnews : news = [] := List.eq_nil_of_length_eq_zero (by have := hsr.newsLen; simpa using this)
         subst hnews
         cases base with
         | none =>
          have hs2 := hs
          simp only [VR] at hs; obtain ⟨rfl, rfl, rfl⟩ := hs
          exact VOK.pure hr (run_append_nothing w at0 at1 ty e i hu hi none 0 0 (Nat.le_refl _) x' hsr) hs2
         | some a =>
          have hs2 := hs
          simp only [VR] at hs; obtain ⟨a', c, rfl, h1, h2, _⟩ := hs
          exact VOK.pure hr (run_append_nothing w at0 at1 ty e i hu hi (some a') len c (by omega) x' hsr) hs2
        ·rename_i hn0
         split at hap
         ·-- onto none
          split at hap
          ·rename_i hl0
           subst hl0
           injection hap with hap
           injection hap with e1 e2
           subst e1; subst e2
           simp only [VR] at hs; obtain ⟨_, rfl, rfl⟩ := hs
           have := append_grow hr (ty := ty) hu hi hzv hzs (base := none) (len := 0) (c := 0) (oc := []) (olds := []) (by simpa using run_firstCells_none w.drew i.size 0 0 0) (by simp) hsr VRL.nil hvn (by omega) (by omega) hbytes
           simpa using this
          ·cases hap
         ·rename_i a
          simp only [VR] at hs
          obtain ⟨a', c, rfl, hll, hlc, hex, hsb, har⟩ := hs
          split at hap
          ·-- there is room, for certain
           rename_i hroom
           split at hap
           ·rename_i h2 hst
            injection hap with hap
            injection hap with e1 e2
            subst e1; subst e2
            have ha : AR μ a a' := by
             rcases har with h | ⟨_, h⟩
             ·exact h
             ·omega
            obtain ⟨w', hrun, hg⟩ := stCells_spec hr (ha.add (len * i.size)) hvn hst
            refine ⟨μ, w', .slice (some a') (len + n) c, ?_, ?_, hg⟩
            ·have hroom' : len + n ≤ c := by omega
             rcases hsr.kind with ⟨e', hk⟩ | hk <;> simp [Builtin.append_, run_underlying hu, run_underlying hk, Go.sizeOf, typeInfo, hi, hsr.len, hroom', hsr.cells, hrun]
            ·simp only [VR]
             exact ⟨a', c, rfl, hroom, hlc, hex, hsb, .inl ha⟩
           ·cases hap
          ·rename_i hroom
           split at hap
           ·-- just so much room, and it is not enough
            rename_i hexx
            split at hap
            ·rename_i oc hoc
             injection hap with hap
             injection hap with e1 e2
             subst e1; subst e2
             have hcc := hex hexx
             subst hcc
             have ha : len * i.size = 0 ∨ AR μ a a' := by
              rcases har with h | ⟨h, _⟩
              ·exact .inr h
              ·exact .inl (by rw [h, Nat.zero_mul])
             obtain ⟨olds, f1, f2, f3⟩ := ldCells_spec hr ha hoc
             exact append_grow hr hu hi hzv hzs (base := some a') (len := len) (c := c) (run_firstCells_some w.drew i.size len a' len c olds f1 (by simpa using f3)) f1 hsr f2 hvn (by omega) hmax hbytes
            ·cases hap
           ·rename_i hexx
            have hexf : ex = false := by simpa using hexx
            split at hap
            ·rename_i j
             split at hap
             ·rename_i l t hl
              split at hap
              ·rename_i hcond2
               obtain ⟨rfl, hlen2⟩ := hcond2
               injection hap with hap
               injection hap with e1 e2
               subst e1; subst e2
               obtain ⟨k, hk, hW, o', ho', hor⟩ := hr.obj j _ hl
               obtain ⟨cs, fz, rfl, hcsz, huf, hle, ⟨hes, hft⟩, hvl⟩ := hor
               have hes' : k.es = i.size := by rw [← hes]; simp [Program.cellsOf, hi]
               have hlen3 := hvl.length
               simp at hlen3
               by_cases hfit : len + n ≤ c
               ·-- the model has room
                have ha : a' = ⟨k.b, 0, none⟩ := by
                 rcases har with ⟨k', hk', e⟩ | ⟨_, h⟩
                 ·rw [hk] at hk'; injection hk' with hk'; subst hk'; exact e
                 ·omega
                subst ha
                obtain ⟨k', hk', hsb'⟩ := hsb hexf rfl
                rw [hk] at hk'; injection hk' with hk'; subst hk'
                have hnl := hsr.newsLen
                have hfit2 : len * i.size + news.length ≤ cs.size := by
                 rw [hnl, ← Nat.add_mul, hcsz]
                 rw [hes'] at hsb'
                 exact Nat.le_trans (Nat.mul_le_mul_right _ hfit) hsb'
                obtain ⟨w', c2, hrun, hb', hc2, hz2, hoth, q1, q2, q3⟩ := run_storeCells_list (P := P) k.b (len * i.size) t fz news 0 w cs ho' huf (by omega) hsr.one
                have hsize : c2.size = cs.size := by
                 have := congrArg List.length hc2
                 simp at this
                 omega
                have hg := Go1.change_move hr hl hk (.cells (l.take (len * i.size) ++ nc) t) (.cells c2 t fz) w' hb' hz2 hoth q1 q2 q3 (by
                 have hv2 := (hvl.take (len * i.size)).append hvn
                 have hln := hv2.length
                 refine ⟨c2, fz, rfl, by rw [hsize, hcsz], by rw [hsize]; exact huf, ?_, ⟨hes, hft⟩, ?_⟩
                 ·rw [hsize]; simp at hln ⊢; have := hvn.length; omega
                 ·have e : c2.toList.take (l.take (len * i.size) ++ nc).length = (cs.toList.take l.length).take (len * i.size) ++ news := by
                   rw [hln, hc2, Nat.add_zero, List.take_take, Nat.min_eq_left hlen2]
                   rw [← List.append_assoc, List.take_left' (by simp)]
                  rw [e]; exact hv2)
                refine ⟨_, w', .slice (some ⟨k.b, 0, none⟩) (len + n) c, ?_, ?_, hg⟩
                ·have hrun' : (storeCells ((⟨k.b, 0, none⟩ : Addr).add (len * i.size)) news).run P w = .ok () w' := by rw [addr_add, Nat.zero_add]; exact hrun
                 rcases hsr.kind with ⟨e', hk2⟩ | hk2 <;> simp [Builtin.append_, run_underlying hu, run_underlying hk2, Go.sizeOf, typeInfo, hi, hsr.len, hfit, hsr.cells, hrun']
                ·simp only [VR]
                 exact ⟨_, c, rfl, Nat.le_refl _, hfit, fun e => (by cases e), fun _ _ => ⟨k, Mu.put_same _ _ _, hsb'⟩, .inl ⟨k, Mu.put_same _ _ _, rfl⟩⟩
               ·-- it has none
                have hold : ∃ olds : List Value, (Builtin.firstCells i.size len (.slice (some a') len c)).run P w.drew = .ok olds.toArray w.drew ∧ olds.length = len * i.size ∧ VRL μ (l.take (len * i.size)) olds := by
                 rcases har with ⟨k', hk', e⟩ | ⟨h0, _⟩
                 ·rw [hk] at hk'; injection hk' with hk'; subst hk'
                  subst e
                  have hv2 := hvl.take (len * i.size)
                  have hl2 : ((cs.toList.take l.length).take (len * i.size)).length = len * i.size := by simp; omega
                  refine ⟨_, run_firstCells_some w.drew i.size len _ len c _ hl2 (fun j u hj => ?_), hl2, hv2⟩
                  rw [addr_add, Nat.zero_add]
                  have hcell := cell_block (w := w.drew) (b := k.b) (c := cs) (t := t) (fz := fz) ho' j
                  rw [hcell]
                  rw [List.getElem?_take] at hj
                  split at hj
                  ·rw [List.getElem?_take] at hj
                   split at hj
                   ·simpa using hj
                   ·cases hj
                  ·cases hj
                 ·subst h0
                  exact ⟨[], by simpa using run_firstCells_some w.drew i.size 0 a' 0 c [] (by simp) (fun j u hj => by simp at hj), by simp, by simp [VRL]⟩
                obtain ⟨olds, hold, hol, hvo⟩ := hold
                obtain ⟨μ', w', x2, hrun, hv2, hg2⟩ := append_grow hr (ty := ty) hu hi hzv hzs (base := some a') (len := len) (c := c) hold hol hsr hvo hvn (by omega) hmax hbytes
                have hf := hg2.hr.forget j
                refine ⟨μ', w', x2, hrun, hv2, ?_⟩
                have hg3 := hg2.trans hf
                have hjn : j ≠ h.nx := fun e => by rw [e, (hr.fresh _ (Nat.le_refl _)).2] at hl; cases hl
                have hcomm : (h.alloc (.cells (l.take (len * i.size) ++ nc) t)).put j none = (h.put j none).alloc (.cells (l.take (len * i.size) ++ nc) t) ∨ True := .inr trivial
                clear hcomm
                -- the two heaps read alike
                refine ⟨⟨fun a o ho => ?_, fun a b oa ob ka kb ha hb hka hkb e => ?_, fun a ha => ?_, hg3.hr.below⟩, hg3.mono, by simp, hg3.size, hg3.frame, fun a o ka ha hka => ?_, hg3.old⟩
                ·exact hg3.hr.obj a o (by rw [← ho]; exact get_comm h hjn _ a)
                ·exact hg3.hr.inj a b oa ob ka kb (by rw [← ha]; exact get_comm h hjn _ a) (by rw [← hb]; exact get_comm h hjn _ b) hka hkb e
                ·have := hg3.hr.fresh a (by simpa using ha)
                 exact ⟨this.1, (get_comm h hjn (.cells (l.take (len * i.size) ++ nc) t) a).symm.trans this.2⟩
                ·exact hg3.foot a o ka (by rw [← ha]; exact get_comm h hjn _ a) hka
              ·cases hap
             ·cases hap
            ·cases hap
       ·cases hap
      ·cases hap
     ·cases hap
    ·cases hap
   ·cases hap
  ·cases hap
 ·cases hap
 where
 get_comm (h : H) {j : Nat} (hjn : j ≠ h.nx) (o : AO) (a : Nat) : ((h.alloc o).put j none).get a = ((h.put j none).alloc o).get a := by
  by_cases ea : a = h.nx
  ·subst ea
   rw [H.get_put_ne _ _ hjn, H.get_alloc_same]
   have := H.get_alloc_same (h.put j none) o
   simpa using this.symm
  ·rw [H.get_alloc_ne (h.put j none) o (Ne.symm (by simpa using ea))]
   by_cases ej : a = j
   ·subst ej; rw [H.get_put_same, H.get_put_same]
   ·rw [H.get_put_ne _ _ (Ne.symm ej), H.get_put_ne _ _ (Ne.symm ej), H.get_alloc_ne _ _ (Ne.symm ea)]
end
end Go.Proofs.YtkhjmgchlbnkjaaDoor.Dg
