/-
  slices.Insert at whole numbers: the answer holds.
-/
import Derived.Test.YtcjmklbfaoionaaDgS33
set_option linter.unusedVariables false
set_option linter.unusedSimpArgs false
namespace Go.Proofs.Ytcjmklbfaoionaa.Dg
open Go Go.RowKit

section
variable {P : Program} {W : World} {ρ : Go.Shelf.Ren}

theorem ins_cells (L : Go.Proofs.Lays2.n21 P ρ) : P.cellsOf (ρ.t 3) = 1 := by
  refine cellsOf_of ?_
  have := L.i3
  unfold Dg.sizeOf
  cases hi : P.info? (ρ.t 3) with
  | none => rw [hi] at this; simp at this
  | some a => rw [hi] at this; simp at this ⊢; exact this.2.1

theorem ins_shift (L : Go.Proofs.Lays2.n21 P ρ) {μ : Mu} {h : H} {w : World} (hr : HR P W μ h w) {j q n c vc i : Nat} {l lv : List V} {x : V} (hj : h.get j = some (.cells l (ρ.t 3))) (hq : h.get q = some (.cells (x :: lv) (ρ.t 3))) (hjq : j ≠ q)
    (hin : i < n) (hnl : n ≤ l.length) (hone : l.all V.one = true) (hx1 : V.one x = true) (hbig : (n + 1) * 8 ≤ 140737488355328) {k kq : Bk} (hk : μ j = some k) (hkq : μ q = some kq) (hc : n + 1 ≤ c) (hc63 : c ≤ 9223372036854775807) (hck : c ≤ k.sz) :
    Calls P (ρ.f 21) #[.slice (some ⟨k.b, 0, none⟩) n c, .int .i64 (i : Int), .slice (some ⟨kq.b, 0, none⟩) 1 vc] w fun e w' =>
      e = .returned (.slice (some ⟨k.b, 0, none⟩) (n + 1) c) ∧ Go1 P W μ h w (μ.put h.nx k) ((h.put j none).alloc (.cells (l.take i ++ x :: (l.take n).drop i) (ρ.t 3))) w' := by
  obtain ⟨k', hk', hW, o', ho', cs, fz, rfl, hcsz, huf, hle, ⟨hes, hft⟩, hvl⟩ := hr.obj j _ hj
  rw [hk] at hk'; injection hk' with hk'; subst hk'
  obtain ⟨kq', hkq', hWq, oq', hoq', cq, fq, rfl, hqsz, hqf, hqle, ⟨hqes, hqft⟩, hqvl⟩ := hr.obj q _ hq
  rw [hkq] at hkq'; injection hkq' with hkq'; subst hkq'
  have hbne : kq.b ≠ k.b := fun e => hjq (hr.inj j q _ _ k kq hj hq hk hkq e.symm)
  have hf0 : fq.2 = 0 := by
    rcases hqft with h | h | h
    · exact h.1
    · exact absurd L.t3 h
    · exact absurd (hqes.symm.trans (ins_cells L)) h
  have hvl' := hvl.one hone
  -- the value put in
  obtain ⟨x', hx', hxv, hxo⟩ : ∃ x', cq[0]? = some x' ∧ VR μ x x' ∧ x'.oneCell' = true := by
    cases hcq : cq.toList with
    | nil => rw [hcq] at hqvl; simp [VRL] at hqvl
    | cons y ys =>
      rw [hcq] at hqvl
      simp only [List.length_cons, List.take_succ_cons, VRL] at hqvl
      obtain ⟨z, zs, e, h1, h2⟩ := hqvl
      injection e with e1 e2
      subst e1
      refine ⟨y, ?_, h1, h1.one hx1⟩
      rw [← Array.getElem?_toList, hcq]; rfl
  have hn : n ≤ cs.size := by omega
  refine (Go.Proofs.Any2.slices_Insert_int_shift L k.b 0 n c i kq.b 0 1 vc (cs.toList.take n) [x'] w hin (by omega) hc hc63 hbne (by simp; omega) rfl ?_ ?_ ?_ ?_ ?_ ?_ (ρ.t 3) (ρ.t 3) cq.size cs.size ?_ ?_ ?_ ?_ ?_).mono ?_
  · intro a v hv
    rw [cell_block ho', Nat.zero_add]
    rw [List.getElem?_take] at hv
    split at hv
    · simpa using hv
    · cases hv
  · intro a ha
    rw [cell_block ho', Array.getElem?_eq_getElem (by omega)]; rfl
  · intro a ha
    exact frozen_block ho' huf (by omega)
  · intro a v hv
    cases a with
    | zero => injection hv with hv; subst hv; rw [cell_block hoq']; exact hx'
    | succ a => simp at hv
  · intro v hv
    refine hvl' v ?_
    have : cs.toList.take n = (cs.toList.take l.length).take n := by rw [List.take_take, Nat.min_eq_left hnl]
    rw [this] at hv
    exact List.mem_of_mem_take hv
  · intro v hv
    simp at hv; subst hv; exact hxo
  · simp [World.shape?, hoq']
  · simp [World.shape?, ho']
  · omega
  · simp only [World.frozen?, hoq', hf0]; simp
  · simp only [World.frozen?, hoq', hf0]; simp
  · rintro e w' ⟨rfl, rfl⟩
    refine ⟨rfl, ?_⟩
    have hb0 : w.drew.heap[k.b]? = some (.cells cs (ρ.t 3) fz) := ho'
    have hD1 : ∀ v ∈ (cs.toList.take n).drop i, v.oneCell' = true := fun v hv => by
      refine hvl' v ?_
      have : cs.toList.take n = (cs.toList.take l.length).take n := by rw [List.take_take, Nat.min_eq_left hnl]
      rw [this] at hv
      exact List.mem_of_mem_take (List.mem_of_mem_drop hv)
    have hDl : ((cs.toList.take n).drop i).length = n - i := by simp; omega
    obtain ⟨c1, a1, a2, a3, a4, a5, a6, a7, a8⟩ := setCells_heap P hb0 huf (o := 0 + (i + 1)) (vs := (cs.toList.take n).drop i) (by rw [hDl]; omega) hD1
    obtain ⟨c2, b1, b2, b3, b4, b5, b6, b7, b8⟩ := setCells_heap P a1 (by rw [a2]; exact huf) (o := 0 + i) (vs := [x']) (by simp; omega) (fun v hv => by simp at hv; subst hv; exact hxo)
    have hll : (l.take i ++ x :: (l.take n).drop i).length = n + 1 := by simp; omega
    have hc2 : c2.toList.take (n + 1) = (cs.toList.take l.length).take i ++ x' :: ((cs.toList.take l.length).take n).drop i := by
      have e1 : c1.toList.take (0 + i) = cs.toList.take i := by
        rw [a3, List.take_append_of_le_length (by simp; omega), List.take_take]
        congr 1; omega
      have e2 : c1.toList.drop (0 + i + [x'].length) = (cs.toList.take n).drop i ++ cs.toList.drop (0 + (i + 1) + ((cs.toList.take n).drop i).length) := by
        rw [a3]
        exact List.drop_left' (by simp; omega)
      rw [b3, e1, e2]
      have e3 : (cs.toList.take l.length).take i = cs.toList.take i := by rw [List.take_take]; congr 1; omega
      have e4 : (cs.toList.take l.length).take n = cs.toList.take n := by rw [List.take_take]; congr 1; omega
      rw [e3, e4]
      rw [show cs.toList.take i ++ ([x'] ++ ((cs.toList.take n).drop i ++ cs.toList.drop (0 + (i + 1) + ((cs.toList.take n).drop i).length))) = (cs.toList.take i ++ x' :: (cs.toList.take n).drop i) ++ cs.toList.drop (0 + (i + 1) + ((cs.toList.take n).drop i).length) from by simp]
      exact List.take_left' (by simp; omega)
    refine Go1.change_move hr hj hk _ (.cells c2 (ρ.t 3) fz) _ b1 (b4.trans a4) (fun b hb => (b5 b hb).trans (a5 b hb)) (b6.trans a6) (b7.trans a7) (b8.trans a8) ⟨c2, fz, rfl, by rw [b2, a2, hcsz], by rw [b2, a2]; exact huf, by rw [hll, b2, a2]; omega, ⟨hes, hft⟩, ?_⟩
    rw [hll, hc2]
    exact (hvl.take i).append (VRL.cons hxv ((hvl.take n).drop i))

theorem ins_end_room (L : Go.Proofs.Lays2.n21 P ρ) {μ : Mu} {h : H} {w : World} (hr : HR P W μ h w) {j q n c vc : Nat} {l lv : List V} {x : V} (hj : h.get j = some (.cells l (ρ.t 3))) (hq : h.get q = some (.cells (x :: lv) (ρ.t 3)))
    (hnl : n ≤ l.length) (hone : l.all V.one = true) (hx1 : V.one x = true) {k kq : Bk} (hk : μ j = some k) (hkq : μ q = some kq) (hc : n + 1 ≤ c) (hc63 : c ≤ 9223372036854775807) (hck : c ≤ k.sz) :
    Calls P (ρ.f 21) #[.slice (some ⟨k.b, 0, none⟩) n c, .int .i64 (n : Int), .slice (some ⟨kq.b, 0, none⟩) 1 vc] w fun e w' =>
      e = .returned (.slice (some ⟨k.b, 0, none⟩) (n + 1) c) ∧ Go1 P W μ h w (μ.put h.nx k) ((h.put j none).alloc (.cells (l.take n ++ x :: (l.take n).drop n) (ρ.t 3))) w' := by
  obtain ⟨k', hk', hW, o', ho', cs, fz, rfl, hcsz, huf, hle, ⟨hes, hft⟩, hvl⟩ := hr.obj j _ hj
  rw [hk] at hk'; injection hk' with hk'; subst hk'
  obtain ⟨kq', hkq', hWq, oq', hoq', cq, fq, rfl, hqsz, hqf, hqle, ⟨hqes, hqft⟩, hqvl⟩ := hr.obj q _ hq
  rw [hkq] at hkq'; injection hkq' with hkq'; subst hkq'
  obtain ⟨x', hx', hxv, hxo⟩ : ∃ x', cq[0]? = some x' ∧ VR μ x x' ∧ x'.oneCell' = true := by
    cases hcq : cq.toList with
    | nil => rw [hcq] at hqvl; simp [VRL] at hqvl
    | cons y ys =>
      rw [hcq] at hqvl
      simp only [List.length_cons, List.take_succ_cons, VRL] at hqvl
      obtain ⟨z, zs, e, h1, h2⟩ := hqvl
      injection e with e1 e2
      subst e1
      refine ⟨y, ?_, h1, h1.one hx1⟩
      rw [← Array.getElem?_toList, hcq]; rfl
  have hn : n ≤ cs.size := by omega
  refine (Go.Proofs.Any2.slices_Insert_int_end_room L k.b 0 n c kq.b 0 1 vc [x'] w (by omega) hc hc63 rfl ?_ ?_ ?_ ?_).mono ?_
  · intro a ha
    rw [cell_block ho', Array.getElem?_eq_getElem (by omega)]; rfl
  · intro a ha
    exact frozen_block ho' huf (by omega)
  · intro a v hv
    cases a with
    | zero => injection hv with hv; subst hv; rw [cell_block hoq']; exact hx'
    | succ a => simp at hv
  · intro v hv
    simp at hv; subst hv; exact hxo
  · rintro e w' ⟨rfl, rfl⟩
    refine ⟨rfl, ?_⟩
    obtain ⟨c2, b1, b2, b3, b4, b5, b6, b7, b8⟩ := setCells_heap P ho' huf (o := 0 + n) (vs := [x']) (by simp; omega) (fun v hv => by simp at hv; subst hv; exact hxo)
    have hll : (l.take n ++ x :: (l.take n).drop n).length = n + 1 := by simp; omega
    have hc2 : c2.toList.take (n + 1) = (cs.toList.take l.length).take n ++ x' :: [] := by
      have e3 : (cs.toList.take l.length).take n = cs.toList.take n := by rw [List.take_take]; congr 1; omega
      rw [b3, e3, Nat.zero_add]
      rw [show cs.toList.take n ++ ([x'] ++ cs.toList.drop (n + [x'].length)) = (cs.toList.take n ++ [x']) ++ cs.toList.drop (n + [x'].length) from by simp]
      exact List.take_left' (by simp; omega)
    refine Go1.change_move hr hj hk _ (.cells c2 (ρ.t 3) fz) _ b1 b4 b5 b6 b7 b8 ⟨c2, fz, rfl, by rw [b2, hcsz], by rw [b2]; exact huf, by rw [hll, b2]; omega, ⟨hes, hft⟩, ?_⟩
    rw [hll, hc2]
    have e5 : (l.take n).drop n = [] := List.drop_eq_nil_of_le (by simp; omega)
    rw [e5]
    exact (hvl.take n).append (VRL.cons hxv VRL.nil)

theorem ins_end_grow (L : Go.Proofs.Lays2.n21 P ρ) {μ : Mu} {h : H} {w : World} (hr : HR P W μ h w) {j q n c vc : Nat} {l lv : List V} {x : V} (hj : h.get j = some (.cells l (ρ.t 3))) (hq : h.get q = some (.cells (x :: lv) (ρ.t 3)))
    (hnl : n ≤ l.length) (hone : l.all V.one = true) (hx1 : V.one x = true) (hbig : (n + 1) * 8 ≤ 140737488355328) {k kq : Bk} (hk : μ j = some k) (hkq : μ q = some kq) (hnc : n ≤ c) (hc : c < n + 1) (a' : Addr) (ha : n = 0 ∨ a' = ⟨k.b, 0, none⟩) :
    Calls P (ρ.f 21) #[.slice (some a') n c, .int .i64 (n : Int), .slice (some ⟨kq.b, 0, none⟩) 1 vc] w fun e w' =>
      ∃ G sz, e = .returned (.slice (some ⟨w.heap.size, 0, none⟩) (n + 1) G) ∧ n + 1 ≤ G ∧ G ≤ sz ∧ Go1 P W μ h w (μ.put h.nx ⟨w.heap.size, sz, 1⟩) ((h.put j none).alloc (.cells (l.take n ++ x :: (l.take n).drop n) (ρ.t 3))) w' := by
  obtain ⟨k', hk', hW, o', ho', cs, fz, rfl, hcsz, huf, hle, ⟨hes, hft⟩, hvl⟩ := hr.obj j _ hj
  rw [hk] at hk'; injection hk' with hk'; subst hk'
  obtain ⟨kq', hkq', hWq, oq', hoq', cq, fq, rfl, hqsz, hqf, hqle, ⟨hqes, hqft⟩, hqvl⟩ := hr.obj q _ hq
  rw [hkq] at hkq'; injection hkq' with hkq'; subst hkq'
  obtain ⟨x', hx', hxv, hxo⟩ : ∃ x', cq[0]? = some x' ∧ VR μ x x' ∧ x'.oneCell' = true := by
    cases hcq : cq.toList with
    | nil => rw [hcq] at hqvl; simp [VRL] at hqvl
    | cons y ys =>
      rw [hcq] at hqvl
      simp only [List.length_cons, List.take_succ_cons, VRL] at hqvl
      obtain ⟨z, zs, e, h1, h2⟩ := hqvl
      injection e with e1 e2
      subst e1
      refine ⟨y, ?_, h1, h1.one hx1⟩
      rw [← Array.getElem?_toList, hcq]; rfl
  have hn : n ≤ cs.size := by omega
  have hcl : (cs.toList.take n).length = n := by simp; omega
  refine (Go.Proofs.Any2.slices_Insert_int_end_grow L (some a') n c kq.b 0 1 vc (cs.toList.take n) [x'] w (by omega) hnc hc hbig hcl rfl (fun e => by cases e) ?_ ?_ ?_).mono ?_
  · intro a e i v hv
    injection e with e; subst e
    rcases ha with h0 | h0
    · subst h0; simp at hv
    · subst h0
      rw [addr_add, Nat.zero_add, cell_block ho']
      rw [List.getElem?_take] at hv
      split at hv
      · simpa using hv
      · cases hv
  · intro a v hv
    cases a with
    | zero => injection hv with hv; subst hv; rw [cell_block hoq']; exact hx'
    | succ a => simp at hv
  · intro v hv
    simp at hv; subst hv; exact hxo
  · rintro e w' ⟨rfl, rfl⟩
    have hge := grownCap_ge w (n + 1) c (ρ.t 3)
    have hgm := grownCap_le_maxLen w (n + 1) c (ρ.t 3) (by unfold maxLen; omega)
    generalize grownCap w (n + 1) c (ρ.t 3) = G at hge hgm
    unfold maxLen at hgm
    have hsz : ((cs.toList.take n ++ [x']).toArray ++ Builtin.zeroCells (Value.int .i64 0).cells (G - (n + 1))).size = G := by
      rw [Array.size_append, zeroCells_size]
      simp [Value.cells]
      omega
    refine ⟨G, G, rfl, hge, Nat.le_refl _, ?_⟩
    have hll : (l.take n ++ x :: (l.take n).drop n).length = n + 1 := by simp; omega
    have hh : ∀ o : Obj, (w.drew.alloc o).heap = w.heap.push o := fun _ => rfl
    have key := ins_new hr hj (w' := w.drew.alloc (.cells ((cs.toList.take n ++ [x']).toArray ++ Builtin.zeroCells (Value.int .i64 0).cells (G - (n + 1))) (ρ.t 3))) (nl := l.take n ++ x :: (l.take n).drop n) (e := ρ.t 3) (es := 1)
      (c2 := (cs.toList.take n ++ [x']).toArray ++ Builtin.zeroCells (Value.int .i64 0).cells (G - (n + 1))) (by rw [hh]; simp) (by rw [hh]; simp) (fun b hb => by rw [hh, Array.getElem?_push_lt hb, Array.getElem?_eq_getElem hb]) rfl rfl rfl (by rw [hll, hsz]; exact hge) (ins_cells L) (by rw [hsz]; exact hgm) ?_
    · rw [hsz] at key; exact key
    · rw [hll, Array.toList_append, List.toList_toArray, List.take_left' (by simp; omega)]
      have e5 : (l.take n).drop n = [] := List.drop_eq_nil_of_le (by simp; omega)
      rw [e5]
      have e3 : (cs.toList.take l.length).take n = cs.toList.take n := by rw [List.take_take]; congr 1; omega
      rw [← e3]
      exact (hvl.take n).append (VRL.cons hxv VRL.nil)

theorem ins_grow (L : Go.Proofs.Lays2.n21 P ρ) {μ : Mu} {h : H} {w : World} (hr : HR P W μ h w) {j q n c vc i : Nat} {l lv : List V} {x : V} (hj : h.get j = some (.cells l (ρ.t 3))) (hq : h.get q = some (.cells (x :: lv) (ρ.t 3)))
    (hnl : n ≤ l.length) (hone : l.all V.one = true) (hx1 : V.one x = true) (hbig : (n + 1) * 8 ≤ 140737488355328) {k kq : Bk} (hk : μ j = some k) (hkq : μ q = some kq) (hnc : n ≤ c) (hc : c < n + 1) (hin : i < n) :
    Calls P (ρ.f 21) #[.slice (some ⟨k.b, 0, none⟩) n c, .int .i64 (i : Int), .slice (some ⟨kq.b, 0, none⟩) 1 vc] w fun e w' =>
      ∃ G sz, e = .returned (.slice (some ⟨w.heap.size, 0, none⟩) (n + 1) G) ∧ n + 1 ≤ G ∧ G ≤ sz ∧ Go1 P W μ h w (μ.put h.nx ⟨w.heap.size, sz, 1⟩) ((h.put j none).alloc (.cells (l.take i ++ x :: (l.take n).drop i) (ρ.t 3))) w' := by
  obtain ⟨k', hk', hW, o', ho', cs, fz, rfl, hcsz, huf, hle, ⟨hes, hft⟩, hvl⟩ := hr.obj j _ hj
  rw [hk] at hk'; injection hk' with hk'; subst hk'
  obtain ⟨kq', hkq', hWq, oq', hoq', cq, fq, rfl, hqsz, hqf, hqle, ⟨hqes, hqft⟩, hqvl⟩ := hr.obj q _ hq
  rw [hkq] at hkq'; injection hkq' with hkq'; subst hkq'
  obtain ⟨x', hx', hxv, hxo⟩ : ∃ x', cq[0]? = some x' ∧ VR μ x x' ∧ x'.oneCell' = true := by
    cases hcq : cq.toList with
    | nil => rw [hcq] at hqvl; simp [VRL] at hqvl
    | cons y ys =>
      rw [hcq] at hqvl
      simp only [List.length_cons, List.take_succ_cons, VRL] at hqvl
      obtain ⟨z, zs, e, h1, h2⟩ := hqvl
      injection e with e1 e2
      subst e1
      refine ⟨y, ?_, h1, h1.one hx1⟩
      rw [← Array.getElem?_toList, hcq]; rfl
  have hn : n ≤ cs.size := by omega
  have hcl : (cs.toList.take n).length = n := by simp; omega
  have hvl' := hvl.one hone
  have e4 : (cs.toList.take l.length).take n = cs.toList.take n := by rw [List.take_take]; congr 1; omega
  have hC1 : ∀ v ∈ cs.toList.take n, v.oneCell' = true := fun v hv => by
    rw [← e4] at hv
    exact hvl' v (List.mem_of_mem_take hv)
  refine (Go.Proofs.Any2.slices_Insert_int_grow L k.b 0 n c i kq.b 0 1 vc (cs.toList.take n) [x'] w hin (by omega) hnc hc hbig hcl rfl ?_ ?_ hC1 ?_).mono ?_
  · intro a v hv
    rw [cell_block ho', Nat.zero_add]
    rw [List.getElem?_take] at hv
    split at hv
    · simpa using hv
    · cases hv
  · intro a v hv
    cases a with
    | zero => injection hv with hv; subst hv; rw [cell_block hoq']; exact hx'
    | succ a => simp at hv
  · intro v hv
    simp at hv; subst hv; exact hxo
  · rintro e w' ⟨rfl, rfl⟩
    have hge := grownCap_ge w (n + 1) c (ρ.t 3)
    have hgm := grownCap_le_maxLen w (n + 1) c (ρ.t 3) (by unfold maxLen; omega)
    generalize grownCap w (n + 1) c (ρ.t 3) = G at hge hgm
    unfold maxLen at hgm
    obtain ⟨ROW, hROW⟩ : ∃ ROW, ROW = ((cs.toList.take n).take i).toArray ++ Builtin.zeroCells (Value.int .i64 0).cells (n + 1 - i) ++ Builtin.zeroCells (Value.int .i64 0).cells (G - (n + 1)) := ⟨_, rfl⟩
    rw [← hROW]
    have hRl : ROW.toList.take i = cs.toList.take i := by
      rw [hROW, Array.toList_append, Array.toList_append, List.toList_toArray, List.append_assoc, List.take_left' (by simp; omega), List.take_take]
      congr 1; omega
    have hRs : ROW.size = G := by
      rw [hROW, Array.size_append, Array.size_append, zeroCells_size, zeroCells_size]
      simp [Value.cells]
      omega
    have hh : ∀ o : Obj, ((w.alloc o).drew).heap = w.heap.push o := fun _ => rfl
    have hbb : ((w.alloc (.cells ROW (ρ.t 3))).drew).heap[w.heap.size]? = some (.cells ROW (ρ.t 3) (0, 0)) := by rw [hh]; simp
    obtain ⟨c1, a1, a2, a3, a4, a5, a6, a7, a8⟩ := setCells_heap P hbb (.inl rfl) (o := i) (vs := [x']) (by simp; omega) (fun v hv => by simp at hv; subst hv; exact hxo)
    have hDl : ((cs.toList.take n).drop i).length = n - i := by simp; omega
    have a1' : (((w.alloc (.cells ROW (ρ.t 3))).drew.setCells w.heap.size i [x']).drew).heap[w.heap.size]? = some (.cells c1 (ρ.t 3) (0, 0)) := a1
    obtain ⟨c2, b1, b2, b3, b4, b5, b6, b7, b8⟩ := setCells_heap P a1' (.inl rfl) (o := i + 1) (vs := (cs.toList.take n).drop i) (by rw [hDl]; omega) (fun v hv => hC1 v (List.mem_of_mem_drop hv))
    have hcs : c2.size = G := by rw [b2, a2, hRs]
    refine ⟨G, G, rfl, hge, Nat.le_refl _, ?_⟩
    have hll : (l.take i ++ x :: (l.take n).drop i).length = n + 1 := by simp; omega
    have hc2 : c2.toList.take (n + 1) = (cs.toList.take l.length).take i ++ x' :: ((cs.toList.take l.length).take n).drop i := by
      have e1 : c1.toList.take (i + 1) = cs.toList.take i ++ [x'] := by
        rw [a3, hRl, ← List.append_assoc]
        exact List.take_left' (by simp; omega)
      have e3 : (cs.toList.take l.length).take i = cs.toList.take i := by rw [List.take_take]; congr 1; omega
      rw [b3, e1, e3, e4, ← List.append_assoc]
      rw [List.take_left' (by simp; omega)]
      simp
    have key := ins_new hr hj (w' := (((w.alloc (.cells ROW (ρ.t 3))).drew.setCells w.heap.size i [x']).drew).setCells w.heap.size (i + 1) ((cs.toList.take n).drop i)) (nl := l.take i ++ x :: (l.take n).drop i) (e := ρ.t 3) (es := 1) (c2 := c2) b1
      (by rw [b4]; show (World.setCells _ _ _ _).heap.size = _; rw [a4, hh]; simp)
      (fun b hb => by
        rw [b5 b (by omega)]
        show (World.setCells _ _ _ _).heap[b]? = _
        rw [a5 b (by omega), hh, Array.getElem?_push_lt hb, Array.getElem?_eq_getElem hb])
      (b6.trans a6) (b7.trans a7) (b8.trans a8) (by rw [hll, hcs]; exact hge) (ins_cells L) (by rw [hcs]; exact hgm) ?_
    · rw [hcs] at key; exact key
    · rw [hll, hc2]
      exact (hvl.take i).append (VRL.cons hxv ((hvl.take n).drop i))

theorem ins_nil (L : Go.Proofs.Lays2.n21 P ρ) {μ : Mu} {h : H} {w : World} (hr : HR P W μ h w) {q vc : Nat} {lv : List V} {x : V} (hq : h.get q = some (.cells (x :: lv) (ρ.t 3))) (hx1 : V.one x = true) {kq : Bk} (hkq : μ q = some kq) :
    Calls P (ρ.f 21) #[.slice none 0 0, .int .i64 ((0 : Nat) : Int), .slice (some ⟨kq.b, 0, none⟩) 1 vc] w fun e w' =>
      ∃ G sz, e = .returned (.slice (some ⟨w.heap.size, 0, none⟩) 1 G) ∧ 1 ≤ G ∧ G ≤ sz ∧ Go1 P W μ h w (μ.put h.nx ⟨w.heap.size, sz, 1⟩) (h.alloc (.cells [x] (ρ.t 3))) w' := by
  obtain ⟨kq', hkq', hWq, oq', hoq', cq, fq, rfl, hqsz, hqf, hqle, ⟨hqes, hqft⟩, hqvl⟩ := hr.obj q _ hq
  rw [hkq] at hkq'; injection hkq' with hkq'; subst hkq'
  obtain ⟨x', hx', hxv, hxo⟩ : ∃ x', cq[0]? = some x' ∧ VR μ x x' ∧ x'.oneCell' = true := by
    cases hcq : cq.toList with
    | nil => rw [hcq] at hqvl; simp [VRL] at hqvl
    | cons y ys =>
      rw [hcq] at hqvl
      simp only [List.length_cons, List.take_succ_cons, VRL] at hqvl
      obtain ⟨z, zs, e, h1, h2⟩ := hqvl
      injection e with e1 e2
      subst e1
      refine ⟨y, ?_, h1, h1.one hx1⟩
      rw [← Array.getElem?_toList, hcq]; rfl
  refine (Go.Proofs.Any2.slices_Insert_int_end_grow L none 0 0 kq.b 0 1 vc [] [x'] w (by omega) (Nat.le_refl _) (by omega) (by omega) rfl rfl (fun _ => rfl) ?_ ?_ ?_).mono ?_
  · intro a e i v hv
    cases e
  · intro a v hv
    cases a with
    | zero => injection hv with hv; subst hv; rw [cell_block hoq']; exact hx'
    | succ a => simp at hv
  · intro v hv
    simp at hv; subst hv; exact hxo
  · rintro e w' ⟨rfl, rfl⟩
    have hge := grownCap_ge w (0 + 1) 0 (ρ.t 3)
    have hgm := grownCap_le_maxLen w (0 + 1) 0 (ρ.t 3) (by unfold maxLen; omega)
    generalize grownCap w (0 + 1) 0 (ρ.t 3) = G at hge hgm
    unfold maxLen at hgm
    obtain ⟨ROW, hROW⟩ : ∃ ROW, ROW = (([] ++ [x'] : List Value)).toArray ++ Builtin.zeroCells (Value.int .i64 0).cells (G - (0 + 1)) := ⟨_, rfl⟩
    have hsz : ROW.size = G := by
      rw [hROW, Array.size_append, zeroCells_size]
      simp [Value.cells]
      omega
    have htl : ROW.toList.take 1 = [x'] := by rw [hROW]; simp
    rw [← hROW]
    refine ⟨G, G, rfl, hge, Nat.le_refl _, ?_⟩
    have hle' : μ.le (μ.put h.nx ⟨w.heap.size, G, 1⟩) := Mu.le_put _ (hr.fresh _ (Nat.le_refl _)).1
    have g1 := Go1.alloc hr (.cells [x] (ρ.t 3)) (.cells ROW (ρ.t 3) (0, 0)) ⟨w.heap.size, G, 1⟩ rfl ⟨ROW, (0, 0), rfl, hsz, .inl rfl, by rw [hsz]; exact hge, ⟨ins_cells L, .inl ⟨rfl, hgm⟩⟩, by
      show VRL _ [x] (ROW.toList.take 1)
      rw [htl]; exact (VRL.cons hxv VRL.nil).mono hle'⟩
    exact g1.like rfl rfl rfl rfl

theorem ins_spec (L : Go.Proofs.Lays2.n21 P ρ) {μ : Mu} {h : H} {w : World} (hr : HR P W μ h w) {args : List V} {v : V} {h' : H} (hs : insAns (ρ.t 3) args h = some (v, h')) {args' : Array Value} (hA : VRL μ args args'.toList) :
    Calls P (ρ.f 21) args' w fun e w' => ∃ μ' x, e = .returned x ∧ VR μ' v x ∧ Go1 P W μ h w μ' h' w' := by
  unfold insAns at hs
  split at hs
  · rename_i j n lb ex i q mb mex
    split at hs
    · rename_i l t x lv tv hj hq
      split at hs
      · rename_i hc
        obtain ⟨rfl, rfl, hjq, hi0, hin, hnl, hone, hx1, hbig, hexl⟩ := hc
        injection hs with hs; injection hs with e1 e2; subst e1; subst e2
        obtain ⟨s', i', v', rfl, vs, vi, vv⟩ := args3 hA
        simp only [VR] at vs vi vv
        obtain ⟨a', c, rfl, hll, hlc, hex, hsb, har⟩ := vs
        subst vi
        obtain ⟨b', vc, rfl, hl2, hc2, hex2, hsb2, har2⟩ := vv
        obtain ⟨kq, hkq, rfl⟩ : ∃ k, μ q = some k ∧ b' = ⟨k.b, 0, none⟩ := by
          rcases har2 with h | ⟨h, _⟩
          · exact h
          · cases h
        obtain ⟨k, hk, hW, o', ho', cs, fz, rfl, hcsz, huf, hle, ⟨hes, hft⟩, hvl⟩ := hr.obj j _ hj
        have hes1 : k.es = 1 := hes.symm.trans (ins_cells L)
        have hk63 : k.sz ≤ 9223372036854775807 := by
          rcases hft with h | h | h
          · exact h.2
          · exact absurd L.t3 h
          · exact absurd hes1 h
        have hck : c ≤ k.sz := by
          cases ex with
          | true =>
            have := hex rfl
            rcases hexl with h | h
            · cases h
            · omega
          | false =>
            obtain ⟨k2, hk2, h2⟩ := hsb rfl rfl
            rw [hk] at hk2; injection hk2 with hk2; subst hk2
            rw [hes1, Nat.mul_one] at h2; exact h2
        obtain ⟨m, rfl⟩ := Int.eq_ofNat_of_zero_le hi0
        have hmn : m ≤ n := by omega
        have hab : n + 1 ≤ c ∨ 0 < n → a' = ⟨k.b, 0, none⟩ := by
          intro hh
          rcases har with ⟨k2, hk2, h2⟩ | ⟨h1, h2⟩
          · rw [hk] at hk2; injection hk2 with hk2; subst hk2; exact h2
          · omega
        simp only [Int.toNat_natCast]
        by_cases hroom : n + 1 ≤ c
        · have := hab (.inl hroom); subst this
          have fin : ∀ (e : Ending) (w' : World), (e = .returned (.slice (some ⟨k.b, 0, none⟩) (n + 1) c) ∧ Go1 P W μ h w (μ.put h.nx k) ((h.put j none).alloc (.cells (l.take m ++ x :: (l.take n).drop m) (ρ.t 3))) w') →
              ∃ μ' y, e = .returned y ∧ VR μ' (.slice (some (.new h.nx 0)) (n + 1) (n + 1) false) y ∧ Go1 P W μ h w μ' ((h.put j none).alloc (.cells (l.take m ++ x :: (l.take n).drop m) (ρ.t 3))) w' := by
            rintro e w' ⟨rfl, g⟩
            refine ⟨_, _, rfl, ?_, g⟩
            simp only [VR]
            exact ⟨_, c, rfl, Nat.le_refl _, hroom, (fun e => by cases e), fun _ _ => ⟨k, Mu.put_same _ _ _, by rw [hes1, Nat.mul_one]; exact hck⟩, .inl ⟨k, Mu.put_same _ _ _, rfl⟩⟩
          by_cases hmn' : m < n
          · exact (ins_shift L hr hj hq hjq hmn' hnl hone hx1 hbig hk hkq hroom (by omega) hck).mono fin
          · have : m = n := by omega
            subst this
            exact (ins_end_room L hr hj hq hnl hone hx1 hk hkq hroom (by omega) hck).mono fin
        · have fin : ∀ (e : Ending) (w' : World), (∃ G sz, e = .returned (.slice (some ⟨w.heap.size, 0, none⟩) (n + 1) G) ∧ n + 1 ≤ G ∧ G ≤ sz ∧ Go1 P W μ h w (μ.put h.nx ⟨w.heap.size, sz, 1⟩) ((h.put j none).alloc (.cells (l.take m ++ x :: (l.take n).drop m) (ρ.t 3))) w') →
              ∃ μ' y, e = .returned y ∧ VR μ' (.slice (some (.new h.nx 0)) (n + 1) (n + 1) false) y ∧ Go1 P W μ h w μ' ((h.put j none).alloc (.cells (l.take m ++ x :: (l.take n).drop m) (ρ.t 3))) w' := by
            rintro e w' ⟨G, sz, rfl, h1, h2, g⟩
            refine ⟨_, _, rfl, ?_, g⟩
            simp only [VR]
            exact ⟨_, G, rfl, Nat.le_refl _, h1, (fun e => by cases e), fun _ _ => ⟨_, Mu.put_same _ _ _, by rw [Nat.mul_one]; exact h2⟩, .inl ⟨_, Mu.put_same _ _ _, rfl⟩⟩
          by_cases hmn' : m < n
          · have := hab (.inr (by omega)); subst this
            exact (ins_grow L hr hj hq hnl hone hx1 hbig hk hkq (by omega) (by omega) hmn').mono fin
          · have : m = n := by omega
            subst this
            refine (ins_end_grow L hr hj hq hnl hone hx1 hbig hk hkq (by omega) (by omega) a' ?_).mono fin
            by_cases h0 : m = 0
            · exact .inl h0
            · exact .inr (hab (.inr (by omega)))
      · cases hs
    · cases hs
  · rename_i lb ex i q mb mex
    split at hs
    · rename_i x lv tv hq
      split at hs
      · rename_i hc
        obtain ⟨rfl, rfl, hx1⟩ := hc
        injection hs with hs; injection hs with e1 e2; subst e1; subst e2
        obtain ⟨s', i', v', rfl, vs, vi, vv⟩ := args3 hA
        simp only [VR] at vs vi vv
        obtain ⟨_, rfl, rfl⟩ := vs
        subst vi
        obtain ⟨b', vc, rfl, hl2, hc2, hex2, hsb2, har2⟩ := vv
        obtain ⟨kq, hkq, rfl⟩ : ∃ k, μ q = some k ∧ b' = ⟨k.b, 0, none⟩ := by
          rcases har2 with h | ⟨h, _⟩
          · exact h
          · cases h
        refine (ins_nil L hr hq hx1 hkq).mono ?_
        rintro e w' ⟨G, sz, rfl, h1, h2, g⟩
        refine ⟨_, _, rfl, ?_, g⟩
        simp only [VR]
        exact ⟨_, G, rfl, Nat.le_refl _, h1, (fun e => by cases e), fun _ _ => ⟨_, Mu.put_same _ _ _, by rw [Nat.mul_one]; exact h2⟩, .inl ⟨_, Mu.put_same _ _ _, rfl⟩⟩
      · cases hs
    · cases hs
  · cases hs
end
end Go.Proofs.Ytcjmklbfaoionaa.Dg
