/-
 CharrefOnes: the walk.
-/
import Derived.Test.YtkhjmgchlbnkjaaDoorQ0
set_option linter.unusedVariables false
set_option linter.unusedSimpArgs false
namespace Go.Proofs.YtkhjmgchlbnkjaaDoor.Dg
open Go Go.RowKit
set_option maxRecDepth 20000
set_option maxHeartbeats 8000000
theorem CodesAt.hx {h h' : H} {w : V} {cs : List Int} (c : CodesAt h w cs) (k : HX h h') : CodesAt h' w cs := by
 rcases c with h | ⟨q, m, x, e, l, g⟩
 ·exact .inl h
 ·exact .inr ⟨q, m, x, e, k.le l, k.keep l g⟩
theorem cs_rv (cs : List Int) : (cs.map fun c => V.int .i64 c) = rv (fun x => [V.int .i64 x]) cs := by
 unfold rv
 induction cs with
 | nil => rfl
 | cons a l ih => simp [ih]
theorem numRes_le (s : List UInt8) (l : Int) (a : Int × Int) : (numRes s l a).2.2.length ≤ 2 := by
 unfold numRes
 split
 ·simp
 ·split <;> split <;> simp
theorem oneP_le (s : List UInt8) (attr : Bool) : (oneP s attr).2.2.length ≤ 2 := by
 unfold oneP
 split
 ·split
  ·unfold numP; split <;> exact numRes_le _ _ _
  ·unfold oneT noRef
   split
   ·split <;> simp
   ·split
    ·simp
    ·split <;> simp
 ·simp
def E124 (oa : Option Ad) (om : Nat) (ox : Bool) (ob : Option Ad) (on : Nat) (oy : Bool) : List V := (.slice oa 0 om ox :: .slice ob 0 on oy :: U :: U :: .bool true :: iv 0 :: .slice oa 0 om ox :: iv 0 :: .slice ob 0 on oy :: iv 0 :: .bool false :: iv 0 :: .slice oa 0 om ox :: iv 0 :: .bool false :: us 11)
theorem codes_nil {W : World} {oa ob : Option Ad} {om on : Nat} {ox oy : Bool} {h : H} : WpF Tryd.prog W prim2 13 [.slice oa 0 om ox, .slice ob 0 on oy] h (fun v h' => h = h' ∧ v = .bool true) := by
 refine WpF.m tab4_ok (by kernel_rfl) rfl ?_
 refine WpM.cfg (c' := ⟨.code x13_0, [], (.slice oa 0 om ox :: .slice ob 0 on oy :: us 24), [], h, none⟩) (by kernel_rfl) ?_
 refine rn4 47 ⟨.done .ret, [], (E124 oa om ox ob on oy), [], h, none⟩ ?_
 refine WpM.ret (.bool true) h (by kernel_rfl) (by kernel_rfl) ?_
 first | exact ⟨rfl, rfl⟩ | (exfalso; simp_all; done)
def E125 (qa : Nat) (cs : List Int) (ma : Nat) (xa : Bool) (qb : Nat) (mb : Nat) (xb : Bool) (d4 : V) (i : Int) (d15 : V) (d16 : V) (d17 : V) (d18 : V) (d19 : V) (d20 : V) (d21 : V) (d22 : V) (d23 : V) (d24 : V) (d25 : V) : List V := (.slice (nw qa) cs.length ma xa :: .slice (nw qb) cs.length mb xb :: U :: U :: d4 :: iv i :: .slice (nw qa) cs.length ma xa :: iv ((cs.length : Int)) :: .slice (nw qb) cs.length mb xb :: iv ((cs.length : Int)) :: .bool (!(((cs.length : Int)) == ((cs.length : Int)))) :: iv i :: .slice (nw qa) cs.length ma xa :: iv ((cs.length : Int)) :: .bool (decide (i < ((cs.length : Int)))) :: d15 :: d16 :: d17 :: d18 :: d19 :: d20 :: d21 :: d22 :: d23 :: d24 :: d25 :: [])
theorem codes_loop {W : World} {cs : List Int} {qa qb ma mb : Nat} {xa xb : Bool} {h : H} (hl : cs.length ≤ 2) (la : qa < h.nx) (ga : h.get qa = some (.cells (rv (fun x => [V.int .i64 x]) cs) 3)) (lb : qb < h.nx) (gb : h.get qb = some (.cells (rv (fun x => [V.int .i64 x]) cs) 3)) (nn : Nat) : ∀ (i : Int) (d4 d11 d12 d13 d14 d15 d16 d17 d18 d19 d20 d21 d22 d23 d24 d25 : V), nn = ((cs.length : Int) - i).toNat → (0 ≤ i) → (i ≤ (cs.length : Int)) → WpM Tryd.prog W prim2 ⟨.code x13_13, [.loop x13_13, .blk 0, .seq x13_25], (.slice (nw qa) cs.length ma xa :: .slice (nw qb) cs.length mb xb :: U :: U :: d4 :: iv i :: .slice (nw qa) cs.length ma xa :: iv ((cs.length : Int)) :: .slice (nw qb) cs.length mb xb :: iv ((cs.length : Int)) :: .bool (!(((cs.length : Int)) == ((cs.length : Int)))) :: d11 :: d12 :: d13 :: d14 :: d15 :: d16 :: d17 :: d18 :: d19 :: d20 :: d21 :: d22 :: d23 :: d24 :: d25 :: []), [], h, none⟩ (retQ Tryd.prog W [.tmp 4] (fun v h' => h = h' ∧ v = .bool true)) := by
 induction nn using Nat.strongRecOn with
 | _ nn ih =>
  intro i d4 d11 d12 d13 d14 d15 d16 d17 d18 d19 d20 d21 d22 d23 d24 d25 hn9 h0i h1i
  skip
  skip
  refine rn4 9 ⟨.code x13_16, [.seq x13_17, .loop x13_13, .blk 0, .seq x13_25], (E125 qa cs ma xa qb mb xb d4 i d15 d16 d17 d18 d19 d20 d21 d22 d23 d24 d25), [], h, none⟩ ?_
  refine WpM.cond (t := (decide (i < ((cs.length : Int))))) (by kernel_rfl) (fun c101 => ?_) (fun c101 => ?_)
  ·have c101p := dec_t c101
   refine rn4 8 ⟨.draw m13_20 ((2, p13_20_2) :: o13_20.drop 3) [], [.seq x13_21, .blk 1, .seq x13_24, .loop x13_13, .blk 0, .seq x13_25], (ss (E125 qa cs ma xa qb mb xb d4 i d15 d16 d17 d18 d19 d20 d21 d22 d23 d24 d25) [(17, .slice (nw qa) cs.length ma xa), (18, iv i)]), [], h, none⟩ ?_
   refine WpM.opD (.ptr (some (.new qa (0 + i.toNat * 1)))) _ (by kernel_rfl) (by kernel_rfl) (indexAddr_sl (e := 3) (a := (.new qa 0)) (len := cs.length) (lb := ma) (ex := xa) (z := 1) (k := .i64) (n := i) (by kernel_rfl) (by kernel_rfl) (by kernel_rfl) (by kernel_rfl) (by omega)) (by kernel_rfl) ?_
   refine rn4 0 ⟨.draw m13_20 ((3, p13_20_3) :: o13_20.drop 4) [], [.seq x13_21, .blk 1, .seq x13_24, .loop x13_13, .blk 0, .seq x13_25], (ss (E125 qa cs ma xa qb mb xb d4 i d15 d16 d17 d18 d19 d20 d21 d22 d23 d24 d25) [(17, .slice (nw qa) cs.length ma xa), (18, iv i), (19, .ptr (some (.new qa (0 + i.toNat * 1))))]), [], h, none⟩ ?_
   refine WpM.opD (iv ((gt cs i))) _ (by kernel_rfl) (by kernel_rfl) (load_new (o := (0 + i.toNat * 1)) (by kernel_rfl) ga (rv_ld (z := 1) (f := (fun x => [iv x])) (fun _ => rfl) (i := i) (by omega) (off := 0) (by kernel_rfl) (by decide) (by kernel_rfl) (by omega))) (by kernel_rfl) ?_
   refine rn4 2 ⟨.draw m13_20 ((6, p13_20_6) :: o13_20.drop 7) [], [.seq x13_21, .blk 1, .seq x13_24, .loop x13_13, .blk 0, .seq x13_25], (ss (E125 qa cs ma xa qb mb xb d4 i d15 d16 d17 d18 d19 d20 d21 d22 d23 d24 d25) [(17, .slice (nw qa) cs.length ma xa), (18, iv i), (19, .ptr (some (.new qa (0 + i.toNat * 1)))), (20, iv ((gt cs i))), (21, .slice (nw qb) cs.length mb xb), (22, iv i)]), [], h, none⟩ ?_
   refine WpM.opD (.ptr (some (.new qb (0 + i.toNat * 1)))) _ (by kernel_rfl) (by kernel_rfl) (indexAddr_sl (e := 3) (a := (.new qb 0)) (len := cs.length) (lb := mb) (ex := xb) (z := 1) (k := .i64) (n := i) (by kernel_rfl) (by kernel_rfl) (by kernel_rfl) (by kernel_rfl) (by omega)) (by kernel_rfl) ?_
   refine rn4 0 ⟨.draw m13_20 ((7, p13_20_7) :: o13_20.drop 8) [], [.seq x13_21, .blk 1, .seq x13_24, .loop x13_13, .blk 0, .seq x13_25], (ss (E125 qa cs ma xa qb mb xb d4 i d15 d16 d17 d18 d19 d20 d21 d22 d23 d24 d25) [(17, .slice (nw qa) cs.length ma xa), (18, iv i), (19, .ptr (some (.new qa (0 + i.toNat * 1)))), (20, iv ((gt cs i))), (21, .slice (nw qb) cs.length mb xb), (22, iv i), (23, .ptr (some (.new qb (0 + i.toNat * 1))))]), [], h, none⟩ ?_
   refine WpM.opD (iv ((gt cs i))) _ (by kernel_rfl) (by kernel_rfl) (load_new (o := (0 + i.toNat * 1)) (by kernel_rfl) gb (rv_ld (z := 1) (f := (fun x => [iv x])) (fun _ => rfl) (i := i) (by omega) (off := 0) (by kernel_rfl) (by decide) (by kernel_rfl) (by omega))) (by kernel_rfl) ?_
   refine rn4 3 ⟨.code x13_21, [.blk 1, .seq x13_24, .loop x13_13, .blk 0, .seq x13_25], (ss (E125 qa cs ma xa qb mb xb d4 i d15 d16 d17 d18 d19 d20 d21 d22 d23 d24 d25) [(17, .slice (nw qa) cs.length ma xa), (18, iv i), (19, .ptr (some (.new qa (0 + i.toNat * 1)))), (20, iv ((gt cs i))), (21, .slice (nw qb) cs.length mb xb), (22, iv i), (23, .ptr (some (.new qb (0 + i.toNat * 1)))), (24, iv ((gt cs i))), (25, .bool (!(((gt cs i)) == ((gt cs i)))))]), [], h, none⟩ ?_
   refine WpM.cond (t := (!(((gt cs i)) == ((gt cs i))))) (by kernel_rfl) (fun c102 => ?_) (fun c102 => ?_)
   ·have c102p := nbeq_t c102
    exfalso; simp at c102
   ·have c102p := nbeq_f c102
    refine rn4 5 ⟨.ops (p13_24_1 :: o13_24.drop 2), [.loop x13_13, .blk 0, .seq x13_25], (ss (E125 qa cs ma xa qb mb xb d4 i d15 d16 d17 d18 d19 d20 d21 d22 d23 d24 d25) [(15, iv i), (17, .slice (nw qa) cs.length ma xa), (18, iv i), (19, .ptr (some (.new qa (0 + i.toNat * 1)))), (20, iv ((gt cs i))), (21, .slice (nw qb) cs.length mb xb), (22, iv i), (23, .ptr (some (.new qb (0 + i.toNat * 1)))), (24, iv ((gt cs i))), (25, .bool (!(((gt cs i)) == ((gt cs i)))))]), [], h, none⟩ ?_
    refine WpM.op (iv (i + 1)) _ (by kernel_rfl) (arith_add (by kernel_rfl) (by kernel_rfl) (by omega)) ?_
    refine rn4 3 ⟨.code x13_13, [.loop x13_13, .blk 0, .seq x13_25], (.slice (nw qa) cs.length ma xa :: .slice (nw qb) cs.length mb xb :: U :: U :: d4 :: iv (i + 1) :: .slice (nw qa) cs.length ma xa :: iv ((cs.length : Int)) :: .slice (nw qb) cs.length mb xb :: iv ((cs.length : Int)) :: .bool (!(((cs.length : Int)) == ((cs.length : Int)))) :: iv i :: .slice (nw qa) cs.length ma xa :: iv ((cs.length : Int)) :: .bool (decide (i < ((cs.length : Int)))) :: iv i :: iv (i + 1) :: .slice (nw qa) cs.length ma xa :: iv i :: .ptr (some (.new qa (0 + i.toNat * 1))) :: iv ((gt cs i)) :: .slice (nw qb) cs.length mb xb :: iv i :: .ptr (some (.new qb (0 + i.toNat * 1))) :: iv ((gt cs i)) :: .bool (!(((gt cs i)) == ((gt cs i)))) :: []), [], h, none⟩ ?_
    refine ih _ ?_ _ _ _ _ _ _ _ _ _ _ _ _ _ _ _ _ _ rfl ?_ ?_
    ·omega
    ·omega
    ·omega
  ·have c101p := dec_f c101
   refine rn4 11 ⟨.done .ret, [], (ss (E125 qa cs ma xa qb mb xb d4 i d15 d16 d17 d18 d19 d20 d21 d22 d23 d24 d25) [(4, .bool true)]), [], h, none⟩ ?_
   refine WpM.ret (.bool true) h (by kernel_rfl) (by kernel_rfl) ?_
   exact ⟨rfl, rfl⟩
def E126 (qa : Nat) (cs : List Int) (ma : Nat) (xa : Bool) (qb : Nat) (mb : Nat) (xb : Bool) : List V := (.slice (nw qa) cs.length ma xa :: .slice (nw qb) cs.length mb xb :: U :: U :: .bool false :: U :: .slice (nw qa) cs.length ma xa :: iv ((cs.length : Int)) :: .slice (nw qb) cs.length mb xb :: iv ((cs.length : Int)) :: .bool (!(((cs.length : Int)) == ((cs.length : Int)))) :: us 15)
theorem codes_rows {W : World} {cs : List Int} {qa qb ma mb : Nat} {xa xb : Bool} {h : H} (hl : cs.length ≤ 2) (la : qa < h.nx) (ga : h.get qa = some (.cells (rv (fun x => [V.int .i64 x]) cs) 3)) (lb : qb < h.nx) (gb : h.get qb = some (.cells (rv (fun x => [V.int .i64 x]) cs) 3)) : WpF Tryd.prog W prim2 13 [.slice (nw qa) cs.length ma xa, .slice (nw qb) cs.length mb xb] h (fun v h' => h = h' ∧ v = .bool true) := by
 refine WpF.m tab4_ok (by kernel_rfl) rfl ?_
 refine WpM.cfg (c' := ⟨.code x13_0, [], (.slice (nw qa) cs.length ma xa :: .slice (nw qb) cs.length mb xb :: us 24), [], h, none⟩) (by kernel_rfl) ?_
 refine rn4 15 ⟨.code x13_5, [.seq x13_8], (E126 qa cs ma xa qb mb xb), [], h, none⟩ ?_
 refine WpM.cond (t := (!(((cs.length : Int)) == ((cs.length : Int))))) (by kernel_rfl) (fun c1 => ?_) (fun c1 => ?_)
 ·have c1p := nbeq_t c1
  exfalso; simp at c1
 ·have c1p := nbeq_f c1
  refine rn4 10 ⟨.code x13_13, [.loop x13_13, .blk 0, .seq x13_25], (.slice (nw qa) cs.length ma xa :: .slice (nw qb) cs.length mb xb :: U :: U :: .bool false :: iv 0 :: .slice (nw qa) cs.length ma xa :: iv ((cs.length : Int)) :: .slice (nw qb) cs.length mb xb :: iv ((cs.length : Int)) :: .bool (!(((cs.length : Int)) == ((cs.length : Int)))) :: us 15), [], h, none⟩ ?_
  exact codes_loop hl la ga lb gb _ 0 _ _ _ _ _ _ _ _ _ _ _ _ _ _ _ _ rfl (by omega) (by omega)
theorem codes_ok {W : World} {cs : List Int} {a b : V} {h : H} (hl : cs.length ≤ 2) (ha : CodesAt h a cs) (hb : CodesAt h b cs) : WpF Tryd.prog W prim2 13 [a, b] h (fun v h' => h = h' ∧ v = .bool true) := by
 by_cases e : cs = []
 ·subst e
  rcases ha with ⟨_, rfl⟩ | ⟨q, m, x, rfl, _, _⟩ <;> rcases hb with ⟨_, rfl⟩ | ⟨q2, m2, x2, rfl, _, _⟩ <;> exact codes_nil
 ·rcases ha with ⟨e1, _⟩ | ⟨q, m, x, rfl, l1, g1⟩
  ·exact absurd e1 e
  ·rcases hb with ⟨e1, _⟩ | ⟨q2, m2, x2, rfl, l2, g2⟩
   ·exact absurd e1 e
   ·rw [cs_rv] at g1 g2
    exact codes_rows hl l1 g1 l2 g2
def E127 (s : List UInt8) (attr : Bool) : List V := (.str s :: .bool attr :: U :: U :: .bool false :: U :: U :: U :: U :: U :: U :: .str s :: iv ((s.length : Int)) :: .bool (decide (((s.length : Int)) > 3000)) :: us 31)
def E128 (s : List UInt8) (attr : Bool) (ra : Int) (ea : Int) (wa : V) : List V := (.str s :: .bool attr :: U :: U :: .bool false :: iv ra :: iv ea :: wa :: U :: U :: U :: .str s :: iv ((s.length : Int)) :: .bool (decide (((s.length : Int)) > 3000)) :: U :: .tup [iv ra, iv ea, wa] :: .str s :: .bool attr :: .tup [iv ra, iv ea, wa] :: iv ra :: iv ea :: wa :: U :: .str s :: .bool attr :: us 20)
def E129 (s : List UInt8) (attr : Bool) (ra : Int) (ea : Int) (wa : V) (wb : V) : List V := (.str s :: .bool attr :: U :: U :: .bool false :: iv ra :: iv ea :: wa :: iv ra :: iv ea :: wb :: .str s :: iv ((s.length : Int)) :: .bool (decide (((s.length : Int)) > 3000)) :: U :: .tup [iv ra, iv ea, wa] :: .str s :: .bool attr :: .tup [iv ra, iv ea, wa] :: iv ra :: iv ea :: wa :: .tup [iv ra, iv ea, wb] :: .str s :: .bool attr :: .tup [iv ra, iv ea, wb] :: iv ra :: iv ea :: wb :: iv ra :: iv ra :: .bool (ra == ra) :: .bool true :: iv ea :: iv ea :: .bool (ea == ea) :: .bool (ea == ea) :: .bool (ea == ea) :: us 7)
theorem ones_ok {W : World} {s : List UInt8} {attr : Bool} (hs : s.length ≤ 140737488351232) (_ : True) : WpF Tryd.prog W prim2 4 [.str s, .bool attr] H.empty (fun v _ => v = .bool true) := by
 refine WpF.m tab4_ok (by kernel_rfl) rfl ?_
 refine WpM.cfg (c' := ⟨.code x4_0, [], (.str s :: .bool attr :: us 43), [], H.empty, none⟩) (by kernel_rfl) ?_
 refine rn4 13 ⟨.code x4_5, [.seq x4_8], (E127 s attr), [], H.empty, none⟩ ?_
 refine WpM.cond (t := (decide (((s.length : Int)) > 3000))) (by kernel_rfl) (fun c1 => ?_) (fun c1 => ?_)
 ·have c1p := dec_t c1
  refine rn4 2 ⟨.ops (p4_7_0 :: o4_7.drop 1), [.seq .ret, .seq x4_8], (E127 s attr), [], H.empty, none⟩ ?_
  refine WpM.call 10 [] (by kernel_rfl) (by kernel_rfl) ?_
  refine WpF.mono (awake_ok _) ?_
  rintro _ h2 ⟨a3, rfl⟩
  refine rn4 5 ⟨.done .ret, [], (ss (E127 s attr) [(4, .bool true), (14, .bool true)]), [], h2, none⟩ ?_
  refine WpM.ret (.bool true) h2 (by kernel_rfl) (by kernel_rfl) ?_
  first | rfl | (exfalso; simp_all; done)
 ·have c1p := dec_f c1
  refine rn4 6 ⟨.ops (p4_9_2 :: o4_9.drop 3), [.seq x4_10], (ss (E127 s attr) [(16, .str s), (17, .bool attr)]), [], H.empty, none⟩ ?_
  refine WpM.call 11 [.str s, .bool attr] (by kernel_rfl) (by kernel_rfl) ?_
  refine WpF.mono (one_ok hs) ?_
  rintro _ h4 ⟨a5, ra, ea, ca, wa, hRa, rfl, hCa⟩
  refine rn4 13 ⟨.ops (p4_11_2 :: o4_11.drop 3), [.seq x4_12], (E128 s attr ra ea wa), [], h4, none⟩ ?_
  refine WpM.call 12 [.str s, .bool attr] (by kernel_rfl) (by kernel_rfl) ?_
  refine WpF.mono (rone_ok hs) ?_
  rintro _ h6 ⟨a7, rb, eb, cb, wb, hRb, rfl, hCb⟩
  rw [hRa] at hRb
  simp only [Prod.mk.injEq] at hRb
  obtain ⟨rfl, rfl, rfl⟩ := hRb
  have hle := oneP_le s attr
  rw [hRa] at hle
  refine rn4 15 ⟨.ops (p4_13_4 :: o4_13.drop 5), [.seq .ret], (ss (E128 s attr ra ea wa) [(8, iv ra), (9, iv ea), (10, wb), (22, .tup [iv ra, iv ea, wb]), (25, .tup [iv ra, iv ea, wb]), (26, iv ra), (27, iv ea), (28, wb), (29, iv ra), (30, iv ra), (31, .bool (ra == ra)), (32, .bool (ra == ra))]), [], h6, none⟩ ?_
  refine WpM.guard (b := (ra == ra)) (by kernel_rfl) (fun c8 => ?_) (fun c8 => ?_)
  ·have c8p := beq_t c8
   refine rn4 5 ⟨.ops (p4_13_9 :: o4_13.drop 10), [.seq .ret], (E129 s attr ra ea wa wb), [], h6, none⟩ ?_
   refine WpM.guard (b := (ea == ea)) (by kernel_rfl) (fun c9 => ?_) (fun c9 => ?_)
   ·have c9p := beq_t c9
    refine rn4 2 ⟨.ops (p4_13_11 :: o4_13.drop 12), [.seq .ret], (ss (E129 s attr ra ea wa wb) [(37, .bool true), (38, wa), (39, wb)]), [], h6, none⟩ ?_
    refine WpM.call 13 [wa, wb] (by kernel_rfl) (by kernel_rfl) ?_
    refine WpF.mono (codes_ok hle (hCa.hx ((HX.refl h4).trans a7)) (hCb.hx (HX.refl h6))) ?_
    rintro _ _ ⟨rfl, rfl⟩
    refine rn4 2 ⟨.ops (p4_13_14 :: o4_13.drop 15), [.seq .ret], (ss (E129 s attr ra ea wa wb) [(37, .bool true), (38, wa), (39, wb), (40, .bool true), (41, .bool true), (42, .bool true)]), [], h6, none⟩ ?_
    refine WpM.call 10 [] (by kernel_rfl) (by kernel_rfl) ?_
    refine WpF.mono (awake_ok _) ?_
    rintro _ h10 ⟨a11, rfl⟩
    refine rn4 5 ⟨.done .ret, [], (ss (E129 s attr ra ea wa wb) [(4, .bool true), (37, .bool true), (38, wa), (39, wb), (40, .bool true), (41, .bool true), (42, .bool true), (43, .bool true), (44, .bool true)]), [], h10, none⟩ ?_
    refine WpM.ret (.bool true) h10 (by kernel_rfl) (by kernel_rfl) ?_
    first | rfl | (exfalso; simp_all; done)
   ·have c9p := beq_f c9
    exfalso; simp at c9
  ·have c8p := beq_f c8
   exfalso; simp at c8
end Go.Proofs.YtkhjmgchlbnkjaaDoor.Dg
