/-
  FormatsCleared: the walk.
-/
import Derived.Test.YtplcallbihapdaaL0
set_option linter.unusedVariables false
set_option linter.unusedSimpArgs false
namespace Go.Proofs.Ytplcallbihapdaa.Dg
open Go Go.RowKit
set_option maxRecDepth 20000
theorem MarkAt.mark {ys : List RE} {y : RE} (h : y.id = -1) : MarkAt (ys ++ [y]) (ys.length + 1) :=
  ⟨by simp, fun _ => by rw [gt_app_eq (by omega)]; omega, fun j a b => by simp at b; omega⟩
theorem MarkAt.mark1 {y : RE} (h : y.id = -1) : MarkAt [y] (0 + 1) := MarkAt.mark (ys := []) h
theorem CpL.eqs {h : H} {n : Int} {zs ys ws : List RE} (s : CpL h n zs ys) (e : ∀ j : Int, 0 ≤ j → j < n → gt ws j = gt ys j) : CpL h n zs ws := fun j a b => by rw [e j a b]; exact s j a b
theorem CpL.both {h : H} {n : Int} {xs zs ys : List RE} (s : CpL h n xs ys) (t : CpL h n zs ys) : CpL h n xs zs := fun j a b => ⟨(s j a b).1, (s j a b).2.id.trans (t j a b).2.id.symm, (s j a b).2.sp.trans (t j a b).2.sp.symm, (s j a b).2.nm.trans (t j a b).2.nm.symm, (s j a b).2.l.trans (t j a b).2.l.symm⟩
def E91 (l : SlV T29) (m : SlV T29) (p1 : Nat) (e6 : V) (pr : Nat) (n0 : Nat) (i : Int) (e9 : V) (e10 : V) (e11 : V) (e12 : V) (e13 : V) (e14 : V) (e15 : V) (e16 : V) (e17 : V) (e18 : V) (e19 : V) (e20 : V) (e21 : V) (e22 : V) (e23 : V) (e24 : V) (e25 : V) (e26 : V) (e27 : V) (e28 : V) (e29 : V) (e30 : V) (e31 : V) (e32 : V) (e33 : V) (e34 : V) (e35 : V) (e36 : V) (e37 : V) (e38 : V) (e39 : V) (e40 : V) (d45 : V) (d46 : V) (d47 : V) (d48 : V) (d49 : V) (d50 : V) (d51 : V) (d52 : V) : List V := (.slice l.a l.l.length l.cap true :: .slice m.a m.l.length m.cap true :: U :: U :: .bool false :: .ptr (some (.new p1 0)) :: e6 :: .slice (some (.new pr 0)) n0 n0 true :: .int .i64 i :: e9 :: e10 :: e11 :: e12 :: e13 :: e14 :: e15 :: e16 :: e17 :: e18 :: e19 :: e20 :: e21 :: e22 :: e23 :: e24 :: e25 :: e26 :: e27 :: e28 :: e29 :: e30 :: e31 :: e32 :: e33 :: e34 :: e35 :: e36 :: e37 :: e38 :: e39 :: e40 :: .int .i64 i :: .slice m.a m.l.length m.cap true :: .int .i64 ((m.l.length : Int)) :: .bool (decide (i < ((m.l.length : Int)))) :: d45 :: d46 :: d47 :: d48 :: d49 :: d50 :: d51 :: d52 :: us 9)
def E92 (l : SlV T29) (m : SlV T29) (p1 : Nat) (e6 : V) (pr : Nat) (n0 : Nat) (i : Int) (e9 : V) (e10 : V) (e11 : V) (e12 : V) (e13 : V) (e14 : V) (e15 : V) (e16 : V) (e17 : V) (e18 : V) (e19 : V) (e20 : V) (e21 : V) (e22 : V) (e23 : V) (e24 : V) (e25 : V) (e26 : V) (e27 : V) (e28 : V) (e29 : V) (e30 : V) (e31 : V) (e32 : V) (e33 : V) (e34 : V) (e35 : V) (e36 : V) (e37 : V) (e38 : V) (e39 : V) (e40 : V) (d45 : V) (d46 : V) (d52 : V) : List V := (.slice l.a l.l.length l.cap true :: .slice m.a m.l.length m.cap true :: U :: U :: .bool false :: .ptr (some (.new p1 0)) :: e6 :: .slice (some (.new pr 0)) n0 n0 true :: .int .i64 i :: e9 :: e10 :: e11 :: e12 :: e13 :: e14 :: e15 :: e16 :: e17 :: e18 :: e19 :: e20 :: e21 :: e22 :: e23 :: e24 :: e25 :: e26 :: e27 :: e28 :: e29 :: e30 :: e31 :: e32 :: e33 :: e34 :: e35 :: e36 :: e37 :: e38 :: e39 :: e40 :: .int .i64 i :: .slice m.a m.l.length m.cap true :: .int .i64 ((m.l.length : Int)) :: .bool (decide (i < ((m.l.length : Int)))) :: d45 :: d46 :: .ptr (some (.new p1 0)) :: .slice m.a m.l.length m.cap true :: .int .i64 i :: .ptr (some ((adr m.a).add (i.toNat * 4))) :: .agg [.int .i64 ((gt m.l i).fId), .int .i64 ((gt m.l i).fSpace), .str ((gt m.l i).fName), .slice (gt m.l i).fAttrs.a ((gt m.l i).fAttrs.l.length) ((gt m.l i).fAttrs.cap) true] :: d52 :: us 9)
theorem fc2_loop {W : World} {p1 pr n0 : Nat} {e6 e9 e10 e11 e12 e13 e14 e15 e16 e17 e18 e19 e20 e21 e22 e23 e24 e25 e26 e27 e28 e29 e30 e31 e32 e33 e34 e35 e36 e37 e38 e39 e40 : V} {zs : List RE} {l m : SlV T29} (hl : l.ok W 4 56 T29.cells (T29.ok W)) (hm : m.ok W 4 56 T29.cells (T29.ok W)) (hlen : l.l.length + m.l.length ≤ 200) (hn : n0 ≤ 200) (hz : zs.length = n0) (n : Nat) : ∀ (i : Int) (h : H) (pz : Nat) (ys : List RE) (d41 d42 d43 d44 d45 d46 d47 d48 d49 d50 d51 d52 : V), n = ((m.l.length : Int) - i).toNat → (0 ≤ i) → (i ≤ (m.l.length : Int)) → (FW h p1 pz ys) → (MarkAt ys (n0 + 1)) → (h.get pr = some (.cells (rv RE.cells zs) 29)) → (pr < h.nx) → (p1 < pr ∧ pr < pz) → (CpL h n0 zs ys) → ((ys.length : Int) ≤ n0 + 1 + i) → WpM Try.prog W prim1 ⟨.code x4_32, [.loop x4_32, .blk 2, .seq x4_40], (.slice l.a l.l.length l.cap true :: .slice m.a m.l.length m.cap true :: U :: U :: .bool false :: .ptr (some (.new p1 0)) :: e6 :: .slice (some (.new pr 0)) n0 n0 true :: .int .i64 i :: e9 :: e10 :: e11 :: e12 :: e13 :: e14 :: e15 :: e16 :: e17 :: e18 :: e19 :: e20 :: e21 :: e22 :: e23 :: e24 :: e25 :: e26 :: e27 :: e28 :: e29 :: e30 :: e31 :: e32 :: e33 :: e34 :: e35 :: e36 :: e37 :: e38 :: e39 :: e40 :: d41 :: d42 :: d43 :: d44 :: d45 :: d46 :: d47 :: d48 :: d49 :: d50 :: d51 :: d52 :: us 9), [], h, none⟩ (retQ Try.prog W [.tmp 4] (fun v _ => v = .bool true)) := by
  induction n using Nat.strongRecOn with
  | _ n ih =>
    intro i h pz ys d41 d42 d43 d44 d45 d46 d47 d48 d49 d50 d51 d52 hn h0i h1i hS hM gr lr od hC hly
    have hls := hS.ls
    have hlz := hS.lz
    have hcl := hM.le
    refine WpM.run tab_ok 9 ⟨.code x4_35, [.seq x4_36, .loop x4_32, .blk 2, .seq x4_40], (E91 l m p1 e6 pr n0 i e9 e10 e11 e12 e13 e14 e15 e16 e17 e18 e19 e20 e21 e22 e23 e24 e25 e26 e27 e28 e29 e30 e31 e32 e33 e34 e35 e36 e37 e38 e39 e40 d45 d46 d47 d48 d49 d50 d51 d52), [], h, none⟩ (by kernel_rfl) ?_
    refine WpM.cond (t := (decide (i < ((m.l.length : Int))))) (by kernel_rfl) (fun c101 => ?_) (fun c101 => ?_)
    · have c101p := dec_t c101
      refine WpM.run tab_ok 8 ⟨.ops (p4_38_3 :: o4_38.drop 4), [.blk 3, .seq x4_39, .loop x4_32, .blk 2, .seq x4_40], ((((E91 l m p1 e6 pr n0 i e9 e10 e11 e12 e13 e14 e15 e16 e17 e18 e19 e20 e21 e22 e23 e24 e25 e26 e27 e28 e29 e30 e31 e32 e33 e34 e35 e36 e37 e38 e39 e40 d45 d46 d47 d48 d49 d50 d51 d52).set 47 (.ptr (some (.new p1 0)))).set 48 (.slice m.a m.l.length m.cap true)).set 49 (.int .i64 i)), [], h, none⟩ (by kernel_rfl) ?_
      refine WpM.op (.ptr (some ((adr m.a).add (i.toNat * 4)))) _ (by kernel_rfl) (indexAddr_arr (l := m.l) (cap := m.cap) (e := 29) (k := .i64) hm.arr (by kernel_rfl) (by kernel_rfl) (by kernel_rfl) (by kernel_rfl) (by omega)) ?_
      refine WpM.run tab_ok 0 ⟨.ops (p4_38_4 :: o4_38.drop 5), [.blk 3, .seq x4_39, .loop x4_32, .blk 2, .seq x4_40], (((((E91 l m p1 e6 pr n0 i e9 e10 e11 e12 e13 e14 e15 e16 e17 e18 e19 e20 e21 e22 e23 e24 e25 e26 e27 e28 e29 e30 e31 e32 e33 e34 e35 e36 e37 e38 e39 e40 d45 d46 d47 d48 d49 d50 d51 d52).set 47 (.ptr (some (.new p1 0)))).set 48 (.slice m.a m.l.length m.cap true)).set 49 (.int .i64 i)).set 50 (.ptr (some ((adr m.a).add (i.toNat * 4))))), [], h, none⟩ (by kernel_rfl) ?_
      refine WpM.op (.agg [.int .i64 ((gt m.l i).fId), .int .i64 ((gt m.l i).fSpace), .str ((gt m.l i).fName), .slice (gt m.l i).fAttrs.a ((gt m.l i).fAttrs.l.length) ((gt m.l i).fAttrs.cap) true]) _ (by kernel_rfl) (arr_loadA (i := i) hm.arr (by omega) (off := 0) (n := 4) (ad := ((adr m.a).add (i.toNat * 4))) (by kernel_rfl) (by kernel_rfl) (by kernel_rfl) (by decide) (by decide) (by kernel_rfl) ((Ad.add_zero _).symm)) ?_
      refine WpM.run tab_ok 0 ⟨.ops (p4_38_5 :: o4_38.drop 6), [.blk 3, .seq x4_39, .loop x4_32, .blk 2, .seq x4_40], (E92 l m p1 e6 pr n0 i e9 e10 e11 e12 e13 e14 e15 e16 e17 e18 e19 e20 e21 e22 e23 e24 e25 e26 e27 e28 e29 e30 e31 e32 e33 e34 e35 e36 e37 e38 e39 e40 d45 d46 d52), [], h, none⟩ (by kernel_rfl) ?_
      refine WpM.call 9 [.ptr (some (.new p1 0)), .agg [.int .i64 ((gt m.l i).fId), .int .i64 ((gt m.l i).fSpace), .str ((gt m.l i).fName), .slice (gt m.l i).fAttrs.a ((gt m.l i).fAttrs.l.length) ((gt m.l i).fAttrs.cap) true]] (by kernel_rfl) (by kernel_rfl) ?_
      refine WpF.mono (push_ok (c := (n0 + 1)) (e := (gt m.l i)) hS hM (hm.all _ (gt_mem (by omega) (by omega))) (by omega)) ?_
      rintro _ h102 ⟨rfl, pw103, ws103, kS103, kR103, kO103, kp103⟩
      have := kS103.ls
      have := kS103.lz
      have := kO103.nx
      have := kR103.le
      refine WpM.run tab_ok 5 ⟨.ops (p4_39_1 :: o4_39.drop 2), [.loop x4_32, .blk 2, .seq x4_40], (((E92 l m p1 e6 pr n0 i e9 e10 e11 e12 e13 e14 e15 e16 e17 e18 e19 e20 e21 e22 e23 e24 e25 e26 e27 e28 e29 e30 e31 e32 e33 e34 e35 e36 e37 e38 e39 e40 d45 d46 d52).set 45 (.int .i64 i)).set 52 U), [], h102, none⟩ (by kernel_rfl) ?_
      refine WpM.op (.int .i64 (i + 1)) _ (by kernel_rfl) (arith_add (by kernel_rfl) (by kernel_rfl) (by omega)) ?_
      refine WpM.run tab_ok 3 ⟨.code x4_32, [.loop x4_32, .blk 2, .seq x4_40], (.slice l.a l.l.length l.cap true :: .slice m.a m.l.length m.cap true :: U :: U :: .bool false :: .ptr (some (.new p1 0)) :: e6 :: .slice (some (.new pr 0)) n0 n0 true :: .int .i64 (i + 1) :: e9 :: e10 :: e11 :: e12 :: e13 :: e14 :: e15 :: e16 :: e17 :: e18 :: e19 :: e20 :: e21 :: e22 :: e23 :: e24 :: e25 :: e26 :: e27 :: e28 :: e29 :: e30 :: e31 :: e32 :: e33 :: e34 :: e35 :: e36 :: e37 :: e38 :: e39 :: e40 :: .int .i64 i :: .slice m.a m.l.length m.cap true :: .int .i64 ((m.l.length : Int)) :: .bool (decide (i < ((m.l.length : Int)))) :: .int .i64 i :: .int .i64 (i + 1) :: .ptr (some (.new p1 0)) :: .slice m.a m.l.length m.cap true :: .int .i64 i :: .ptr (some ((adr m.a).add (i.toNat * 4))) :: .agg [.int .i64 ((gt m.l i).fId), .int .i64 ((gt m.l i).fSpace), .str ((gt m.l i).fName), .slice (gt m.l i).fAttrs.a ((gt m.l i).fAttrs.l.length) ((gt m.l i).fAttrs.cap) true] :: us 10), [], h102, none⟩ (by kernel_rfl) ?_
      refine ih _ ?_ _ h102 pw103 ws103 _ _ _ _ _ _ _ _ _ _ _ _ rfl ?_ ?_ ?_ ?_ ?_ ?_ ?_ ?_ ?_
      · omega
      · omega
      · omega
      · exact kS103
      · exact kR103.m
      · exact (kO103.keep lr (by omega) (by omega) gr)
      · omega
      · omega
      · exact (hC.mono (kO103.ka hS)).eqs (fun j a b => gt_take_eq kR103.tk a (by omega))
      · omega
    · have c101p := dec_f c101
      refine WpM.run tab_ok 8 ⟨.ops (p4_41_1 :: o4_41.drop 2), [.seq x4_42], (((((((E92 l m p1 e6 pr n0 i e9 e10 e11 e12 e13 e14 e15 e16 e17 e18 e19 e20 e21 e22 e23 e24 e25 e26 e27 e28 e29 e30 e31 e32 e33 e34 e35 e36 e37 e38 e39 e40 d45 d46 d52).set 47 d47).set 48 d48).set 49 d49).set 50 d50).set 51 d51).set 53 (.ptr (some (.new p1 0)))), [], h, none⟩ (by kernel_rfl) ?_
      refine WpM.call 12 [.ptr (some (.new p1 0))] (by kernel_rfl) (by kernel_rfl) ?_
      refine WpF.mono (clear_ok (ci := n0) hS hM rfl (by omega)) ?_
      rintro _ h104 ⟨rfl, ws, kwl, kZ, kE, kO⟩
      have := kZ.ls
      have := kZ.lz
      have := kZ.le
      have := kO.nx
      refine WpM.run tab_ok 5 ⟨.ops (p4_43_1 :: o4_43.drop 2), [.seq .ret], (((E91 l m p1 e6 pr n0 i e9 e10 e11 e12 e13 e14 e15 e16 e17 e18 e19 e20 e21 e22 e23 e24 e25 e26 e27 e28 e29 e30 e31 e32 e33 e34 e35 e36 e37 e38 e39 e40 d45 d46 d47 d48 d49 d50 d51 d52).set 53 (.ptr (some (.new p1 0)))).set 55 (.ptr (some (.new p1 0)))), [], h104, none⟩ (by kernel_rfl) ?_
      refine WpM.call 10 [.ptr (some (.new p1 0))] (by kernel_rfl) (by kernel_rfl) ?_
      refine WpF.mono (all_ok kZ (by omega)) ?_
      rintro _ h105 ⟨a106, pa, xs, rfl, oa, la, ga, hxl, hxC⟩
      refine WpM.run tab_ok 1 ⟨.ops (p4_43_3 :: o4_43.drop 4), [.seq .ret], (((((E91 l m p1 e6 pr n0 i e9 e10 e11 e12 e13 e14 e15 e16 e17 e18 e19 e20 e21 e22 e23 e24 e25 e26 e27 e28 e29 e30 e31 e32 e33 e34 e35 e36 e37 e38 e39 e40 d45 d46 d47 d48 d49 d50 d51 d52).set 53 (.ptr (some (.new p1 0)))).set 55 (.ptr (some (.new p1 0)))).set 56 (.slice (some (.new pa 0)) n0 n0 true)).set 57 (.slice (some (.new pr 0)) n0 n0 true)), [], h105, none⟩ (by kernel_rfl) ?_
      refine WpM.call 13 [.slice (some (.new pa 0)) n0 n0 true, .slice (some (.new pr 0)) n0 n0 true] (by kernel_rfl) (by kernel_rfl) ?_
      have hZ9 := (hC.mono ((kO.ka hS).hx a106))
      have hX9 : CpL h105 n0 xs ys := hxC.eqs (fun j a b => (kE j a b).symm)
      refine WpF.mono (same_ok (by omega) hxl hz la ga (a106.le (by omega)) (a106.keep (by omega) (kO.keep lr (by omega) (by omega) gr)) (fun j a b => (hZ9 j a b).1) (hX9.both hZ9)) ?_
      rintro _ h107 ⟨a108, rfl⟩
      refine WpM.run tab_ok 7 ⟨.done .ret, [], ((((((((((E91 l m p1 e6 pr n0 i e9 e10 e11 e12 e13 e14 e15 e16 e17 e18 e19 e20 e21 e22 e23 e24 e25 e26 e27 e28 e29 e30 e31 e32 e33 e34 e35 e36 e37 e38 e39 e40 d45 d46 d47 d48 d49 d50 d51 d52).set 4 (.bool true)).set 53 (.ptr (some (.new p1 0)))).set 55 (.ptr (some (.new p1 0)))).set 56 (.slice (some (.new pa 0)) n0 n0 true)).set 57 (.slice (some (.new pr 0)) n0 n0 true)).set 58 (.bool true)).set 59 (.bool true)).set 60 (.bool true)).set 61 (.bool true)), [], h107, none⟩ (by kernel_rfl) ?_
      refine WpM.ret (.bool true) h107 (by kernel_rfl) (by kernel_rfl) ?_
      rfl
def E93 (l : SlV T29) (m : SlV T29) (p1 : Nat) (i : Int) (d29 : V) (d30 : V) (d31 : V) (d32 : V) (d33 : V) (d34 : V) (d35 : V) (d36 : V) : List V := (.slice l.a l.l.length l.cap true :: .slice m.a m.l.length m.cap true :: U :: U :: .bool false :: .ptr (some (.new p1 0)) :: .int .i64 i :: U :: U :: .ptr (some (.new p1 0)) :: .ptr (some (.new p1 0)) :: .bool false :: .bool false :: .slice l.a l.l.length l.cap true :: .int .i64 ((l.l.length : Int)) :: .slice m.a m.l.length m.cap true :: .int .i64 ((m.l.length : Int)) :: .int .i64 (((l.l.length : Int)) + ((m.l.length : Int))) :: .bool (decide ((((l.l.length : Int)) + ((m.l.length : Int))) > 200)) :: .bool (decide ((((l.l.length : Int)) + ((m.l.length : Int))) > 200)) :: U :: U :: U :: U :: U :: .int .i64 i :: .slice l.a l.l.length l.cap true :: .int .i64 ((l.l.length : Int)) :: .bool (decide (i < ((l.l.length : Int)))) :: d29 :: d30 :: d31 :: d32 :: d33 :: d34 :: d35 :: d36 :: us 25)
theorem fc1_loop {W : World} {p1 : Nat} {l m : SlV T29} (hl : l.ok W 4 56 T29.cells (T29.ok W)) (hm : m.ok W 4 56 T29.cells (T29.ok W)) (hlen : l.l.length + m.l.length ≤ 200) (n : Nat) : ∀ (i : Int) (h : H) (pz : Nat) (ys : List RE) (d25 d26 d27 d28 d29 d30 d31 d32 d33 d34 d35 d36 : V), n = ((l.l.length : Int) - i).toNat → (0 ≤ i) → (i ≤ (l.l.length : Int)) → (FW h p1 pz ys) → (MarkAt ys 0) → ((ys.length : Int) ≤ i) → WpM Try.prog W prim1 ⟨.code x4_15, [.loop x4_15, .blk 0, .seq x4_23], (.slice l.a l.l.length l.cap true :: .slice m.a m.l.length m.cap true :: U :: U :: .bool false :: .ptr (some (.new p1 0)) :: .int .i64 i :: U :: U :: .ptr (some (.new p1 0)) :: .ptr (some (.new p1 0)) :: .bool false :: .bool false :: .slice l.a l.l.length l.cap true :: .int .i64 ((l.l.length : Int)) :: .slice m.a m.l.length m.cap true :: .int .i64 ((m.l.length : Int)) :: .int .i64 (((l.l.length : Int)) + ((m.l.length : Int))) :: .bool (decide ((((l.l.length : Int)) + ((m.l.length : Int))) > 200)) :: .bool (decide ((((l.l.length : Int)) + ((m.l.length : Int))) > 200)) :: U :: U :: U :: U :: U :: d25 :: d26 :: d27 :: d28 :: d29 :: d30 :: d31 :: d32 :: d33 :: d34 :: d35 :: d36 :: us 25), [], h, none⟩ (retQ Try.prog W [.tmp 4] (fun v _ => v = .bool true)) := by
  induction n using Nat.strongRecOn with
  | _ n ih =>
    intro i h pz ys d25 d26 d27 d28 d29 d30 d31 d32 d33 d34 d35 d36 hn h0i h1i hS hM hly
    have hls := hS.ls
    have hlz := hS.lz
    have hcl := hM.le
    refine WpM.run tab_ok 9 ⟨.code x4_18, [.seq x4_19, .loop x4_15, .blk 0, .seq x4_23], (E93 l m p1 i d29 d30 d31 d32 d33 d34 d35 d36), [], h, none⟩ (by kernel_rfl) ?_
    refine WpM.cond (t := (decide (i < ((l.l.length : Int))))) (by kernel_rfl) (fun c101 => ?_) (fun c101 => ?_)
    · have c101p := dec_t c101
      refine WpM.run tab_ok 8 ⟨.ops (p4_21_3 :: o4_21.drop 4), [.blk 1, .seq x4_22, .loop x4_15, .blk 0, .seq x4_23], ((((E93 l m p1 i d29 d30 d31 d32 d33 d34 d35 d36).set 31 (.ptr (some (.new p1 0)))).set 32 (.slice l.a l.l.length l.cap true)).set 33 (.int .i64 i)), [], h, none⟩ (by kernel_rfl) ?_
      refine WpM.op (.ptr (some ((adr l.a).add (i.toNat * 4)))) _ (by kernel_rfl) (indexAddr_arr (l := l.l) (cap := l.cap) (e := 29) (k := .i64) hl.arr (by kernel_rfl) (by kernel_rfl) (by kernel_rfl) (by kernel_rfl) (by omega)) ?_
      refine WpM.run tab_ok 0 ⟨.ops (p4_21_4 :: o4_21.drop 5), [.blk 1, .seq x4_22, .loop x4_15, .blk 0, .seq x4_23], (((((E93 l m p1 i d29 d30 d31 d32 d33 d34 d35 d36).set 31 (.ptr (some (.new p1 0)))).set 32 (.slice l.a l.l.length l.cap true)).set 33 (.int .i64 i)).set 34 (.ptr (some ((adr l.a).add (i.toNat * 4))))), [], h, none⟩ (by kernel_rfl) ?_
      refine WpM.op (.agg [.int .i64 ((gt l.l i).fId), .int .i64 ((gt l.l i).fSpace), .str ((gt l.l i).fName), .slice (gt l.l i).fAttrs.a ((gt l.l i).fAttrs.l.length) ((gt l.l i).fAttrs.cap) true]) _ (by kernel_rfl) (arr_loadA (i := i) hl.arr (by omega) (off := 0) (n := 4) (ad := ((adr l.a).add (i.toNat * 4))) (by kernel_rfl) (by kernel_rfl) (by kernel_rfl) (by decide) (by decide) (by kernel_rfl) ((Ad.add_zero _).symm)) ?_
      refine WpM.run tab_ok 0 ⟨.ops (p4_21_5 :: o4_21.drop 6), [.blk 1, .seq x4_22, .loop x4_15, .blk 0, .seq x4_23], ((((((E93 l m p1 i d29 d30 d31 d32 d33 d34 d35 d36).set 31 (.ptr (some (.new p1 0)))).set 32 (.slice l.a l.l.length l.cap true)).set 33 (.int .i64 i)).set 34 (.ptr (some ((adr l.a).add (i.toNat * 4))))).set 35 (.agg [.int .i64 ((gt l.l i).fId), .int .i64 ((gt l.l i).fSpace), .str ((gt l.l i).fName), .slice (gt l.l i).fAttrs.a ((gt l.l i).fAttrs.l.length) ((gt l.l i).fAttrs.cap) true])), [], h, none⟩ (by kernel_rfl) ?_
      refine WpM.call 9 [.ptr (some (.new p1 0)), .agg [.int .i64 ((gt l.l i).fId), .int .i64 ((gt l.l i).fSpace), .str ((gt l.l i).fName), .slice (gt l.l i).fAttrs.a ((gt l.l i).fAttrs.l.length) ((gt l.l i).fAttrs.cap) true]] (by kernel_rfl) (by kernel_rfl) ?_
      refine WpF.mono (push_ok (c := 0) (e := (gt l.l i)) hS hM (hl.all _ (gt_mem (by omega) (by omega))) (by omega)) ?_
      rintro _ h102 ⟨rfl, pw103, ws103, kS103, kR103, kO103, kp103⟩
      have := kS103.ls
      have := kS103.lz
      have := kO103.nx
      have := kR103.le
      refine WpM.run tab_ok 5 ⟨.ops (p4_22_1 :: o4_22.drop 2), [.loop x4_15, .blk 0, .seq x4_23], ((((((((E93 l m p1 i d29 d30 d31 d32 d33 d34 d35 d36).set 29 (.int .i64 i)).set 31 (.ptr (some (.new p1 0)))).set 32 (.slice l.a l.l.length l.cap true)).set 33 (.int .i64 i)).set 34 (.ptr (some ((adr l.a).add (i.toNat * 4))))).set 35 (.agg [.int .i64 ((gt l.l i).fId), .int .i64 ((gt l.l i).fSpace), .str ((gt l.l i).fName), .slice (gt l.l i).fAttrs.a ((gt l.l i).fAttrs.l.length) ((gt l.l i).fAttrs.cap) true])).set 36 U), [], h102, none⟩ (by kernel_rfl) ?_
      refine WpM.op (.int .i64 (i + 1)) _ (by kernel_rfl) (arith_add (by kernel_rfl) (by kernel_rfl) (by omega)) ?_
      refine WpM.run tab_ok 3 ⟨.code x4_15, [.loop x4_15, .blk 0, .seq x4_23], (.slice l.a l.l.length l.cap true :: .slice m.a m.l.length m.cap true :: U :: U :: .bool false :: .ptr (some (.new p1 0)) :: .int .i64 (i + 1) :: U :: U :: .ptr (some (.new p1 0)) :: .ptr (some (.new p1 0)) :: .bool false :: .bool false :: .slice l.a l.l.length l.cap true :: .int .i64 ((l.l.length : Int)) :: .slice m.a m.l.length m.cap true :: .int .i64 ((m.l.length : Int)) :: .int .i64 (((l.l.length : Int)) + ((m.l.length : Int))) :: .bool (decide ((((l.l.length : Int)) + ((m.l.length : Int))) > 200)) :: .bool (decide ((((l.l.length : Int)) + ((m.l.length : Int))) > 200)) :: U :: U :: U :: U :: U :: .int .i64 i :: .slice l.a l.l.length l.cap true :: .int .i64 ((l.l.length : Int)) :: .bool (decide (i < ((l.l.length : Int)))) :: .int .i64 i :: .int .i64 (i + 1) :: .ptr (some (.new p1 0)) :: .slice l.a l.l.length l.cap true :: .int .i64 i :: .ptr (some ((adr l.a).add (i.toNat * 4))) :: .agg [.int .i64 ((gt l.l i).fId), .int .i64 ((gt l.l i).fSpace), .str ((gt l.l i).fName), .slice (gt l.l i).fAttrs.a ((gt l.l i).fAttrs.l.length) ((gt l.l i).fAttrs.cap) true] :: us 26), [], h102, none⟩ (by kernel_rfl) ?_
      refine ih _ ?_ _ h102 pw103 ws103 _ _ _ _ _ _ _ _ _ _ _ _ rfl ?_ ?_ ?_ ?_ ?_
      · omega
      · omega
      · omega
      · exact kS103
      · exact kR103.m
      · omega
    · have c101p := dec_f c101
      refine WpM.run tab_ok 8 ⟨.ops (p4_24_1 :: o4_24.drop 2), [.seq x4_25], ((E93 l m p1 i d29 d30 d31 d32 d33 d34 d35 d36).set 37 (.ptr (some (.new p1 0)))), [], h, none⟩ (by kernel_rfl) ?_
      refine WpM.call 10 [.ptr (some (.new p1 0))] (by kernel_rfl) (by kernel_rfl) ?_
      refine WpF.mono (all_ok hS.fz (by omega)) ?_
      rintro _ h104 ⟨a105, pr, zs, rfl, orr, lr, gr, hz, hC⟩
      have := a105.nx
      refine WpM.run tab_ok 6 ⟨.ops (p4_26_1 :: o4_26.drop 2), [.seq x4_27], (((((E93 l m p1 i d29 d30 d31 d32 d33 d34 d35 d36).set 7 (.slice (some (.new pr 0)) ys.length ys.length true)).set 37 (.ptr (some (.new p1 0)))).set 38 (.slice (some (.new pr 0)) ys.length ys.length true)).set 39 (.ptr (some (.new p1 0)))), [], h104, none⟩ (by kernel_rfl) ?_
      refine WpM.call 8 [.ptr (some (.new p1 0))] (by kernel_rfl) (by kernel_rfl) ?_
      have hS8 := hS.hx a105
      refine WpF.mono (mark_ok hS8 (by omega)) ?_
      rintro _ h106 ⟨rfl, pw, ym, kS, ky, kO, kp⟩
      have := kS.ls
      have := kS.lz
      have := kO.nx
      refine WpM.run tab_ok 10 ⟨.code x4_32, [.loop x4_32, .blk 2, .seq x4_40], (.slice l.a l.l.length l.cap true :: .slice m.a m.l.length m.cap true :: U :: U :: .bool false :: .ptr (some (.new p1 0)) :: .int .i64 i :: .slice (some (.new pr 0)) ys.length ys.length true :: .int .i64 0 :: .ptr (some (.new p1 0)) :: .ptr (some (.new p1 0)) :: .bool false :: .bool false :: .slice l.a l.l.length l.cap true :: .int .i64 ((l.l.length : Int)) :: .slice m.a m.l.length m.cap true :: .int .i64 ((m.l.length : Int)) :: .int .i64 (((l.l.length : Int)) + ((m.l.length : Int))) :: .bool (decide ((((l.l.length : Int)) + ((m.l.length : Int))) > 200)) :: .bool (decide ((((l.l.length : Int)) + ((m.l.length : Int))) > 200)) :: U :: U :: U :: U :: U :: .int .i64 i :: .slice l.a l.l.length l.cap true :: .int .i64 ((l.l.length : Int)) :: .bool (decide (i < ((l.l.length : Int)))) :: d29 :: d30 :: d31 :: d32 :: d33 :: d34 :: d35 :: d36 :: .ptr (some (.new p1 0)) :: .slice (some (.new pr 0)) ys.length ys.length true :: .ptr (some (.new p1 0)) :: us 22), [], h106, none⟩ (by kernel_rfl) ?_
      exact fc2_loop (n0 := ys.length) hl hm hlen (by omega) hz _ 0 _ pw (ys ++ [ym]) _ _ _ _ _ _ _ _ _ _ _ _ rfl (by omega) (by omega) kS (MarkAt.mark ky) (kO.keep lr (by omega) (by omega) gr) (by omega) (by omega) ((hC.mono (kO.ka hS8)).eqs (fun j a b => gt_app_lt a b)) (by simp only [List.length_append, List.length_cons, List.length_nil]; omega)
def E94 (l : SlV T29) (m : SlV T29) (p1 : Nat) (i : Int) (d29 : V) (d30 : V) (d31 : V) (d32 : V) (d33 : V) (d34 : V) (d35 : V) (d36 : V) : List V := (.slice l.a l.l.length l.cap true :: .slice m.a m.l.length m.cap true :: U :: U :: .bool false :: .ptr (some (.new p1 0)) :: .int .i64 i :: U :: U :: .ptr (some (.new p1 0)) :: .ptr (some (.new p1 0)) :: .bool false :: .bool false :: .slice l.a l.l.length l.cap true :: .int .i64 ((l.l.length : Int)) :: .slice m.a m.l.length m.cap true :: .int .i64 ((m.l.length : Int)) :: .int .i64 (((l.l.length : Int)) + ((m.l.length : Int))) :: .bool (decide ((((l.l.length : Int)) + ((m.l.length : Int))) > 200)) :: .bool (decide ((((l.l.length : Int)) + ((m.l.length : Int))) > 200)) :: U :: U :: U :: U :: U :: .int .i64 i :: .slice l.a l.l.length l.cap true :: .int .i64 ((l.l.length : Int)) :: .bool (decide (i < ((l.l.length : Int)))) :: d29 :: d30 :: d31 :: d32 :: d33 :: d34 :: d35 :: d36 :: us 25)
def E95 (p1 : Nat) : List V := (.ptr (some (.new p1 0)) :: U :: .slice none 0 0 true :: U :: U :: U :: .ptr (some (.new p1 0)) :: .bool false :: .ptr (some (.new p1 0)) :: .ptr (some (.new p1 0)) :: .ptr (some (.new p1 0)) :: .ptr (some (.new p1 0)) :: us 21)
def E96 (p1 : Nat) (p103 : Nat) : List V := (.ptr (some (.new p1 0)) :: U :: .slice none 0 0 true :: .slice (some (.new p103 0)) 0 0 true :: U :: U :: .ptr (some (.new p1 0)) :: .bool false :: .ptr (some (.new p1 0)) :: .ptr (some (.new p1 0)) :: .ptr (some (.new p1 0)) :: .ptr (some (.new p1 0)) :: .slice none 0 0 true :: .int .i64 0 :: .slice (some (.new p103 0)) 0 0 true :: .ptr (some (.new p1 0)) :: .ptr (some (.new p1 0)) :: .ptr (some (.new p1 0)) :: .ptr (some (.new p1 0)) :: us 14)
theorem fc0_loop {W : World} {p1 : Nat} {l m : SlV T29} (hl : l.ok W 4 56 T29.cells (T29.ok W)) (hm : m.ok W 4 56 T29.cells (T29.ok W)) (hlen : l.l.length + m.l.length ≤ 200) (n : Nat) : ∀ (i : Int) (h : H) (d25 d26 d27 d28 d29 d30 d31 d32 d33 d34 d35 d36 : V), n = ((l.l.length : Int) - i).toNat → (0 ≤ i) → (i ≤ (l.l.length : Int)) → (h.get p1 = some (.cells [.slice none 0 0 true] 47)) → (p1 < h.nx) → WpM Try.prog W prim1 ⟨.code x4_15, [.loop x4_15, .blk 0, .seq x4_23], (.slice l.a l.l.length l.cap true :: .slice m.a m.l.length m.cap true :: U :: U :: .bool false :: .ptr (some (.new p1 0)) :: .int .i64 i :: U :: U :: .ptr (some (.new p1 0)) :: .ptr (some (.new p1 0)) :: .bool false :: .bool false :: .slice l.a l.l.length l.cap true :: .int .i64 ((l.l.length : Int)) :: .slice m.a m.l.length m.cap true :: .int .i64 ((m.l.length : Int)) :: .int .i64 (((l.l.length : Int)) + ((m.l.length : Int))) :: .bool (decide ((((l.l.length : Int)) + ((m.l.length : Int))) > 200)) :: .bool (decide ((((l.l.length : Int)) + ((m.l.length : Int))) > 200)) :: U :: U :: U :: U :: U :: d25 :: d26 :: d27 :: d28 :: d29 :: d30 :: d31 :: d32 :: d33 :: d34 :: d35 :: d36 :: us 25), [], h, none⟩ (retQ Try.prog W [.tmp 4] (fun v _ => v = .bool true)) := by
  induction n using Nat.strongRecOn with
  | _ n ih =>
    intro i h d25 d26 d27 d28 d29 d30 d31 d32 d33 d34 d35 d36 hn h0i h1i gn ln
    refine WpM.run tab_ok 9 ⟨.code x4_18, [.seq x4_19, .loop x4_15, .blk 0, .seq x4_23], (E94 l m p1 i d29 d30 d31 d32 d33 d34 d35 d36), [], h, none⟩ (by kernel_rfl) ?_
    refine WpM.cond (t := (decide (i < ((l.l.length : Int))))) (by kernel_rfl) (fun c101 => ?_) (fun c101 => ?_)
    · have c101p := dec_t c101
      refine WpM.run tab_ok 8 ⟨.ops (p4_21_3 :: o4_21.drop 4), [.blk 1, .seq x4_22, .loop x4_15, .blk 0, .seq x4_23], ((((E94 l m p1 i d29 d30 d31 d32 d33 d34 d35 d36).set 31 (.ptr (some (.new p1 0)))).set 32 (.slice l.a l.l.length l.cap true)).set 33 (.int .i64 i)), [], h, none⟩ (by kernel_rfl) ?_
      refine WpM.op (.ptr (some ((adr l.a).add (i.toNat * 4)))) _ (by kernel_rfl) (indexAddr_arr (l := l.l) (cap := l.cap) (e := 29) (k := .i64) hl.arr (by kernel_rfl) (by kernel_rfl) (by kernel_rfl) (by kernel_rfl) (by omega)) ?_
      refine WpM.run tab_ok 0 ⟨.ops (p4_21_4 :: o4_21.drop 5), [.blk 1, .seq x4_22, .loop x4_15, .blk 0, .seq x4_23], (((((E94 l m p1 i d29 d30 d31 d32 d33 d34 d35 d36).set 31 (.ptr (some (.new p1 0)))).set 32 (.slice l.a l.l.length l.cap true)).set 33 (.int .i64 i)).set 34 (.ptr (some ((adr l.a).add (i.toNat * 4))))), [], h, none⟩ (by kernel_rfl) ?_
      refine WpM.op (.agg [.int .i64 ((gt l.l i).fId), .int .i64 ((gt l.l i).fSpace), .str ((gt l.l i).fName), .slice (gt l.l i).fAttrs.a ((gt l.l i).fAttrs.l.length) ((gt l.l i).fAttrs.cap) true]) _ (by kernel_rfl) (arr_loadA (i := i) hl.arr (by omega) (off := 0) (n := 4) (ad := ((adr l.a).add (i.toNat * 4))) (by kernel_rfl) (by kernel_rfl) (by kernel_rfl) (by decide) (by decide) (by kernel_rfl) ((Ad.add_zero _).symm)) ?_
      refine WpM.run tab_ok 0 ⟨.ops (p4_21_5 :: o4_21.drop 6), [.blk 1, .seq x4_22, .loop x4_15, .blk 0, .seq x4_23], ((((((E94 l m p1 i d29 d30 d31 d32 d33 d34 d35 d36).set 31 (.ptr (some (.new p1 0)))).set 32 (.slice l.a l.l.length l.cap true)).set 33 (.int .i64 i)).set 34 (.ptr (some ((adr l.a).add (i.toNat * 4))))).set 35 (.agg [.int .i64 ((gt l.l i).fId), .int .i64 ((gt l.l i).fSpace), .str ((gt l.l i).fName), .slice (gt l.l i).fAttrs.a ((gt l.l i).fAttrs.l.length) ((gt l.l i).fAttrs.cap) true])), [], h, none⟩ (by kernel_rfl) ?_
      refine WpM.call 9 [.ptr (some (.new p1 0)), .agg [.int .i64 ((gt l.l i).fId), .int .i64 ((gt l.l i).fSpace), .str ((gt l.l i).fName), .slice (gt l.l i).fAttrs.a ((gt l.l i).fAttrs.l.length) ((gt l.l i).fAttrs.cap) true]] (by kernel_rfl) (by kernel_rfl) ?_
      refine WpF.mono (push_nil (e := (gt l.l i)) gn ln (hl.all _ (gt_mem (by omega) (by omega)))) ?_
      rintro _ h102 ⟨rfl, kN⟩
      refine WpM.run tab_ok 5 ⟨.ops (p4_22_1 :: o4_22.drop 2), [.loop x4_15, .blk 0, .seq x4_23], ((((((((E94 l m p1 i d29 d30 d31 d32 d33 d34 d35 d36).set 29 (.int .i64 i)).set 31 (.ptr (some (.new p1 0)))).set 32 (.slice l.a l.l.length l.cap true)).set 33 (.int .i64 i)).set 34 (.ptr (some ((adr l.a).add (i.toNat * 4))))).set 35 (.agg [.int .i64 ((gt l.l i).fId), .int .i64 ((gt l.l i).fSpace), .str ((gt l.l i).fName), .slice (gt l.l i).fAttrs.a ((gt l.l i).fAttrs.l.length) ((gt l.l i).fAttrs.cap) true])).set 36 U), [], h102, none⟩ (by kernel_rfl) ?_
      refine WpM.op (.int .i64 (i + 1)) _ (by kernel_rfl) (arith_add (by kernel_rfl) (by kernel_rfl) (by omega)) ?_
      refine WpM.run tab_ok 3 ⟨.code x4_15, [.loop x4_15, .blk 0, .seq x4_23], (.slice l.a l.l.length l.cap true :: .slice m.a m.l.length m.cap true :: U :: U :: .bool false :: .ptr (some (.new p1 0)) :: .int .i64 (i + 1) :: U :: U :: .ptr (some (.new p1 0)) :: .ptr (some (.new p1 0)) :: .bool false :: .bool false :: .slice l.a l.l.length l.cap true :: .int .i64 ((l.l.length : Int)) :: .slice m.a m.l.length m.cap true :: .int .i64 ((m.l.length : Int)) :: .int .i64 (((l.l.length : Int)) + ((m.l.length : Int))) :: .bool (decide ((((l.l.length : Int)) + ((m.l.length : Int))) > 200)) :: .bool (decide ((((l.l.length : Int)) + ((m.l.length : Int))) > 200)) :: U :: U :: U :: U :: U :: .int .i64 i :: .slice l.a l.l.length l.cap true :: .int .i64 ((l.l.length : Int)) :: .bool (decide (i < ((l.l.length : Int)))) :: .int .i64 i :: .int .i64 (i + 1) :: .ptr (some (.new p1 0)) :: .slice l.a l.l.length l.cap true :: .int .i64 i :: .ptr (some ((adr l.a).add (i.toNat * 4))) :: .agg [.int .i64 ((gt l.l i).fId), .int .i64 ((gt l.l i).fSpace), .str ((gt l.l i).fName), .slice (gt l.l i).fAttrs.a ((gt l.l i).fAttrs.l.length) ((gt l.l i).fAttrs.cap) true] :: us 26), [], h102, none⟩ (by kernel_rfl) ?_
      rcases kN with ⟨gn9, ln9⟩ | ⟨pw, y9, kS, ky⟩
      · refine ih _ ?_ _ h102 _ _ _ _ _ _ _ _ _ _ _ _ rfl ?_ ?_ gn9 ln9
        · omega
        · omega
        · omega
      · exact fc1_loop hl hm hlen _ _ _ pw [y9] _ _ _ _ _ _ _ _ _ _ _ _ rfl (by omega) (by omega) kS (MarkAt.one ky) (by simp only [List.length_cons, List.length_nil]; omega)
    · have c101p := dec_f c101
      refine WpM.run tab_ok 30 ⟨.ops (p10_9_4 :: o10_9.drop 5), [.seq x10_10, .call [.tmp 2] (some 38) (o4_24.drop 2) ((E94 l m p1 i d29 d30 d31 d32 d33 d34 d35 d36).set 37 (.ptr (some (.new p1 0)))) [] none, .seq x4_25], (E95 p1), [], h, none⟩ (by kernel_rfl) ?_
      refine WpM.op (.slice none 0 0 true) _ (by kernel_rfl) (load_new (o := 0) (by kernel_rfl) gn (by kernel_rfl)) ?_
      refine WpM.run tab_ok 1 ⟨.ops (p10_9_6 :: o10_9.drop 7), [.seq x10_10, .call [.tmp 2] (some 38) (o4_24.drop 2) ((E94 l m p1 i d29 d30 d31 d32 d33 d34 d35 d36).set 37 (.ptr (some (.new p1 0)))) [] none, .seq x4_25], (((E95 p1).set 12 (.slice none 0 0 true)).set 13 (.int .i64 0)), [], h, none⟩ (by kernel_rfl) ?_
      refine WpM.opA (fun p => .slice (some (.new p 0)) 0 0 true) (.cells [] 29) (by kernel_rfl) (by kernel_rfl) (fun p103 h104 a105 => ?_)
      refine WpM.run tab_ok 10 ⟨.ops (p10_12_4 :: o10_12.drop 5), [.seq x10_13, .seq x10_25, .call [.tmp 2] (some 38) (o4_24.drop 2) ((E94 l m p1 i d29 d30 d31 d32 d33 d34 d35 d36).set 37 (.ptr (some (.new p1 0)))) [] none, .seq x4_25], (E96 p1 p103), [], h104, none⟩ (by kernel_rfl) ?_
      refine WpM.op (.slice none 0 0 true) _ (by kernel_rfl) (load_new (o := 0) (by kernel_rfl) (a105.keep ln gn) (by kernel_rfl)) ?_
      refine WpM.run tab_ok 32 ⟨.ops (p4_26_1 :: o4_26.drop 2), [.seq x4_27], (((((E94 l m p1 i d29 d30 d31 d32 d33 d34 d35 d36).set 7 (.slice (some (.new p103 0)) 0 0 true)).set 37 (.ptr (some (.new p1 0)))).set 38 (.slice (some (.new p103 0)) 0 0 true)).set 39 (.ptr (some (.new p1 0)))), [], h104, none⟩ (by kernel_rfl) ?_
      refine WpM.call 8 [.ptr (some (.new p1 0))] (by kernel_rfl) (by kernel_rfl) ?_
      refine WpF.mono (mark_nil (a105.keep ln gn) (a105.le ln)) ?_
      rintro _ h106 ⟨rfl, pw, ym, kS, ky, kO, kp⟩
      have := kS.ls
      have := kS.lz
      have := kO.nx
      have := a105.eq
      have := a105.nx
      refine WpM.run tab_ok 10 ⟨.code x4_32, [.loop x4_32, .blk 2, .seq x4_40], (.slice l.a l.l.length l.cap true :: .slice m.a m.l.length m.cap true :: U :: U :: .bool false :: .ptr (some (.new p1 0)) :: .int .i64 i :: .slice (some (.new p103 0)) 0 0 true :: .int .i64 0 :: .ptr (some (.new p1 0)) :: .ptr (some (.new p1 0)) :: .bool false :: .bool false :: .slice l.a l.l.length l.cap true :: .int .i64 ((l.l.length : Int)) :: .slice m.a m.l.length m.cap true :: .int .i64 ((m.l.length : Int)) :: .int .i64 (((l.l.length : Int)) + ((m.l.length : Int))) :: .bool (decide ((((l.l.length : Int)) + ((m.l.length : Int))) > 200)) :: .bool (decide ((((l.l.length : Int)) + ((m.l.length : Int))) > 200)) :: U :: U :: U :: U :: U :: .int .i64 i :: .slice l.a l.l.length l.cap true :: .int .i64 ((l.l.length : Int)) :: .bool (decide (i < ((l.l.length : Int)))) :: d29 :: d30 :: d31 :: d32 :: d33 :: d34 :: d35 :: d36 :: .ptr (some (.new p1 0)) :: .slice (some (.new p103 0)) 0 0 true :: .ptr (some (.new p1 0)) :: us 22), [], h106, none⟩ (by kernel_rfl) ?_
      exact fc2_loop (n0 := 0) (zs := []) hl hm hlen (by omega) rfl _ 0 _ pw [ym] _ _ _ _ _ _ _ _ _ _ _ _ rfl (by omega) (by omega) kS (MarkAt.mark1 ky) (kO.keep a105.lt (by omega) (by omega) a105.get) (by omega) (by omega) (fun j a b => by omega) (by simp only [List.length_cons, List.length_nil]; omega)
def E97 (l : SlV T29) (m : SlV T29) (p1 : Nat) : List V := (.slice l.a l.l.length l.cap true :: .slice m.a m.l.length m.cap true :: U :: U :: .bool false :: .ptr (some (.new p1 0)) :: U :: U :: U :: .ptr (some (.new p1 0)) :: .ptr (some (.new p1 0)) :: .bool false :: .bool false :: .slice l.a l.l.length l.cap true :: .int .i64 ((l.l.length : Int)) :: .slice m.a m.l.length m.cap true :: .int .i64 ((m.l.length : Int)) :: us 45)
theorem cleared_ok {W : World} {l m : SlV T29} (hl : l.ok W 4 56 T29.cells (T29.ok W)) (hm : m.ok W 4 56 T29.cells (T29.ok W)) : WpF Try.prog W prim1 4 [.slice l.a l.l.length l.cap true, .slice m.a m.l.length m.cap true] H.empty (fun v _ => v = .bool true) := by
  have := hl.le
  have := hl.cap
  have := hm.le
  have := hm.cap
  have := hl.reach
  have := hm.reach
  refine WpF.m tab_ok (by kernel_rfl) rfl ?_
  refine WpM.cfg (c' := ⟨.code x4_0, [], (.slice l.a l.l.length l.cap true :: .slice m.a m.l.length m.cap true :: us 60), [], H.empty, none⟩) (by kernel_rfl) ?_
  refine WpM.run tab_ok 16 ⟨.ops (p6_3_1 :: o6_3.drop 2), [.seq .ret, .call [.tmp 0] (some 9) (o4_3.drop 1) (.slice l.a l.l.length l.cap true :: .slice m.a m.l.length m.cap true :: U :: U :: .bool false :: us 57) [] none, .seq x4_4], [.ptr none, .agg [.slice none 0 0 true], U], [], H.empty, none⟩ (by kernel_rfl) ?_
  refine WpM.opA (fun p => .ptr (some (.new p 0))) (.cells [.slice none 0 0 true] 47) (by kernel_rfl) (by kernel_rfl) (fun p1 h2 a3 => ?_)
  refine WpM.run tab_ok 18 ⟨.ops (p4_6_7 :: o4_6.drop 8), [.seq x4_7, .seq x4_10], (E97 l m p1), [], h2, none⟩ (by kernel_rfl) ?_
  refine WpM.op (.int .i64 (((l.l.length : Int)) + ((m.l.length : Int)))) _ (by kernel_rfl) (arith_add (by kernel_rfl) (by kernel_rfl) (by omega)) ?_
  refine WpM.run tab_ok 4 ⟨.code x4_7, [.seq x4_10], ((((E97 l m p1).set 17 (.int .i64 (((l.l.length : Int)) + ((m.l.length : Int))))).set 18 (.bool (decide ((((l.l.length : Int)) + ((m.l.length : Int))) > 200)))).set 19 (.bool (decide ((((l.l.length : Int)) + ((m.l.length : Int))) > 200)))), [], h2, none⟩ (by kernel_rfl) ?_
  refine WpM.cond (t := (decide ((((l.l.length : Int)) + ((m.l.length : Int))) > 200))) (by kernel_rfl) (fun c4 => ?_) (fun c4 => ?_)
  · have c4p := dec_t c4
    refine WpM.run tab_ok 12 ⟨.done .ret, [], ((((((((((E97 l m p1).set 4 (.bool true)).set 17 (.int .i64 (((l.l.length : Int)) + ((m.l.length : Int))))).set 18 (.bool (decide ((((l.l.length : Int)) + ((m.l.length : Int))) > 200)))).set 19 (.bool (decide ((((l.l.length : Int)) + ((m.l.length : Int))) > 200)))).set 20 (.ptr (some (.new p1 0)))).set 21 (.bool true)).set 22 (.bool true)).set 23 (.bool true)).set 24 (.bool true)), [], h2, none⟩ (by kernel_rfl) ?_
    refine WpM.ret (.bool true) h2 (by kernel_rfl) (by kernel_rfl) ?_
    first | rfl | (exfalso; simp_all; done)
  · have c4p := dec_f c4
    refine WpM.run tab_ok 10 ⟨.code x4_15, [.loop x4_15, .blk 0, .seq x4_23], (.slice l.a l.l.length l.cap true :: .slice m.a m.l.length m.cap true :: U :: U :: .bool false :: .ptr (some (.new p1 0)) :: .int .i64 0 :: U :: U :: .ptr (some (.new p1 0)) :: .ptr (some (.new p1 0)) :: .bool false :: .bool false :: .slice l.a l.l.length l.cap true :: .int .i64 ((l.l.length : Int)) :: .slice m.a m.l.length m.cap true :: .int .i64 ((m.l.length : Int)) :: .int .i64 (((l.l.length : Int)) + ((m.l.length : Int))) :: .bool (decide ((((l.l.length : Int)) + ((m.l.length : Int))) > 200)) :: .bool (decide ((((l.l.length : Int)) + ((m.l.length : Int))) > 200)) :: us 42), [], h2, none⟩ (by kernel_rfl) ?_
    exact fc0_loop hl hm (by omega) _ 0 _ _ _ _ _ _ _ _ _ _ _ _ _ rfl (by omega) (by omega) a3.get a3.lt
end Go.Proofs.Ytplcallbihapdaa.Dg
