/-
 A trie: the longest name; whether a name begins so.
-/
import Derived.Test.YtkhjmgchlbnkjaaDoorA0
set_option linter.unusedVariables false
set_option linter.unusedSimpArgs false
namespace Go.Proofs.YtkhjmgchlbnkjaaDoor.Dg
open Go Go.RowKit
set_option maxRecDepth 20000
set_option maxHeartbeats 8000000
def lonG (D B : Wrd → Bool) (R : Wrd → Int) : Wrd → List UInt8 → Int × Int → Int × Int
 | _, [], a => a
 | w, b :: r, a => if D (w ++ [b]) = true then lonG D B R (w ++ [b]) r (if B (w ++ [b]) = true then (R (w ++ [b]), (w.length : Int) + 1) else a) else a
def goeG (D : Wrd → Bool) : Wrd → List UInt8 → Bool
 | _, [] => true
 | w, b :: r => D (w ++ [b]) && goeG D (w ++ [b]) r
def E8 (pt : Nat) (s : List UInt8) (r : Int) (z : Int) (pw : Nat) (dd : Nat → V) (pb : Nat) (i : Int) : List V := (.ptr (nw pt) :: .str s :: U :: U :: iv 0 :: iv 0 :: iv r :: iv z :: .ptr (nw pw) :: (dd 9) :: (dd 10) :: .ptr (nw pt) :: .bool false :: .ptr (nw pt) :: .ptr (nw pt) :: .ptr (nw pt) :: .str s :: .slice (nw pb) s.length s.length false :: iv ((s.length : Int)) :: iv i :: .bool (decide (i < ((s.length : Int)))) :: (dd 21) :: (dd 22) :: (dd 23) :: (dd 24) :: (dd 25) :: (dd 26) :: (dd 27) :: (dd 28) :: (dd 29) :: (dd 30) :: (dd 31) :: (dd 32) :: (dd 33) :: (dd 34) :: (dd 35) :: (dd 36) :: (dd 37) :: (dd 38) :: (dd 39) :: (dd 40) :: (dd 41) :: (dd 42) :: U :: U :: [])
def E9 (pt : Nat) (s : List UInt8) (r : Int) (z : Int) (i : Int) (pb : Nat) (pw : Nat) (dd : Nat → V) : List V := (.ptr (nw pt) :: .str s :: U :: U :: iv r :: iv z :: iv r :: iv z :: .ptr none :: iv i :: .int .u8 (bt s i) :: .ptr (nw pt) :: .bool false :: .ptr (nw pt) :: .ptr (nw pt) :: .ptr (nw pt) :: .str s :: .slice (nw pb) s.length s.length false :: iv ((s.length : Int)) :: iv i :: .bool (decide (i < ((s.length : Int)))) :: iv i :: .ptr (some (.new pb (0 + i.toNat * 1))) :: .int .u8 (bt s i) :: .ptr (nw pw) :: .ptr (nw pw) :: .ptr (nw pw) :: .map none :: .int .u8 (bt s i) :: .ptr none :: .ptr none :: .bool true :: (dd 32) :: (dd 33) :: (dd 34) :: (dd 35) :: (dd 36) :: (dd 37) :: (dd 38) :: (dd 39) :: (dd 40) :: (dd 41) :: (dd 42) :: iv r :: iv z :: [])
theorem lon_loop {W : World} {pb pt : Nat} {s : List UInt8} {n0 : Nat} {h0 : H} {D B : Wrd → Bool} {R : Wrd → Int} {p : Wrd → Nat} {m : Wrd → Option Nat} {c : Int} (hT : Tri 72 70 n0 h0 D B R p m c) (hs : s.length ≤ 140737488351232) (nn : Nat) : ∀ (i : Int) (h : H) (pw : Nat) (r z : Int) (dd : Nat → V), nn = ((s.length : Int) - i).toNat → (0 ≤ i) → (i ≤ (s.length : Int)) → (D (s.take i.toNat) = true) → (p (s.take i.toNat) = pw) → (lonG D B R (s.take i.toNat) (s.drop i.toNat) (r, z) = lonG D B R [] s (0, 0)) → (HX h0 h) → (h.get pb = some (.cells (bv s) 5)) → (pb < h.nx) → WpM Tryd.prog W prim2 ⟨.code x40_17, [.loop x40_17, .blk 0, .seq x40_36], (.ptr (nw pt) :: .str s :: U :: U :: iv 0 :: iv 0 :: iv r :: iv z :: .ptr (nw pw) :: (dd 9) :: (dd 10) :: .ptr (nw pt) :: .bool false :: .ptr (nw pt) :: .ptr (nw pt) :: .ptr (nw pt) :: .str s :: .slice (nw pb) s.length s.length false :: iv ((s.length : Int)) :: iv i :: (dd 20) :: (dd 21) :: (dd 22) :: (dd 23) :: (dd 24) :: (dd 25) :: (dd 26) :: (dd 27) :: (dd 28) :: (dd 29) :: (dd 30) :: (dd 31) :: (dd 32) :: (dd 33) :: (dd 34) :: (dd 35) :: (dd 36) :: (dd 37) :: (dd 38) :: (dd 39) :: (dd 40) :: (dd 41) :: (dd 42) :: U :: U :: []), [], h, none⟩ (retQ Tryd.prog W [.tmp 4, .tmp 5] (fun v h' => HX h0 h' ∧ v = .tup [iv (lonG D B R [] s (0, 0)).1, iv (lonG D B R [] s (0, 0)).2])) := by
 induction nn using Nat.strongRecOn with
 | _ nn ih =>
  intro i h pw r z dd hn9 h0i h1i hw hpw hA hX gb lb
  obtain ⟨wd, ewd⟩ : ∃ v, v = s.take i.toNat := ⟨_, rfl⟩
  rw [← ewd] at hw hpw hA
  have hT1 := hT.hx hX
  have hn := hT1.node _ hw
  rw [hpw] at hn
  have hbl := bv_length s
  have hbr := bt_range s i
  have lpw := hn.2.1
  have hXn := hX.nx
  obtain ⟨b, eb⟩ : ∃ b, b = s.getD i.toNat 0 := ⟨_, rfl⟩
  have ekb : V.int .u8 (bt s i) = .int .u8 (b.toNat : Int) := by rw [eb]; rfl
  have hwl : i < (s.length : Int) → (wd.length : Int) = i := fun hi => by rw [ewd, List.length_take]; omega
  have hstep : i < (s.length : Int) → s.take (i + 1).toNat = wd ++ [b] := fun hi => by rw [take_bt h0i hi, ewd, eb]
  have hdrop : i < (s.length : Int) → s.drop i.toNat = b :: s.drop (i + 1).toNat := fun hi => by rw [drop_bt h0i hi, eb]
  have hend : ¬ i < (s.length : Int) → s.drop i.toNat = [] := fun hi => List.drop_eq_nil_of_le (by omega)
  rcases hm : m wd with _ | mi
  rotate_left
  cases hk : D (wd ++ [b])
  ·skip
   have gpw : h.get pw = some (.cells (.map (some mi) :: .bool (B wd) :: iv (R wd) :: tlW c wd) (tyW 72 70 wd)) := by rw [← hm]; exact hn.2.2
   obtain ⟨nmi, lmi, es, gmi, kmi, fmi⟩ := hT1.maps wd mi hw hm
   obtain ⟨pk, epk⟩ : ∃ v, v = p (wd ++ [b]) := ⟨_, rfl⟩
   have fk : findKey (.int .u8 (bt s i)) es = some none := by rw [ekb]; exact (fmi b).trans (congrArg some (if_neg (by rw [hk]; decide)))
   refine rn 6 ⟨.code x40_20, [.seq x40_21, .loop x40_17, .blk 0, .seq x40_36], (E8 pt s r z pw dd pb i), [], h, none⟩ ?_
   refine WpM.cond (t := (decide (i < ((s.length : Int))))) (by kernel_rfl) (fun c101 => ?_) (fun c101 => ?_)
   ·have c101p := dec_t c101
    refine rn 7 ⟨.ops (p40_24_1 :: o40_24.drop 2), [.seq x40_25, .blk 1, .seq x40_35, .loop x40_17, .blk 0, .seq x40_36], (ss (E8 pt s r z pw dd pb i) [(21, iv i)]), [], h, none⟩ ?_
    refine WpM.op (.ptr (some (.new pb (0 + i.toNat * 1)))) _ (by kernel_rfl) (indexAddr_sl (e := 5) (a := (.new pb 0)) (len := s.length) (lb := s.length) (ex := false) (z := 1) (k := .i64) (n := i) (by kernel_rfl) (by kernel_rfl) (by kernel_rfl) (by kernel_rfl) (by omega)) ?_
    refine rn 0 ⟨.ops (p40_24_2 :: o40_24.drop 3), [.seq x40_25, .blk 1, .seq x40_35, .loop x40_17, .blk 0, .seq x40_36], (ss (E8 pt s r z pw dd pb i) [(21, iv i), (22, .ptr (some (.new pb (0 + i.toNat * 1))))]), [], h, none⟩ ?_
    refine WpM.op (.int .u8 (bt s i)) _ (by kernel_rfl) (load_new (o := (0 + i.toNat * 1)) (by kernel_rfl) gb (bv_ld (i := i) (by kernel_rfl) (by omega) (by omega))) ?_
    refine rn 10 ⟨.ops (p40_27_3 :: o40_27.drop 4), [.seq x40_28, .seq x40_31, .blk 1, .seq x40_35, .loop x40_17, .blk 0, .seq x40_36], (ss (E8 pt s r z pw dd pb i) [(9, iv i), (10, .int .u8 (bt s i)), (21, iv i), (22, .ptr (some (.new pb (0 + i.toNat * 1)))), (23, .int .u8 (bt s i)), (24, .ptr (nw pw)), (25, .ptr (nw pw)), (26, .ptr (nw pw))]), [], h, none⟩ ?_
    refine WpM.op (.map (some mi)) _ (by kernel_rfl) (load_new (o := 0) (by kernel_rfl) gpw (by kernel_rfl)) ?_
    refine rn 1 ⟨.ops (p40_27_5 :: o40_27.drop 6), [.seq x40_28, .seq x40_31, .blk 1, .seq x40_35, .loop x40_17, .blk 0, .seq x40_36], (.ptr (nw pt) :: .str s :: U :: U :: iv 0 :: iv 0 :: iv r :: iv z :: .ptr (nw pw) :: iv i :: .int .u8 (bt s i) :: .ptr (nw pt) :: .bool false :: .ptr (nw pt) :: .ptr (nw pt) :: .ptr (nw pt) :: .str s :: .slice (nw pb) s.length s.length false :: iv ((s.length : Int)) :: iv i :: .bool (decide (i < ((s.length : Int)))) :: iv i :: .ptr (some (.new pb (0 + i.toNat * 1))) :: .int .u8 (bt s i) :: .ptr (nw pw) :: .ptr (nw pw) :: .ptr (nw pw) :: .map (some mi) :: .int .u8 (bt s i) :: (dd 29) :: (dd 30) :: (dd 31) :: (dd 32) :: (dd 33) :: (dd 34) :: (dd 35) :: (dd 36) :: (dd 37) :: (dd 38) :: (dd 39) :: (dd 40) :: (dd 41) :: (dd 42) :: U :: U :: []), [], h, none⟩ ?_
    refine WpM.op (.ptr none) _ (by kernel_rfl) (lookup_at (kt := 5) (et := 75) (i := mi) (es := es) (kv := .int .u8 (bt s i)) (z := .ptr none) (r := none) (by kernel_rfl) (by kernel_rfl) (by kernel_rfl) (by kernel_rfl) (by kernel_rfl) gmi fk rfl) ?_
    refine rn 26 ⟨.done .ret, [], (.ptr (nw pt) :: .str s :: U :: U :: iv r :: iv z :: iv r :: iv z :: .ptr none :: iv i :: .int .u8 (bt s i) :: .ptr (nw pt) :: .bool false :: .ptr (nw pt) :: .ptr (nw pt) :: .ptr (nw pt) :: .str s :: .slice (nw pb) s.length s.length false :: iv ((s.length : Int)) :: iv i :: .bool (decide (i < ((s.length : Int)))) :: iv i :: .ptr (some (.new pb (0 + i.toNat * 1))) :: .int .u8 (bt s i) :: .ptr (nw pw) :: .ptr (nw pw) :: .ptr (nw pw) :: .map (some mi) :: .int .u8 (bt s i) :: .ptr none :: .ptr none :: .bool true :: (dd 32) :: (dd 33) :: (dd 34) :: (dd 35) :: (dd 36) :: (dd 37) :: (dd 38) :: (dd 39) :: (dd 40) :: (dd 41) :: (dd 42) :: iv r :: iv z :: []), [], h, none⟩ ?_
    refine WpM.ret (.tup [iv r, iv z]) h (by kernel_rfl) (by kernel_rfl) ?_
    first
     | (rw [hend (by omega), lonG] at hA; exact ⟨hX, by rw [← hA]⟩)
     | (rw [hdrop (by omega), lonG, if_neg (by rw [hk]; decide)] at hA; exact ⟨hX, by rw [← hA]⟩)
   ·have c101p := dec_f c101
    refine rn 14 ⟨.done .ret, [], (ss (E8 pt s r z pw dd pb i) [(4, iv r), (5, iv z), (43, iv r), (44, iv z)]), [], h, none⟩ ?_
    refine WpM.ret (.tup [iv r, iv z]) h (by kernel_rfl) (by kernel_rfl) ?_
    first
     | (rw [hend (by omega), lonG] at hA; exact ⟨hX, by rw [← hA]⟩)
     | (rw [hdrop (by omega), lonG, if_neg (by rw [hk]; decide)] at hA; exact ⟨hX, by rw [← hA]⟩)
  ·skip
   have gpw : h.get pw = some (.cells (.map (some mi) :: .bool (B wd) :: iv (R wd) :: tlW c wd) (tyW 72 70 wd)) := by rw [← hm]; exact hn.2.2
   obtain ⟨nmi, lmi, es, gmi, kmi, fmi⟩ := hT1.maps wd mi hw hm
   obtain ⟨pk, epk⟩ : ∃ v, v = p (wd ++ [b]) := ⟨_, rfl⟩
   have fk : findKey (.int .u8 (bt s i)) es = some (some (.ptr (nw pk))) := by rw [ekb, epk]; exact (fmi b).trans (congrArg some (if_pos hk))
   have hk2 := hT1.node _ hk
   rw [← epk] at hk2
   refine rn 6 ⟨.code x40_20, [.seq x40_21, .loop x40_17, .blk 0, .seq x40_36], (E8 pt s r z pw dd pb i), [], h, none⟩ ?_
   refine WpM.cond (t := (decide (i < ((s.length : Int))))) (by kernel_rfl) (fun c102 => ?_) (fun c102 => ?_)
   ·have c102p := dec_t c102
    refine rn 7 ⟨.ops (p40_24_1 :: o40_24.drop 2), [.seq x40_25, .blk 1, .seq x40_35, .loop x40_17, .blk 0, .seq x40_36], (ss (E8 pt s r z pw dd pb i) [(21, iv i)]), [], h, none⟩ ?_
    refine WpM.op (.ptr (some (.new pb (0 + i.toNat * 1)))) _ (by kernel_rfl) (indexAddr_sl (e := 5) (a := (.new pb 0)) (len := s.length) (lb := s.length) (ex := false) (z := 1) (k := .i64) (n := i) (by kernel_rfl) (by kernel_rfl) (by kernel_rfl) (by kernel_rfl) (by omega)) ?_
    refine rn 0 ⟨.ops (p40_24_2 :: o40_24.drop 3), [.seq x40_25, .blk 1, .seq x40_35, .loop x40_17, .blk 0, .seq x40_36], (ss (E8 pt s r z pw dd pb i) [(21, iv i), (22, .ptr (some (.new pb (0 + i.toNat * 1))))]), [], h, none⟩ ?_
    refine WpM.op (.int .u8 (bt s i)) _ (by kernel_rfl) (load_new (o := (0 + i.toNat * 1)) (by kernel_rfl) gb (bv_ld (i := i) (by kernel_rfl) (by omega) (by omega))) ?_
    refine rn 10 ⟨.ops (p40_27_3 :: o40_27.drop 4), [.seq x40_28, .seq x40_31, .blk 1, .seq x40_35, .loop x40_17, .blk 0, .seq x40_36], (ss (E8 pt s r z pw dd pb i) [(9, iv i), (10, .int .u8 (bt s i)), (21, iv i), (22, .ptr (some (.new pb (0 + i.toNat * 1)))), (23, .int .u8 (bt s i)), (24, .ptr (nw pw)), (25, .ptr (nw pw)), (26, .ptr (nw pw))]), [], h, none⟩ ?_
    refine WpM.op (.map (some mi)) _ (by kernel_rfl) (load_new (o := 0) (by kernel_rfl) gpw (by kernel_rfl)) ?_
    refine rn 1 ⟨.ops (p40_27_5 :: o40_27.drop 6), [.seq x40_28, .seq x40_31, .blk 1, .seq x40_35, .loop x40_17, .blk 0, .seq x40_36], (.ptr (nw pt) :: .str s :: U :: U :: iv 0 :: iv 0 :: iv r :: iv z :: .ptr (nw pw) :: iv i :: .int .u8 (bt s i) :: .ptr (nw pt) :: .bool false :: .ptr (nw pt) :: .ptr (nw pt) :: .ptr (nw pt) :: .str s :: .slice (nw pb) s.length s.length false :: iv ((s.length : Int)) :: iv i :: .bool (decide (i < ((s.length : Int)))) :: iv i :: .ptr (some (.new pb (0 + i.toNat * 1))) :: .int .u8 (bt s i) :: .ptr (nw pw) :: .ptr (nw pw) :: .ptr (nw pw) :: .map (some mi) :: .int .u8 (bt s i) :: (dd 29) :: (dd 30) :: (dd 31) :: (dd 32) :: (dd 33) :: (dd 34) :: (dd 35) :: (dd 36) :: (dd 37) :: (dd 38) :: (dd 39) :: (dd 40) :: (dd 41) :: (dd 42) :: U :: U :: []), [], h, none⟩ ?_
    refine WpM.op (.ptr (nw pk)) _ (by kernel_rfl) (lookup_at (kt := 5) (et := 75) (i := mi) (es := es) (kv := .int .u8 (bt s i)) (z := .ptr none) (r := (some (.ptr (nw pk)))) (by kernel_rfl) (by kernel_rfl) (by kernel_rfl) (by kernel_rfl) (by kernel_rfl) gmi fk rfl) ?_
    refine rn 17 ⟨.ops (p40_32_3 :: o40_32.drop 4), [.seq x40_33, .blk 1, .seq x40_35, .loop x40_17, .blk 0, .seq x40_36], (.ptr (nw pt) :: .str s :: U :: U :: iv 0 :: iv 0 :: iv r :: iv z :: .ptr (nw pk) :: iv i :: .int .u8 (bt s i) :: .ptr (nw pt) :: .bool false :: .ptr (nw pt) :: .ptr (nw pt) :: .ptr (nw pt) :: .str s :: .slice (nw pb) s.length s.length false :: iv ((s.length : Int)) :: iv i :: .bool (decide (i < ((s.length : Int)))) :: iv i :: .ptr (some (.new pb (0 + i.toNat * 1))) :: .int .u8 (bt s i) :: .ptr (nw pw) :: .ptr (nw pw) :: .ptr (nw pw) :: .map (some mi) :: .int .u8 (bt s i) :: .ptr (nw pk) :: .ptr (nw pk) :: .bool false :: .ptr (nw pk) :: .ptr (nw pk) :: .ptr (some (.new pk 1)) :: (dd 35) :: (dd 36) :: (dd 37) :: (dd 38) :: (dd 39) :: (dd 40) :: (dd 41) :: (dd 42) :: U :: U :: []), [], h, none⟩ ?_
    refine WpM.op (.bool (B (wd ++ [b]))) _ (by kernel_rfl) (load_new (o := 1) (by kernel_rfl) hk2.2.2 (by kernel_rfl)) ?_
    refine rn 2 ⟨.code x40_33, [.blk 1, .seq x40_35, .loop x40_17, .blk 0, .seq x40_36], (.ptr (nw pt) :: .str s :: U :: U :: iv 0 :: iv 0 :: iv r :: iv z :: .ptr (nw pk) :: iv i :: .int .u8 (bt s i) :: .ptr (nw pt) :: .bool false :: .ptr (nw pt) :: .ptr (nw pt) :: .ptr (nw pt) :: .str s :: .slice (nw pb) s.length s.length false :: iv ((s.length : Int)) :: iv i :: .bool (decide (i < ((s.length : Int)))) :: iv i :: .ptr (some (.new pb (0 + i.toNat * 1))) :: .int .u8 (bt s i) :: .ptr (nw pw) :: .ptr (nw pw) :: .ptr (nw pw) :: .map (some mi) :: .int .u8 (bt s i) :: .ptr (nw pk) :: .ptr (nw pk) :: .bool false :: .ptr (nw pk) :: .ptr (nw pk) :: .ptr (some (.new pk 1)) :: .bool (B (wd ++ [b])) :: (dd 36) :: (dd 37) :: (dd 38) :: (dd 39) :: (dd 40) :: (dd 41) :: (dd 42) :: U :: U :: []), [], h, none⟩ ?_
    refine WpM.cond (t := (B (wd ++ [b]))) (by kernel_rfl) (fun c103 => ?_) (fun c103 => ?_)
    ·skip
     refine rn 4 ⟨.ops (p40_34_3 :: o40_34.drop 4), [.blk 1, .seq x40_35, .loop x40_17, .blk 0, .seq x40_36], (.ptr (nw pt) :: .str s :: U :: U :: iv 0 :: iv 0 :: iv r :: iv z :: .ptr (nw pk) :: iv i :: .int .u8 (bt s i) :: .ptr (nw pt) :: .bool false :: .ptr (nw pt) :: .ptr (nw pt) :: .ptr (nw pt) :: .str s :: .slice (nw pb) s.length s.length false :: iv ((s.length : Int)) :: iv i :: .bool (decide (i < ((s.length : Int)))) :: iv i :: .ptr (some (.new pb (0 + i.toNat * 1))) :: .int .u8 (bt s i) :: .ptr (nw pw) :: .ptr (nw pw) :: .ptr (nw pw) :: .map (some mi) :: .int .u8 (bt s i) :: .ptr (nw pk) :: .ptr (nw pk) :: .bool false :: .ptr (nw pk) :: .ptr (nw pk) :: .ptr (some (.new pk 1)) :: .bool (B (wd ++ [b])) :: .ptr (nw pk) :: .ptr (nw pk) :: .ptr (some (.new pk 2)) :: (dd 39) :: (dd 40) :: (dd 41) :: (dd 42) :: U :: U :: []), [], h, none⟩ ?_
     refine WpM.op (iv (R (wd ++ [b]))) _ (by kernel_rfl) (load_new (o := 2) (by kernel_rfl) hk2.2.2 (by kernel_rfl)) ?_
     refine rn 1 ⟨.ops (p40_34_5 :: o40_34.drop 6), [.blk 1, .seq x40_35, .loop x40_17, .blk 0, .seq x40_36], (.ptr (nw pt) :: .str s :: U :: U :: iv 0 :: iv 0 :: iv r :: iv z :: .ptr (nw pk) :: iv i :: .int .u8 (bt s i) :: .ptr (nw pt) :: .bool false :: .ptr (nw pt) :: .ptr (nw pt) :: .ptr (nw pt) :: .str s :: .slice (nw pb) s.length s.length false :: iv ((s.length : Int)) :: iv i :: .bool (decide (i < ((s.length : Int)))) :: iv i :: .ptr (some (.new pb (0 + i.toNat * 1))) :: .int .u8 (bt s i) :: .ptr (nw pw) :: .ptr (nw pw) :: .ptr (nw pw) :: .map (some mi) :: .int .u8 (bt s i) :: .ptr (nw pk) :: .ptr (nw pk) :: .bool false :: .ptr (nw pk) :: .ptr (nw pk) :: .ptr (some (.new pk 1)) :: .bool (B (wd ++ [b])) :: .ptr (nw pk) :: .ptr (nw pk) :: .ptr (some (.new pk 2)) :: iv (R (wd ++ [b])) :: iv i :: (dd 41) :: (dd 42) :: U :: U :: []), [], h, none⟩ ?_
     refine WpM.op (iv (i + 1)) _ (by kernel_rfl) (arith_add (by kernel_rfl) (by kernel_rfl) (by omega)) ?_
     refine rn 6 ⟨.ops (p40_35_0 :: o40_35.drop 1), [.loop x40_17, .blk 0, .seq x40_36], (.ptr (nw pt) :: .str s :: U :: U :: iv 0 :: iv 0 :: iv (R (wd ++ [b])) :: iv (i + 1) :: .ptr (nw pk) :: iv i :: .int .u8 (bt s i) :: .ptr (nw pt) :: .bool false :: .ptr (nw pt) :: .ptr (nw pt) :: .ptr (nw pt) :: .str s :: .slice (nw pb) s.length s.length false :: iv ((s.length : Int)) :: iv i :: .bool (decide (i < ((s.length : Int)))) :: iv i :: .ptr (some (.new pb (0 + i.toNat * 1))) :: .int .u8 (bt s i) :: .ptr (nw pw) :: .ptr (nw pw) :: .ptr (nw pw) :: .map (some mi) :: .int .u8 (bt s i) :: .ptr (nw pk) :: .ptr (nw pk) :: .bool false :: .ptr (nw pk) :: .ptr (nw pk) :: .ptr (some (.new pk 1)) :: .bool (B (wd ++ [b])) :: .ptr (nw pk) :: .ptr (nw pk) :: .ptr (some (.new pk 2)) :: iv (R (wd ++ [b])) :: iv i :: iv (i + 1) :: (dd 42) :: U :: U :: []), [], h, none⟩ ?_
     refine WpM.op (iv (i + 1)) _ (by kernel_rfl) (arith_add (by kernel_rfl) (by kernel_rfl) (by omega)) ?_
     refine rn 3 ⟨.code x40_17, [.loop x40_17, .blk 0, .seq x40_36], (.ptr (nw pt) :: .str s :: U :: U :: iv 0 :: iv 0 :: iv (R (wd ++ [b])) :: iv (i + 1) :: .ptr (nw pk) :: iv i :: .int .u8 (bt s i) :: .ptr (nw pt) :: .bool false :: .ptr (nw pt) :: .ptr (nw pt) :: .ptr (nw pt) :: .str s :: .slice (nw pb) s.length s.length false :: iv ((s.length : Int)) :: iv (i + 1) :: .bool (decide (i < ((s.length : Int)))) :: iv i :: .ptr (some (.new pb (0 + i.toNat * 1))) :: .int .u8 (bt s i) :: .ptr (nw pw) :: .ptr (nw pw) :: .ptr (nw pw) :: .map (some mi) :: .int .u8 (bt s i) :: .ptr (nw pk) :: .ptr (nw pk) :: .bool false :: .ptr (nw pk) :: .ptr (nw pk) :: .ptr (some (.new pk 1)) :: .bool (B (wd ++ [b])) :: .ptr (nw pk) :: .ptr (nw pk) :: .ptr (some (.new pk 2)) :: iv (R (wd ++ [b])) :: iv i :: iv (i + 1) :: iv (i + 1) :: U :: U :: []), [], h, none⟩ ?_
     refine ih _ ?_ _ h pk (R (wd ++ [b])) (i + 1) (fun n => ((.ptr (nw pt) :: .str s :: U :: U :: iv 0 :: iv 0 :: iv (R (wd ++ [b])) :: iv (i + 1) :: .ptr (nw pk) :: iv i :: .int .u8 (bt s i) :: .ptr (nw pt) :: .bool false :: .ptr (nw pt) :: .ptr (nw pt) :: .ptr (nw pt) :: .str s :: .slice (nw pb) s.length s.length false :: iv ((s.length : Int)) :: iv (i + 1) :: .bool (decide (i < ((s.length : Int)))) :: iv i :: .ptr (some (.new pb (0 + i.toNat * 1))) :: .int .u8 (bt s i) :: .ptr (nw pw) :: .ptr (nw pw) :: .ptr (nw pw) :: .map (some mi) :: .int .u8 (bt s i) :: .ptr (nw pk) :: .ptr (nw pk) :: .bool false :: .ptr (nw pk) :: .ptr (nw pk) :: .ptr (some (.new pk 1)) :: .bool (B (wd ++ [b])) :: .ptr (nw pk) :: .ptr (nw pk) :: .ptr (some (.new pk 2)) :: iv (R (wd ++ [b])) :: iv i :: iv (i + 1) :: iv (i + 1) :: U :: U :: [])).getD n U) rfl ?_ ?_ ?_ ?_ ?_ ?_ ?_ ?_
     ·omega
     ·omega
     ·omega
     ·rw [hstep (by omega)]; exact hk
     ·rw [hstep (by omega), epk]
     ·rw [hdrop (by omega), lonG, if_pos hk, if_pos c103] at hA
      rw [hstep (by omega), ← hA]
      rw [hwl (by omega)]
     ·exact hX
     ·exact gb
     ·exact lb
    ·skip
     refine rn 4 ⟨.ops (p40_35_0 :: o40_35.drop 1), [.loop x40_17, .blk 0, .seq x40_36], (.ptr (nw pt) :: .str s :: U :: U :: iv 0 :: iv 0 :: iv r :: iv z :: .ptr (nw pk) :: iv i :: .int .u8 (bt s i) :: .ptr (nw pt) :: .bool false :: .ptr (nw pt) :: .ptr (nw pt) :: .ptr (nw pt) :: .str s :: .slice (nw pb) s.length s.length false :: iv ((s.length : Int)) :: iv i :: .bool (decide (i < ((s.length : Int)))) :: iv i :: .ptr (some (.new pb (0 + i.toNat * 1))) :: .int .u8 (bt s i) :: .ptr (nw pw) :: .ptr (nw pw) :: .ptr (nw pw) :: .map (some mi) :: .int .u8 (bt s i) :: .ptr (nw pk) :: .ptr (nw pk) :: .bool false :: .ptr (nw pk) :: .ptr (nw pk) :: .ptr (some (.new pk 1)) :: .bool (B (wd ++ [b])) :: (dd 36) :: (dd 37) :: (dd 38) :: (dd 39) :: (dd 40) :: (dd 41) :: (dd 42) :: U :: U :: []), [], h, none⟩ ?_
     refine WpM.op (iv (i + 1)) _ (by kernel_rfl) (arith_add (by kernel_rfl) (by kernel_rfl) (by omega)) ?_
     refine rn 3 ⟨.code x40_17, [.loop x40_17, .blk 0, .seq x40_36], (.ptr (nw pt) :: .str s :: U :: U :: iv 0 :: iv 0 :: iv r :: iv z :: .ptr (nw pk) :: iv i :: .int .u8 (bt s i) :: .ptr (nw pt) :: .bool false :: .ptr (nw pt) :: .ptr (nw pt) :: .ptr (nw pt) :: .str s :: .slice (nw pb) s.length s.length false :: iv ((s.length : Int)) :: iv (i + 1) :: .bool (decide (i < ((s.length : Int)))) :: iv i :: .ptr (some (.new pb (0 + i.toNat * 1))) :: .int .u8 (bt s i) :: .ptr (nw pw) :: .ptr (nw pw) :: .ptr (nw pw) :: .map (some mi) :: .int .u8 (bt s i) :: .ptr (nw pk) :: .ptr (nw pk) :: .bool false :: .ptr (nw pk) :: .ptr (nw pk) :: .ptr (some (.new pk 1)) :: .bool (B (wd ++ [b])) :: (dd 36) :: (dd 37) :: (dd 38) :: (dd 39) :: (dd 40) :: (dd 41) :: iv (i + 1) :: U :: U :: []), [], h, none⟩ ?_
     refine ih _ ?_ _ h pk r z (fun n => ((.ptr (nw pt) :: .str s :: U :: U :: iv 0 :: iv 0 :: iv r :: iv z :: .ptr (nw pk) :: iv i :: .int .u8 (bt s i) :: .ptr (nw pt) :: .bool false :: .ptr (nw pt) :: .ptr (nw pt) :: .ptr (nw pt) :: .str s :: .slice (nw pb) s.length s.length false :: iv ((s.length : Int)) :: iv (i + 1) :: .bool (decide (i < ((s.length : Int)))) :: iv i :: .ptr (some (.new pb (0 + i.toNat * 1))) :: .int .u8 (bt s i) :: .ptr (nw pw) :: .ptr (nw pw) :: .ptr (nw pw) :: .map (some mi) :: .int .u8 (bt s i) :: .ptr (nw pk) :: .ptr (nw pk) :: .bool false :: .ptr (nw pk) :: .ptr (nw pk) :: .ptr (some (.new pk 1)) :: .bool (B (wd ++ [b])) :: (dd 36) :: (dd 37) :: (dd 38) :: (dd 39) :: (dd 40) :: (dd 41) :: iv (i + 1) :: U :: U :: [])).getD n U) rfl ?_ ?_ ?_ ?_ ?_ ?_ ?_ ?_
     ·omega
     ·omega
     ·omega
     ·rw [hstep (by omega)]; exact hk
     ·rw [hstep (by omega), epk]
     ·rw [hdrop (by omega), lonG, if_pos hk, if_neg (by rw [c103]; decide)] at hA
      rw [hstep (by omega), ← hA]
     ·exact hX
     ·exact gb
     ·exact lb
   ·have c102p := dec_f c102
    refine rn 14 ⟨.done .ret, [], (ss (E8 pt s r z pw dd pb i) [(4, iv r), (5, iv z), (43, iv r), (44, iv z)]), [], h, none⟩ ?_
    refine WpM.ret (.tup [iv r, iv z]) h (by kernel_rfl) (by kernel_rfl) ?_
    first
     | (rw [hend (by omega), lonG] at hA; exact ⟨hX, by rw [← hA]⟩)
     | (rw [hdrop (by omega), lonG, if_neg (by rw [hk]; decide)] at hA; exact ⟨hX, by rw [← hA]⟩)
  ·skip
   have gpw : h.get pw = some (.cells (.map none :: .bool (B wd) :: iv (R wd) :: tlW c wd) (tyW 72 70 wd)) := by rw [← hm]; exact hn.2.2
   have hk := hT1.leaf _ hw hm b
   refine rn 6 ⟨.code x40_20, [.seq x40_21, .loop x40_17, .blk 0, .seq x40_36], (E8 pt s r z pw dd pb i), [], h, none⟩ ?_
   refine WpM.cond (t := (decide (i < ((s.length : Int))))) (by kernel_rfl) (fun c104 => ?_) (fun c104 => ?_)
   ·have c104p := dec_t c104
    refine rn 7 ⟨.ops (p40_24_1 :: o40_24.drop 2), [.seq x40_25, .blk 1, .seq x40_35, .loop x40_17, .blk 0, .seq x40_36], (ss (E8 pt s r z pw dd pb i) [(21, iv i)]), [], h, none⟩ ?_
    refine WpM.op (.ptr (some (.new pb (0 + i.toNat * 1)))) _ (by kernel_rfl) (indexAddr_sl (e := 5) (a := (.new pb 0)) (len := s.length) (lb := s.length) (ex := false) (z := 1) (k := .i64) (n := i) (by kernel_rfl) (by kernel_rfl) (by kernel_rfl) (by kernel_rfl) (by omega)) ?_
    refine rn 0 ⟨.ops (p40_24_2 :: o40_24.drop 3), [.seq x40_25, .blk 1, .seq x40_35, .loop x40_17, .blk 0, .seq x40_36], (ss (E8 pt s r z pw dd pb i) [(21, iv i), (22, .ptr (some (.new pb (0 + i.toNat * 1))))]), [], h, none⟩ ?_
    refine WpM.op (.int .u8 (bt s i)) _ (by kernel_rfl) (load_new (o := (0 + i.toNat * 1)) (by kernel_rfl) gb (bv_ld (i := i) (by kernel_rfl) (by omega) (by omega))) ?_
    refine rn 10 ⟨.ops (p40_27_3 :: o40_27.drop 4), [.seq x40_28, .seq x40_31, .blk 1, .seq x40_35, .loop x40_17, .blk 0, .seq x40_36], (ss (E8 pt s r z pw dd pb i) [(9, iv i), (10, .int .u8 (bt s i)), (21, iv i), (22, .ptr (some (.new pb (0 + i.toNat * 1)))), (23, .int .u8 (bt s i)), (24, .ptr (nw pw)), (25, .ptr (nw pw)), (26, .ptr (nw pw))]), [], h, none⟩ ?_
    refine WpM.op (.map none) _ (by kernel_rfl) (load_new (o := 0) (by kernel_rfl) gpw (by kernel_rfl)) ?_
    refine rn 28 ⟨.done .ret, [], (E9 pt s r z i pb pw dd), [], h, none⟩ ?_
    refine WpM.ret (.tup [iv r, iv z]) h (by kernel_rfl) (by kernel_rfl) ?_
    first
     | (rw [hend (by omega), lonG] at hA; exact ⟨hX, by rw [← hA]⟩)
     | (rw [hdrop (by omega), lonG, if_neg (by rw [hk]; decide)] at hA; exact ⟨hX, by rw [← hA]⟩)
   ·have c104p := dec_f c104
    refine rn 14 ⟨.done .ret, [], (ss (E8 pt s r z pw dd pb i) [(4, iv r), (5, iv z), (43, iv r), (44, iv z)]), [], h, none⟩ ?_
    refine WpM.ret (.tup [iv r, iv z]) h (by kernel_rfl) (by kernel_rfl) ?_
    first
     | (rw [hend (by omega), lonG] at hA; exact ⟨hX, by rw [← hA]⟩)
     | (rw [hdrop (by omega), lonG, if_neg (by rw [hk]; decide)] at hA; exact ⟨hX, by rw [← hA]⟩)
def E10 (pt : Nat) (s : List UInt8) : List V := (.ptr (nw pt) :: .str s :: U :: U :: iv 0 :: iv 0 :: iv 0 :: iv 0 :: .ptr (nw pt) :: U :: U :: .ptr (nw pt) :: .bool false :: .ptr (nw pt) :: .ptr (nw pt) :: .ptr (nw pt) :: .str s :: us 28)
theorem lon_ok {W : World} {pt : Nat} {s : List UInt8} {n0 : Nat} {h0 : H} {D B : Wrd → Bool} {R : Wrd → Int} {p : Wrd → Nat} {m : Wrd → Option Nat} {c : Int} (hT : Tri 72 70 n0 h0 D B R p m c) (hs : s.length ≤ 140737488351232) (ept : p [] = pt) : WpF Tryd.prog W prim2 40 [.ptr (nw pt), .str s] h0 (fun v h' => HX h0 h' ∧ v = .tup [iv (lonG D B R [] s (0, 0)).1, iv (lonG D B R [] s (0, 0)).2]) := by
 have ht := hT.node _ hT.root
 rw [ept] at ht
 refine WpF.m tab_ok (by kernel_rfl) rfl ?_
 refine WpM.cfg (c' := ⟨.code x40_0, [], (.ptr (nw pt) :: .str s :: us 43), [], h0, none⟩) (by kernel_rfl) ?_
 refine rn 34 ⟨.ops (p40_14_1 :: o40_14.drop 2), [.seq x40_15, .seq x40_36], (E10 pt s), [], h0, none⟩ ?_
 refine WpM.opA (fun p => .slice (nw p) s.length s.length false) (.cells (bv s) 5) (by kernel_rfl) (by kernel_rfl) (fun p1 h2 a3 => ?_)
 refine rn 6 ⟨.code x40_17, [.loop x40_17, .blk 0, .seq x40_36], (.ptr (nw pt) :: .str s :: U :: U :: iv 0 :: iv 0 :: iv 0 :: iv 0 :: .ptr (nw pt) :: U :: U :: .ptr (nw pt) :: .bool false :: .ptr (nw pt) :: .ptr (nw pt) :: .ptr (nw pt) :: .str s :: .slice (nw p1) s.length s.length false :: iv ((s.length : Int)) :: iv 0 :: us 25), [], h2, none⟩ ?_
 exact lon_loop hT hs _ 0 _ pt 0 0 (fun n => ((ss (E10 pt s) [(17, .slice (nw p1) s.length s.length false), (18, iv ((s.length : Int))), (19, iv 0)])).getD n U) rfl (by omega) (by omega) (by simpa using hT.root) (by simpa using ept) (by simp) ((HX.refl h0).alloc a3) a3.get a3.lt
def E11 (pt : Nat) (s : List UInt8) (dd : Nat → V) (pw : Nat) (c : Int) (pb : Nat) (i : Int) : List V := (.ptr (nw pt) :: .str s :: U :: U :: (dd 4) :: .ptr (nw pw) :: U :: (dd 7) :: .ptr (nw pt) :: .bool false :: .bool false :: .ptr (nw pt) :: .ptr (nw pt) :: .ptr (some (.new pt 3)) :: iv c :: .bool (c == 0) :: .bool (c == 0) :: .ptr (nw pt) :: .ptr (nw pt) :: .ptr (nw pt) :: .str s :: .slice (nw pb) s.length s.length false :: iv ((s.length : Int)) :: iv i :: .bool (decide (i < ((s.length : Int)))) :: (dd 25) :: (dd 26) :: (dd 27) :: (dd 28) :: (dd 29) :: (dd 30) :: (dd 31) :: (dd 32) :: (dd 33) :: (dd 34) :: (dd 35) :: [])
theorem goe_loop {W : World} {pb pt : Nat} {s : List UInt8} {n0 : Nat} {h0 : H} {D B : Wrd → Bool} {R : Wrd → Int} {p : Wrd → Nat} {m : Wrd → Option Nat} {c : Int} (hT : Tri 72 70 n0 h0 D B R p m c) (hs : s.length ≤ 140737488351232) (hc : 0 < c) (nn : Nat) : ∀ (i : Int) (h : H) (pw : Nat) (dd : Nat → V), nn = ((s.length : Int) - i).toNat → (0 ≤ i) → (i ≤ (s.length : Int)) → (D (s.take i.toNat) = true) → (p (s.take i.toNat) = pw) → (goeG D (s.take i.toNat) (s.drop i.toNat) = goeG D [] s) → (HX h0 h) → (h.get pb = some (.cells (bv s) 5)) → (pb < h.nx) → WpM Tryd.prog W prim2 ⟨.code x42_15, [.loop x42_15, .blk 0, .seq x42_31], (.ptr (nw pt) :: .str s :: U :: U :: (dd 4) :: .ptr (nw pw) :: U :: (dd 7) :: .ptr (nw pt) :: .bool false :: .bool false :: .ptr (nw pt) :: .ptr (nw pt) :: .ptr (some (.new pt 3)) :: iv c :: .bool (c == 0) :: .bool (c == 0) :: .ptr (nw pt) :: .ptr (nw pt) :: .ptr (nw pt) :: .str s :: .slice (nw pb) s.length s.length false :: iv ((s.length : Int)) :: iv i :: (dd 24) :: (dd 25) :: (dd 26) :: (dd 27) :: (dd 28) :: (dd 29) :: (dd 30) :: (dd 31) :: (dd 32) :: (dd 33) :: (dd 34) :: (dd 35) :: []), [], h, none⟩ (retQ Tryd.prog W [.tmp 4] (fun v h' => HX h0 h' ∧ v = .bool (goeG D [] s))) := by
 induction nn using Nat.strongRecOn with
 | _ nn ih =>
  intro i h pw dd hn9 h0i h1i hw hpw hA hX gb lb
  obtain ⟨wd, ewd⟩ : ∃ v, v = s.take i.toNat := ⟨_, rfl⟩
  rw [← ewd] at hw hpw hA
  have hT1 := hT.hx hX
  have hn := hT1.node _ hw
  rw [hpw] at hn
  have hbl := bv_length s
  have hbr := bt_range s i
  have lpw := hn.2.1
  have hXn := hX.nx
  obtain ⟨b, eb⟩ : ∃ b, b = s.getD i.toNat 0 := ⟨_, rfl⟩
  have ekb : V.int .u8 (bt s i) = .int .u8 (b.toNat : Int) := by rw [eb]; rfl
  have hwl : i < (s.length : Int) → (wd.length : Int) = i := fun hi => by rw [ewd, List.length_take]; omega
  have hstep : i < (s.length : Int) → s.take (i + 1).toNat = wd ++ [b] := fun hi => by rw [take_bt h0i hi, ewd, eb]
  have hdrop : i < (s.length : Int) → s.drop i.toNat = b :: s.drop (i + 1).toNat := fun hi => by rw [drop_bt h0i hi, eb]
  have hend : ¬ i < (s.length : Int) → s.drop i.toNat = [] := fun hi => List.drop_eq_nil_of_le (by omega)
  rcases hm : m wd with _ | mi
  rotate_left
  cases hk : D (wd ++ [b])
  ·skip
   have gpw : h.get pw = some (.cells (.map (some mi) :: .bool (B wd) :: iv (R wd) :: tlW c wd) (tyW 72 70 wd)) := by rw [← hm]; exact hn.2.2
   obtain ⟨nmi, lmi, es, gmi, kmi, fmi⟩ := hT1.maps wd mi hw hm
   obtain ⟨pk, epk⟩ : ∃ v, v = p (wd ++ [b]) := ⟨_, rfl⟩
   have fk : findKey (.int .u8 (bt s i)) es = some none := by rw [ekb]; exact (fmi b).trans (congrArg some (if_neg (by rw [hk]; decide)))
   refine rn 6 ⟨.code x42_18, [.seq x42_19, .loop x42_15, .blk 0, .seq x42_31], (E11 pt s dd pw c pb i), [], h, none⟩ ?_
   refine WpM.cond (t := (decide (i < ((s.length : Int))))) (by kernel_rfl) (fun c101 => ?_) (fun c101 => ?_)
   ·have c101p := dec_t c101
    refine rn 6 ⟨.ops (p42_22_0 :: o42_22.drop 1), [.seq x42_23, .blk 1, .seq x42_30, .loop x42_15, .blk 0, .seq x42_31], (E11 pt s dd pw c pb i), [], h, none⟩ ?_
    refine WpM.op (.ptr (some (.new pb (0 + i.toNat * 1)))) _ (by kernel_rfl) (indexAddr_sl (e := 5) (a := (.new pb 0)) (len := s.length) (lb := s.length) (ex := false) (z := 1) (k := .i64) (n := i) (by kernel_rfl) (by kernel_rfl) (by kernel_rfl) (by kernel_rfl) (by omega)) ?_
    refine rn 0 ⟨.ops (p42_22_1 :: o42_22.drop 2), [.seq x42_23, .blk 1, .seq x42_30, .loop x42_15, .blk 0, .seq x42_31], (ss (E11 pt s dd pw c pb i) [(25, .ptr (some (.new pb (0 + i.toNat * 1))))]), [], h, none⟩ ?_
    refine WpM.op (.int .u8 (bt s i)) _ (by kernel_rfl) (load_new (o := (0 + i.toNat * 1)) (by kernel_rfl) gb (bv_ld (i := i) (by kernel_rfl) (by omega) (by omega))) ?_
    refine rn 8 ⟨.ops (p42_24_3 :: o42_24.drop 4), [.seq x42_25, .blk 1, .seq x42_30, .loop x42_15, .blk 0, .seq x42_31], (ss (E11 pt s dd pw c pb i) [(7, .int .u8 (bt s i)), (25, .ptr (some (.new pb (0 + i.toNat * 1)))), (26, .int .u8 (bt s i)), (27, .ptr (nw pw)), (28, .ptr (nw pw)), (29, .ptr (nw pw))]), [], h, none⟩ ?_
    refine WpM.op (.map (some mi)) _ (by kernel_rfl) (load_new (o := 0) (by kernel_rfl) gpw (by kernel_rfl)) ?_
    refine rn 1 ⟨.ops (p42_24_5 :: o42_24.drop 6), [.seq x42_25, .blk 1, .seq x42_30, .loop x42_15, .blk 0, .seq x42_31], (.ptr (nw pt) :: .str s :: U :: U :: (dd 4) :: .ptr (nw pw) :: U :: .int .u8 (bt s i) :: .ptr (nw pt) :: .bool false :: .bool false :: .ptr (nw pt) :: .ptr (nw pt) :: .ptr (some (.new pt 3)) :: iv c :: .bool (c == 0) :: .bool (c == 0) :: .ptr (nw pt) :: .ptr (nw pt) :: .ptr (nw pt) :: .str s :: .slice (nw pb) s.length s.length false :: iv ((s.length : Int)) :: iv i :: .bool (decide (i < ((s.length : Int)))) :: .ptr (some (.new pb (0 + i.toNat * 1))) :: .int .u8 (bt s i) :: .ptr (nw pw) :: .ptr (nw pw) :: .ptr (nw pw) :: .map (some mi) :: .int .u8 (bt s i) :: (dd 32) :: (dd 33) :: (dd 34) :: (dd 35) :: []), [], h, none⟩ ?_
    refine WpM.op (.ptr none) _ (by kernel_rfl) (lookup_at (kt := 5) (et := 75) (i := mi) (es := es) (kv := .int .u8 (bt s i)) (z := .ptr none) (r := none) (by kernel_rfl) (by kernel_rfl) (by kernel_rfl) (by kernel_rfl) (by kernel_rfl) gmi fk rfl) ?_
    refine rn 21 ⟨.done .ret, [], (.ptr (nw pt) :: .str s :: U :: U :: .bool false :: .ptr none :: U :: .int .u8 (bt s i) :: .ptr (nw pt) :: .bool false :: .bool false :: .ptr (nw pt) :: .ptr (nw pt) :: .ptr (some (.new pt 3)) :: iv c :: .bool (c == 0) :: .bool (c == 0) :: .ptr (nw pt) :: .ptr (nw pt) :: .ptr (nw pt) :: .str s :: .slice (nw pb) s.length s.length false :: iv ((s.length : Int)) :: iv i :: .bool (decide (i < ((s.length : Int)))) :: .ptr (some (.new pb (0 + i.toNat * 1))) :: .int .u8 (bt s i) :: .ptr (nw pw) :: .ptr (nw pw) :: .ptr (nw pw) :: .map (some mi) :: .int .u8 (bt s i) :: .ptr none :: .ptr none :: .bool true :: (dd 35) :: []), [], h, none⟩ ?_
    refine WpM.ret (.bool false) h (by kernel_rfl) (by kernel_rfl) ?_
    first
     | (rw [hend (by omega), goeG] at hA; exact ⟨hX, by rw [← hA]⟩)
     | (rw [hdrop (by omega), goeG, hk, Bool.false_and] at hA; exact ⟨hX, by rw [← hA]⟩)
   ·have c101p := dec_f c101
    refine rn 11 ⟨.done .ret, [], (ss (E11 pt s dd pw c pb i) [(4, .bool true)]), [], h, none⟩ ?_
    refine WpM.ret (.bool true) h (by kernel_rfl) (by kernel_rfl) ?_
    first
     | (rw [hend (by omega), goeG] at hA; exact ⟨hX, by rw [← hA]⟩)
     | (rw [hdrop (by omega), goeG, hk, Bool.false_and] at hA; exact ⟨hX, by rw [← hA]⟩)
  ·skip
   have gpw : h.get pw = some (.cells (.map (some mi) :: .bool (B wd) :: iv (R wd) :: tlW c wd) (tyW 72 70 wd)) := by rw [← hm]; exact hn.2.2
   obtain ⟨nmi, lmi, es, gmi, kmi, fmi⟩ := hT1.maps wd mi hw hm
   obtain ⟨pk, epk⟩ : ∃ v, v = p (wd ++ [b]) := ⟨_, rfl⟩
   have fk : findKey (.int .u8 (bt s i)) es = some (some (.ptr (nw pk))) := by rw [ekb, epk]; exact (fmi b).trans (congrArg some (if_pos hk))
   have hk2 := hT1.node _ hk
   rw [← epk] at hk2
   refine rn 6 ⟨.code x42_18, [.seq x42_19, .loop x42_15, .blk 0, .seq x42_31], (E11 pt s dd pw c pb i), [], h, none⟩ ?_
   refine WpM.cond (t := (decide (i < ((s.length : Int))))) (by kernel_rfl) (fun c102 => ?_) (fun c102 => ?_)
   ·have c102p := dec_t c102
    refine rn 6 ⟨.ops (p42_22_0 :: o42_22.drop 1), [.seq x42_23, .blk 1, .seq x42_30, .loop x42_15, .blk 0, .seq x42_31], (E11 pt s dd pw c pb i), [], h, none⟩ ?_
    refine WpM.op (.ptr (some (.new pb (0 + i.toNat * 1)))) _ (by kernel_rfl) (indexAddr_sl (e := 5) (a := (.new pb 0)) (len := s.length) (lb := s.length) (ex := false) (z := 1) (k := .i64) (n := i) (by kernel_rfl) (by kernel_rfl) (by kernel_rfl) (by kernel_rfl) (by omega)) ?_
    refine rn 0 ⟨.ops (p42_22_1 :: o42_22.drop 2), [.seq x42_23, .blk 1, .seq x42_30, .loop x42_15, .blk 0, .seq x42_31], (ss (E11 pt s dd pw c pb i) [(25, .ptr (some (.new pb (0 + i.toNat * 1))))]), [], h, none⟩ ?_
    refine WpM.op (.int .u8 (bt s i)) _ (by kernel_rfl) (load_new (o := (0 + i.toNat * 1)) (by kernel_rfl) gb (bv_ld (i := i) (by kernel_rfl) (by omega) (by omega))) ?_
    refine rn 8 ⟨.ops (p42_24_3 :: o42_24.drop 4), [.seq x42_25, .blk 1, .seq x42_30, .loop x42_15, .blk 0, .seq x42_31], (ss (E11 pt s dd pw c pb i) [(7, .int .u8 (bt s i)), (25, .ptr (some (.new pb (0 + i.toNat * 1)))), (26, .int .u8 (bt s i)), (27, .ptr (nw pw)), (28, .ptr (nw pw)), (29, .ptr (nw pw))]), [], h, none⟩ ?_
    refine WpM.op (.map (some mi)) _ (by kernel_rfl) (load_new (o := 0) (by kernel_rfl) gpw (by kernel_rfl)) ?_
    refine rn 1 ⟨.ops (p42_24_5 :: o42_24.drop 6), [.seq x42_25, .blk 1, .seq x42_30, .loop x42_15, .blk 0, .seq x42_31], (.ptr (nw pt) :: .str s :: U :: U :: (dd 4) :: .ptr (nw pw) :: U :: .int .u8 (bt s i) :: .ptr (nw pt) :: .bool false :: .bool false :: .ptr (nw pt) :: .ptr (nw pt) :: .ptr (some (.new pt 3)) :: iv c :: .bool (c == 0) :: .bool (c == 0) :: .ptr (nw pt) :: .ptr (nw pt) :: .ptr (nw pt) :: .str s :: .slice (nw pb) s.length s.length false :: iv ((s.length : Int)) :: iv i :: .bool (decide (i < ((s.length : Int)))) :: .ptr (some (.new pb (0 + i.toNat * 1))) :: .int .u8 (bt s i) :: .ptr (nw pw) :: .ptr (nw pw) :: .ptr (nw pw) :: .map (some mi) :: .int .u8 (bt s i) :: (dd 32) :: (dd 33) :: (dd 34) :: (dd 35) :: []), [], h, none⟩ ?_
    refine WpM.op (.ptr (nw pk)) _ (by kernel_rfl) (lookup_at (kt := 5) (et := 75) (i := mi) (es := es) (kv := .int .u8 (bt s i)) (z := .ptr none) (r := (some (.ptr (nw pk)))) (by kernel_rfl) (by kernel_rfl) (by kernel_rfl) (by kernel_rfl) (by kernel_rfl) gmi fk rfl) ?_
    refine rn 14 ⟨.ops (p42_30_0 :: o42_30.drop 1), [.loop x42_15, .blk 0, .seq x42_31], (.ptr (nw pt) :: .str s :: U :: U :: (dd 4) :: .ptr (nw pk) :: U :: .int .u8 (bt s i) :: .ptr (nw pt) :: .bool false :: .bool false :: .ptr (nw pt) :: .ptr (nw pt) :: .ptr (some (.new pt 3)) :: iv c :: .bool (c == 0) :: .bool (c == 0) :: .ptr (nw pt) :: .ptr (nw pt) :: .ptr (nw pt) :: .str s :: .slice (nw pb) s.length s.length false :: iv ((s.length : Int)) :: iv i :: .bool (decide (i < ((s.length : Int)))) :: .ptr (some (.new pb (0 + i.toNat * 1))) :: .int .u8 (bt s i) :: .ptr (nw pw) :: .ptr (nw pw) :: .ptr (nw pw) :: .map (some mi) :: .int .u8 (bt s i) :: .ptr (nw pk) :: .ptr (nw pk) :: .bool false :: (dd 35) :: []), [], h, none⟩ ?_
    refine WpM.op (iv (i + 1)) _ (by kernel_rfl) (arith_add (by kernel_rfl) (by kernel_rfl) (by omega)) ?_
    refine rn 3 ⟨.code x42_15, [.loop x42_15, .blk 0, .seq x42_31], (.ptr (nw pt) :: .str s :: U :: U :: (dd 4) :: .ptr (nw pk) :: U :: .int .u8 (bt s i) :: .ptr (nw pt) :: .bool false :: .bool false :: .ptr (nw pt) :: .ptr (nw pt) :: .ptr (some (.new pt 3)) :: iv c :: .bool (c == 0) :: .bool (c == 0) :: .ptr (nw pt) :: .ptr (nw pt) :: .ptr (nw pt) :: .str s :: .slice (nw pb) s.length s.length false :: iv ((s.length : Int)) :: iv (i + 1) :: .bool (decide (i < ((s.length : Int)))) :: .ptr (some (.new pb (0 + i.toNat * 1))) :: .int .u8 (bt s i) :: .ptr (nw pw) :: .ptr (nw pw) :: .ptr (nw pw) :: .map (some mi) :: .int .u8 (bt s i) :: .ptr (nw pk) :: .ptr (nw pk) :: .bool false :: iv (i + 1) :: []), [], h, none⟩ ?_
    refine ih _ ?_ _ h pk (fun n => ((.ptr (nw pt) :: .str s :: U :: U :: (dd 4) :: .ptr (nw pk) :: U :: .int .u8 (bt s i) :: .ptr (nw pt) :: .bool false :: .bool false :: .ptr (nw pt) :: .ptr (nw pt) :: .ptr (some (.new pt 3)) :: iv c :: .bool (c == 0) :: .bool (c == 0) :: .ptr (nw pt) :: .ptr (nw pt) :: .ptr (nw pt) :: .str s :: .slice (nw pb) s.length s.length false :: iv ((s.length : Int)) :: iv (i + 1) :: .bool (decide (i < ((s.length : Int)))) :: .ptr (some (.new pb (0 + i.toNat * 1))) :: .int .u8 (bt s i) :: .ptr (nw pw) :: .ptr (nw pw) :: .ptr (nw pw) :: .map (some mi) :: .int .u8 (bt s i) :: .ptr (nw pk) :: .ptr (nw pk) :: .bool false :: iv (i + 1) :: [])).getD n U) rfl ?_ ?_ ?_ ?_ ?_ ?_ ?_ ?_
    ·omega
    ·omega
    ·omega
    ·rw [hstep (by omega)]; exact hk
    ·rw [hstep (by omega), epk]
    ·rw [hdrop (by omega), goeG, hk, Bool.true_and] at hA
     rw [hstep (by omega), ← hA]
    ·exact hX
    ·exact gb
    ·exact lb
   ·have c102p := dec_f c102
    refine rn 11 ⟨.done .ret, [], (ss (E11 pt s dd pw c pb i) [(4, .bool true)]), [], h, none⟩ ?_
    refine WpM.ret (.bool true) h (by kernel_rfl) (by kernel_rfl) ?_
    first
     | (rw [hend (by omega), goeG] at hA; exact ⟨hX, by rw [← hA]⟩)
     | (rw [hdrop (by omega), goeG, hk, Bool.false_and] at hA; exact ⟨hX, by rw [← hA]⟩)
  ·skip
   have gpw : h.get pw = some (.cells (.map none :: .bool (B wd) :: iv (R wd) :: tlW c wd) (tyW 72 70 wd)) := by rw [← hm]; exact hn.2.2
   have hk := hT1.leaf _ hw hm b
   refine rn 6 ⟨.code x42_18, [.seq x42_19, .loop x42_15, .blk 0, .seq x42_31], (E11 pt s dd pw c pb i), [], h, none⟩ ?_
   refine WpM.cond (t := (decide (i < ((s.length : Int))))) (by kernel_rfl) (fun c103 => ?_) (fun c103 => ?_)
   ·have c103p := dec_t c103
    refine rn 6 ⟨.ops (p42_22_0 :: o42_22.drop 1), [.seq x42_23, .blk 1, .seq x42_30, .loop x42_15, .blk 0, .seq x42_31], (E11 pt s dd pw c pb i), [], h, none⟩ ?_
    refine WpM.op (.ptr (some (.new pb (0 + i.toNat * 1)))) _ (by kernel_rfl) (indexAddr_sl (e := 5) (a := (.new pb 0)) (len := s.length) (lb := s.length) (ex := false) (z := 1) (k := .i64) (n := i) (by kernel_rfl) (by kernel_rfl) (by kernel_rfl) (by kernel_rfl) (by omega)) ?_
    refine rn 0 ⟨.ops (p42_22_1 :: o42_22.drop 2), [.seq x42_23, .blk 1, .seq x42_30, .loop x42_15, .blk 0, .seq x42_31], (ss (E11 pt s dd pw c pb i) [(25, .ptr (some (.new pb (0 + i.toNat * 1))))]), [], h, none⟩ ?_
    refine WpM.op (.int .u8 (bt s i)) _ (by kernel_rfl) (load_new (o := (0 + i.toNat * 1)) (by kernel_rfl) gb (bv_ld (i := i) (by kernel_rfl) (by omega) (by omega))) ?_
    refine rn 8 ⟨.ops (p42_24_3 :: o42_24.drop 4), [.seq x42_25, .blk 1, .seq x42_30, .loop x42_15, .blk 0, .seq x42_31], (ss (E11 pt s dd pw c pb i) [(7, .int .u8 (bt s i)), (25, .ptr (some (.new pb (0 + i.toNat * 1)))), (26, .int .u8 (bt s i)), (27, .ptr (nw pw)), (28, .ptr (nw pw)), (29, .ptr (nw pw))]), [], h, none⟩ ?_
    refine WpM.op (.map none) _ (by kernel_rfl) (load_new (o := 0) (by kernel_rfl) gpw (by kernel_rfl)) ?_
    refine rn 23 ⟨.done .ret, [], (ss (E11 pt s dd pw c pb i) [(4, .bool false), (5, .ptr none), (7, .int .u8 (bt s i)), (25, .ptr (some (.new pb (0 + i.toNat * 1)))), (26, .int .u8 (bt s i)), (27, .ptr (nw pw)), (28, .ptr (nw pw)), (29, .ptr (nw pw)), (30, .map none), (31, .int .u8 (bt s i)), (32, .ptr none), (33, .ptr none), (34, .bool true)]), [], h, none⟩ ?_
    refine WpM.ret (.bool false) h (by kernel_rfl) (by kernel_rfl) ?_
    first
     | (rw [hend (by omega), goeG] at hA; exact ⟨hX, by rw [← hA]⟩)
     | (rw [hdrop (by omega), goeG, hk, Bool.false_and] at hA; exact ⟨hX, by rw [← hA]⟩)
   ·have c103p := dec_f c103
    refine rn 11 ⟨.done .ret, [], (ss (E11 pt s dd pw c pb i) [(4, .bool true)]), [], h, none⟩ ?_
    refine WpM.ret (.bool true) h (by kernel_rfl) (by kernel_rfl) ?_
    first
     | (rw [hend (by omega), goeG] at hA; exact ⟨hX, by rw [← hA]⟩)
     | (rw [hdrop (by omega), goeG, hk, Bool.false_and] at hA; exact ⟨hX, by rw [← hA]⟩)
def E12 (pt : Nat) (s : List UInt8) : List V := (.ptr (nw pt) :: .str s :: U :: U :: .bool false :: U :: U :: U :: .ptr (nw pt) :: .bool false :: .bool false :: .ptr (nw pt) :: .ptr (nw pt) :: .ptr (some (.new pt 3)) :: us 22)
def E13 (pt : Nat) (s : List UInt8) (c : Int) (p2 : Nat) : List V := (.ptr (nw pt) :: .str s :: U :: U :: .bool false :: .ptr (nw pt) :: U :: U :: .ptr (nw pt) :: .bool false :: .bool false :: .ptr (nw pt) :: .ptr (nw pt) :: .ptr (some (.new pt 3)) :: iv c :: .bool (c == 0) :: .bool (c == 0) :: .ptr (nw pt) :: .ptr (nw pt) :: .ptr (nw pt) :: .str s :: .slice (nw p2) s.length s.length false :: iv ((s.length : Int)) :: iv 0 :: us 12)
theorem goe_ok {W : World} {pt : Nat} {s : List UInt8} {n0 : Nat} {h0 : H} {D B : Wrd → Bool} {R : Wrd → Int} {p : Wrd → Nat} {m : Wrd → Option Nat} {c : Int} (hT : Tri 72 70 n0 h0 D B R p m c) (hs : s.length ≤ 140737488351232) (hc : 0 < c) (ept : p [] = pt) : WpF Tryd.prog W prim2 42 [.ptr (nw pt), .str s] h0 (fun v h' => HX h0 h' ∧ v = .bool (goeG D [] s)) := by
 have ht := hT.node _ hT.root
 rw [ept] at ht
 refine WpF.m tab_ok (by kernel_rfl) rfl ?_
 refine WpM.cfg (c' := ⟨.code x42_0, [], (.ptr (nw pt) :: .str s :: us 34), [], h0, none⟩) (by kernel_rfl) ?_
 refine rn 14 ⟨.ops (p42_4_6 :: o42_4.drop 7), [.seq x42_5, .seq x42_8], (E12 pt s), [], h0, none⟩ ?_
 refine WpM.op (iv c) _ (by kernel_rfl) (load_new (o := 3) (by kernel_rfl) ht.2.2 (by kernel_rfl)) ?_
 refine rn 4 ⟨.code x42_5, [.seq x42_8], (ss (E12 pt s) [(14, iv c), (15, .bool (c == 0)), (16, .bool (c == 0))]), [], h0, none⟩ ?_
 refine WpM.cond (t := (c == 0)) (by kernel_rfl) (fun c1 => ?_) (fun c1 => ?_)
 ·have c1p := beq_t c1
  exfalso; omega
 ·have c1p := beq_f c1
  refine rn 14 ⟨.ops (p42_12_1 :: o42_12.drop 2), [.seq x42_13, .seq x42_31], (ss (E12 pt s) [(5, .ptr (nw pt)), (14, iv c), (15, .bool (c == 0)), (16, .bool (c == 0)), (17, .ptr (nw pt)), (18, .ptr (nw pt)), (19, .ptr (nw pt)), (20, .str s)]), [], h0, none⟩ ?_
  refine WpM.opA (fun p => .slice (nw p) s.length s.length false) (.cells (bv s) 5) (by kernel_rfl) (by kernel_rfl) (fun p2 h3 a4 => ?_)
  refine rn 6 ⟨.code x42_15, [.loop x42_15, .blk 0, .seq x42_31], (.ptr (nw pt) :: .str s :: U :: U :: .bool false :: .ptr (nw pt) :: U :: U :: .ptr (nw pt) :: .bool false :: .bool false :: .ptr (nw pt) :: .ptr (nw pt) :: .ptr (some (.new pt 3)) :: iv c :: .bool (c == 0) :: .bool (c == 0) :: .ptr (nw pt) :: .ptr (nw pt) :: .ptr (nw pt) :: .str s :: .slice (nw p2) s.length s.length false :: iv ((s.length : Int)) :: iv 0 :: us 12), [], h3, none⟩ ?_
  exact goe_loop hT hs hc _ 0 _ pt (fun n => ((E13 pt s c p2)).getD n U) rfl (by omega) (by omega) (by simpa using hT.root) (by simpa using ept) (by simp) ((HX.refl h0).alloc a4) a4.get a4.lt
end Go.Proofs.YtkhjmgchlbnkjaaDoor.Dg
