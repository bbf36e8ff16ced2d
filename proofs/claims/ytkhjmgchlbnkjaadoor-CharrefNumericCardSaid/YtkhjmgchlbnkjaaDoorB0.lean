/-
  A trie: the longest name; whether a name begins so.
-/
import Derived.Test.YtkhjmgchlbnkjaaDoorA0
set_option linter.unusedVariables false
set_option linter.unusedSimpArgs false
namespace Go.Proofs.YtkhjmgchlbnkjaaDoor.Dg
open Go Go.RowKit
set_option maxRecDepth 20000
def lonG (D B : Wrd → Bool) (R : Wrd → Int) : Wrd → List UInt8 → Int × Int → Int × Int
  | _, [], a => a
  | w, b :: r, a => if D (w ++ [b]) = true then lonG D B R (w ++ [b]) r (if B (w ++ [b]) = true then (R (w ++ [b]), (w.length : Int) + 1) else a) else a
def goeG (D : Wrd → Bool) : Wrd → List UInt8 → Bool
  | _, [] => true
  | w, b :: r => D (w ++ [b]) && goeG D (w ++ [b]) r
def E4 (pt : Nat) (s : List UInt8) (r : Int) (z : Int) (pw : Nat) (d9 : V) (d10 : V) (pb : Nat) (i : Int) (d21 : V) (d22 : V) (d23 : V) (d24 : V) (d25 : V) (d26 : V) (d27 : V) (d28 : V) (d29 : V) (d30 : V) (d31 : V) (d32 : V) (d33 : V) (d34 : V) (d35 : V) (d36 : V) (d37 : V) (d38 : V) (d39 : V) (d40 : V) (d41 : V) (d42 : V) : List V := (.ptr (some (.new pt 0)) :: .str s :: U :: U :: .int .i64 0 :: .int .i64 0 :: .int .i64 r :: .int .i64 z :: .ptr (some (.new pw 0)) :: d9 :: d10 :: .ptr (some (.new pt 0)) :: .bool false :: .ptr (some (.new pt 0)) :: .ptr (some (.new pt 0)) :: .ptr (some (.new pt 0)) :: .str s :: .slice (some (.new pb 0)) s.length s.length false :: .int .i64 ((s.length : Int)) :: .int .i64 i :: .bool (decide (i < ((s.length : Int)))) :: d21 :: d22 :: d23 :: d24 :: d25 :: d26 :: d27 :: d28 :: d29 :: d30 :: d31 :: d32 :: d33 :: d34 :: d35 :: d36 :: d37 :: d38 :: d39 :: d40 :: d41 :: d42 :: U :: U :: [])
def E5 (pt : Nat) (s : List UInt8) (r : Int) (z : Int) (i : Int) (pb : Nat) (pw : Nat) (d32 : V) (d33 : V) (d34 : V) (d35 : V) (d36 : V) (d37 : V) (d38 : V) (d39 : V) (d40 : V) (d41 : V) (d42 : V) : List V := (.ptr (some (.new pt 0)) :: .str s :: U :: U :: .int .i64 r :: .int .i64 z :: .int .i64 r :: .int .i64 z :: .ptr none :: .int .i64 i :: .int .u8 (bt s i) :: .ptr (some (.new pt 0)) :: .bool false :: .ptr (some (.new pt 0)) :: .ptr (some (.new pt 0)) :: .ptr (some (.new pt 0)) :: .str s :: .slice (some (.new pb 0)) s.length s.length false :: .int .i64 ((s.length : Int)) :: .int .i64 i :: .bool (decide (i < ((s.length : Int)))) :: .int .i64 i :: .ptr (some (.new pb (0 + i.toNat * 1))) :: .int .u8 (bt s i) :: .ptr (some (.new pw 0)) :: .ptr (some (.new pw 0)) :: .ptr (some (.new pw 0)) :: .map none :: .int .u8 (bt s i) :: .ptr none :: .ptr none :: .bool true :: d32 :: d33 :: d34 :: d35 :: d36 :: d37 :: d38 :: d39 :: d40 :: d41 :: d42 :: .int .i64 r :: .int .i64 z :: [])
theorem lon_loop {W : World} {pb pt : Nat} {s : List UInt8} {n0 : Nat} {h0 : H} {D B : Wrd → Bool} {R : Wrd → Int} {p : Wrd → Nat} {m : Wrd → Option Nat} {c : Int} (hT : Tri 72 70 n0 h0 D B R p m c) (hs : s.length ≤ 140737488351232) (nn : Nat) : ∀ (i : Int) (h : H) (pw : Nat) (r z : Int) (d9 d10 d20 d21 d22 d23 d24 d25 d26 d27 d28 d29 d30 d31 d32 d33 d34 d35 d36 d37 d38 d39 d40 d41 d42 : V), nn = ((s.length : Int) - i).toNat → (0 ≤ i) → (i ≤ (s.length : Int)) → (D (s.take i.toNat) = true) → (p (s.take i.toNat) = pw) → (lonG D B R (s.take i.toNat) (s.drop i.toNat) (r, z) = lonG D B R [] s (0, 0)) → (HX h0 h) → (h.get pb = some (.cells (bv s) 5)) → (pb < h.nx) → WpM Tryd.prog W prim2 ⟨.code x40_17, [.loop x40_17, .blk 0, .seq x40_36], (.ptr (some (.new pt 0)) :: .str s :: U :: U :: .int .i64 0 :: .int .i64 0 :: .int .i64 r :: .int .i64 z :: .ptr (some (.new pw 0)) :: d9 :: d10 :: .ptr (some (.new pt 0)) :: .bool false :: .ptr (some (.new pt 0)) :: .ptr (some (.new pt 0)) :: .ptr (some (.new pt 0)) :: .str s :: .slice (some (.new pb 0)) s.length s.length false :: .int .i64 ((s.length : Int)) :: .int .i64 i :: d20 :: d21 :: d22 :: d23 :: d24 :: d25 :: d26 :: d27 :: d28 :: d29 :: d30 :: d31 :: d32 :: d33 :: d34 :: d35 :: d36 :: d37 :: d38 :: d39 :: d40 :: d41 :: d42 :: U :: U :: []), [], h, none⟩ (retQ Tryd.prog W [.tmp 4, .tmp 5] (fun v h' => HX h0 h' ∧ v = .tup [.int .i64 (lonG D B R [] s (0, 0)).1, .int .i64 (lonG D B R [] s (0, 0)).2])) := by
  induction nn using Nat.strongRecOn with
  | _ nn ih =>
    intro i h pw r z d9 d10 d20 d21 d22 d23 d24 d25 d26 d27 d28 d29 d30 d31 d32 d33 d34 d35 d36 d37 d38 d39 d40 d41 d42 hn9 h0i h1i hw hpw hA hX gb lb
    obtain ⟨wd, ewd⟩ : ∃ v, v = s.take i.toNat := ⟨_, rfl⟩
    rw [← ewd] at hw hpw hA
    have hT1 := hT.hx hX
    have hn := hT1.node _ hw
    rw [hpw] at hn
    have hbl := bv_length s
    have hbr := bt_range s i
    have lpw := hn.2.1
    have hXn := hX.nx
    obtain ⟨b, eb⟩ : ∃ b, b = s.getD i.toNat 0 := ⟨_, rfl⟩
    have ekb : V.int .u8 (bt s i) = .int .u8 (b.toNat : Int) := by rw [eb]; rfl
    have hwl : i < (s.length : Int) → (wd.length : Int) = i := fun hi => by rw [ewd, List.length_take]; omega
    have hstep : i < (s.length : Int) → s.take (i + 1).toNat = wd ++ [b] := fun hi => by rw [take_bt h0i hi, ewd, eb]
    have hdrop : i < (s.length : Int) → s.drop i.toNat = b :: s.drop (i + 1).toNat := fun hi => by rw [drop_bt h0i hi, eb]
    have hend : ¬ i < (s.length : Int) → s.drop i.toNat = [] := fun hi => List.drop_eq_nil_of_le (by omega)
    rcases hm : m wd with _ | mi
    rotate_left
    cases hk : D (wd ++ [b])
    · skip
      have gpw : h.get pw = some (.cells (.map (some mi) :: .bool (B wd) :: .int .i64 (R wd) :: tlW c wd) (tyW 72 70 wd)) := by rw [← hm]; exact hn.2.2
      obtain ⟨nmi, lmi, es, gmi, kmi, fmi⟩ := hT1.maps wd mi hw hm
      obtain ⟨pk, epk⟩ : ∃ v, v = p (wd ++ [b]) := ⟨_, rfl⟩
      have fk : findKey (.int .u8 (bt s i)) es = some none := by rw [ekb]; exact (fmi b).trans (congrArg some (if_neg (by rw [hk]; decide)))
      refine WpM.run tab_ok 6 ⟨.code x40_20, [.seq x40_21, .loop x40_17, .blk 0, .seq x40_36], (E4 pt s r z pw d9 d10 pb i d21 d22 d23 d24 d25 d26 d27 d28 d29 d30 d31 d32 d33 d34 d35 d36 d37 d38 d39 d40 d41 d42), [], h, none⟩ (by kernel_rfl) ?_
      refine WpM.cond (t := (decide (i < ((s.length : Int))))) (by kernel_rfl) (fun c101 => ?_) (fun c101 => ?_)
      · have c101p := dec_t c101
        refine WpM.run tab_ok 7 ⟨.ops (p40_24_1 :: o40_24.drop 2), [.seq x40_25, .blk 1, .seq x40_35, .loop x40_17, .blk 0, .seq x40_36], ((E4 pt s r z pw d9 d10 pb i d21 d22 d23 d24 d25 d26 d27 d28 d29 d30 d31 d32 d33 d34 d35 d36 d37 d38 d39 d40 d41 d42).set 21 (.int .i64 i)), [], h, none⟩ (by kernel_rfl) ?_
        refine WpM.op (.ptr (some (.new pb (0 + i.toNat * 1)))) _ (by kernel_rfl) (indexAddr_sl (e := 5) (a := (.new pb 0)) (len := s.length) (lb := s.length) (ex := false) (z := 1) (k := .i64) (n := i) (by kernel_rfl) (by kernel_rfl) (by kernel_rfl) (by kernel_rfl) (by omega)) ?_
        refine WpM.run tab_ok 0 ⟨.ops (p40_24_2 :: o40_24.drop 3), [.seq x40_25, .blk 1, .seq x40_35, .loop x40_17, .blk 0, .seq x40_36], (((E4 pt s r z pw d9 d10 pb i d21 d22 d23 d24 d25 d26 d27 d28 d29 d30 d31 d32 d33 d34 d35 d36 d37 d38 d39 d40 d41 d42).set 21 (.int .i64 i)).set 22 (.ptr (some (.new pb (0 + i.toNat * 1))))), [], h, none⟩ (by kernel_rfl) ?_
        refine WpM.op (.int .u8 (bt s i)) _ (by kernel_rfl) (load_new (o := (0 + i.toNat * 1)) (by kernel_rfl) gb (bv_ld (i := i) (by kernel_rfl) (by omega) (by omega))) ?_
        refine WpM.run tab_ok 10 ⟨.ops (p40_27_3 :: o40_27.drop 4), [.seq x40_28, .seq x40_31, .blk 1, .seq x40_35, .loop x40_17, .blk 0, .seq x40_36], (((((((((E4 pt s r z pw d9 d10 pb i d21 d22 d23 d24 d25 d26 d27 d28 d29 d30 d31 d32 d33 d34 d35 d36 d37 d38 d39 d40 d41 d42).set 9 (.int .i64 i)).set 10 (.int .u8 (bt s i))).set 21 (.int .i64 i)).set 22 (.ptr (some (.new pb (0 + i.toNat * 1))))).set 23 (.int .u8 (bt s i))).set 24 (.ptr (some (.new pw 0)))).set 25 (.ptr (some (.new pw 0)))).set 26 (.ptr (some (.new pw 0)))), [], h, none⟩ (by kernel_rfl) ?_
        refine WpM.op (.map (some mi)) _ (by kernel_rfl) (load_new (o := 0) (by kernel_rfl) gpw (by kernel_rfl)) ?_
        refine WpM.run tab_ok 1 ⟨.ops (p40_27_5 :: o40_27.drop 6), [.seq x40_28, .seq x40_31, .blk 1, .seq x40_35, .loop x40_17, .blk 0, .seq x40_36], (.ptr (some (.new pt 0)) :: .str s :: U :: U :: .int .i64 0 :: .int .i64 0 :: .int .i64 r :: .int .i64 z :: .ptr (some (.new pw 0)) :: .int .i64 i :: .int .u8 (bt s i) :: .ptr (some (.new pt 0)) :: .bool false :: .ptr (some (.new pt 0)) :: .ptr (some (.new pt 0)) :: .ptr (some (.new pt 0)) :: .str s :: .slice (some (.new pb 0)) s.length s.length false :: .int .i64 ((s.length : Int)) :: .int .i64 i :: .bool (decide (i < ((s.length : Int)))) :: .int .i64 i :: .ptr (some (.new pb (0 + i.toNat * 1))) :: .int .u8 (bt s i) :: .ptr (some (.new pw 0)) :: .ptr (some (.new pw 0)) :: .ptr (some (.new pw 0)) :: .map (some mi) :: .int .u8 (bt s i) :: d29 :: d30 :: d31 :: d32 :: d33 :: d34 :: d35 :: d36 :: d37 :: d38 :: d39 :: d40 :: d41 :: d42 :: U :: U :: []), [], h, none⟩ (by kernel_rfl) ?_
        refine WpM.op (.ptr none) _ (by kernel_rfl) (lookup_at (kt := 5) (et := 75) (i := mi) (es := es) (kv := .int .u8 (bt s i)) (z := .ptr none) (r := none) (by kernel_rfl) (by kernel_rfl) (by kernel_rfl) (by kernel_rfl) (by kernel_rfl) gmi fk rfl) ?_
        refine WpM.run tab_ok 26 ⟨.done .ret, [], (.ptr (some (.new pt 0)) :: .str s :: U :: U :: .int .i64 r :: .int .i64 z :: .int .i64 r :: .int .i64 z :: .ptr none :: .int .i64 i :: .int .u8 (bt s i) :: .ptr (some (.new pt 0)) :: .bool false :: .ptr (some (.new pt 0)) :: .ptr (some (.new pt 0)) :: .ptr (some (.new pt 0)) :: .str s :: .slice (some (.new pb 0)) s.length s.length false :: .int .i64 ((s.length : Int)) :: .int .i64 i :: .bool (decide (i < ((s.length : Int)))) :: .int .i64 i :: .ptr (some (.new pb (0 + i.toNat * 1))) :: .int .u8 (bt s i) :: .ptr (some (.new pw 0)) :: .ptr (some (.new pw 0)) :: .ptr (some (.new pw 0)) :: .map (some mi) :: .int .u8 (bt s i) :: .ptr none :: .ptr none :: .bool true :: d32 :: d33 :: d34 :: d35 :: d36 :: d37 :: d38 :: d39 :: d40 :: d41 :: d42 :: .int .i64 r :: .int .i64 z :: []), [], h, none⟩ (by kernel_rfl) ?_
        refine WpM.ret (.tup [.int .i64 r, .int .i64 z]) h (by kernel_rfl) (by kernel_rfl) ?_
        first
          | (rw [hend (by omega), lonG] at hA; exact ⟨hX, by rw [← hA]⟩)
          | (rw [hdrop (by omega), lonG, if_neg (by rw [hk]; decide)] at hA; exact ⟨hX, by rw [← hA]⟩)
      · have c101p := dec_f c101
        refine WpM.run tab_ok 14 ⟨.done .ret, [], (((((E4 pt s r z pw d9 d10 pb i d21 d22 d23 d24 d25 d26 d27 d28 d29 d30 d31 d32 d33 d34 d35 d36 d37 d38 d39 d40 d41 d42).set 4 (.int .i64 r)).set 5 (.int .i64 z)).set 43 (.int .i64 r)).set 44 (.int .i64 z)), [], h, none⟩ (by kernel_rfl) ?_
        refine WpM.ret (.tup [.int .i64 r, .int .i64 z]) h (by kernel_rfl) (by kernel_rfl) ?_
        first
          | (rw [hend (by omega), lonG] at hA; exact ⟨hX, by rw [← hA]⟩)
          | (rw [hdrop (by omega), lonG, if_neg (by rw [hk]; decide)] at hA; exact ⟨hX, by rw [← hA]⟩)
    · skip
      have gpw : h.get pw = some (.cells (.map (some mi) :: .bool (B wd) :: .int .i64 (R wd) :: tlW c wd) (tyW 72 70 wd)) := by rw [← hm]; exact hn.2.2
      obtain ⟨nmi, lmi, es, gmi, kmi, fmi⟩ := hT1.maps wd mi hw hm
      obtain ⟨pk, epk⟩ : ∃ v, v = p (wd ++ [b]) := ⟨_, rfl⟩
      have fk : findKey (.int .u8 (bt s i)) es = some (some (.ptr (some (.new pk 0)))) := by rw [ekb, epk]; exact (fmi b).trans (congrArg some (if_pos hk))
      have hk2 := hT1.node _ hk
      rw [← epk] at hk2
      refine WpM.run tab_ok 6 ⟨.code x40_20, [.seq x40_21, .loop x40_17, .blk 0, .seq x40_36], (E4 pt s r z pw d9 d10 pb i d21 d22 d23 d24 d25 d26 d27 d28 d29 d30 d31 d32 d33 d34 d35 d36 d37 d38 d39 d40 d41 d42), [], h, none⟩ (by kernel_rfl) ?_
      refine WpM.cond (t := (decide (i < ((s.length : Int))))) (by kernel_rfl) (fun c102 => ?_) (fun c102 => ?_)
      · have c102p := dec_t c102
        refine WpM.run tab_ok 7 ⟨.ops (p40_24_1 :: o40_24.drop 2), [.seq x40_25, .blk 1, .seq x40_35, .loop x40_17, .blk 0, .seq x40_36], ((E4 pt s r z pw d9 d10 pb i d21 d22 d23 d24 d25 d26 d27 d28 d29 d30 d31 d32 d33 d34 d35 d36 d37 d38 d39 d40 d41 d42).set 21 (.int .i64 i)), [], h, none⟩ (by kernel_rfl) ?_
        refine WpM.op (.ptr (some (.new pb (0 + i.toNat * 1)))) _ (by kernel_rfl) (indexAddr_sl (e := 5) (a := (.new pb 0)) (len := s.length) (lb := s.length) (ex := false) (z := 1) (k := .i64) (n := i) (by kernel_rfl) (by kernel_rfl) (by kernel_rfl) (by kernel_rfl) (by omega)) ?_
        refine WpM.run tab_ok 0 ⟨.ops (p40_24_2 :: o40_24.drop 3), [.seq x40_25, .blk 1, .seq x40_35, .loop x40_17, .blk 0, .seq x40_36], (((E4 pt s r z pw d9 d10 pb i d21 d22 d23 d24 d25 d26 d27 d28 d29 d30 d31 d32 d33 d34 d35 d36 d37 d38 d39 d40 d41 d42).set 21 (.int .i64 i)).set 22 (.ptr (some (.new pb (0 + i.toNat * 1))))), [], h, none⟩ (by kernel_rfl) ?_
        refine WpM.op (.int .u8 (bt s i)) _ (by kernel_rfl) (load_new (o := (0 + i.toNat * 1)) (by kernel_rfl) gb (bv_ld (i := i) (by kernel_rfl) (by omega) (by omega))) ?_
        refine WpM.run tab_ok 10 ⟨.ops (p40_27_3 :: o40_27.drop 4), [.seq x40_28, .seq x40_31, .blk 1, .seq x40_35, .loop x40_17, .blk 0, .seq x40_36], (((((((((E4 pt s r z pw d9 d10 pb i d21 d22 d23 d24 d25 d26 d27 d28 d29 d30 d31 d32 d33 d34 d35 d36 d37 d38 d39 d40 d41 d42).set 9 (.int .i64 i)).set 10 (.int .u8 (bt s i))).set 21 (.int .i64 i)).set 22 (.ptr (some (.new pb (0 + i.toNat * 1))))).set 23 (.int .u8 (bt s i))).set 24 (.ptr (some (.new pw 0)))).set 25 (.ptr (some (.new pw 0)))).set 26 (.ptr (some (.new pw 0)))), [], h, none⟩ (by kernel_rfl) ?_
        refine WpM.op (.map (some mi)) _ (by kernel_rfl) (load_new (o := 0) (by kernel_rfl) gpw (by kernel_rfl)) ?_
        refine WpM.run tab_ok 1 ⟨.ops (p40_27_5 :: o40_27.drop 6), [.seq x40_28, .seq x40_31, .blk 1, .seq x40_35, .loop x40_17, .blk 0, .seq x40_36], (.ptr (some (.new pt 0)) :: .str s :: U :: U :: .int .i64 0 :: .int .i64 0 :: .int .i64 r :: .int .i64 z :: .ptr (some (.new pw 0)) :: .int .i64 i :: .int .u8 (bt s i) :: .ptr (some (.new pt 0)) :: .bool false :: .ptr (some (.new pt 0)) :: .ptr (some (.new pt 0)) :: .ptr (some (.new pt 0)) :: .str s :: .slice (some (.new pb 0)) s.length s.length false :: .int .i64 ((s.length : Int)) :: .int .i64 i :: .bool (decide (i < ((s.length : Int)))) :: .int .i64 i :: .ptr (some (.new pb (0 + i.toNat * 1))) :: .int .u8 (bt s i) :: .ptr (some (.new pw 0)) :: .ptr (some (.new pw 0)) :: .ptr (some (.new pw 0)) :: .map (some mi) :: .int .u8 (bt s i) :: d29 :: d30 :: d31 :: d32 :: d33 :: d34 :: d35 :: d36 :: d37 :: d38 :: d39 :: d40 :: d41 :: d42 :: U :: U :: []), [], h, none⟩ (by kernel_rfl) ?_
        refine WpM.op (.ptr (some (.new pk 0))) _ (by kernel_rfl) (lookup_at (kt := 5) (et := 75) (i := mi) (es := es) (kv := .int .u8 (bt s i)) (z := .ptr none) (r := (some (.ptr (some (.new pk 0))))) (by kernel_rfl) (by kernel_rfl) (by kernel_rfl) (by kernel_rfl) (by kernel_rfl) gmi fk rfl) ?_
        refine WpM.run tab_ok 17 ⟨.ops (p40_32_3 :: o40_32.drop 4), [.seq x40_33, .blk 1, .seq x40_35, .loop x40_17, .blk 0, .seq x40_36], (.ptr (some (.new pt 0)) :: .str s :: U :: U :: .int .i64 0 :: .int .i64 0 :: .int .i64 r :: .int .i64 z :: .ptr (some (.new pk 0)) :: .int .i64 i :: .int .u8 (bt s i) :: .ptr (some (.new pt 0)) :: .bool false :: .ptr (some (.new pt 0)) :: .ptr (some (.new pt 0)) :: .ptr (some (.new pt 0)) :: .str s :: .slice (some (.new pb 0)) s.length s.length false :: .int .i64 ((s.length : Int)) :: .int .i64 i :: .bool (decide (i < ((s.length : Int)))) :: .int .i64 i :: .ptr (some (.new pb (0 + i.toNat * 1))) :: .int .u8 (bt s i) :: .ptr (some (.new pw 0)) :: .ptr (some (.new pw 0)) :: .ptr (some (.new pw 0)) :: .map (some mi) :: .int .u8 (bt s i) :: .ptr (some (.new pk 0)) :: .ptr (some (.new pk 0)) :: .bool false :: .ptr (some (.new pk 0)) :: .ptr (some (.new pk 0)) :: .ptr (some (.new pk 1)) :: d35 :: d36 :: d37 :: d38 :: d39 :: d40 :: d41 :: d42 :: U :: U :: []), [], h, none⟩ (by kernel_rfl) ?_
        refine WpM.op (.bool (B (wd ++ [b]))) _ (by kernel_rfl) (load_new (o := 1) (by kernel_rfl) hk2.2.2 (by kernel_rfl)) ?_
        refine WpM.run tab_ok 2 ⟨.code x40_33, [.blk 1, .seq x40_35, .loop x40_17, .blk 0, .seq x40_36], (.ptr (some (.new pt 0)) :: .str s :: U :: U :: .int .i64 0 :: .int .i64 0 :: .int .i64 r :: .int .i64 z :: .ptr (some (.new pk 0)) :: .int .i64 i :: .int .u8 (bt s i) :: .ptr (some (.new pt 0)) :: .bool false :: .ptr (some (.new pt 0)) :: .ptr (some (.new pt 0)) :: .ptr (some (.new pt 0)) :: .str s :: .slice (some (.new pb 0)) s.length s.length false :: .int .i64 ((s.length : Int)) :: .int .i64 i :: .bool (decide (i < ((s.length : Int)))) :: .int .i64 i :: .ptr (some (.new pb (0 + i.toNat * 1))) :: .int .u8 (bt s i) :: .ptr (some (.new pw 0)) :: .ptr (some (.new pw 0)) :: .ptr (some (.new pw 0)) :: .map (some mi) :: .int .u8 (bt s i) :: .ptr (some (.new pk 0)) :: .ptr (some (.new pk 0)) :: .bool false :: .ptr (some (.new pk 0)) :: .ptr (some (.new pk 0)) :: .ptr (some (.new pk 1)) :: .bool (B (wd ++ [b])) :: d36 :: d37 :: d38 :: d39 :: d40 :: d41 :: d42 :: U :: U :: []), [], h, none⟩ (by kernel_rfl) ?_
        refine WpM.cond (t := (B (wd ++ [b]))) (by kernel_rfl) (fun c103 => ?_) (fun c103 => ?_)
        · skip
          refine WpM.run tab_ok 4 ⟨.ops (p40_34_3 :: o40_34.drop 4), [.blk 1, .seq x40_35, .loop x40_17, .blk 0, .seq x40_36], (.ptr (some (.new pt 0)) :: .str s :: U :: U :: .int .i64 0 :: .int .i64 0 :: .int .i64 r :: .int .i64 z :: .ptr (some (.new pk 0)) :: .int .i64 i :: .int .u8 (bt s i) :: .ptr (some (.new pt 0)) :: .bool false :: .ptr (some (.new pt 0)) :: .ptr (some (.new pt 0)) :: .ptr (some (.new pt 0)) :: .str s :: .slice (some (.new pb 0)) s.length s.length false :: .int .i64 ((s.length : Int)) :: .int .i64 i :: .bool (decide (i < ((s.length : Int)))) :: .int .i64 i :: .ptr (some (.new pb (0 + i.toNat * 1))) :: .int .u8 (bt s i) :: .ptr (some (.new pw 0)) :: .ptr (some (.new pw 0)) :: .ptr (some (.new pw 0)) :: .map (some mi) :: .int .u8 (bt s i) :: .ptr (some (.new pk 0)) :: .ptr (some (.new pk 0)) :: .bool false :: .ptr (some (.new pk 0)) :: .ptr (some (.new pk 0)) :: .ptr (some (.new pk 1)) :: .bool (B (wd ++ [b])) :: .ptr (some (.new pk 0)) :: .ptr (some (.new pk 0)) :: .ptr (some (.new pk 2)) :: d39 :: d40 :: d41 :: d42 :: U :: U :: []), [], h, none⟩ (by kernel_rfl) ?_
          refine WpM.op (.int .i64 (R (wd ++ [b]))) _ (by kernel_rfl) (load_new (o := 2) (by kernel_rfl) hk2.2.2 (by kernel_rfl)) ?_
          refine WpM.run tab_ok 1 ⟨.ops (p40_34_5 :: o40_34.drop 6), [.blk 1, .seq x40_35, .loop x40_17, .blk 0, .seq x40_36], (.ptr (some (.new pt 0)) :: .str s :: U :: U :: .int .i64 0 :: .int .i64 0 :: .int .i64 r :: .int .i64 z :: .ptr (some (.new pk 0)) :: .int .i64 i :: .int .u8 (bt s i) :: .ptr (some (.new pt 0)) :: .bool false :: .ptr (some (.new pt 0)) :: .ptr (some (.new pt 0)) :: .ptr (some (.new pt 0)) :: .str s :: .slice (some (.new pb 0)) s.length s.length false :: .int .i64 ((s.length : Int)) :: .int .i64 i :: .bool (decide (i < ((s.length : Int)))) :: .int .i64 i :: .ptr (some (.new pb (0 + i.toNat * 1))) :: .int .u8 (bt s i) :: .ptr (some (.new pw 0)) :: .ptr (some (.new pw 0)) :: .ptr (some (.new pw 0)) :: .map (some mi) :: .int .u8 (bt s i) :: .ptr (some (.new pk 0)) :: .ptr (some (.new pk 0)) :: .bool false :: .ptr (some (.new pk 0)) :: .ptr (some (.new pk 0)) :: .ptr (some (.new pk 1)) :: .bool (B (wd ++ [b])) :: .ptr (some (.new pk 0)) :: .ptr (some (.new pk 0)) :: .ptr (some (.new pk 2)) :: .int .i64 (R (wd ++ [b])) :: .int .i64 i :: d41 :: d42 :: U :: U :: []), [], h, none⟩ (by kernel_rfl) ?_
          refine WpM.op (.int .i64 (i + 1)) _ (by kernel_rfl) (arith_add (by kernel_rfl) (by kernel_rfl) (by omega)) ?_
          refine WpM.run tab_ok 6 ⟨.ops (p40_35_0 :: o40_35.drop 1), [.loop x40_17, .blk 0, .seq x40_36], (.ptr (some (.new pt 0)) :: .str s :: U :: U :: .int .i64 0 :: .int .i64 0 :: .int .i64 (R (wd ++ [b])) :: .int .i64 (i + 1) :: .ptr (some (.new pk 0)) :: .int .i64 i :: .int .u8 (bt s i) :: .ptr (some (.new pt 0)) :: .bool false :: .ptr (some (.new pt 0)) :: .ptr (some (.new pt 0)) :: .ptr (some (.new pt 0)) :: .str s :: .slice (some (.new pb 0)) s.length s.length false :: .int .i64 ((s.length : Int)) :: .int .i64 i :: .bool (decide (i < ((s.length : Int)))) :: .int .i64 i :: .ptr (some (.new pb (0 + i.toNat * 1))) :: .int .u8 (bt s i) :: .ptr (some (.new pw 0)) :: .ptr (some (.new pw 0)) :: .ptr (some (.new pw 0)) :: .map (some mi) :: .int .u8 (bt s i) :: .ptr (some (.new pk 0)) :: .ptr (some (.new pk 0)) :: .bool false :: .ptr (some (.new pk 0)) :: .ptr (some (.new pk 0)) :: .ptr (some (.new pk 1)) :: .bool (B (wd ++ [b])) :: .ptr (some (.new pk 0)) :: .ptr (some (.new pk 0)) :: .ptr (some (.new pk 2)) :: .int .i64 (R (wd ++ [b])) :: .int .i64 i :: .int .i64 (i + 1) :: d42 :: U :: U :: []), [], h, none⟩ (by kernel_rfl) ?_
          refine WpM.op (.int .i64 (i + 1)) _ (by kernel_rfl) (arith_add (by kernel_rfl) (by kernel_rfl) (by omega)) ?_
          refine WpM.run tab_ok 3 ⟨.code x40_17, [.loop x40_17, .blk 0, .seq x40_36], (.ptr (some (.new pt 0)) :: .str s :: U :: U :: .int .i64 0 :: .int .i64 0 :: .int .i64 (R (wd ++ [b])) :: .int .i64 (i + 1) :: .ptr (some (.new pk 0)) :: .int .i64 i :: .int .u8 (bt s i) :: .ptr (some (.new pt 0)) :: .bool false :: .ptr (some (.new pt 0)) :: .ptr (some (.new pt 0)) :: .ptr (some (.new pt 0)) :: .str s :: .slice (some (.new pb 0)) s.length s.length false :: .int .i64 ((s.length : Int)) :: .int .i64 (i + 1) :: .bool (decide (i < ((s.length : Int)))) :: .int .i64 i :: .ptr (some (.new pb (0 + i.toNat * 1))) :: .int .u8 (bt s i) :: .ptr (some (.new pw 0)) :: .ptr (some (.new pw 0)) :: .ptr (some (.new pw 0)) :: .map (some mi) :: .int .u8 (bt s i) :: .ptr (some (.new pk 0)) :: .ptr (some (.new pk 0)) :: .bool false :: .ptr (some (.new pk 0)) :: .ptr (some (.new pk 0)) :: .ptr (some (.new pk 1)) :: .bool (B (wd ++ [b])) :: .ptr (some (.new pk 0)) :: .ptr (some (.new pk 0)) :: .ptr (some (.new pk 2)) :: .int .i64 (R (wd ++ [b])) :: .int .i64 i :: .int .i64 (i + 1) :: .int .i64 (i + 1) :: U :: U :: []), [], h, none⟩ (by kernel_rfl) ?_
          refine ih _ ?_ _ h pk (R (wd ++ [b])) (i + 1) _ _ _ _ _ _ _ _ _ _ _ _ _ _ _ _ _ _ _ _ _ _ _ _ _ rfl ?_ ?_ ?_ ?_ ?_ ?_ ?_ ?_
          · omega
          · omega
          · omega
          · rw [hstep (by omega)]; exact hk
          · rw [hstep (by omega), epk]
          · rw [hdrop (by omega), lonG, if_pos hk, if_pos c103] at hA
            rw [hstep (by omega), ← hA]
            rw [hwl (by omega)]
          · exact hX
          · exact gb
          · exact lb
        · skip
          refine WpM.run tab_ok 4 ⟨.ops (p40_35_0 :: o40_35.drop 1), [.loop x40_17, .blk 0, .seq x40_36], (.ptr (some (.new pt 0)) :: .str s :: U :: U :: .int .i64 0 :: .int .i64 0 :: .int .i64 r :: .int .i64 z :: .ptr (some (.new pk 0)) :: .int .i64 i :: .int .u8 (bt s i) :: .ptr (some (.new pt 0)) :: .bool false :: .ptr (some (.new pt 0)) :: .ptr (some (.new pt 0)) :: .ptr (some (.new pt 0)) :: .str s :: .slice (some (.new pb 0)) s.length s.length false :: .int .i64 ((s.length : Int)) :: .int .i64 i :: .bool (decide (i < ((s.length : Int)))) :: .int .i64 i :: .ptr (some (.new pb (0 + i.toNat * 1))) :: .int .u8 (bt s i) :: .ptr (some (.new pw 0)) :: .ptr (some (.new pw 0)) :: .ptr (some (.new pw 0)) :: .map (some mi) :: .int .u8 (bt s i) :: .ptr (some (.new pk 0)) :: .ptr (some (.new pk 0)) :: .bool false :: .ptr (some (.new pk 0)) :: .ptr (some (.new pk 0)) :: .ptr (some (.new pk 1)) :: .bool (B (wd ++ [b])) :: d36 :: d37 :: d38 :: d39 :: d40 :: d41 :: d42 :: U :: U :: []), [], h, none⟩ (by kernel_rfl) ?_
          refine WpM.op (.int .i64 (i + 1)) _ (by kernel_rfl) (arith_add (by kernel_rfl) (by kernel_rfl) (by omega)) ?_
          refine WpM.run tab_ok 3 ⟨.code x40_17, [.loop x40_17, .blk 0, .seq x40_36], (.ptr (some (.new pt 0)) :: .str s :: U :: U :: .int .i64 0 :: .int .i64 0 :: .int .i64 r :: .int .i64 z :: .ptr (some (.new pk 0)) :: .int .i64 i :: .int .u8 (bt s i) :: .ptr (some (.new pt 0)) :: .bool false :: .ptr (some (.new pt 0)) :: .ptr (some (.new pt 0)) :: .ptr (some (.new pt 0)) :: .str s :: .slice (some (.new pb 0)) s.length s.length false :: .int .i64 ((s.length : Int)) :: .int .i64 (i + 1) :: .bool (decide (i < ((s.length : Int)))) :: .int .i64 i :: .ptr (some (.new pb (0 + i.toNat * 1))) :: .int .u8 (bt s i) :: .ptr (some (.new pw 0)) :: .ptr (some (.new pw 0)) :: .ptr (some (.new pw 0)) :: .map (some mi) :: .int .u8 (bt s i) :: .ptr (some (.new pk 0)) :: .ptr (some (.new pk 0)) :: .bool false :: .ptr (some (.new pk 0)) :: .ptr (some (.new pk 0)) :: .ptr (some (.new pk 1)) :: .bool (B (wd ++ [b])) :: d36 :: d37 :: d38 :: d39 :: d40 :: d41 :: .int .i64 (i + 1) :: U :: U :: []), [], h, none⟩ (by kernel_rfl) ?_
          refine ih _ ?_ _ h pk r z _ _ _ _ _ _ _ _ _ _ _ _ _ _ _ _ _ _ _ _ _ _ _ _ _ rfl ?_ ?_ ?_ ?_ ?_ ?_ ?_ ?_
          · omega
          · omega
          · omega
          · rw [hstep (by omega)]; exact hk
          · rw [hstep (by omega), epk]
          · rw [hdrop (by omega), lonG, if_pos hk, if_neg (by rw [c103]; decide)] at hA
            rw [hstep (by omega), ← hA]
          · exact hX
          · exact gb
          · exact lb
      · have c102p := dec_f c102
        refine WpM.run tab_ok 14 ⟨.done .ret, [], (((((E4 pt s r z pw d9 d10 pb i d21 d22 d23 d24 d25 d26 d27 d28 d29 d30 d31 d32 d33 d34 d35 d36 d37 d38 d39 d40 d41 d42).set 4 (.int .i64 r)).set 5 (.int .i64 z)).set 43 (.int .i64 r)).set 44 (.int .i64 z)), [], h, none⟩ (by kernel_rfl) ?_
        refine WpM.ret (.tup [.int .i64 r, .int .i64 z]) h (by kernel_rfl) (by kernel_rfl) ?_
        first
          | (rw [hend (by omega), lonG] at hA; exact ⟨hX, by rw [← hA]⟩)
          | (rw [hdrop (by omega), lonG, if_neg (by rw [hk]; decide)] at hA; exact ⟨hX, by rw [← hA]⟩)
    · skip
      have gpw : h.get pw = some (.cells (.map none :: .bool (B wd) :: .int .i64 (R wd) :: tlW c wd) (tyW 72 70 wd)) := by rw [← hm]; exact hn.2.2
      have hk := hT1.leaf _ hw hm b
      refine WpM.run tab_ok 6 ⟨.code x40_20, [.seq x40_21, .loop x40_17, .blk 0, .seq x40_36], (E4 pt s r z pw d9 d10 pb i d21 d22 d23 d24 d25 d26 d27 d28 d29 d30 d31 d32 d33 d34 d35 d36 d37 d38 d39 d40 d41 d42), [], h, none⟩ (by kernel_rfl) ?_
      refine WpM.cond (t := (decide (i < ((s.length : Int))))) (by kernel_rfl) (fun c104 => ?_) (fun c104 => ?_)
      · have c104p := dec_t c104
        refine WpM.run tab_ok 7 ⟨.ops (p40_24_1 :: o40_24.drop 2), [.seq x40_25, .blk 1, .seq x40_35, .loop x40_17, .blk 0, .seq x40_36], ((E4 pt s r z pw d9 d10 pb i d21 d22 d23 d24 d25 d26 d27 d28 d29 d30 d31 d32 d33 d34 d35 d36 d37 d38 d39 d40 d41 d42).set 21 (.int .i64 i)), [], h, none⟩ (by kernel_rfl) ?_
        refine WpM.op (.ptr (some (.new pb (0 + i.toNat * 1)))) _ (by kernel_rfl) (indexAddr_sl (e := 5) (a := (.new pb 0)) (len := s.length) (lb := s.length) (ex := false) (z := 1) (k := .i64) (n := i) (by kernel_rfl) (by kernel_rfl) (by kernel_rfl) (by kernel_rfl) (by omega)) ?_
        refine WpM.run tab_ok 0 ⟨.ops (p40_24_2 :: o40_24.drop 3), [.seq x40_25, .blk 1, .seq x40_35, .loop x40_17, .blk 0, .seq x40_36], (((E4 pt s r z pw d9 d10 pb i d21 d22 d23 d24 d25 d26 d27 d28 d29 d30 d31 d32 d33 d34 d35 d36 d37 d38 d39 d40 d41 d42).set 21 (.int .i64 i)).set 22 (.ptr (some (.new pb (0 + i.toNat * 1))))), [], h, none⟩ (by kernel_rfl) ?_
        refine WpM.op (.int .u8 (bt s i)) _ (by kernel_rfl) (load_new (o := (0 + i.toNat * 1)) (by kernel_rfl) gb (bv_ld (i := i) (by kernel_rfl) (by omega) (by omega))) ?_
        refine WpM.run tab_ok 10 ⟨.ops (p40_27_3 :: o40_27.drop 4), [.seq x40_28, .seq x40_31, .blk 1, .seq x40_35, .loop x40_17, .blk 0, .seq x40_36], (((((((((E4 pt s r z pw d9 d10 pb i d21 d22 d23 d24 d25 d26 d27 d28 d29 d30 d31 d32 d33 d34 d35 d36 d37 d38 d39 d40 d41 d42).set 9 (.int .i64 i)).set 10 (.int .u8 (bt s i))).set 21 (.int .i64 i)).set 22 (.ptr (some (.new pb (0 + i.toNat * 1))))).set 23 (.int .u8 (bt s i))).set 24 (.ptr (some (.new pw 0)))).set 25 (.ptr (some (.new pw 0)))).set 26 (.ptr (some (.new pw 0)))), [], h, none⟩ (by kernel_rfl) ?_
        refine WpM.op (.map none) _ (by kernel_rfl) (load_new (o := 0) (by kernel_rfl) gpw (by kernel_rfl)) ?_
        refine WpM.run tab_ok 28 ⟨.done .ret, [], (E5 pt s r z i pb pw d32 d33 d34 d35 d36 d37 d38 d39 d40 d41 d42), [], h, none⟩ (by kernel_rfl) ?_
        refine WpM.ret (.tup [.int .i64 r, .int .i64 z]) h (by kernel_rfl) (by kernel_rfl) ?_
        first
          | (rw [hend (by omega), lonG] at hA; exact ⟨hX, by rw [← hA]⟩)
          | (rw [hdrop (by omega), lonG, if_neg (by rw [hk]; decide)] at hA; exact ⟨hX, by rw [← hA]⟩)
      · have c104p := dec_f c104
        refine WpM.run tab_ok 14 ⟨.done .ret, [], (((((E4 pt s r z pw d9 d10 pb i d21 d22 d23 d24 d25 d26 d27 d28 d29 d30 d31 d32 d33 d34 d35 d36 d37 d38 d39 d40 d41 d42).set 4 (.int .i64 r)).set 5 (.int .i64 z)).set 43 (.int .i64 r)).set 44 (.int .i64 z)), [], h, none⟩ (by kernel_rfl) ?_
        refine WpM.ret (.tup [.int .i64 r, .int .i64 z]) h (by kernel_rfl) (by kernel_rfl) ?_
        first
          | (rw [hend (by omega), lonG] at hA; exact ⟨hX, by rw [← hA]⟩)
          | (rw [hdrop (by omega), lonG, if_neg (by rw [hk]; decide)] at hA; exact ⟨hX, by rw [← hA]⟩)
def E6 (pt : Nat) (s : List UInt8) : List V := (.ptr (some (.new pt 0)) :: .str s :: U :: U :: .int .i64 0 :: .int .i64 0 :: .int .i64 0 :: .int .i64 0 :: .ptr (some (.new pt 0)) :: U :: U :: .ptr (some (.new pt 0)) :: .bool false :: .ptr (some (.new pt 0)) :: .ptr (some (.new pt 0)) :: .ptr (some (.new pt 0)) :: .str s :: us 28)
theorem lon_ok {W : World} {pt : Nat} {s : List UInt8} {n0 : Nat} {h0 : H} {D B : Wrd → Bool} {R : Wrd → Int} {p : Wrd → Nat} {m : Wrd → Option Nat} {c : Int} (hT : Tri 72 70 n0 h0 D B R p m c) (hs : s.length ≤ 140737488351232) (ept : p [] = pt) : WpF Tryd.prog W prim2 40 [.ptr (some (.new pt 0)), .str s] h0 (fun v h' => HX h0 h' ∧ v = .tup [.int .i64 (lonG D B R [] s (0, 0)).1, .int .i64 (lonG D B R [] s (0, 0)).2]) := by
  have ht := hT.node _ hT.root
  rw [ept] at ht
  refine WpF.m tab_ok (by kernel_rfl) rfl ?_
  refine WpM.cfg (c' := ⟨.code x40_0, [], (.ptr (some (.new pt 0)) :: .str s :: us 43), [], h0, none⟩) (by kernel_rfl) ?_
  refine WpM.run tab_ok 34 ⟨.ops (p40_14_1 :: o40_14.drop 2), [.seq x40_15, .seq x40_36], (E6 pt s), [], h0, none⟩ (by kernel_rfl) ?_
  refine WpM.opA (fun p => .slice (some (.new p 0)) s.length s.length false) (.cells (bv s) 5) (by kernel_rfl) (by kernel_rfl) (fun p1 h2 a3 => ?_)
  refine WpM.run tab_ok 6 ⟨.code x40_17, [.loop x40_17, .blk 0, .seq x40_36], (.ptr (some (.new pt 0)) :: .str s :: U :: U :: .int .i64 0 :: .int .i64 0 :: .int .i64 0 :: .int .i64 0 :: .ptr (some (.new pt 0)) :: U :: U :: .ptr (some (.new pt 0)) :: .bool false :: .ptr (some (.new pt 0)) :: .ptr (some (.new pt 0)) :: .ptr (some (.new pt 0)) :: .str s :: .slice (some (.new p1 0)) s.length s.length false :: .int .i64 ((s.length : Int)) :: .int .i64 0 :: us 25), [], h2, none⟩ (by kernel_rfl) ?_
  exact lon_loop hT hs _ 0 _ pt 0 0 _ _ _ _ _ _ _ _ _ _ _ _ _ _ _ _ _ _ _ _ _ _ _ _ _ rfl (by omega) (by omega) (by simpa using hT.root) (by simpa using ept) (by simp) ((HX.refl h0).alloc a3) a3.get a3.lt
def E7 (pt : Nat) (s : List UInt8) (d4 : V) (pw : Nat) (d7 : V) (c : Int) (pb : Nat) (i : Int) (d25 : V) (d26 : V) (d27 : V) (d28 : V) (d29 : V) (d30 : V) (d31 : V) (d32 : V) (d33 : V) (d34 : V) (d35 : V) : List V := (.ptr (some (.new pt 0)) :: .str s :: U :: U :: d4 :: .ptr (some (.new pw 0)) :: U :: d7 :: .ptr (some (.new pt 0)) :: .bool false :: .bool false :: .ptr (some (.new pt 0)) :: .ptr (some (.new pt 0)) :: .ptr (some (.new pt 3)) :: .int .i64 c :: .bool (c == 0) :: .bool (c == 0) :: .ptr (some (.new pt 0)) :: .ptr (some (.new pt 0)) :: .ptr (some (.new pt 0)) :: .str s :: .slice (some (.new pb 0)) s.length s.length false :: .int .i64 ((s.length : Int)) :: .int .i64 i :: .bool (decide (i < ((s.length : Int)))) :: d25 :: d26 :: d27 :: d28 :: d29 :: d30 :: d31 :: d32 :: d33 :: d34 :: d35 :: [])
theorem goe_loop {W : World} {pb pt : Nat} {s : List UInt8} {n0 : Nat} {h0 : H} {D B : Wrd → Bool} {R : Wrd → Int} {p : Wrd → Nat} {m : Wrd → Option Nat} {c : Int} (hT : Tri 72 70 n0 h0 D B R p m c) (hs : s.length ≤ 140737488351232) (hc : 0 < c) (nn : Nat) : ∀ (i : Int) (h : H) (pw : Nat) (d4 d7 d24 d25 d26 d27 d28 d29 d30 d31 d32 d33 d34 d35 : V), nn = ((s.length : Int) - i).toNat → (0 ≤ i) → (i ≤ (s.length : Int)) → (D (s.take i.toNat) = true) → (p (s.take i.toNat) = pw) → (goeG D (s.take i.toNat) (s.drop i.toNat) = goeG D [] s) → (HX h0 h) → (h.get pb = some (.cells (bv s) 5)) → (pb < h.nx) → WpM Tryd.prog W prim2 ⟨.code x42_15, [.loop x42_15, .blk 0, .seq x42_31], (.ptr (some (.new pt 0)) :: .str s :: U :: U :: d4 :: .ptr (some (.new pw 0)) :: U :: d7 :: .ptr (some (.new pt 0)) :: .bool false :: .bool false :: .ptr (some (.new pt 0)) :: .ptr (some (.new pt 0)) :: .ptr (some (.new pt 3)) :: .int .i64 c :: .bool (c == 0) :: .bool (c == 0) :: .ptr (some (.new pt 0)) :: .ptr (some (.new pt 0)) :: .ptr (some (.new pt 0)) :: .str s :: .slice (some (.new pb 0)) s.length s.length false :: .int .i64 ((s.length : Int)) :: .int .i64 i :: d24 :: d25 :: d26 :: d27 :: d28 :: d29 :: d30 :: d31 :: d32 :: d33 :: d34 :: d35 :: []), [], h, none⟩ (retQ Tryd.prog W [.tmp 4] (fun v h' => HX h0 h' ∧ v = .bool (goeG D [] s))) := by
  induction nn using Nat.strongRecOn with
  | _ nn ih =>
    intro i h pw d4 d7 d24 d25 d26 d27 d28 d29 d30 d31 d32 d33 d34 d35 hn9 h0i h1i hw hpw hA hX gb lb
    obtain ⟨wd, ewd⟩ : ∃ v, v = s.take i.toNat := ⟨_, rfl⟩
    rw [← ewd] at hw hpw hA
    have hT1 := hT.hx hX
    have hn := hT1.node _ hw
    rw [hpw] at hn
    have hbl := bv_length s
    have hbr := bt_range s i
    have lpw := hn.2.1
    have hXn := hX.nx
    obtain ⟨b, eb⟩ : ∃ b, b = s.getD i.toNat 0 := ⟨_, rfl⟩
    have ekb : V.int .u8 (bt s i) = .int .u8 (b.toNat : Int) := by rw [eb]; rfl
    have hwl : i < (s.length : Int) → (wd.length : Int) = i := fun hi => by rw [ewd, List.length_take]; omega
    have hstep : i < (s.length : Int) → s.take (i + 1).toNat = wd ++ [b] := fun hi => by rw [take_bt h0i hi, ewd, eb]
    have hdrop : i < (s.length : Int) → s.drop i.toNat = b :: s.drop (i + 1).toNat := fun hi => by rw [drop_bt h0i hi, eb]
    have hend : ¬ i < (s.length : Int) → s.drop i.toNat = [] := fun hi => List.drop_eq_nil_of_le (by omega)
    rcases hm : m wd with _ | mi
    rotate_left
    cases hk : D (wd ++ [b])
    · skip
      have gpw : h.get pw = some (.cells (.map (some mi) :: .bool (B wd) :: .int .i64 (R wd) :: tlW c wd) (tyW 72 70 wd)) := by rw [← hm]; exact hn.2.2
      obtain ⟨nmi, lmi, es, gmi, kmi, fmi⟩ := hT1.maps wd mi hw hm
      obtain ⟨pk, epk⟩ : ∃ v, v = p (wd ++ [b]) := ⟨_, rfl⟩
      have fk : findKey (.int .u8 (bt s i)) es = some none := by rw [ekb]; exact (fmi b).trans (congrArg some (if_neg (by rw [hk]; decide)))
      refine WpM.run tab_ok 6 ⟨.code x42_18, [.seq x42_19, .loop x42_15, .blk 0, .seq x42_31], (E7 pt s d4 pw d7 c pb i d25 d26 d27 d28 d29 d30 d31 d32 d33 d34 d35), [], h, none⟩ (by kernel_rfl) ?_
      refine WpM.cond (t := (decide (i < ((s.length : Int))))) (by kernel_rfl) (fun c101 => ?_) (fun c101 => ?_)
      · have c101p := dec_t c101
        refine WpM.run tab_ok 6 ⟨.ops (p42_22_0 :: o42_22.drop 1), [.seq x42_23, .blk 1, .seq x42_30, .loop x42_15, .blk 0, .seq x42_31], (E7 pt s d4 pw d7 c pb i d25 d26 d27 d28 d29 d30 d31 d32 d33 d34 d35), [], h, none⟩ (by kernel_rfl) ?_
        refine WpM.op (.ptr (some (.new pb (0 + i.toNat * 1)))) _ (by kernel_rfl) (indexAddr_sl (e := 5) (a := (.new pb 0)) (len := s.length) (lb := s.length) (ex := false) (z := 1) (k := .i64) (n := i) (by kernel_rfl) (by kernel_rfl) (by kernel_rfl) (by kernel_rfl) (by omega)) ?_
        refine WpM.run tab_ok 0 ⟨.ops (p42_22_1 :: o42_22.drop 2), [.seq x42_23, .blk 1, .seq x42_30, .loop x42_15, .blk 0, .seq x42_31], ((E7 pt s d4 pw d7 c pb i d25 d26 d27 d28 d29 d30 d31 d32 d33 d34 d35).set 25 (.ptr (some (.new pb (0 + i.toNat * 1))))), [], h, none⟩ (by kernel_rfl) ?_
        refine WpM.op (.int .u8 (bt s i)) _ (by kernel_rfl) (load_new (o := (0 + i.toNat * 1)) (by kernel_rfl) gb (bv_ld (i := i) (by kernel_rfl) (by omega) (by omega))) ?_
        refine WpM.run tab_ok 8 ⟨.ops (p42_24_3 :: o42_24.drop 4), [.seq x42_25, .blk 1, .seq x42_30, .loop x42_15, .blk 0, .seq x42_31], (((((((E7 pt s d4 pw d7 c pb i d25 d26 d27 d28 d29 d30 d31 d32 d33 d34 d35).set 7 (.int .u8 (bt s i))).set 25 (.ptr (some (.new pb (0 + i.toNat * 1))))).set 26 (.int .u8 (bt s i))).set 27 (.ptr (some (.new pw 0)))).set 28 (.ptr (some (.new pw 0)))).set 29 (.ptr (some (.new pw 0)))), [], h, none⟩ (by kernel_rfl) ?_
        refine WpM.op (.map (some mi)) _ (by kernel_rfl) (load_new (o := 0) (by kernel_rfl) gpw (by kernel_rfl)) ?_
        refine WpM.run tab_ok 1 ⟨.ops (p42_24_5 :: o42_24.drop 6), [.seq x42_25, .blk 1, .seq x42_30, .loop x42_15, .blk 0, .seq x42_31], (.ptr (some (.new pt 0)) :: .str s :: U :: U :: d4 :: .ptr (some (.new pw 0)) :: U :: .int .u8 (bt s i) :: .ptr (some (.new pt 0)) :: .bool false :: .bool false :: .ptr (some (.new pt 0)) :: .ptr (some (.new pt 0)) :: .ptr (some (.new pt 3)) :: .int .i64 c :: .bool (c == 0) :: .bool (c == 0) :: .ptr (some (.new pt 0)) :: .ptr (some (.new pt 0)) :: .ptr (some (.new pt 0)) :: .str s :: .slice (some (.new pb 0)) s.length s.length false :: .int .i64 ((s.length : Int)) :: .int .i64 i :: .bool (decide (i < ((s.length : Int)))) :: .ptr (some (.new pb (0 + i.toNat * 1))) :: .int .u8 (bt s i) :: .ptr (some (.new pw 0)) :: .ptr (some (.new pw 0)) :: .ptr (some (.new pw 0)) :: .map (some mi) :: .int .u8 (bt s i) :: d32 :: d33 :: d34 :: d35 :: []), [], h, none⟩ (by kernel_rfl) ?_
        refine WpM.op (.ptr none) _ (by kernel_rfl) (lookup_at (kt := 5) (et := 75) (i := mi) (es := es) (kv := .int .u8 (bt s i)) (z := .ptr none) (r := none) (by kernel_rfl) (by kernel_rfl) (by kernel_rfl) (by kernel_rfl) (by kernel_rfl) gmi fk rfl) ?_
        refine WpM.run tab_ok 21 ⟨.done .ret, [], (.ptr (some (.new pt 0)) :: .str s :: U :: U :: .bool false :: .ptr none :: U :: .int .u8 (bt s i) :: .ptr (some (.new pt 0)) :: .bool false :: .bool false :: .ptr (some (.new pt 0)) :: .ptr (some (.new pt 0)) :: .ptr (some (.new pt 3)) :: .int .i64 c :: .bool (c == 0) :: .bool (c == 0) :: .ptr (some (.new pt 0)) :: .ptr (some (.new pt 0)) :: .ptr (some (.new pt 0)) :: .str s :: .slice (some (.new pb 0)) s.length s.length false :: .int .i64 ((s.length : Int)) :: .int .i64 i :: .bool (decide (i < ((s.length : Int)))) :: .ptr (some (.new pb (0 + i.toNat * 1))) :: .int .u8 (bt s i) :: .ptr (some (.new pw 0)) :: .ptr (some (.new pw 0)) :: .ptr (some (.new pw 0)) :: .map (some mi) :: .int .u8 (bt s i) :: .ptr none :: .ptr none :: .bool true :: d35 :: []), [], h, none⟩ (by kernel_rfl) ?_
        refine WpM.ret (.bool false) h (by kernel_rfl) (by kernel_rfl) ?_
        first
          | (rw [hend (by omega), goeG] at hA; exact ⟨hX, by rw [← hA]⟩)
          | (rw [hdrop (by omega), goeG, hk, Bool.false_and] at hA; exact ⟨hX, by rw [← hA]⟩)
      · have c101p := dec_f c101
        refine WpM.run tab_ok 11 ⟨.done .ret, [], ((E7 pt s d4 pw d7 c pb i d25 d26 d27 d28 d29 d30 d31 d32 d33 d34 d35).set 4 (.bool true)), [], h, none⟩ (by kernel_rfl) ?_
        refine WpM.ret (.bool true) h (by kernel_rfl) (by kernel_rfl) ?_
        first
          | (rw [hend (by omega), goeG] at hA; exact ⟨hX, by rw [← hA]⟩)
          | (rw [hdrop (by omega), goeG, hk, Bool.false_and] at hA; exact ⟨hX, by rw [← hA]⟩)
    · skip
      have gpw : h.get pw = some (.cells (.map (some mi) :: .bool (B wd) :: .int .i64 (R wd) :: tlW c wd) (tyW 72 70 wd)) := by rw [← hm]; exact hn.2.2
      obtain ⟨nmi, lmi, es, gmi, kmi, fmi⟩ := hT1.maps wd mi hw hm
      obtain ⟨pk, epk⟩ : ∃ v, v = p (wd ++ [b]) := ⟨_, rfl⟩
      have fk : findKey (.int .u8 (bt s i)) es = some (some (.ptr (some (.new pk 0)))) := by rw [ekb, epk]; exact (fmi b).trans (congrArg some (if_pos hk))
      have hk2 := hT1.node _ hk
      rw [← epk] at hk2
      refine WpM.run tab_ok 6 ⟨.code x42_18, [.seq x42_19, .loop x42_15, .blk 0, .seq x42_31], (E7 pt s d4 pw d7 c pb i d25 d26 d27 d28 d29 d30 d31 d32 d33 d34 d35), [], h, none⟩ (by kernel_rfl) ?_
      refine WpM.cond (t := (decide (i < ((s.length : Int))))) (by kernel_rfl) (fun c102 => ?_) (fun c102 => ?_)
      · have c102p := dec_t c102
        refine WpM.run tab_ok 6 ⟨.ops (p42_22_0 :: o42_22.drop 1), [.seq x42_23, .blk 1, .seq x42_30, .loop x42_15, .blk 0, .seq x42_31], (E7 pt s d4 pw d7 c pb i d25 d26 d27 d28 d29 d30 d31 d32 d33 d34 d35), [], h, none⟩ (by kernel_rfl) ?_
        refine WpM.op (.ptr (some (.new pb (0 + i.toNat * 1)))) _ (by kernel_rfl) (indexAddr_sl (e := 5) (a := (.new pb 0)) (len := s.length) (lb := s.length) (ex := false) (z := 1) (k := .i64) (n := i) (by kernel_rfl) (by kernel_rfl) (by kernel_rfl) (by kernel_rfl) (by omega)) ?_
        refine WpM.run tab_ok 0 ⟨.ops (p42_22_1 :: o42_22.drop 2), [.seq x42_23, .blk 1, .seq x42_30, .loop x42_15, .blk 0, .seq x42_31], ((E7 pt s d4 pw d7 c pb i d25 d26 d27 d28 d29 d30 d31 d32 d33 d34 d35).set 25 (.ptr (some (.new pb (0 + i.toNat * 1))))), [], h, none⟩ (by kernel_rfl) ?_
        refine WpM.op (.int .u8 (bt s i)) _ (by kernel_rfl) (load_new (o := (0 + i.toNat * 1)) (by kernel_rfl) gb (bv_ld (i := i) (by kernel_rfl) (by omega) (by omega))) ?_
        refine WpM.run tab_ok 8 ⟨.ops (p42_24_3 :: o42_24.drop 4), [.seq x42_25, .blk 1, .seq x42_30, .loop x42_15, .blk 0, .seq x42_31], (((((((E7 pt s d4 pw d7 c pb i d25 d26 d27 d28 d29 d30 d31 d32 d33 d34 d35).set 7 (.int .u8 (bt s i))).set 25 (.ptr (some (.new pb (0 + i.toNat * 1))))).set 26 (.int .u8 (bt s i))).set 27 (.ptr (some (.new pw 0)))).set 28 (.ptr (some (.new pw 0)))).set 29 (.ptr (some (.new pw 0)))), [], h, none⟩ (by kernel_rfl) ?_
        refine WpM.op (.map (some mi)) _ (by kernel_rfl) (load_new (o := 0) (by kernel_rfl) gpw (by kernel_rfl)) ?_
        refine WpM.run tab_ok 1 ⟨.ops (p42_24_5 :: o42_24.drop 6), [.seq x42_25, .blk 1, .seq x42_30, .loop x42_15, .blk 0, .seq x42_31], (.ptr (some (.new pt 0)) :: .str s :: U :: U :: d4 :: .ptr (some (.new pw 0)) :: U :: .int .u8 (bt s i) :: .ptr (some (.new pt 0)) :: .bool false :: .bool false :: .ptr (some (.new pt 0)) :: .ptr (some (.new pt 0)) :: .ptr (some (.new pt 3)) :: .int .i64 c :: .bool (c == 0) :: .bool (c == 0) :: .ptr (some (.new pt 0)) :: .ptr (some (.new pt 0)) :: .ptr (some (.new pt 0)) :: .str s :: .slice (some (.new pb 0)) s.length s.length false :: .int .i64 ((s.length : Int)) :: .int .i64 i :: .bool (decide (i < ((s.length : Int)))) :: .ptr (some (.new pb (0 + i.toNat * 1))) :: .int .u8 (bt s i) :: .ptr (some (.new pw 0)) :: .ptr (some (.new pw 0)) :: .ptr (some (.new pw 0)) :: .map (some mi) :: .int .u8 (bt s i) :: d32 :: d33 :: d34 :: d35 :: []), [], h, none⟩ (by kernel_rfl) ?_
        refine WpM.op (.ptr (some (.new pk 0))) _ (by kernel_rfl) (lookup_at (kt := 5) (et := 75) (i := mi) (es := es) (kv := .int .u8 (bt s i)) (z := .ptr none) (r := (some (.ptr (some (.new pk 0))))) (by kernel_rfl) (by kernel_rfl) (by kernel_rfl) (by kernel_rfl) (by kernel_rfl) gmi fk rfl) ?_
        refine WpM.run tab_ok 14 ⟨.ops (p42_30_0 :: o42_30.drop 1), [.loop x42_15, .blk 0, .seq x42_31], (.ptr (some (.new pt 0)) :: .str s :: U :: U :: d4 :: .ptr (some (.new pk 0)) :: U :: .int .u8 (bt s i) :: .ptr (some (.new pt 0)) :: .bool false :: .bool false :: .ptr (some (.new pt 0)) :: .ptr (some (.new pt 0)) :: .ptr (some (.new pt 3)) :: .int .i64 c :: .bool (c == 0) :: .bool (c == 0) :: .ptr (some (.new pt 0)) :: .ptr (some (.new pt 0)) :: .ptr (some (.new pt 0)) :: .str s :: .slice (some (.new pb 0)) s.length s.length false :: .int .i64 ((s.length : Int)) :: .int .i64 i :: .bool (decide (i < ((s.length : Int)))) :: .ptr (some (.new pb (0 + i.toNat * 1))) :: .int .u8 (bt s i) :: .ptr (some (.new pw 0)) :: .ptr (some (.new pw 0)) :: .ptr (some (.new pw 0)) :: .map (some mi) :: .int .u8 (bt s i) :: .ptr (some (.new pk 0)) :: .ptr (some (.new pk 0)) :: .bool false :: d35 :: []), [], h, none⟩ (by kernel_rfl) ?_
        refine WpM.op (.int .i64 (i + 1)) _ (by kernel_rfl) (arith_add (by kernel_rfl) (by kernel_rfl) (by omega)) ?_
        refine WpM.run tab_ok 3 ⟨.code x42_15, [.loop x42_15, .blk 0, .seq x42_31], (.ptr (some (.new pt 0)) :: .str s :: U :: U :: d4 :: .ptr (some (.new pk 0)) :: U :: .int .u8 (bt s i) :: .ptr (some (.new pt 0)) :: .bool false :: .bool false :: .ptr (some (.new pt 0)) :: .ptr (some (.new pt 0)) :: .ptr (some (.new pt 3)) :: .int .i64 c :: .bool (c == 0) :: .bool (c == 0) :: .ptr (some (.new pt 0)) :: .ptr (some (.new pt 0)) :: .ptr (some (.new pt 0)) :: .str s :: .slice (some (.new pb 0)) s.length s.length false :: .int .i64 ((s.length : Int)) :: .int .i64 (i + 1) :: .bool (decide (i < ((s.length : Int)))) :: .ptr (some (.new pb (0 + i.toNat * 1))) :: .int .u8 (bt s i) :: .ptr (some (.new pw 0)) :: .ptr (some (.new pw 0)) :: .ptr (some (.new pw 0)) :: .map (some mi) :: .int .u8 (bt s i) :: .ptr (some (.new pk 0)) :: .ptr (some (.new pk 0)) :: .bool false :: .int .i64 (i + 1) :: []), [], h, none⟩ (by kernel_rfl) ?_
        refine ih _ ?_ _ h pk _ _ _ _ _ _ _ _ _ _ _ _ _ _ rfl ?_ ?_ ?_ ?_ ?_ ?_ ?_ ?_
        · omega
        · omega
        · omega
        · rw [hstep (by omega)]; exact hk
        · rw [hstep (by omega), epk]
        · rw [hdrop (by omega), goeG, hk, Bool.true_and] at hA
          rw [hstep (by omega), ← hA]
        · exact hX
        · exact gb
        · exact lb
      · have c102p := dec_f c102
        refine WpM.run tab_ok 11 ⟨.done .ret, [], ((E7 pt s d4 pw d7 c pb i d25 d26 d27 d28 d29 d30 d31 d32 d33 d34 d35).set 4 (.bool true)), [], h, none⟩ (by kernel_rfl) ?_
        refine WpM.ret (.bool true) h (by kernel_rfl) (by kernel_rfl) ?_
        first
          | (rw [hend (by omega), goeG] at hA; exact ⟨hX, by rw [← hA]⟩)
          | (rw [hdrop (by omega), goeG, hk, Bool.false_and] at hA; exact ⟨hX, by rw [← hA]⟩)
    · skip
      have gpw : h.get pw = some (.cells (.map none :: .bool (B wd) :: .int .i64 (R wd) :: tlW c wd) (tyW 72 70 wd)) := by rw [← hm]; exact hn.2.2
      have hk := hT1.leaf _ hw hm b
      refine WpM.run tab_ok 6 ⟨.code x42_18, [.seq x42_19, .loop x42_15, .blk 0, .seq x42_31], (E7 pt s d4 pw d7 c pb i d25 d26 d27 d28 d29 d30 d31 d32 d33 d34 d35), [], h, none⟩ (by kernel_rfl) ?_
      refine WpM.cond (t := (decide (i < ((s.length : Int))))) (by kernel_rfl) (fun c103 => ?_) (fun c103 => ?_)
      · have c103p := dec_t c103
        refine WpM.run tab_ok 6 ⟨.ops (p42_22_0 :: o42_22.drop 1), [.seq x42_23, .blk 1, .seq x42_30, .loop x42_15, .blk 0, .seq x42_31], (E7 pt s d4 pw d7 c pb i d25 d26 d27 d28 d29 d30 d31 d32 d33 d34 d35), [], h, none⟩ (by kernel_rfl) ?_
        refine WpM.op (.ptr (some (.new pb (0 + i.toNat * 1)))) _ (by kernel_rfl) (indexAddr_sl (e := 5) (a := (.new pb 0)) (len := s.length) (lb := s.length) (ex := false) (z := 1) (k := .i64) (n := i) (by kernel_rfl) (by kernel_rfl) (by kernel_rfl) (by kernel_rfl) (by omega)) ?_
        refine WpM.run tab_ok 0 ⟨.ops (p42_22_1 :: o42_22.drop 2), [.seq x42_23, .blk 1, .seq x42_30, .loop x42_15, .blk 0, .seq x42_31], ((E7 pt s d4 pw d7 c pb i d25 d26 d27 d28 d29 d30 d31 d32 d33 d34 d35).set 25 (.ptr (some (.new pb (0 + i.toNat * 1))))), [], h, none⟩ (by kernel_rfl) ?_
        refine WpM.op (.int .u8 (bt s i)) _ (by kernel_rfl) (load_new (o := (0 + i.toNat * 1)) (by kernel_rfl) gb (bv_ld (i := i) (by kernel_rfl) (by omega) (by omega))) ?_
        refine WpM.run tab_ok 8 ⟨.ops (p42_24_3 :: o42_24.drop 4), [.seq x42_25, .blk 1, .seq x42_30, .loop x42_15, .blk 0, .seq x42_31], (((((((E7 pt s d4 pw d7 c pb i d25 d26 d27 d28 d29 d30 d31 d32 d33 d34 d35).set 7 (.int .u8 (bt s i))).set 25 (.ptr (some (.new pb (0 + i.toNat * 1))))).set 26 (.int .u8 (bt s i))).set 27 (.ptr (some (.new pw 0)))).set 28 (.ptr (some (.new pw 0)))).set 29 (.ptr (some (.new pw 0)))), [], h, none⟩ (by kernel_rfl) ?_
        refine WpM.op (.map none) _ (by kernel_rfl) (load_new (o := 0) (by kernel_rfl) gpw (by kernel_rfl)) ?_
        refine WpM.run tab_ok 23 ⟨.done .ret, [], ((((((((((((((E7 pt s d4 pw d7 c pb i d25 d26 d27 d28 d29 d30 d31 d32 d33 d34 d35).set 4 (.bool false)).set 5 (.ptr none)).set 7 (.int .u8 (bt s i))).set 25 (.ptr (some (.new pb (0 + i.toNat * 1))))).set 26 (.int .u8 (bt s i))).set 27 (.ptr (some (.new pw 0)))).set 28 (.ptr (some (.new pw 0)))).set 29 (.ptr (some (.new pw 0)))).set 30 (.map none)).set 31 (.int .u8 (bt s i))).set 32 (.ptr none)).set 33 (.ptr none)).set 34 (.bool true)), [], h, none⟩ (by kernel_rfl) ?_
        refine WpM.ret (.bool false) h (by kernel_rfl) (by kernel_rfl) ?_
        first
          | (rw [hend (by omega), goeG] at hA; exact ⟨hX, by rw [← hA]⟩)
          | (rw [hdrop (by omega), goeG, hk, Bool.false_and] at hA; exact ⟨hX, by rw [← hA]⟩)
      · have c103p := dec_f c103
        refine WpM.run tab_ok 11 ⟨.done .ret, [], ((E7 pt s d4 pw d7 c pb i d25 d26 d27 d28 d29 d30 d31 d32 d33 d34 d35).set 4 (.bool true)), [], h, none⟩ (by kernel_rfl) ?_
        refine WpM.ret (.bool true) h (by kernel_rfl) (by kernel_rfl) ?_
        first
          | (rw [hend (by omega), goeG] at hA; exact ⟨hX, by rw [← hA]⟩)
          | (rw [hdrop (by omega), goeG, hk, Bool.false_and] at hA; exact ⟨hX, by rw [← hA]⟩)
def E8 (pt : Nat) (s : List UInt8) : List V := (.ptr (some (.new pt 0)) :: .str s :: U :: U :: .bool false :: U :: U :: U :: .ptr (some (.new pt 0)) :: .bool false :: .bool false :: .ptr (some (.new pt 0)) :: .ptr (some (.new pt 0)) :: .ptr (some (.new pt 3)) :: us 22)
def E9 (pt : Nat) (s : List UInt8) (c : Int) : List V := (.ptr (some (.new pt 0)) :: .str s :: U :: U :: .bool false :: .ptr (some (.new pt 0)) :: U :: U :: .ptr (some (.new pt 0)) :: .bool false :: .bool false :: .ptr (some (.new pt 0)) :: .ptr (some (.new pt 0)) :: .ptr (some (.new pt 3)) :: .int .i64 c :: .bool (c == 0) :: .bool (c == 0) :: .ptr (some (.new pt 0)) :: .ptr (some (.new pt 0)) :: .ptr (some (.new pt 0)) :: .str s :: us 15)
theorem goe_ok {W : World} {pt : Nat} {s : List UInt8} {n0 : Nat} {h0 : H} {D B : Wrd → Bool} {R : Wrd → Int} {p : Wrd → Nat} {m : Wrd → Option Nat} {c : Int} (hT : Tri 72 70 n0 h0 D B R p m c) (hs : s.length ≤ 140737488351232) (hc : 0 < c) (ept : p [] = pt) : WpF Tryd.prog W prim2 42 [.ptr (some (.new pt 0)), .str s] h0 (fun v h' => HX h0 h' ∧ v = .bool (goeG D [] s)) := by
  have ht := hT.node _ hT.root
  rw [ept] at ht
  refine WpF.m tab_ok (by kernel_rfl) rfl ?_
  refine WpM.cfg (c' := ⟨.code x42_0, [], (.ptr (some (.new pt 0)) :: .str s :: us 34), [], h0, none⟩) (by kernel_rfl) ?_
  refine WpM.run tab_ok 14 ⟨.ops (p42_4_6 :: o42_4.drop 7), [.seq x42_5, .seq x42_8], (E8 pt s), [], h0, none⟩ (by kernel_rfl) ?_
  refine WpM.op (.int .i64 c) _ (by kernel_rfl) (load_new (o := 3) (by kernel_rfl) ht.2.2 (by kernel_rfl)) ?_
  refine WpM.run tab_ok 4 ⟨.code x42_5, [.seq x42_8], ((((E8 pt s).set 14 (.int .i64 c)).set 15 (.bool (c == 0))).set 16 (.bool (c == 0))), [], h0, none⟩ (by kernel_rfl) ?_
  refine WpM.cond (t := (c == 0)) (by kernel_rfl) (fun c1 => ?_) (fun c1 => ?_)
  · have c1p := beq_t c1
    exfalso; omega
  · have c1p := beq_f c1
    refine WpM.run tab_ok 14 ⟨.ops (p42_12_1 :: o42_12.drop 2), [.seq x42_13, .seq x42_31], (E9 pt s c), [], h0, none⟩ (by kernel_rfl) ?_
    refine WpM.opA (fun p => .slice (some (.new p 0)) s.length s.length false) (.cells (bv s) 5) (by kernel_rfl) (by kernel_rfl) (fun p2 h3 a4 => ?_)
    refine WpM.run tab_ok 6 ⟨.code x42_15, [.loop x42_15, .blk 0, .seq x42_31], (.ptr (some (.new pt 0)) :: .str s :: U :: U :: .bool false :: .ptr (some (.new pt 0)) :: U :: U :: .ptr (some (.new pt 0)) :: .bool false :: .bool false :: .ptr (some (.new pt 0)) :: .ptr (some (.new pt 0)) :: .ptr (some (.new pt 3)) :: .int .i64 c :: .bool (c == 0) :: .bool (c == 0) :: .ptr (some (.new pt 0)) :: .ptr (some (.new pt 0)) :: .ptr (some (.new pt 0)) :: .str s :: .slice (some (.new p2 0)) s.length s.length false :: .int .i64 ((s.length : Int)) :: .int .i64 0 :: us 12), [], h3, none⟩ (by kernel_rfl) ?_
    exact goe_loop hT hs hc _ 0 _ pt _ _ _ _ _ _ _ _ _ _ _ _ _ _ rfl (by omega) (by omega) (by simpa using hT.root) (by simpa using ept) (by simp) ((HX.refl h0).alloc a4) a4.get a4.lt
end Go.Proofs.YtkhjmgchlbnkjaaDoor.Dg
