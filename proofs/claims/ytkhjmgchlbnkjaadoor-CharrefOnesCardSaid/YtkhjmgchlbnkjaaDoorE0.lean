/-
 Numbers behind &#.
-/
import Derived.Test.YtkhjmgchlbnkjaaDoorD0
import Derived.Test.YtkhjmgchlbnkjaaDoorDgS41
set_option linter.unusedVariables false
set_option linter.unusedSimpArgs false
namespace Go.Proofs.YtkhjmgchlbnkjaaDoor.Dg
open Go Go.RowKit
set_option maxRecDepth 20000
set_option maxHeartbeats 8000000
def DG16 : List UInt8 := [48, 49, 50, 51, 52, 53, 54, 55, 56, 57, 97, 98, 99, 100, 101, 102]
def DG10 : List UInt8 := [48, 49, 50, 51, 52, 53, 54, 55, 56, 57]
def dgt (hex : Bool) (c : Int) : Int := if 48 ≤ c ∧ c ≤ 57 then c - 48 else if hex = true ∧ 97 ≤ c ∧ c ≤ 102 then c - 87 else if hex = true ∧ 65 ≤ c ∧ c ≤ 70 then c - 55 else -1
def dbase (hex : Bool) : Int := if hex then 16 else 10
def dscan (hex : Bool) : List UInt8 → Int × Int → Int × Int
 | [], a => a
 | b :: r, a => if 0 ≤ dgt hex (b.toNat : Int) then dscan hex r (a.1 + 1, if a.2 < 16777216 then a.2 * dbase hex + dgt hex (b.toNat : Int) else a.2) else a
theorem dgt_range (hex : Bool) (c : Int) : -1 ≤ dgt hex c ∧ dgt hex c ≤ 15 ∧ (hex = false → dgt hex c ≤ 9) := by
 unfold dgt
 split
 ·omega
 ·split
  ·rename_i h; refine ⟨by omega, by omega, fun e => by rw [e] at h; cases h.1⟩
  ·split
   ·rename_i h; refine ⟨by omega, by omega, fun e => by rw [e] at h; cases h.1⟩
   ·omega
def idxOK (n : Nat) : Bool := (let c := if 65 ≤ n ∧ n ≤ 70 then (IntKind.wrap .u8 (BitVec.ofInt (IntKind.bits .u8) (n : Int) ||| BitVec.ofInt (IntKind.bits .u8) 32).toNat) else (n : Int)
 decide (Lib.indexByte DG16 c.toNat.toUInt8 = dgt true n) && decide (Lib.indexByte DG10 c.toNat.toUInt8 = dgt false n))
theorem idx_all : (List.range 256).all idxOK = true := by kernel_rfl
theorem idx_of {c : Int} (h0 : 0 ≤ c) (h1 : c ≤ 255) : idxOK c.toNat = true := List.all_eq_true.1 idx_all _ (List.mem_range.2 (by omega))
theorem idx_low {c : Int} (h0 : 65 ≤ c) (h1 : c ≤ 70) : Lib.indexByte DG16 (IntKind.wrap .u8 (BitVec.ofInt (IntKind.bits .u8) c ||| BitVec.ofInt (IntKind.bits .u8) 32).toNat).toNat.toUInt8 = dgt true c ∧ Lib.indexByte DG10 (IntKind.wrap .u8 (BitVec.ofInt (IntKind.bits .u8) c ||| BitVec.ofInt (IntKind.bits .u8) 32).toNat).toNat.toUInt8 = dgt false c := by
 obtain ⟨n, rfl⟩ := Int.eq_ofNat_of_zero_le (by omega : 0 ≤ c)
 have := idx_of (c := (n : Int)) (by omega) (by omega)
 unfold idxOK at this
 rw [Int.toNat_natCast, if_pos (by omega)] at this
 simpa using this
theorem idx_plain {c : Int} (h0 : 0 ≤ c) (h1 : c ≤ 255) (h2 : ¬ (65 ≤ c) ∨ ¬ (c ≤ 70)) : Lib.indexByte DG16 c.toNat.toUInt8 = dgt true c ∧ Lib.indexByte DG10 c.toNat.toUInt8 = dgt false c := by
 obtain ⟨n, rfl⟩ := Int.eq_ofNat_of_zero_le h0
 have := idx_of (c := (n : Int)) (by omega) (by omega)
 unfold idxOK at this
 rw [Int.toNat_natCast, if_neg (by omega)] at this
 simpa using this
def CodesAt (h : H) (w : V) (cs : List Int) : Prop := (cs = [] ∧ w = .slice none 0 0 true) ∨ ∃ q m x, w = .slice (nw q) cs.length m x ∧ q < h.nx ∧ h.get q = some (.cells (cs.map fun c => iv c) 3)
def numRes (s : List UInt8) (l : Int) (a : Int × Int) : Int × Int × List Int :=
 if a.1 = 0 then (0, 0, [20]) else
 if l + a.1 < (s.length : Int) ∧ bt s (l + a.1) = 59 then (numV a.2, l + a.1 + 1, if 0 < numF a.2 then [numF a.2] else []) else (numV a.2, l + a.1, (if 0 < numF a.2 then [numF a.2] else []) ++ [18])
theorem numRes_zero {s : List UInt8} {l n : Int} : numRes s l (0, n) = (0, 0, [20]) := rfl
theorem numRes_semi {s : List UInt8} {l k n : Int} (h0 : k ≠ 0) (h1 : l + k < (s.length : Int)) (h2 : bt s (l + k) = 59) : numRes s l (k, n) = (numV n, l + k + 1, if 0 < numF n then [numF n] else []) := by
 unfold numRes; rw [if_neg h0, if_pos ⟨h1, h2⟩]
theorem numRes_none {s : List UInt8} {l k n : Int} (h0 : k ≠ 0) (h1 : ¬ (l + k < (s.length : Int)) ∨ bt s (l + k) ≠ 59) : numRes s l (k, n) = (numV n, l + k, (if 0 < numF n then [numF n] else []) ++ [18]) := by
 unfold numRes; rw [if_neg h0, if_neg (fun h => by rcases h1 with h1 | h1; exact h1 h.1; exact h1 h.2)]
theorem scan_step {hex : Bool} {t : List UInt8} {i n : Int} (h0 : 0 ≤ i) (h : i < (t.length : Int)) (hd : 0 ≤ dgt hex (bt t i)) : dscan hex (t.drop i.toNat) (i, n) = dscan hex (t.drop (i + 1).toNat) (i + 1, if n < 16777216 then n * dbase hex + dgt hex (bt t i) else n) := by
 rw [drop_bt h0 h]
 show (if 0 ≤ dgt hex (bt t i) then _ else _) = _
 rw [if_pos hd]
 rfl
theorem scan_stop {hex : Bool} {t : List UInt8} {i n : Int} (h0 : 0 ≤ i) (h : i < (t.length : Int)) (hd : dgt hex (bt t i) < 0) : dscan hex (t.drop i.toNat) (i, n) = (i, n) := by
 rw [drop_bt h0 h]
 show (if 0 ≤ dgt hex (bt t i) then _ else _) = _
 rw [if_neg (by omega)]
theorem scan_end {hex : Bool} {t : List UInt8} {i n : Int} (h : ¬ i < (t.length : Int)) : dscan hex (t.drop i.toNat) (i, n) = (i, n) := by
 rw [List.drop_eq_nil_of_le (by omega)]
 rfl
def E45 (s : List UInt8) (bv9 : V) (t : List UInt8) (z : Int) (i : Int) (d9 : V) (d10 : V) (o15 : V) (o16 : V) (o17 : V) (o18 : V) (o19 : V) (o20 : V) (o21 : V) (o22 : V) (o23 : V) (o24 : V) (o25 : V) (o26 : V) (d27 : V) (d28 : V) (d29 : V) (d30 : V) (d31 : V) (d32 : V) (d33 : V) (d34 : V) (d35 : V) (d36 : V) (d37 : V) (d38 : V) (d39 : V) (d40 : V) (d41 : V) (d42 : V) (d43 : V) (d44 : V) (d45 : V) (d46 : V) (d47 : V) (d48 : V) (d49 : V) (d50 : V) (d51 : V) (d52 : V) (d53 : V) (d54 : V) (d55 : V) (d56 : V) : List V := (.str s :: U :: iv 0 :: iv 0 :: .slice none 0 0 true :: bv9 :: .str t :: iv z :: iv i :: d9 :: d10 :: U :: U :: U :: U :: o15 :: o16 :: o17 :: o18 :: o19 :: o20 :: o21 :: o22 :: o23 :: o24 :: o25 :: o26 :: d27 :: d28 :: d29 :: d30 :: d31 :: d32 :: d33 :: d34 :: d35 :: d36 :: d37 :: d38 :: d39 :: d40 :: d41 :: d42 :: d43 :: d44 :: d45 :: d46 :: d47 :: d48 :: d49 :: d50 :: d51 :: d52 :: d53 :: d54 :: d55 :: d56 :: us 40)
def E46 (s : List UInt8) (p102 : Nat) (bv9 : V) (t : List UInt8) (z : Int) (i : Int) (d9 : V) (d10 : V) (o15 : V) (o16 : V) (o17 : V) (o18 : V) (o19 : V) (o20 : V) (o21 : V) (o22 : V) (o23 : V) (o24 : V) (o25 : V) (o26 : V) (d27 : V) (d28 : V) (d29 : V) (d30 : V) (d31 : V) (d32 : V) (d33 : V) (d34 : V) (d35 : V) (d36 : V) (d37 : V) (d38 : V) (d39 : V) (d40 : V) (d41 : V) (d42 : V) (d43 : V) (d44 : V) (d45 : V) (d46 : V) (d47 : V) (d48 : V) (d49 : V) (d50 : V) (d51 : V) (d52 : V) (d53 : V) (d54 : V) (d55 : V) (d56 : V) : List V := (.str s :: U :: iv 0 :: iv 0 :: .slice (nw p102) 1 1 true :: bv9 :: .str t :: iv z :: iv i :: d9 :: d10 :: U :: U :: U :: U :: o15 :: o16 :: o17 :: o18 :: o19 :: o20 :: o21 :: o22 :: o23 :: o24 :: o25 :: o26 :: d27 :: d28 :: d29 :: d30 :: d31 :: d32 :: d33 :: d34 :: d35 :: d36 :: d37 :: d38 :: d39 :: d40 :: d41 :: d42 :: d43 :: d44 :: d45 :: d46 :: d47 :: d48 :: d49 :: d50 :: d51 :: d52 :: d53 :: d54 :: d55 :: d56 :: iv i :: .bool (i == 0) :: .slice (nw p102) 1 1 true :: us 37)
def E47 (s : List UInt8) (bv9 : V) (t : List UInt8) (z : Int) (i : Int) (d9 : V) (d10 : V) (o15 : V) (o16 : V) (o17 : V) (o18 : V) (o19 : V) (o20 : V) (o21 : V) (o22 : V) (o23 : V) (o24 : V) (o25 : V) (o26 : V) (d27 : V) (d28 : V) (d29 : V) (d30 : V) (d31 : V) (d32 : V) (d33 : V) (d34 : V) (d35 : V) (d36 : V) (d37 : V) (d38 : V) (d39 : V) (d40 : V) (d41 : V) (d42 : V) (d43 : V) (d44 : V) (d45 : V) (d46 : V) (d47 : V) (d48 : V) (d49 : V) (d50 : V) (d51 : V) (d52 : V) (d53 : V) (d54 : V) (d55 : V) (d56 : V) : List V := (.str s :: U :: iv 0 :: iv 0 :: .slice none 0 0 true :: bv9 :: .str t :: iv z :: iv i :: d9 :: d10 :: iv (numV z) :: iv (numF z) :: .slice none 0 0 true :: U :: o15 :: o16 :: o17 :: o18 :: o19 :: o20 :: o21 :: o22 :: o23 :: o24 :: o25 :: o26 :: d27 :: d28 :: d29 :: d30 :: d31 :: d32 :: d33 :: d34 :: d35 :: d36 :: d37 :: d38 :: d39 :: d40 :: d41 :: d42 :: d43 :: d44 :: d45 :: d46 :: d47 :: d48 :: d49 :: d50 :: d51 :: d52 :: d53 :: d54 :: d55 :: d56 :: iv i :: .bool (i == 0) :: U :: .tup [iv (numV z), iv (numF z)] :: iv z :: .tup [iv (numV z), iv (numF z)] :: iv (numV z) :: iv (numF z) :: iv (numF z) :: .bool (decide ((numF z) > 0)) :: us 30)
def E48 (s : List UInt8) (bv9 : V) (t : List UInt8) (z : Int) (i : Int) (d9 : V) (d10 : V) (p111 : Nat) (o15 : V) (o16 : V) (o17 : V) (o18 : V) (o19 : V) (o20 : V) (o21 : V) (o22 : V) (o23 : V) (o24 : V) (o25 : V) (o26 : V) (d27 : V) (d28 : V) (d29 : V) (d30 : V) (d31 : V) (d32 : V) (d33 : V) (d34 : V) (d35 : V) (d36 : V) (d37 : V) (d38 : V) (d39 : V) (d40 : V) (d41 : V) (d42 : V) (d43 : V) (d44 : V) (d45 : V) (d46 : V) (d47 : V) (d48 : V) (d49 : V) (d50 : V) (d51 : V) (d52 : V) (d53 : V) (d54 : V) (d55 : V) (d56 : V) (p108 : Nat) : List V := (.str s :: U :: iv 0 :: iv 0 :: .slice none 0 0 true :: bv9 :: .str t :: iv z :: iv i :: d9 :: d10 :: iv (numV z) :: iv (numF z) :: .slice (nw p111) 1 1 false :: iv ((((s.length : Int)) - ((t.length : Int))) + i) :: o15 :: o16 :: o17 :: o18 :: o19 :: o20 :: o21 :: o22 :: o23 :: o24 :: o25 :: o26 :: d27 :: d28 :: d29 :: d30 :: d31 :: d32 :: d33 :: d34 :: d35 :: d36 :: d37 :: d38 :: d39 :: d40 :: d41 :: d42 :: d43 :: d44 :: d45 :: d46 :: d47 :: d48 :: d49 :: d50 :: d51 :: d52 :: d53 :: d54 :: d55 :: d56 :: iv i :: .bool (i == 0) :: U :: .tup [iv (numV z), iv (numF z)] :: iv z :: .tup [iv (numV z), iv (numF z)] :: iv (numV z) :: iv (numF z) :: iv (numF z) :: .bool (decide ((numF z) > 0)) :: .slice none 0 0 true :: iv (numF z) :: .slice (nw p108) 1 1 true :: .slice (nw p111) 1 1 false :: .str s :: iv ((s.length : Int)) :: .str t :: iv ((t.length : Int)) :: iv (((s.length : Int)) - ((t.length : Int))) :: iv i :: iv ((((s.length : Int)) - ((t.length : Int))) + i) :: iv ((((s.length : Int)) - ((t.length : Int))) + i) :: .str s :: iv ((s.length : Int)) :: .bool (decide (((((s.length : Int)) - ((t.length : Int))) + i) < ((s.length : Int)))) :: .bool (decide (((((s.length : Int)) - ((t.length : Int))) + i) < ((s.length : Int)))) :: us 14)
def E49 (s : List UInt8) (z : Int) (t : List UInt8) (i : Int) (bv9 : V) (d9 : V) (d10 : V) (o15 : V) (o16 : V) (o17 : V) (o18 : V) (o19 : V) (o20 : V) (o21 : V) (o22 : V) (o23 : V) (o24 : V) (o25 : V) (o26 : V) (d27 : V) (d28 : V) (d29 : V) (d30 : V) (d31 : V) (d32 : V) (d33 : V) (d34 : V) (d35 : V) (d36 : V) (d37 : V) (d38 : V) (d39 : V) (d40 : V) (d41 : V) (d42 : V) (d43 : V) (d44 : V) (d45 : V) (d46 : V) (d47 : V) (d48 : V) (d49 : V) (d50 : V) (d51 : V) (d52 : V) (d53 : V) (d54 : V) (d55 : V) (d56 : V) : List V := (.str s :: U :: iv (numV z) :: iv (((((s.length : Int)) - ((t.length : Int))) + i) + 1) :: .slice none 0 0 true :: bv9 :: .str t :: iv z :: iv i :: d9 :: d10 :: iv (numV z) :: iv (numF z) :: .slice none 0 0 true :: iv ((((s.length : Int)) - ((t.length : Int))) + i) :: o15 :: o16 :: o17 :: o18 :: o19 :: o20 :: o21 :: o22 :: o23 :: o24 :: o25 :: o26 :: d27 :: d28 :: d29 :: d30 :: d31 :: d32 :: d33 :: d34 :: d35 :: d36 :: d37 :: d38 :: d39 :: d40 :: d41 :: d42 :: d43 :: d44 :: d45 :: d46 :: d47 :: d48 :: d49 :: d50 :: d51 :: d52 :: d53 :: d54 :: d55 :: d56 :: iv i :: .bool (i == 0) :: U :: .tup [iv (numV z), iv (numF z)] :: iv z :: .tup [iv (numV z), iv (numF z)] :: iv (numV z) :: iv (numF z) :: iv (numF z) :: .bool (decide ((numF z) > 0)) :: U :: U :: U :: U :: .str s :: iv ((s.length : Int)) :: .str t :: iv ((t.length : Int)) :: iv (((s.length : Int)) - ((t.length : Int))) :: iv i :: iv ((((s.length : Int)) - ((t.length : Int))) + i) :: iv ((((s.length : Int)) - ((t.length : Int))) + i) :: .str s :: iv ((s.length : Int)) :: .bool (decide (((((s.length : Int)) - ((t.length : Int))) + i) < ((s.length : Int)))) :: .bool true :: .str s :: iv ((((s.length : Int)) - ((t.length : Int))) + i) :: .int .u8 (bt s ((((s.length : Int)) - ((t.length : Int))) + i)) :: .bool ((bt s ((((s.length : Int)) - ((t.length : Int))) + i)) == 59) :: .bool ((bt s ((((s.length : Int)) - ((t.length : Int))) + i)) == 59) :: iv (numV z) :: iv ((((s.length : Int)) - ((t.length : Int))) + i) :: iv (((((s.length : Int)) - ((t.length : Int))) + i) + 1) :: .slice none 0 0 true :: us 5)
def E50 (s : List UInt8) (z : Int) (t : List UInt8) (i : Int) (p143 : Nat) (bv9 : V) (d9 : V) (d10 : V) (o15 : V) (o16 : V) (o17 : V) (o18 : V) (o19 : V) (o20 : V) (o21 : V) (o22 : V) (o23 : V) (o24 : V) (o25 : V) (o26 : V) (d27 : V) (d28 : V) (d29 : V) (d30 : V) (d31 : V) (d32 : V) (d33 : V) (d34 : V) (d35 : V) (d36 : V) (d37 : V) (d38 : V) (d39 : V) (d40 : V) (d41 : V) (d42 : V) (d43 : V) (d44 : V) (d45 : V) (d46 : V) (d47 : V) (d48 : V) (d49 : V) (d50 : V) (d51 : V) (d52 : V) (d53 : V) (d54 : V) (d55 : V) (d56 : V) (p140 : Nat) : List V := (.str s :: U :: iv (numV z) :: iv ((((s.length : Int)) - ((t.length : Int))) + i) :: .slice (nw p143) 1 1 false :: bv9 :: .str t :: iv z :: iv i :: d9 :: d10 :: iv (numV z) :: iv (numF z) :: .slice none 0 0 true :: iv ((((s.length : Int)) - ((t.length : Int))) + i) :: o15 :: o16 :: o17 :: o18 :: o19 :: o20 :: o21 :: o22 :: o23 :: o24 :: o25 :: o26 :: d27 :: d28 :: d29 :: d30 :: d31 :: d32 :: d33 :: d34 :: d35 :: d36 :: d37 :: d38 :: d39 :: d40 :: d41 :: d42 :: d43 :: d44 :: d45 :: d46 :: d47 :: d48 :: d49 :: d50 :: d51 :: d52 :: d53 :: d54 :: d55 :: d56 :: iv i :: .bool (i == 0) :: U :: .tup [iv (numV z), iv (numF z)] :: iv z :: .tup [iv (numV z), iv (numF z)] :: iv (numV z) :: iv (numF z) :: iv (numF z) :: .bool (decide ((numF z) > 0)) :: U :: U :: U :: U :: .str s :: iv ((s.length : Int)) :: .str t :: iv ((t.length : Int)) :: iv (((s.length : Int)) - ((t.length : Int))) :: iv i :: iv ((((s.length : Int)) - ((t.length : Int))) + i) :: iv ((((s.length : Int)) - ((t.length : Int))) + i) :: .str s :: iv ((s.length : Int)) :: .bool (decide (((((s.length : Int)) - ((t.length : Int))) + i) < ((s.length : Int)))) :: .bool false :: U :: U :: U :: U :: .bool false :: U :: U :: U :: U :: iv (numV z) :: iv ((((s.length : Int)) - ((t.length : Int))) + i) :: .slice none 0 0 true :: .slice (nw p140) 1 1 true :: .slice (nw p143) 1 1 false :: [])
theorem num_rest {W : World} {bv9 d9 d10 d27 d28 d29 d30 d31 d32 d33 d34 d35 d36 d37 d38 d39 d40 d41 d42 d43 d44 d45 d46 d47 d48 d49 d50 d51 d52 d53 d54 d55 d56 : V} {i z : Int} {h : H} {s t : List UInt8} {l : Int} {h0 : H} {o15 o16 o17 o18 o19 o20 o21 o22 o23 o24 o25 o26 : V} (hs : s.length ≤ 140737488351232) (hts : t.length ≤ s.length) (hl : l = (s.length : Int) - (t.length : Int)) (h0i : 0 ≤ i) (h1i : i ≤ (t.length : Int)) (hX : HX h0 h) : WpM Tryd.prog W prim2 ⟨.done .norm, [.seq x39_38], (E45 s bv9 t z i d9 d10 o15 o16 o17 o18 o19 o20 o21 o22 o23 o24 o25 o26 d27 d28 d29 d30 d31 d32 d33 d34 d35 d36 d37 d38 d39 d40 d41 d42 d43 d44 d45 d46 d47 d48 d49 d50 d51 d52 d53 d54 d55 d56), [], h, none⟩ (retQ Tryd.prog W [.tmp 2, .tmp 3, .tmp 4] (fun v h' => HX h0 h' ∧ ∃ r e cs w, numRes s l (i, z) = (r, e, cs) ∧ v = .tup [iv r, iv e, w] ∧ CodesAt h' w cs)) := by
 refine rn 8 ⟨.code x39_41, [.seq x39_44], (ss (E45 s bv9 t z i d9 d10 o15 o16 o17 o18 o19 o20 o21 o22 o23 o24 o25 o26 d27 d28 d29 d30 d31 d32 d33 d34 d35 d36 d37 d38 d39 d40 d41 d42 d43 d44 d45 d46 d47 d48 d49 d50 d51 d52 d53 d54 d55 d56) [(57, iv i), (58, .bool (i == 0))]), [], h, none⟩ ?_
 refine WpM.cond (t := (i == 0)) (by kernel_rfl) (fun c101 => ?_) (fun c101 => ?_)
 ·have c101p := beq_t c101
  refine rn 2 ⟨.ops (p39_43_0 :: o39_43.drop 1), [.seq .ret, .seq x39_44], (ss (E45 s bv9 t z i d9 d10 o15 o16 o17 o18 o19 o20 o21 o22 o23 o24 o25 o26 d27 d28 d29 d30 d31 d32 d33 d34 d35 d36 d37 d38 d39 d40 d41 d42 d43 d44 d45 d46 d47 d48 d49 d50 d51 d52 d53 d54 d55 d56) [(57, iv i), (58, .bool (i == 0))]), [], h, none⟩ ?_
  refine WpM.opA (fun p => .slice (nw p) 1 1 true) (.cells [iv 20] 3) (by kernel_rfl) (by kernel_rfl) (fun p102 h103 a104 => ?_)
  refine rn 7 ⟨.done .ret, [], (E46 s p102 bv9 t z i d9 d10 o15 o16 o17 o18 o19 o20 o21 o22 o23 o24 o25 o26 d27 d28 d29 d30 d31 d32 d33 d34 d35 d36 d37 d38 d39 d40 d41 d42 d43 d44 d45 d46 d47 d48 d49 d50 d51 d52 d53 d54 d55 d56), [], h103, none⟩ ?_
  refine WpM.ret (.tup [iv 0, iv 0, .slice (nw p102) 1 1 true]) h103 (by kernel_rfl) (by kernel_rfl) ?_
  exact ⟨(hX.alloc a104), 0, 0, [20], _, by rw [show i = 0 from by omega]; exact numRes_zero, rfl, .inr ⟨p102, 1, true, rfl, a104.lt, a104.get⟩⟩
 ·have c101p := beq_f c101
  refine rn 5 ⟨.ops (p39_45_1 :: o39_45.drop 2), [.seq x39_46], (ss (E46 s 0 bv9 t z i d9 d10 o15 o16 o17 o18 o19 o20 o21 o22 o23 o24 o25 o26 d27 d28 d29 d30 d31 d32 d33 d34 d35 d36 d37 d38 d39 d40 d41 d42 d43 d44 d45 d46 d47 d48 d49 d50 d51 d52 d53 d54 d55 d56) [(4, .slice none 0 0 true), (59, U), (61, iv z)]), [], h, none⟩ ?_
  refine WpM.call 8 [iv z] (by kernel_rfl) (by kernel_rfl) ?_
  refine WpF.mono (num_ok (n := z) _) ?_
  rintro _ h105 ⟨a106, rfl⟩
  refine rn 19 ⟨.code x39_51, [.seq x39_53], (E47 s bv9 t z i d9 d10 o15 o16 o17 o18 o19 o20 o21 o22 o23 o24 o25 o26 d27 d28 d29 d30 d31 d32 d33 d34 d35 d36 d37 d38 d39 d40 d41 d42 d43 d44 d45 d46 d47 d48 d49 d50 d51 d52 d53 d54 d55 d56), [], h105, none⟩ ?_
  refine WpM.cond (t := (decide ((numF z) > 0))) (by kernel_rfl) (fun c107 => ?_) (fun c107 => ?_)
  ·have c107p := dec_t c107
   refine rn 3 ⟨.ops (p39_52_2 :: o39_52.drop 3), [.seq x39_53], (ss (E47 s bv9 t z i d9 d10 o15 o16 o17 o18 o19 o20 o21 o22 o23 o24 o25 o26 d27 d28 d29 d30 d31 d32 d33 d34 d35 d36 d37 d38 d39 d40 d41 d42 d43 d44 d45 d46 d47 d48 d49 d50 d51 d52 d53 d54 d55 d56) [(67, .slice none 0 0 true), (68, iv (numF z))]), [], h105, none⟩ ?_
   refine WpM.opA (fun p => .slice (nw p) 1 1 true) (.cells [iv (numF z)] 3) (by kernel_rfl) (by kernel_rfl) (fun p108 h109 a110 => ?_)
   refine rn 0 ⟨.ops (p39_52_3 :: o39_52.drop 4), [.seq x39_53], (ss (E47 s bv9 t z i d9 d10 o15 o16 o17 o18 o19 o20 o21 o22 o23 o24 o25 o26 d27 d28 d29 d30 d31 d32 d33 d34 d35 d36 d37 d38 d39 d40 d41 d42 d43 d44 d45 d46 d47 d48 d49 d50 d51 d52 d53 d54 d55 d56) [(67, .slice none 0 0 true), (68, iv (numF z)), (69, .slice (nw p108) 1 1 true)]), [], h109, none⟩ ?_
   refine WpM.opA (fun p => .slice (nw p) 1 1 false) (.cells [iv (numF z)] 3) (by kernel_rfl) (app_step (s := .slice none 0 0 true) (x := .slice (nw p108) 1 1 true) (by kernel_rfl) (by kernel_rfl) (app_op (at0 := 26) (at1 := 26) (e := 3) (size := 1) (bytes := 8) (n := 1) (z0 := iv 0) (nc := [iv (numF z)]) (by kernel_rfl) (by kernel_rfl) (by kernel_rfl) (by kernel_rfl) rfl rfl rfl (first_at a110.get (by decide) (Nat.le_of_ble_eq_true rfl) (by kernel_rfl)) (app_nilR (by decide) rfl (by kernel_rfl) (by decide) (by decide)))) (fun p111 h112 a113 => ?_)
   refine rn 9 ⟨.ops (p39_54_4 :: o39_54.drop 5), [.seq x39_55], (ss (E47 s bv9 t z i d9 d10 o15 o16 o17 o18 o19 o20 o21 o22 o23 o24 o25 o26 d27 d28 d29 d30 d31 d32 d33 d34 d35 d36 d37 d38 d39 d40 d41 d42 d43 d44 d45 d46 d47 d48 d49 d50 d51 d52 d53 d54 d55 d56) [(13, .slice (nw p111) 1 1 false), (67, .slice none 0 0 true), (68, iv (numF z)), (69, .slice (nw p108) 1 1 true), (70, .slice (nw p111) 1 1 false), (71, .str s), (72, iv ((s.length : Int))), (73, .str t), (74, iv ((t.length : Int)))]), [], h112, none⟩ ?_
   refine WpM.op (iv (((s.length : Int)) - ((t.length : Int)))) _ (by kernel_rfl) (arith_sub (by kernel_rfl) (by kernel_rfl) (by omega)) ?_
   refine rn 1 ⟨.ops (p39_54_6 :: o39_54.drop 7), [.seq x39_55], (ss (E47 s bv9 t z i d9 d10 o15 o16 o17 o18 o19 o20 o21 o22 o23 o24 o25 o26 d27 d28 d29 d30 d31 d32 d33 d34 d35 d36 d37 d38 d39 d40 d41 d42 d43 d44 d45 d46 d47 d48 d49 d50 d51 d52 d53 d54 d55 d56) [(13, .slice (nw p111) 1 1 false), (67, .slice none 0 0 true), (68, iv (numF z)), (69, .slice (nw p108) 1 1 true), (70, .slice (nw p111) 1 1 false), (71, .str s), (72, iv ((s.length : Int))), (73, .str t), (74, iv ((t.length : Int))), (75, iv (((s.length : Int)) - ((t.length : Int)))), (76, iv i)]), [], h112, none⟩ ?_
   refine WpM.op (iv ((((s.length : Int)) - ((t.length : Int))) + i)) _ (by kernel_rfl) (arith_add (by kernel_rfl) (by kernel_rfl) (by omega)) ?_
   refine rn 11 ⟨.ops (p39_57_5 :: o39_57.drop 6), [.seq x39_58, .seq x39_61], (E48 s bv9 t z i d9 d10 p111 o15 o16 o17 o18 o19 o20 o21 o22 o23 o24 o25 o26 d27 d28 d29 d30 d31 d32 d33 d34 d35 d36 d37 d38 d39 d40 d41 d42 d43 d44 d45 d46 d47 d48 d49 d50 d51 d52 d53 d54 d55 d56 p108), [], h112, none⟩ ?_
   refine WpM.guard (b := (decide (((((s.length : Int)) - ((t.length : Int))) + i) < ((s.length : Int))))) (by kernel_rfl) (fun c114 => ?_) (fun c114 => ?_)
   ·have c114p := dec_t c114
    refine rn 2 ⟨.ops (p39_57_7 :: o39_57.drop 8), [.seq x39_58, .seq x39_61], (ss (E48 s bv9 t z i d9 d10 p111 o15 o16 o17 o18 o19 o20 o21 o22 o23 o24 o25 o26 d27 d28 d29 d30 d31 d32 d33 d34 d35 d36 d37 d38 d39 d40 d41 d42 d43 d44 d45 d46 d47 d48 d49 d50 d51 d52 d53 d54 d55 d56 p108) [(82, .bool true), (83, .str s), (84, iv ((((s.length : Int)) - ((t.length : Int))) + i))]), [], h112, none⟩ ?_
    refine WpM.op (.int .u8 (bt s ((((s.length : Int)) - ((t.length : Int))) + i))) _ (by kernel_rfl) (index_str (k := .i64) (by kernel_rfl) (by kernel_rfl) (by kernel_rfl) (by omega)) ?_
    refine rn 4 ⟨.code x39_58, [.seq x39_61], (ss (E48 s bv9 t z i d9 d10 p111 o15 o16 o17 o18 o19 o20 o21 o22 o23 o24 o25 o26 d27 d28 d29 d30 d31 d32 d33 d34 d35 d36 d37 d38 d39 d40 d41 d42 d43 d44 d45 d46 d47 d48 d49 d50 d51 d52 d53 d54 d55 d56 p108) [(82, .bool true), (83, .str s), (84, iv ((((s.length : Int)) - ((t.length : Int))) + i)), (85, .int .u8 (bt s ((((s.length : Int)) - ((t.length : Int))) + i))), (86, .bool ((bt s ((((s.length : Int)) - ((t.length : Int))) + i)) == 59)), (87, .bool ((bt s ((((s.length : Int)) - ((t.length : Int))) + i)) == 59))]), [], h112, none⟩ ?_
    refine WpM.cond (t := ((bt s ((((s.length : Int)) - ((t.length : Int))) + i)) == 59)) (by kernel_rfl) (fun c115 => ?_) (fun c115 => ?_)
    ·have c115p := beq_t c115
     refine rn 4 ⟨.ops (p39_60_2 :: o39_60.drop 3), [.seq .ret, .seq x39_61], (ss (E48 s bv9 t z i d9 d10 p111 o15 o16 o17 o18 o19 o20 o21 o22 o23 o24 o25 o26 d27 d28 d29 d30 d31 d32 d33 d34 d35 d36 d37 d38 d39 d40 d41 d42 d43 d44 d45 d46 d47 d48 d49 d50 d51 d52 d53 d54 d55 d56 p108) [(82, .bool true), (83, .str s), (84, iv ((((s.length : Int)) - ((t.length : Int))) + i)), (85, .int .u8 (bt s ((((s.length : Int)) - ((t.length : Int))) + i))), (86, .bool ((bt s ((((s.length : Int)) - ((t.length : Int))) + i)) == 59)), (87, .bool ((bt s ((((s.length : Int)) - ((t.length : Int))) + i)) == 59)), (88, iv (numV z)), (89, iv ((((s.length : Int)) - ((t.length : Int))) + i))]), [], h112, none⟩ ?_
     refine WpM.op (iv (((((s.length : Int)) - ((t.length : Int))) + i) + 1)) _ (by kernel_rfl) (arith_add (by kernel_rfl) (by kernel_rfl) (by omega)) ?_
     refine rn 8 ⟨.done .ret, [], (ss (E48 s bv9 t z i d9 d10 p111 o15 o16 o17 o18 o19 o20 o21 o22 o23 o24 o25 o26 d27 d28 d29 d30 d31 d32 d33 d34 d35 d36 d37 d38 d39 d40 d41 d42 d43 d44 d45 d46 d47 d48 d49 d50 d51 d52 d53 d54 d55 d56 p108) [(2, iv (numV z)), (3, iv (((((s.length : Int)) - ((t.length : Int))) + i) + 1)), (4, .slice (nw p111) 1 1 false), (82, .bool true), (83, .str s), (84, iv ((((s.length : Int)) - ((t.length : Int))) + i)), (85, .int .u8 (bt s ((((s.length : Int)) - ((t.length : Int))) + i))), (86, .bool ((bt s ((((s.length : Int)) - ((t.length : Int))) + i)) == 59)), (87, .bool ((bt s ((((s.length : Int)) - ((t.length : Int))) + i)) == 59)), (88, iv (numV z)), (89, iv ((((s.length : Int)) - ((t.length : Int))) + i)), (90, iv (((((s.length : Int)) - ((t.length : Int))) + i) + 1)), (91, .slice (nw p111) 1 1 false)]), [], h112, none⟩ ?_
     refine WpM.ret (.tup [iv (numV z), iv (((((s.length : Int)) - ((t.length : Int))) + i) + 1), .slice (nw p111) 1 1 false]) h112 (by kernel_rfl) (by kernel_rfl) ?_
     refine ⟨(((hX.trans a106).alloc a110).alloc a113), _, _, _, _, by rw [hl]; exact numRes_semi (by omega) (by omega) (by omega), rfl, ?_⟩
     rw [if_pos (by omega)]
     exact .inr ⟨p111, 1, false, rfl, a113.lt, a113.get⟩
    ·have c115p := beq_f c115
     refine rn 7 ⟨.ops (p39_62_3 :: o39_62.drop 4), [.seq .ret], (ss (E48 s bv9 t z i d9 d10 p111 o15 o16 o17 o18 o19 o20 o21 o22 o23 o24 o25 o26 d27 d28 d29 d30 d31 d32 d33 d34 d35 d36 d37 d38 d39 d40 d41 d42 d43 d44 d45 d46 d47 d48 d49 d50 d51 d52 d53 d54 d55 d56 p108) [(82, .bool true), (83, .str s), (84, iv ((((s.length : Int)) - ((t.length : Int))) + i)), (85, .int .u8 (bt s ((((s.length : Int)) - ((t.length : Int))) + i))), (86, .bool ((bt s ((((s.length : Int)) - ((t.length : Int))) + i)) == 59)), (87, .bool ((bt s ((((s.length : Int)) - ((t.length : Int))) + i)) == 59)), (92, iv (numV z)), (93, iv ((((s.length : Int)) - ((t.length : Int))) + i)), (94, .slice (nw p111) 1 1 false)]), [], h112, none⟩ ?_
     refine WpM.opA (fun p => .slice (nw p) 1 1 true) (.cells [iv 18] 3) (by kernel_rfl) (by kernel_rfl) (fun p116 h117 a118 => ?_)
     refine rn 0 ⟨.ops (p39_62_4 :: o39_62.drop 5), [.seq .ret], (ss (E48 s bv9 t z i d9 d10 p111 o15 o16 o17 o18 o19 o20 o21 o22 o23 o24 o25 o26 d27 d28 d29 d30 d31 d32 d33 d34 d35 d36 d37 d38 d39 d40 d41 d42 d43 d44 d45 d46 d47 d48 d49 d50 d51 d52 d53 d54 d55 d56 p108) [(82, .bool true), (83, .str s), (84, iv ((((s.length : Int)) - ((t.length : Int))) + i)), (85, .int .u8 (bt s ((((s.length : Int)) - ((t.length : Int))) + i))), (86, .bool ((bt s ((((s.length : Int)) - ((t.length : Int))) + i)) == 59)), (87, .bool ((bt s ((((s.length : Int)) - ((t.length : Int))) + i)) == 59)), (92, iv (numV z)), (93, iv ((((s.length : Int)) - ((t.length : Int))) + i)), (94, .slice (nw p111) 1 1 false), (95, .slice (nw p116) 1 1 true)]), [], h117, none⟩ ?_
     refine WpM.opR (fun p => .slice (nw p) 2 2 false) p111 (.cells [iv (numF z), iv 18] 3) (by kernel_rfl) (app_step (s := .slice (nw p111) 1 1 false) (x := .slice (nw p116) 1 1 true) (by kernel_rfl) (by kernel_rfl) (app_op (at0 := 26) (at1 := 26) (e := 3) (size := 1) (bytes := 8) (n := 1) (z0 := iv 0) (nc := [iv 18]) (by kernel_rfl) (by kernel_rfl) (by kernel_rfl) (by kernel_rfl) rfl rfl rfl (first_at a118.get (by decide) (Nat.le_of_ble_eq_true rfl) (by kernel_rfl)) (app_growR (a118.keep a113.lt a113.get) (by decide) (by decide) (Nat.le_of_ble_eq_true rfl) rfl (by kernel_rfl) (by decide) (by decide) (by kernel_rfl)))) (fun h119 a120 p121 h122 a123 => ?_)
     refine rn 6 ⟨.done .ret, [], (ss (E48 s bv9 t z i d9 d10 p111 o15 o16 o17 o18 o19 o20 o21 o22 o23 o24 o25 o26 d27 d28 d29 d30 d31 d32 d33 d34 d35 d36 d37 d38 d39 d40 d41 d42 d43 d44 d45 d46 d47 d48 d49 d50 d51 d52 d53 d54 d55 d56 p108) [(2, iv (numV z)), (3, iv ((((s.length : Int)) - ((t.length : Int))) + i)), (4, .slice (nw p121) 2 2 false), (82, .bool true), (83, .str s), (84, iv ((((s.length : Int)) - ((t.length : Int))) + i)), (85, .int .u8 (bt s ((((s.length : Int)) - ((t.length : Int))) + i))), (86, .bool ((bt s ((((s.length : Int)) - ((t.length : Int))) + i)) == 59)), (87, .bool ((bt s ((((s.length : Int)) - ((t.length : Int))) + i)) == 59)), (92, iv (numV z)), (93, iv ((((s.length : Int)) - ((t.length : Int))) + i)), (94, .slice (nw p111) 1 1 false), (95, .slice (nw p116) 1 1 true), (96, .slice (nw p121) 2 2 false)]), [], h122, none⟩ ?_
     refine WpM.ret (.tup [iv (numV z), iv ((((s.length : Int)) - ((t.length : Int))) + i), .slice (nw p121) 2 2 false]) h122 (by kernel_rfl) (by kernel_rfl) ?_
     refine ⟨((((((hX.trans a106).alloc a110).alloc a113).alloc a118).put a120 (by have := (hX).nx; have := a106.nx; have := a110.eq; have := a110.nx; have := a113.eq; have := a113.nx; have := a118.eq; have := a118.nx; have := a120.nx; have := a123.eq; have := a123.nx; omega)).alloc a123), _, _, _, _, by rw [hl]; exact numRes_none (by omega) (by omega), rfl, ?_⟩
     rw [if_pos (by omega)]
     exact .inr ⟨p121, 2, false, rfl, a123.lt, a123.get⟩
   ·have c114p := dec_f c114
    refine rn 15 ⟨.ops (p39_62_3 :: o39_62.drop 4), [.seq .ret], (ss (E48 s bv9 t z i d9 d10 p111 o15 o16 o17 o18 o19 o20 o21 o22 o23 o24 o25 o26 d27 d28 d29 d30 d31 d32 d33 d34 d35 d36 d37 d38 d39 d40 d41 d42 d43 d44 d45 d46 d47 d48 d49 d50 d51 d52 d53 d54 d55 d56 p108) [(82, .bool false), (87, .bool false), (92, iv (numV z)), (93, iv ((((s.length : Int)) - ((t.length : Int))) + i)), (94, .slice (nw p111) 1 1 false)]), [], h112, none⟩ ?_
    refine WpM.opA (fun p => .slice (nw p) 1 1 true) (.cells [iv 18] 3) (by kernel_rfl) (by kernel_rfl) (fun p124 h125 a126 => ?_)
    refine rn 0 ⟨.ops (p39_62_4 :: o39_62.drop 5), [.seq .ret], (ss (E48 s bv9 t z i d9 d10 p111 o15 o16 o17 o18 o19 o20 o21 o22 o23 o24 o25 o26 d27 d28 d29 d30 d31 d32 d33 d34 d35 d36 d37 d38 d39 d40 d41 d42 d43 d44 d45 d46 d47 d48 d49 d50 d51 d52 d53 d54 d55 d56 p108) [(82, .bool false), (87, .bool false), (92, iv (numV z)), (93, iv ((((s.length : Int)) - ((t.length : Int))) + i)), (94, .slice (nw p111) 1 1 false), (95, .slice (nw p124) 1 1 true)]), [], h125, none⟩ ?_
    refine WpM.opR (fun p => .slice (nw p) 2 2 false) p111 (.cells [iv (numF z), iv 18] 3) (by kernel_rfl) (app_step (s := .slice (nw p111) 1 1 false) (x := .slice (nw p124) 1 1 true) (by kernel_rfl) (by kernel_rfl) (app_op (at0 := 26) (at1 := 26) (e := 3) (size := 1) (bytes := 8) (n := 1) (z0 := iv 0) (nc := [iv 18]) (by kernel_rfl) (by kernel_rfl) (by kernel_rfl) (by kernel_rfl) rfl rfl rfl (first_at a126.get (by decide) (Nat.le_of_ble_eq_true rfl) (by kernel_rfl)) (app_growR (a126.keep a113.lt a113.get) (by decide) (by decide) (Nat.le_of_ble_eq_true rfl) rfl (by kernel_rfl) (by decide) (by decide) (by kernel_rfl)))) (fun h127 a128 p129 h130 a131 => ?_)
    refine rn 6 ⟨.done .ret, [], (ss (E48 s bv9 t z i d9 d10 p111 o15 o16 o17 o18 o19 o20 o21 o22 o23 o24 o25 o26 d27 d28 d29 d30 d31 d32 d33 d34 d35 d36 d37 d38 d39 d40 d41 d42 d43 d44 d45 d46 d47 d48 d49 d50 d51 d52 d53 d54 d55 d56 p108) [(2, iv (numV z)), (3, iv ((((s.length : Int)) - ((t.length : Int))) + i)), (4, .slice (nw p129) 2 2 false), (82, .bool false), (87, .bool false), (92, iv (numV z)), (93, iv ((((s.length : Int)) - ((t.length : Int))) + i)), (94, .slice (nw p111) 1 1 false), (95, .slice (nw p124) 1 1 true), (96, .slice (nw p129) 2 2 false)]), [], h130, none⟩ ?_
    refine WpM.ret (.tup [iv (numV z), iv ((((s.length : Int)) - ((t.length : Int))) + i), .slice (nw p129) 2 2 false]) h130 (by kernel_rfl) (by kernel_rfl) ?_
    refine ⟨((((((hX.trans a106).alloc a110).alloc a113).alloc a126).put a128 (by have := (hX).nx; have := a106.nx; have := a110.eq; have := a110.nx; have := a113.eq; have := a113.nx; have := a126.eq; have := a126.nx; have := a128.nx; have := a131.eq; have := a131.nx; omega)).alloc a131), _, _, _, _, by rw [hl]; exact numRes_none (by omega) (by omega), rfl, ?_⟩
    rw [if_pos (by omega)]
    exact .inr ⟨p129, 2, false, rfl, a131.lt, a131.get⟩
  ·have c107p := dec_f c107
   refine rn 8 ⟨.ops (p39_54_4 :: o39_54.drop 5), [.seq x39_55], (ss (E47 s bv9 t z i d9 d10 o15 o16 o17 o18 o19 o20 o21 o22 o23 o24 o25 o26 d27 d28 d29 d30 d31 d32 d33 d34 d35 d36 d37 d38 d39 d40 d41 d42 d43 d44 d45 d46 d47 d48 d49 d50 d51 d52 d53 d54 d55 d56) [(71, .str s), (72, iv ((s.length : Int))), (73, .str t), (74, iv ((t.length : Int)))]), [], h105, none⟩ ?_
   refine WpM.op (iv (((s.length : Int)) - ((t.length : Int)))) _ (by kernel_rfl) (arith_sub (by kernel_rfl) (by kernel_rfl) (by omega)) ?_
   refine rn 1 ⟨.ops (p39_54_6 :: o39_54.drop 7), [.seq x39_55], (ss (E47 s bv9 t z i d9 d10 o15 o16 o17 o18 o19 o20 o21 o22 o23 o24 o25 o26 d27 d28 d29 d30 d31 d32 d33 d34 d35 d36 d37 d38 d39 d40 d41 d42 d43 d44 d45 d46 d47 d48 d49 d50 d51 d52 d53 d54 d55 d56) [(71, .str s), (72, iv ((s.length : Int))), (73, .str t), (74, iv ((t.length : Int))), (75, iv (((s.length : Int)) - ((t.length : Int)))), (76, iv i)]), [], h105, none⟩ ?_
   refine WpM.op (iv ((((s.length : Int)) - ((t.length : Int))) + i)) _ (by kernel_rfl) (arith_add (by kernel_rfl) (by kernel_rfl) (by omega)) ?_
   refine rn 11 ⟨.ops (p39_57_5 :: o39_57.drop 6), [.seq x39_58, .seq x39_61], (ss (E48 s bv9 t z i d9 d10 0 o15 o16 o17 o18 o19 o20 o21 o22 o23 o24 o25 o26 d27 d28 d29 d30 d31 d32 d33 d34 d35 d36 d37 d38 d39 d40 d41 d42 d43 d44 d45 d46 d47 d48 d49 d50 d51 d52 d53 d54 d55 d56 0) [(13, .slice none 0 0 true), (67, U), (68, U), (69, U), (70, U)]), [], h105, none⟩ ?_
   refine WpM.guard (b := (decide (((((s.length : Int)) - ((t.length : Int))) + i) < ((s.length : Int))))) (by kernel_rfl) (fun c132 => ?_) (fun c132 => ?_)
   ·have c132p := dec_t c132
    refine rn 2 ⟨.ops (p39_57_7 :: o39_57.drop 8), [.seq x39_58, .seq x39_61], (ss (E48 s bv9 t z i d9 d10 0 o15 o16 o17 o18 o19 o20 o21 o22 o23 o24 o25 o26 d27 d28 d29 d30 d31 d32 d33 d34 d35 d36 d37 d38 d39 d40 d41 d42 d43 d44 d45 d46 d47 d48 d49 d50 d51 d52 d53 d54 d55 d56 0) [(13, .slice none 0 0 true), (67, U), (68, U), (69, U), (70, U), (82, .bool true), (83, .str s), (84, iv ((((s.length : Int)) - ((t.length : Int))) + i))]), [], h105, none⟩ ?_
    refine WpM.op (.int .u8 (bt s ((((s.length : Int)) - ((t.length : Int))) + i))) _ (by kernel_rfl) (index_str (k := .i64) (by kernel_rfl) (by kernel_rfl) (by kernel_rfl) (by omega)) ?_
    refine rn 4 ⟨.code x39_58, [.seq x39_61], (ss (E48 s bv9 t z i d9 d10 0 o15 o16 o17 o18 o19 o20 o21 o22 o23 o24 o25 o26 d27 d28 d29 d30 d31 d32 d33 d34 d35 d36 d37 d38 d39 d40 d41 d42 d43 d44 d45 d46 d47 d48 d49 d50 d51 d52 d53 d54 d55 d56 0) [(13, .slice none 0 0 true), (67, U), (68, U), (69, U), (70, U), (82, .bool true), (83, .str s), (84, iv ((((s.length : Int)) - ((t.length : Int))) + i)), (85, .int .u8 (bt s ((((s.length : Int)) - ((t.length : Int))) + i))), (86, .bool ((bt s ((((s.length : Int)) - ((t.length : Int))) + i)) == 59)), (87, .bool ((bt s ((((s.length : Int)) - ((t.length : Int))) + i)) == 59))]), [], h105, none⟩ ?_
    refine WpM.cond (t := ((bt s ((((s.length : Int)) - ((t.length : Int))) + i)) == 59)) (by kernel_rfl) (fun c133 => ?_) (fun c133 => ?_)
    ·have c133p := beq_t c133
     refine rn 4 ⟨.ops (p39_60_2 :: o39_60.drop 3), [.seq .ret, .seq x39_61], (ss (E48 s bv9 t z i d9 d10 0 o15 o16 o17 o18 o19 o20 o21 o22 o23 o24 o25 o26 d27 d28 d29 d30 d31 d32 d33 d34 d35 d36 d37 d38 d39 d40 d41 d42 d43 d44 d45 d46 d47 d48 d49 d50 d51 d52 d53 d54 d55 d56 0) [(13, .slice none 0 0 true), (67, U), (68, U), (69, U), (70, U), (82, .bool true), (83, .str s), (84, iv ((((s.length : Int)) - ((t.length : Int))) + i)), (85, .int .u8 (bt s ((((s.length : Int)) - ((t.length : Int))) + i))), (86, .bool ((bt s ((((s.length : Int)) - ((t.length : Int))) + i)) == 59)), (87, .bool ((bt s ((((s.length : Int)) - ((t.length : Int))) + i)) == 59)), (88, iv (numV z)), (89, iv ((((s.length : Int)) - ((t.length : Int))) + i))]), [], h105, none⟩ ?_
     refine WpM.op (iv (((((s.length : Int)) - ((t.length : Int))) + i) + 1)) _ (by kernel_rfl) (arith_add (by kernel_rfl) (by kernel_rfl) (by omega)) ?_
     refine rn 8 ⟨.done .ret, [], (E49 s z t i bv9 d9 d10 o15 o16 o17 o18 o19 o20 o21 o22 o23 o24 o25 o26 d27 d28 d29 d30 d31 d32 d33 d34 d35 d36 d37 d38 d39 d40 d41 d42 d43 d44 d45 d46 d47 d48 d49 d50 d51 d52 d53 d54 d55 d56), [], h105, none⟩ ?_
     refine WpM.ret (.tup [iv (numV z), iv (((((s.length : Int)) - ((t.length : Int))) + i) + 1), .slice none 0 0 true]) h105 (by kernel_rfl) (by kernel_rfl) ?_
     refine ⟨(hX.trans a106), _, _, _, _, by rw [hl]; exact numRes_semi (by omega) (by omega) (by omega), rfl, ?_⟩
     rw [if_neg (by omega)]
     exact .inl ⟨rfl, rfl⟩
    ·have c133p := beq_f c133
     refine rn 7 ⟨.ops (p39_62_3 :: o39_62.drop 4), [.seq .ret], (ss (E49 s z t i bv9 d9 d10 o15 o16 o17 o18 o19 o20 o21 o22 o23 o24 o25 o26 d27 d28 d29 d30 d31 d32 d33 d34 d35 d36 d37 d38 d39 d40 d41 d42 d43 d44 d45 d46 d47 d48 d49 d50 d51 d52 d53 d54 d55 d56) [(2, iv 0), (3, iv 0), (88, U), (89, U), (90, U), (91, U), (92, iv (numV z)), (93, iv ((((s.length : Int)) - ((t.length : Int))) + i)), (94, .slice none 0 0 true)]), [], h105, none⟩ ?_
     refine WpM.opA (fun p => .slice (nw p) 1 1 true) (.cells [iv 18] 3) (by kernel_rfl) (by kernel_rfl) (fun p134 h135 a136 => ?_)
     refine rn 0 ⟨.ops (p39_62_4 :: o39_62.drop 5), [.seq .ret], (ss (E49 s z t i bv9 d9 d10 o15 o16 o17 o18 o19 o20 o21 o22 o23 o24 o25 o26 d27 d28 d29 d30 d31 d32 d33 d34 d35 d36 d37 d38 d39 d40 d41 d42 d43 d44 d45 d46 d47 d48 d49 d50 d51 d52 d53 d54 d55 d56) [(2, iv 0), (3, iv 0), (88, U), (89, U), (90, U), (91, U), (92, iv (numV z)), (93, iv ((((s.length : Int)) - ((t.length : Int))) + i)), (94, .slice none 0 0 true), (95, .slice (nw p134) 1 1 true)]), [], h135, none⟩ ?_
     refine WpM.opA (fun p => .slice (nw p) 1 1 false) (.cells [iv 18] 3) (by kernel_rfl) (app_step (s := .slice none 0 0 true) (x := .slice (nw p134) 1 1 true) (by kernel_rfl) (by kernel_rfl) (app_op (at0 := 26) (at1 := 26) (e := 3) (size := 1) (bytes := 8) (n := 1) (z0 := iv 0) (nc := [iv 18]) (by kernel_rfl) (by kernel_rfl) (by kernel_rfl) (by kernel_rfl) rfl rfl rfl (first_at a136.get (by decide) (Nat.le_of_ble_eq_true rfl) (by kernel_rfl)) (app_nilR (by decide) rfl (by kernel_rfl) (by decide) (by decide)))) (fun p137 h138 a139 => ?_)
     refine rn 6 ⟨.done .ret, [], (ss (E49 s z t i bv9 d9 d10 o15 o16 o17 o18 o19 o20 o21 o22 o23 o24 o25 o26 d27 d28 d29 d30 d31 d32 d33 d34 d35 d36 d37 d38 d39 d40 d41 d42 d43 d44 d45 d46 d47 d48 d49 d50 d51 d52 d53 d54 d55 d56) [(3, iv ((((s.length : Int)) - ((t.length : Int))) + i)), (4, .slice (nw p137) 1 1 false), (88, U), (89, U), (90, U), (91, U), (92, iv (numV z)), (93, iv ((((s.length : Int)) - ((t.length : Int))) + i)), (94, .slice none 0 0 true), (95, .slice (nw p134) 1 1 true), (96, .slice (nw p137) 1 1 false)]), [], h138, none⟩ ?_
     refine WpM.ret (.tup [iv (numV z), iv ((((s.length : Int)) - ((t.length : Int))) + i), .slice (nw p137) 1 1 false]) h138 (by kernel_rfl) (by kernel_rfl) ?_
     refine ⟨(((hX.trans a106).alloc a136).alloc a139), _, _, _, _, by rw [hl]; exact numRes_none (by omega) (by omega), rfl, ?_⟩
     rw [if_neg (by omega)]
     exact .inr ⟨p137, 1, false, rfl, a139.lt, a139.get⟩
   ·have c132p := dec_f c132
    refine rn 15 ⟨.ops (p39_62_3 :: o39_62.drop 4), [.seq .ret], (ss (E48 s bv9 t z i d9 d10 0 o15 o16 o17 o18 o19 o20 o21 o22 o23 o24 o25 o26 d27 d28 d29 d30 d31 d32 d33 d34 d35 d36 d37 d38 d39 d40 d41 d42 d43 d44 d45 d46 d47 d48 d49 d50 d51 d52 d53 d54 d55 d56 0) [(13, .slice none 0 0 true), (67, U), (68, U), (69, U), (70, U), (82, .bool false), (87, .bool false), (92, iv (numV z)), (93, iv ((((s.length : Int)) - ((t.length : Int))) + i)), (94, .slice none 0 0 true)]), [], h105, none⟩ ?_
    refine WpM.opA (fun p => .slice (nw p) 1 1 true) (.cells [iv 18] 3) (by kernel_rfl) (by kernel_rfl) (fun p140 h141 a142 => ?_)
    refine rn 0 ⟨.ops (p39_62_4 :: o39_62.drop 5), [.seq .ret], (ss (E48 s bv9 t z i d9 d10 0 o15 o16 o17 o18 o19 o20 o21 o22 o23 o24 o25 o26 d27 d28 d29 d30 d31 d32 d33 d34 d35 d36 d37 d38 d39 d40 d41 d42 d43 d44 d45 d46 d47 d48 d49 d50 d51 d52 d53 d54 d55 d56 0) [(13, .slice none 0 0 true), (67, U), (68, U), (69, U), (70, U), (82, .bool false), (87, .bool false), (92, iv (numV z)), (93, iv ((((s.length : Int)) - ((t.length : Int))) + i)), (94, .slice none 0 0 true), (95, .slice (nw p140) 1 1 true)]), [], h141, none⟩ ?_
    refine WpM.opA (fun p => .slice (nw p) 1 1 false) (.cells [iv 18] 3) (by kernel_rfl) (app_step (s := .slice none 0 0 true) (x := .slice (nw p140) 1 1 true) (by kernel_rfl) (by kernel_rfl) (app_op (at0 := 26) (at1 := 26) (e := 3) (size := 1) (bytes := 8) (n := 1) (z0 := iv 0) (nc := [iv 18]) (by kernel_rfl) (by kernel_rfl) (by kernel_rfl) (by kernel_rfl) rfl rfl rfl (first_at a142.get (by decide) (Nat.le_of_ble_eq_true rfl) (by kernel_rfl)) (app_nilR (by decide) rfl (by kernel_rfl) (by decide) (by decide)))) (fun p143 h144 a145 => ?_)
    refine rn 6 ⟨.done .ret, [], (E50 s z t i p143 bv9 d9 d10 o15 o16 o17 o18 o19 o20 o21 o22 o23 o24 o25 o26 d27 d28 d29 d30 d31 d32 d33 d34 d35 d36 d37 d38 d39 d40 d41 d42 d43 d44 d45 d46 d47 d48 d49 d50 d51 d52 d53 d54 d55 d56 p140), [], h144, none⟩ ?_
    refine WpM.ret (.tup [iv (numV z), iv ((((s.length : Int)) - ((t.length : Int))) + i), .slice (nw p143) 1 1 false]) h144 (by kernel_rfl) (by kernel_rfl) ?_
    refine ⟨(((hX.trans a106).alloc a142).alloc a145), _, _, _, _, by rw [hl]; exact numRes_none (by omega) (by omega), rfl, ?_⟩
    rw [if_neg (by omega)]
    exact .inr ⟨p143, 1, false, rfl, a145.lt, a145.get⟩
def E51 (s : List UInt8) (t : List UInt8) (z : Int) (i : Int) (d9 : V) (d10 : V) (o15 : V) (o16 : V) (o17 : V) (o18 : V) (o19 : V) (o20 : V) (o21 : V) (o22 : V) (o23 : V) (o24 : V) (o25 : V) (o26 : V) (d31 : V) (d32 : V) (d33 : V) (d34 : V) (d35 : V) (d36 : V) (d37 : V) (d38 : V) (d39 : V) (d40 : V) (d41 : V) (d42 : V) (d43 : V) (d44 : V) (d45 : V) (d46 : V) (d47 : V) (d48 : V) (d49 : V) (d50 : V) (d51 : V) (d52 : V) (d53 : V) (d54 : V) (d55 : V) (d56 : V) : List V := (.str s :: U :: iv 0 :: iv 0 :: .slice none 0 0 true :: iv 10 :: .str t :: iv z :: iv i :: d9 :: d10 :: U :: U :: U :: U :: o15 :: o16 :: o17 :: o18 :: o19 :: o20 :: o21 :: o22 :: o23 :: o24 :: o25 :: o26 :: iv i :: .str t :: iv ((t.length : Int)) :: .bool (decide (i < ((t.length : Int)))) :: d31 :: d32 :: d33 :: d34 :: d35 :: d36 :: d37 :: d38 :: d39 :: d40 :: d41 :: d42 :: d43 :: d44 :: d45 :: d46 :: d47 :: d48 :: d49 :: d50 :: d51 :: d52 :: d53 :: d54 :: d55 :: d56 :: us 40)
def E52 (s : List UInt8) (t : List UInt8) (z : Int) (i : Int) (d10 : V) (o15 : V) (o16 : V) (o17 : V) (o18 : V) (o19 : V) (o20 : V) (o21 : V) (o22 : V) (o23 : V) (o24 : V) (o25 : V) (o26 : V) (d40 : V) (d41 : V) (d42 : V) (d43 : V) (d44 : V) (d45 : V) (d46 : V) (d47 : V) (d48 : V) (d49 : V) (d50 : V) (d51 : V) (d52 : V) (d53 : V) (d54 : V) (d55 : V) (d56 : V) : List V := (.str s :: U :: iv 0 :: iv 0 :: .slice none 0 0 true :: iv 10 :: .str t :: iv z :: iv i :: .int .u8 (bt t i) :: d10 :: U :: U :: U :: U :: o15 :: o16 :: o17 :: o18 :: o19 :: o20 :: o21 :: o22 :: o23 :: o24 :: o25 :: o26 :: iv i :: .str t :: iv ((t.length : Int)) :: .bool (decide (i < ((t.length : Int)))) :: .str t :: iv i :: .int .u8 (bt t i) :: .int .u8 (bt t i) :: .bool (decide ((bt t i) ≥ 65)) :: .bool true :: .int .u8 (bt t i) :: .bool (decide ((bt t i) ≤ 70)) :: .bool (decide ((bt t i) ≤ 70)) :: d40 :: d41 :: d42 :: d43 :: d44 :: d45 :: d46 :: d47 :: d48 :: d49 :: d50 :: d51 :: d52 :: d53 :: d54 :: d55 :: d56 :: us 40)
def E53 (s : List UInt8) (t : List UInt8) (z : Int) (i : Int) (o15 : V) (o16 : V) (o17 : V) (o18 : V) (o19 : V) (o20 : V) (o21 : V) (o22 : V) (o23 : V) (o24 : V) (o25 : V) (o26 : V) (d48 : V) (d49 : V) (d50 : V) (d51 : V) (d52 : V) (d53 : V) (d54 : V) (d55 : V) (d56 : V) : List V := (.str s :: U :: iv 0 :: iv 0 :: .slice none 0 0 true :: iv 10 :: .str t :: iv z :: iv i :: .int .u8 (IntKind.wrap .u8 (BitVec.ofInt (IntKind.bits .u8) (bt t i) ||| BitVec.ofInt (IntKind.bits .u8) 32).toNat) :: iv (dgt false (bt t i)) :: U :: U :: U :: U :: o15 :: o16 :: o17 :: o18 :: o19 :: o20 :: o21 :: o22 :: o23 :: o24 :: o25 :: o26 :: iv i :: .str t :: iv ((t.length : Int)) :: .bool (decide (i < ((t.length : Int)))) :: .str t :: iv i :: .int .u8 (bt t i) :: .int .u8 (bt t i) :: .bool (decide ((bt t i) ≥ 65)) :: .bool true :: .int .u8 (bt t i) :: .bool (decide ((bt t i) ≤ 70)) :: .bool (decide ((bt t i) ≤ 70)) :: .int .u8 (bt t i) :: .int .u8 (IntKind.wrap .u8 (BitVec.ofInt (IntKind.bits .u8) (bt t i) ||| BitVec.ofInt (IntKind.bits .u8) 32).toNat) :: iv 10 :: .str k_0123456789 :: .int .u8 (IntKind.wrap .u8 (BitVec.ofInt (IntKind.bits .u8) (bt t i) ||| BitVec.ofInt (IntKind.bits .u8) 32).toNat) :: iv (dgt false (bt t i)) :: iv (dgt false (bt t i)) :: .bool (decide ((dgt false (bt t i)) < 0)) :: d48 :: d49 :: d50 :: d51 :: d52 :: d53 :: d54 :: d55 :: d56 :: us 40)
def E54 (s : List UInt8) (t : List UInt8) (z : Int) (i : Int) (o15 : V) (o16 : V) (o17 : V) (o18 : V) (o19 : V) (o20 : V) (o21 : V) (o22 : V) (o23 : V) (o24 : V) (o25 : V) (o26 : V) (d40 : V) (d41 : V) (d56 : V) : List V := (.str s :: U :: iv 0 :: iv 0 :: .slice none 0 0 true :: iv 10 :: .str t :: iv ((z * 10) + (dgt false (bt t i))) :: iv i :: .int .u8 (bt t i) :: iv (dgt false (bt t i)) :: U :: U :: U :: U :: o15 :: o16 :: o17 :: o18 :: o19 :: o20 :: o21 :: o22 :: o23 :: o24 :: o25 :: o26 :: iv i :: .str t :: iv ((t.length : Int)) :: .bool (decide (i < ((t.length : Int)))) :: .str t :: iv i :: .int .u8 (bt t i) :: .int .u8 (bt t i) :: .bool (decide ((bt t i) ≥ 65)) :: .bool false :: U :: U :: .bool false :: d40 :: d41 :: iv 10 :: .str k_0123456789 :: .int .u8 (bt t i) :: iv (dgt false (bt t i)) :: iv (dgt false (bt t i)) :: .bool (decide ((dgt false (bt t i)) < 0)) :: iv z :: .bool (decide (z < 16777216)) :: iv z :: iv 10 :: iv (z * 10) :: iv (dgt false (bt t i)) :: iv ((z * 10) + (dgt false (bt t i))) :: iv i :: d56 :: us 40)
theorem num_loop10 {W : World} {s t : List UInt8} {l : Int} {h0 : H} {o15 o16 o17 o18 o19 o20 o21 o22 o23 o24 o25 o26 : V} (hs : s.length ≤ 140737488351232) (hts : t.length ≤ s.length) (hl : l = (s.length : Int) - (t.length : Int)) (nn : Nat) : ∀ (i : Int) (h : H) (z : Int) (d9 d10 d27 d28 d29 d30 d31 d32 d33 d34 d35 d36 d37 d38 d39 d40 d41 d42 d43 d44 d45 d46 d47 d48 d49 d50 d51 d52 d53 d54 d55 d56 : V), nn = ((t.length : Int) - i).toNat → (0 ≤ i) → (i ≤ (t.length : Int)) → (0 ≤ z) → (z ≤ 268435471) → (dscan false (t.drop i.toNat) (i, z) = dscan false t (0, 0)) → (HX h0 h) → WpM Tryd.prog W prim2 ⟨.code x39_14, [.loop x39_14, .blk 0, .seq x39_38], (.str s :: U :: iv 0 :: iv 0 :: .slice none 0 0 true :: iv 10 :: .str t :: iv z :: iv i :: d9 :: d10 :: U :: U :: U :: U :: o15 :: o16 :: o17 :: o18 :: o19 :: o20 :: o21 :: o22 :: o23 :: o24 :: o25 :: o26 :: d27 :: d28 :: d29 :: d30 :: d31 :: d32 :: d33 :: d34 :: d35 :: d36 :: d37 :: d38 :: d39 :: d40 :: d41 :: d42 :: d43 :: d44 :: d45 :: d46 :: d47 :: d48 :: d49 :: d50 :: d51 :: d52 :: d53 :: d54 :: d55 :: d56 :: us 40), [], h, none⟩ (retQ Tryd.prog W [.tmp 2, .tmp 3, .tmp 4] (fun v h' => HX h0 h' ∧ ∃ r e cs w, numRes s l (dscan false t (0, 0)) = (r, e, cs) ∧ v = .tup [iv r, iv e, w] ∧ CodesAt h' w cs)) := by
 induction nn using Nat.strongRecOn with
 | _ nn ih =>
  intro i h z d9 d10 d27 d28 d29 d30 d31 d32 d33 d34 d35 d36 d37 d38 d39 d40 d41 d42 d43 d44 d45 d46 d47 d48 d49 d50 d51 d52 d53 d54 d55 d56 hn9 h0i h1i hn0 hn1 hA hX
  have hbt := bt_range t i
  have hdg := dgt_range false (bt t i)
  have hba : dbase false = 10 := rfl
  skip
  refine rn 9 ⟨.code x39_17, [.seq x39_18, .loop x39_14, .blk 0, .seq x39_38], (E51 s t z i d9 d10 o15 o16 o17 o18 o19 o20 o21 o22 o23 o24 o25 o26 d31 d32 d33 d34 d35 d36 d37 d38 d39 d40 d41 d42 d43 d44 d45 d46 d47 d48 d49 d50 d51 d52 d53 d54 d55 d56), [], h, none⟩ ?_
  refine WpM.cond (t := (decide (i < ((t.length : Int))))) (by kernel_rfl) (fun c101 => ?_) (fun c101 => ?_)
  ·have c101p := dec_t c101
   refine rn 7 ⟨.ops (p39_20_2 :: o39_20.drop 3), [.seq x39_21, .blk 1, .loop x39_14, .blk 0, .seq x39_38], (ss (E51 s t z i d9 d10 o15 o16 o17 o18 o19 o20 o21 o22 o23 o24 o25 o26 d31 d32 d33 d34 d35 d36 d37 d38 d39 d40 d41 d42 d43 d44 d45 d46 d47 d48 d49 d50 d51 d52 d53 d54 d55 d56) [(31, .str t), (32, iv i)]), [], h, none⟩ ?_
   refine WpM.op (.int .u8 (bt t i)) _ (by kernel_rfl) (index_str (k := .i64) (by kernel_rfl) (by kernel_rfl) (by kernel_rfl) (by omega)) ?_
   refine rn 9 ⟨.ops (p39_23_3 :: o39_23.drop 4), [.seq x39_24, .seq x39_26, .blk 1, .loop x39_14, .blk 0, .seq x39_38], (ss (E51 s t z i d9 d10 o15 o16 o17 o18 o19 o20 o21 o22 o23 o24 o25 o26 d31 d32 d33 d34 d35 d36 d37 d38 d39 d40 d41 d42 d43 d44 d45 d46 d47 d48 d49 d50 d51 d52 d53 d54 d55 d56) [(9, .int .u8 (bt t i)), (31, .str t), (32, iv i), (33, .int .u8 (bt t i)), (34, .int .u8 (bt t i)), (35, .bool (decide ((bt t i) ≥ 65))), (36, .bool (decide ((bt t i) ≥ 65)))]), [], h, none⟩ ?_
   refine WpM.guard (b := (decide ((bt t i) ≥ 65))) (by kernel_rfl) (fun c102 => ?_) (fun c102 => ?_)
   ·have c102p := dec_t c102
    refine rn 5 ⟨.code x39_24, [.seq x39_26, .blk 1, .loop x39_14, .blk 0, .seq x39_38], (E52 s t z i d10 o15 o16 o17 o18 o19 o20 o21 o22 o23 o24 o25 o26 d40 d41 d42 d43 d44 d45 d46 d47 d48 d49 d50 d51 d52 d53 d54 d55 d56), [], h, none⟩ ?_
    refine WpM.cond (t := (decide ((bt t i) ≤ 70))) (by kernel_rfl) (fun c103 => ?_) (fun c103 => ?_)
    ·have c103p := dec_t c103
     refine rn 11 ⟨.ops (p39_27_3 :: o39_27.drop 4), [.seq x39_28, .blk 1, .loop x39_14, .blk 0, .seq x39_38], (ss (E52 s t z i d10 o15 o16 o17 o18 o19 o20 o21 o22 o23 o24 o25 o26 d40 d41 d42 d43 d44 d45 d46 d47 d48 d49 d50 d51 d52 d53 d54 d55 d56) [(9, .int .u8 (IntKind.wrap .u8 (BitVec.ofInt (IntKind.bits .u8) (bt t i) ||| BitVec.ofInt (IntKind.bits .u8) 32).toNat)), (40, .int .u8 (bt t i)), (41, .int .u8 (IntKind.wrap .u8 (BitVec.ofInt (IntKind.bits .u8) (bt t i) ||| BitVec.ofInt (IntKind.bits .u8) 32).toNat)), (42, iv 10), (43, .str k_0123456789), (44, .int .u8 (IntKind.wrap .u8 (BitVec.ofInt (IntKind.bits .u8) (bt t i) ||| BitVec.ofInt (IntKind.bits .u8) 32).toNat))]), [], h, none⟩ ?_
     refine WpM.givenQ (f := 30) (args := [.str k_0123456789, .int .u8 (IntKind.wrap .u8 (BitVec.ofInt (IntKind.bits .u8) (bt t i) ||| BitVec.ofInt (IntKind.bits .u8) 32).toNat)]) (q := q30) (iv (dgt false (bt t i))) (by kernel_rfl) (by kernel_rfl) (by kernel_rfl) (by simp only [q30]; exact congrArg (fun z => some (V.int .i64 z)) (idx_low (by omega) (by omega)).2) ?_
     refine rn 10 ⟨.code x39_31, [.seq x39_32, .blk 1, .loop x39_14, .blk 0, .seq x39_38], (E53 s t z i o15 o16 o17 o18 o19 o20 o21 o22 o23 o24 o25 o26 d48 d49 d50 d51 d52 d53 d54 d55 d56), [], h, none⟩ ?_
     refine WpM.cond (t := (decide ((dgt false (bt t i)) < 0))) (by kernel_rfl) (fun c104 => ?_) (fun c104 => ?_)
     ·have c104p := dec_t c104
      refine rn 5 ⟨.done .norm, [.seq x39_38], (E53 s t z i o15 o16 o17 o18 o19 o20 o21 o22 o23 o24 o25 o26 d48 d49 d50 d51 d52 d53 d54 d55 d56), [], h, none⟩ ?_
      have hB : (i, z) = dscan false t (0, 0) := (by first | exact (scan_end (by omega)).symm.trans hA | exact (scan_stop h0i (by omega) (by omega)).symm.trans hA)
      rw [← hB]
      exact num_rest hs hts hl h0i h1i hX
     ·have c104p := dec_f c104
      refine rn 9 ⟨.code x39_35, [.seq x39_37, .blk 1, .loop x39_14, .blk 0, .seq x39_38], (ss (E53 s t z i o15 o16 o17 o18 o19 o20 o21 o22 o23 o24 o25 o26 d48 d49 d50 d51 d52 d53 d54 d55 d56) [(48, iv z), (49, .bool (decide (z < 16777216)))]), [], h, none⟩ ?_
      refine WpM.cond (t := (decide (z < 16777216))) (by kernel_rfl) (fun c105 => ?_) (fun c105 => ?_)
      ·have c105p := dec_t c105
       refine rn 3 ⟨.ops (p39_36_2 :: o39_36.drop 3), [.seq x39_37, .blk 1, .loop x39_14, .blk 0, .seq x39_38], (ss (E53 s t z i o15 o16 o17 o18 o19 o20 o21 o22 o23 o24 o25 o26 d48 d49 d50 d51 d52 d53 d54 d55 d56) [(48, iv z), (49, .bool (decide (z < 16777216))), (50, iv z), (51, iv 10)]), [], h, none⟩ ?_
       refine WpM.op (iv (z * 10)) _ (by kernel_rfl) (arith_mul (by kernel_rfl) (by kernel_rfl) (by omega)) ?_
       refine rn 1 ⟨.ops (p39_36_4 :: o39_36.drop 5), [.seq x39_37, .blk 1, .loop x39_14, .blk 0, .seq x39_38], (ss (E53 s t z i o15 o16 o17 o18 o19 o20 o21 o22 o23 o24 o25 o26 d48 d49 d50 d51 d52 d53 d54 d55 d56) [(48, iv z), (49, .bool (decide (z < 16777216))), (50, iv z), (51, iv 10), (52, iv (z * 10)), (53, iv (dgt false (bt t i)))]), [], h, none⟩ ?_
       refine WpM.op (iv ((z * 10) + (dgt false (bt t i)))) _ (by kernel_rfl) (arith_add (by kernel_rfl) (by kernel_rfl) (by omega)) ?_
       refine rn 5 ⟨.ops (p39_37_1 :: o39_37.drop 2), [.blk 1, .loop x39_14, .blk 0, .seq x39_38], (ss (E53 s t z i o15 o16 o17 o18 o19 o20 o21 o22 o23 o24 o25 o26 d48 d49 d50 d51 d52 d53 d54 d55 d56) [(7, iv ((z * 10) + (dgt false (bt t i)))), (48, iv z), (49, .bool (decide (z < 16777216))), (50, iv z), (51, iv 10), (52, iv (z * 10)), (53, iv (dgt false (bt t i))), (54, iv ((z * 10) + (dgt false (bt t i)))), (55, iv i)]), [], h, none⟩ ?_
       refine WpM.op (iv (i + 1)) _ (by kernel_rfl) (arith_add (by kernel_rfl) (by kernel_rfl) (by omega)) ?_
       refine rn 4 ⟨.code x39_14, [.loop x39_14, .blk 0, .seq x39_38], (.str s :: U :: iv 0 :: iv 0 :: .slice none 0 0 true :: iv 10 :: .str t :: iv ((z * 10) + (dgt false (bt t i))) :: iv (i + 1) :: .int .u8 (IntKind.wrap .u8 (BitVec.ofInt (IntKind.bits .u8) (bt t i) ||| BitVec.ofInt (IntKind.bits .u8) 32).toNat) :: iv (dgt false (bt t i)) :: U :: U :: U :: U :: o15 :: o16 :: o17 :: o18 :: o19 :: o20 :: o21 :: o22 :: o23 :: o24 :: o25 :: o26 :: iv i :: .str t :: iv ((t.length : Int)) :: .bool (decide (i < ((t.length : Int)))) :: .str t :: iv i :: .int .u8 (bt t i) :: .int .u8 (bt t i) :: .bool (decide ((bt t i) ≥ 65)) :: .bool true :: .int .u8 (bt t i) :: .bool (decide ((bt t i) ≤ 70)) :: .bool (decide ((bt t i) ≤ 70)) :: .int .u8 (bt t i) :: .int .u8 (IntKind.wrap .u8 (BitVec.ofInt (IntKind.bits .u8) (bt t i) ||| BitVec.ofInt (IntKind.bits .u8) 32).toNat) :: iv 10 :: .str k_0123456789 :: .int .u8 (IntKind.wrap .u8 (BitVec.ofInt (IntKind.bits .u8) (bt t i) ||| BitVec.ofInt (IntKind.bits .u8) 32).toNat) :: iv (dgt false (bt t i)) :: iv (dgt false (bt t i)) :: .bool (decide ((dgt false (bt t i)) < 0)) :: iv z :: .bool (decide (z < 16777216)) :: iv z :: iv 10 :: iv (z * 10) :: iv (dgt false (bt t i)) :: iv ((z * 10) + (dgt false (bt t i))) :: iv i :: iv (i + 1) :: us 40), [], h, none⟩ ?_
       refine ih _ ?_ _ h ((z * 10) + (dgt false (bt t i))) _ _ _ _ _ _ _ _ _ _ _ _ _ _ _ _ _ _ _ _ _ _ _ _ _ _ _ _ _ _ _ _ rfl ?_ ?_ ?_ ?_ ?_ ?_
       ·omega
       ·omega
       ·omega
       ·omega
       ·omega
       ·rw [scan_step h0i (by omega) (by omega), if_pos (by omega)] at hA
        rw [← hA]
        all_goals rfl
       ·exact hX
      ·have c105p := dec_f c105
       refine rn 4 ⟨.ops (p39_37_1 :: o39_37.drop 2), [.blk 1, .loop x39_14, .blk 0, .seq x39_38], (ss (E53 s t z i o15 o16 o17 o18 o19 o20 o21 o22 o23 o24 o25 o26 d48 d49 d50 d51 d52 d53 d54 d55 d56) [(48, iv z), (49, .bool (decide (z < 16777216))), (55, iv i)]), [], h, none⟩ ?_
       refine WpM.op (iv (i + 1)) _ (by kernel_rfl) (arith_add (by kernel_rfl) (by kernel_rfl) (by omega)) ?_
       refine rn 4 ⟨.code x39_14, [.loop x39_14, .blk 0, .seq x39_38], (.str s :: U :: iv 0 :: iv 0 :: .slice none 0 0 true :: iv 10 :: .str t :: iv z :: iv (i + 1) :: .int .u8 (IntKind.wrap .u8 (BitVec.ofInt (IntKind.bits .u8) (bt t i) ||| BitVec.ofInt (IntKind.bits .u8) 32).toNat) :: iv (dgt false (bt t i)) :: U :: U :: U :: U :: o15 :: o16 :: o17 :: o18 :: o19 :: o20 :: o21 :: o22 :: o23 :: o24 :: o25 :: o26 :: iv i :: .str t :: iv ((t.length : Int)) :: .bool (decide (i < ((t.length : Int)))) :: .str t :: iv i :: .int .u8 (bt t i) :: .int .u8 (bt t i) :: .bool (decide ((bt t i) ≥ 65)) :: .bool true :: .int .u8 (bt t i) :: .bool (decide ((bt t i) ≤ 70)) :: .bool (decide ((bt t i) ≤ 70)) :: .int .u8 (bt t i) :: .int .u8 (IntKind.wrap .u8 (BitVec.ofInt (IntKind.bits .u8) (bt t i) ||| BitVec.ofInt (IntKind.bits .u8) 32).toNat) :: iv 10 :: .str k_0123456789 :: .int .u8 (IntKind.wrap .u8 (BitVec.ofInt (IntKind.bits .u8) (bt t i) ||| BitVec.ofInt (IntKind.bits .u8) 32).toNat) :: iv (dgt false (bt t i)) :: iv (dgt false (bt t i)) :: .bool (decide ((dgt false (bt t i)) < 0)) :: iv z :: .bool (decide (z < 16777216)) :: d50 :: d51 :: d52 :: d53 :: d54 :: iv i :: iv (i + 1) :: us 40), [], h, none⟩ ?_
       refine ih _ ?_ _ h z _ _ _ _ _ _ _ _ _ _ _ _ _ _ _ _ _ _ _ _ _ _ _ _ _ _ _ _ _ _ _ _ rfl ?_ ?_ ?_ ?_ ?_ ?_
       ·omega
       ·omega
       ·omega
       ·omega
       ·omega
       ·rw [scan_step h0i (by omega) (by omega), if_neg (by omega)] at hA
        rw [← hA]
        all_goals rfl
       ·exact hX
    ·have c103p := dec_f c103
     refine rn 7 ⟨.ops (p39_27_3 :: o39_27.drop 4), [.seq x39_28, .blk 1, .loop x39_14, .blk 0, .seq x39_38], (ss (E52 s t z i d10 o15 o16 o17 o18 o19 o20 o21 o22 o23 o24 o25 o26 d40 d41 d42 d43 d44 d45 d46 d47 d48 d49 d50 d51 d52 d53 d54 d55 d56) [(42, iv 10), (43, .str k_0123456789), (44, .int .u8 (bt t i))]), [], h, none⟩ ?_
     refine WpM.givenQ (f := 30) (args := [.str k_0123456789, .int .u8 (bt t i)]) (q := q30) (iv (dgt false (bt t i))) (by kernel_rfl) (by kernel_rfl) (by kernel_rfl) (by simp only [q30]; exact congrArg (fun z => some (V.int .i64 z)) (idx_plain (by omega) (by omega) (by omega)).2) ?_
     refine rn 10 ⟨.code x39_31, [.seq x39_32, .blk 1, .loop x39_14, .blk 0, .seq x39_38], (ss (E53 s t z i o15 o16 o17 o18 o19 o20 o21 o22 o23 o24 o25 o26 d48 d49 d50 d51 d52 d53 d54 d55 d56) [(9, .int .u8 (bt t i)), (40, d40), (41, d41), (44, .int .u8 (bt t i))]), [], h, none⟩ ?_
     refine WpM.cond (t := (decide ((dgt false (bt t i)) < 0))) (by kernel_rfl) (fun c106 => ?_) (fun c106 => ?_)
     ·have c106p := dec_t c106
      refine rn 5 ⟨.done .norm, [.seq x39_38], (ss (E53 s t z i o15 o16 o17 o18 o19 o20 o21 o22 o23 o24 o25 o26 d48 d49 d50 d51 d52 d53 d54 d55 d56) [(9, .int .u8 (bt t i)), (40, d40), (41, d41), (44, .int .u8 (bt t i))]), [], h, none⟩ ?_
      have hB : (i, z) = dscan false t (0, 0) := (by first | exact (scan_end (by omega)).symm.trans hA | exact (scan_stop h0i (by omega) (by omega)).symm.trans hA)
      rw [← hB]
      exact num_rest hs hts hl h0i h1i hX
     ·have c106p := dec_f c106
      refine rn 9 ⟨.code x39_35, [.seq x39_37, .blk 1, .loop x39_14, .blk 0, .seq x39_38], (ss (E53 s t z i o15 o16 o17 o18 o19 o20 o21 o22 o23 o24 o25 o26 d48 d49 d50 d51 d52 d53 d54 d55 d56) [(9, .int .u8 (bt t i)), (40, d40), (41, d41), (44, .int .u8 (bt t i)), (48, iv z), (49, .bool (decide (z < 16777216)))]), [], h, none⟩ ?_
      refine WpM.cond (t := (decide (z < 16777216))) (by kernel_rfl) (fun c107 => ?_) (fun c107 => ?_)
      ·have c107p := dec_t c107
       refine rn 3 ⟨.ops (p39_36_2 :: o39_36.drop 3), [.seq x39_37, .blk 1, .loop x39_14, .blk 0, .seq x39_38], (ss (E53 s t z i o15 o16 o17 o18 o19 o20 o21 o22 o23 o24 o25 o26 d48 d49 d50 d51 d52 d53 d54 d55 d56) [(9, .int .u8 (bt t i)), (40, d40), (41, d41), (44, .int .u8 (bt t i)), (48, iv z), (49, .bool (decide (z < 16777216))), (50, iv z), (51, iv 10)]), [], h, none⟩ ?_
       refine WpM.op (iv (z * 10)) _ (by kernel_rfl) (arith_mul (by kernel_rfl) (by kernel_rfl) (by omega)) ?_
       refine rn 1 ⟨.ops (p39_36_4 :: o39_36.drop 5), [.seq x39_37, .blk 1, .loop x39_14, .blk 0, .seq x39_38], (ss (E53 s t z i o15 o16 o17 o18 o19 o20 o21 o22 o23 o24 o25 o26 d48 d49 d50 d51 d52 d53 d54 d55 d56) [(9, .int .u8 (bt t i)), (40, d40), (41, d41), (44, .int .u8 (bt t i)), (48, iv z), (49, .bool (decide (z < 16777216))), (50, iv z), (51, iv 10), (52, iv (z * 10)), (53, iv (dgt false (bt t i)))]), [], h, none⟩ ?_
       refine WpM.op (iv ((z * 10) + (dgt false (bt t i)))) _ (by kernel_rfl) (arith_add (by kernel_rfl) (by kernel_rfl) (by omega)) ?_
       refine rn 5 ⟨.ops (p39_37_1 :: o39_37.drop 2), [.blk 1, .loop x39_14, .blk 0, .seq x39_38], (ss (E53 s t z i o15 o16 o17 o18 o19 o20 o21 o22 o23 o24 o25 o26 d48 d49 d50 d51 d52 d53 d54 d55 d56) [(7, iv ((z * 10) + (dgt false (bt t i)))), (9, .int .u8 (bt t i)), (40, d40), (41, d41), (44, .int .u8 (bt t i)), (48, iv z), (49, .bool (decide (z < 16777216))), (50, iv z), (51, iv 10), (52, iv (z * 10)), (53, iv (dgt false (bt t i))), (54, iv ((z * 10) + (dgt false (bt t i)))), (55, iv i)]), [], h, none⟩ ?_
       refine WpM.op (iv (i + 1)) _ (by kernel_rfl) (arith_add (by kernel_rfl) (by kernel_rfl) (by omega)) ?_
       refine rn 4 ⟨.code x39_14, [.loop x39_14, .blk 0, .seq x39_38], (.str s :: U :: iv 0 :: iv 0 :: .slice none 0 0 true :: iv 10 :: .str t :: iv ((z * 10) + (dgt false (bt t i))) :: iv (i + 1) :: .int .u8 (bt t i) :: iv (dgt false (bt t i)) :: U :: U :: U :: U :: o15 :: o16 :: o17 :: o18 :: o19 :: o20 :: o21 :: o22 :: o23 :: o24 :: o25 :: o26 :: iv i :: .str t :: iv ((t.length : Int)) :: .bool (decide (i < ((t.length : Int)))) :: .str t :: iv i :: .int .u8 (bt t i) :: .int .u8 (bt t i) :: .bool (decide ((bt t i) ≥ 65)) :: .bool true :: .int .u8 (bt t i) :: .bool (decide ((bt t i) ≤ 70)) :: .bool (decide ((bt t i) ≤ 70)) :: d40 :: d41 :: iv 10 :: .str k_0123456789 :: .int .u8 (bt t i) :: iv (dgt false (bt t i)) :: iv (dgt false (bt t i)) :: .bool (decide ((dgt false (bt t i)) < 0)) :: iv z :: .bool (decide (z < 16777216)) :: iv z :: iv 10 :: iv (z * 10) :: iv (dgt false (bt t i)) :: iv ((z * 10) + (dgt false (bt t i))) :: iv i :: iv (i + 1) :: us 40), [], h, none⟩ ?_
       refine ih _ ?_ _ h ((z * 10) + (dgt false (bt t i))) _ _ _ _ _ _ _ _ _ _ _ _ _ _ _ _ _ _ _ _ _ _ _ _ _ _ _ _ _ _ _ _ rfl ?_ ?_ ?_ ?_ ?_ ?_
       ·omega
       ·omega
       ·omega
       ·omega
       ·omega
       ·rw [scan_step h0i (by omega) (by omega), if_pos (by omega)] at hA
        rw [← hA]
        all_goals rfl
       ·exact hX
      ·have c107p := dec_f c107
       refine rn 4 ⟨.ops (p39_37_1 :: o39_37.drop 2), [.blk 1, .loop x39_14, .blk 0, .seq x39_38], (ss (E53 s t z i o15 o16 o17 o18 o19 o20 o21 o22 o23 o24 o25 o26 d48 d49 d50 d51 d52 d53 d54 d55 d56) [(9, .int .u8 (bt t i)), (40, d40), (41, d41), (44, .int .u8 (bt t i)), (48, iv z), (49, .bool (decide (z < 16777216))), (55, iv i)]), [], h, none⟩ ?_
       refine WpM.op (iv (i + 1)) _ (by kernel_rfl) (arith_add (by kernel_rfl) (by kernel_rfl) (by omega)) ?_
       refine rn 4 ⟨.code x39_14, [.loop x39_14, .blk 0, .seq x39_38], (.str s :: U :: iv 0 :: iv 0 :: .slice none 0 0 true :: iv 10 :: .str t :: iv z :: iv (i + 1) :: .int .u8 (bt t i) :: iv (dgt false (bt t i)) :: U :: U :: U :: U :: o15 :: o16 :: o17 :: o18 :: o19 :: o20 :: o21 :: o22 :: o23 :: o24 :: o25 :: o26 :: iv i :: .str t :: iv ((t.length : Int)) :: .bool (decide (i < ((t.length : Int)))) :: .str t :: iv i :: .int .u8 (bt t i) :: .int .u8 (bt t i) :: .bool (decide ((bt t i) ≥ 65)) :: .bool true :: .int .u8 (bt t i) :: .bool (decide ((bt t i) ≤ 70)) :: .bool (decide ((bt t i) ≤ 70)) :: d40 :: d41 :: iv 10 :: .str k_0123456789 :: .int .u8 (bt t i) :: iv (dgt false (bt t i)) :: iv (dgt false (bt t i)) :: .bool (decide ((dgt false (bt t i)) < 0)) :: iv z :: .bool (decide (z < 16777216)) :: d50 :: d51 :: d52 :: d53 :: d54 :: iv i :: iv (i + 1) :: us 40), [], h, none⟩ ?_
       refine ih _ ?_ _ h z _ _ _ _ _ _ _ _ _ _ _ _ _ _ _ _ _ _ _ _ _ _ _ _ _ _ _ _ _ _ _ _ rfl ?_ ?_ ?_ ?_ ?_ ?_
       ·omega
       ·omega
       ·omega
       ·omega
       ·omega
       ·rw [scan_step h0i (by omega) (by omega), if_neg (by omega)] at hA
        rw [← hA]
        all_goals rfl
       ·exact hX
   ·have c102p := dec_f c102
    refine rn 13 ⟨.ops (p39_27_3 :: o39_27.drop 4), [.seq x39_28, .blk 1, .loop x39_14, .blk 0, .seq x39_38], (ss (E52 s t z i d10 o15 o16 o17 o18 o19 o20 o21 o22 o23 o24 o25 o26 d40 d41 d42 d43 d44 d45 d46 d47 d48 d49 d50 d51 d52 d53 d54 d55 d56) [(36, .bool false), (37, U), (38, U), (39, .bool false), (42, iv 10), (43, .str k_0123456789), (44, .int .u8 (bt t i))]), [], h, none⟩ ?_
    refine WpM.givenQ (f := 30) (args := [.str k_0123456789, .int .u8 (bt t i)]) (q := q30) (iv (dgt false (bt t i))) (by kernel_rfl) (by kernel_rfl) (by kernel_rfl) (by simp only [q30]; exact congrArg (fun z => some (V.int .i64 z)) (idx_plain (by omega) (by omega) (by omega)).2) ?_
    refine rn 10 ⟨.code x39_31, [.seq x39_32, .blk 1, .loop x39_14, .blk 0, .seq x39_38], (ss (E53 s t z i o15 o16 o17 o18 o19 o20 o21 o22 o23 o24 o25 o26 d48 d49 d50 d51 d52 d53 d54 d55 d56) [(9, .int .u8 (bt t i)), (36, .bool false), (37, U), (38, U), (39, .bool false), (40, d40), (41, d41), (44, .int .u8 (bt t i))]), [], h, none⟩ ?_
    refine WpM.cond (t := (decide ((dgt false (bt t i)) < 0))) (by kernel_rfl) (fun c108 => ?_) (fun c108 => ?_)
    ·have c108p := dec_t c108
     refine rn 5 ⟨.done .norm, [.seq x39_38], (ss (E53 s t z i o15 o16 o17 o18 o19 o20 o21 o22 o23 o24 o25 o26 d48 d49 d50 d51 d52 d53 d54 d55 d56) [(9, .int .u8 (bt t i)), (36, .bool false), (37, U), (38, U), (39, .bool false), (40, d40), (41, d41), (44, .int .u8 (bt t i))]), [], h, none⟩ ?_
     have hB : (i, z) = dscan false t (0, 0) := (by first | exact (scan_end (by omega)).symm.trans hA | exact (scan_stop h0i (by omega) (by omega)).symm.trans hA)
     rw [← hB]
     exact num_rest hs hts hl h0i h1i hX
    ·have c108p := dec_f c108
     refine rn 9 ⟨.code x39_35, [.seq x39_37, .blk 1, .loop x39_14, .blk 0, .seq x39_38], (ss (E53 s t z i o15 o16 o17 o18 o19 o20 o21 o22 o23 o24 o25 o26 d48 d49 d50 d51 d52 d53 d54 d55 d56) [(9, .int .u8 (bt t i)), (36, .bool false), (37, U), (38, U), (39, .bool false), (40, d40), (41, d41), (44, .int .u8 (bt t i)), (48, iv z), (49, .bool (decide (z < 16777216)))]), [], h, none⟩ ?_
     refine WpM.cond (t := (decide (z < 16777216))) (by kernel_rfl) (fun c109 => ?_) (fun c109 => ?_)
     ·have c109p := dec_t c109
      refine rn 3 ⟨.ops (p39_36_2 :: o39_36.drop 3), [.seq x39_37, .blk 1, .loop x39_14, .blk 0, .seq x39_38], (ss (E53 s t z i o15 o16 o17 o18 o19 o20 o21 o22 o23 o24 o25 o26 d48 d49 d50 d51 d52 d53 d54 d55 d56) [(9, .int .u8 (bt t i)), (36, .bool false), (37, U), (38, U), (39, .bool false), (40, d40), (41, d41), (44, .int .u8 (bt t i)), (48, iv z), (49, .bool (decide (z < 16777216))), (50, iv z), (51, iv 10)]), [], h, none⟩ ?_
      refine WpM.op (iv (z * 10)) _ (by kernel_rfl) (arith_mul (by kernel_rfl) (by kernel_rfl) (by omega)) ?_
      refine rn 1 ⟨.ops (p39_36_4 :: o39_36.drop 5), [.seq x39_37, .blk 1, .loop x39_14, .blk 0, .seq x39_38], (ss (E53 s t z i o15 o16 o17 o18 o19 o20 o21 o22 o23 o24 o25 o26 d48 d49 d50 d51 d52 d53 d54 d55 d56) [(9, .int .u8 (bt t i)), (36, .bool false), (37, U), (38, U), (39, .bool false), (40, d40), (41, d41), (44, .int .u8 (bt t i)), (48, iv z), (49, .bool (decide (z < 16777216))), (50, iv z), (51, iv 10), (52, iv (z * 10)), (53, iv (dgt false (bt t i)))]), [], h, none⟩ ?_
      refine WpM.op (iv ((z * 10) + (dgt false (bt t i)))) _ (by kernel_rfl) (arith_add (by kernel_rfl) (by kernel_rfl) (by omega)) ?_
      refine rn 5 ⟨.ops (p39_37_1 :: o39_37.drop 2), [.blk 1, .loop x39_14, .blk 0, .seq x39_38], (E54 s t z i o15 o16 o17 o18 o19 o20 o21 o22 o23 o24 o25 o26 d40 d41 d56), [], h, none⟩ ?_
      refine WpM.op (iv (i + 1)) _ (by kernel_rfl) (arith_add (by kernel_rfl) (by kernel_rfl) (by omega)) ?_
      refine rn 4 ⟨.code x39_14, [.loop x39_14, .blk 0, .seq x39_38], (.str s :: U :: iv 0 :: iv 0 :: .slice none 0 0 true :: iv 10 :: .str t :: iv ((z * 10) + (dgt false (bt t i))) :: iv (i + 1) :: .int .u8 (bt t i) :: iv (dgt false (bt t i)) :: U :: U :: U :: U :: o15 :: o16 :: o17 :: o18 :: o19 :: o20 :: o21 :: o22 :: o23 :: o24 :: o25 :: o26 :: iv i :: .str t :: iv ((t.length : Int)) :: .bool (decide (i < ((t.length : Int)))) :: .str t :: iv i :: .int .u8 (bt t i) :: .int .u8 (bt t i) :: .bool (decide ((bt t i) ≥ 65)) :: .bool false :: U :: U :: .bool false :: d40 :: d41 :: iv 10 :: .str k_0123456789 :: .int .u8 (bt t i) :: iv (dgt false (bt t i)) :: iv (dgt false (bt t i)) :: .bool (decide ((dgt false (bt t i)) < 0)) :: iv z :: .bool (decide (z < 16777216)) :: iv z :: iv 10 :: iv (z * 10) :: iv (dgt false (bt t i)) :: iv ((z * 10) + (dgt false (bt t i))) :: iv i :: iv (i + 1) :: us 40), [], h, none⟩ ?_
      refine ih _ ?_ _ h ((z * 10) + (dgt false (bt t i))) _ _ _ _ _ _ _ _ _ _ _ _ _ _ _ _ _ _ _ _ _ _ _ _ _ _ _ _ _ _ _ _ rfl ?_ ?_ ?_ ?_ ?_ ?_
      ·omega
      ·omega
      ·omega
      ·omega
      ·omega
      ·rw [scan_step h0i (by omega) (by omega), if_pos (by omega)] at hA
       rw [← hA]
       all_goals rfl
      ·exact hX
     ·have c109p := dec_f c109
      refine rn 4 ⟨.ops (p39_37_1 :: o39_37.drop 2), [.blk 1, .loop x39_14, .blk 0, .seq x39_38], (ss (E54 s t z i o15 o16 o17 o18 o19 o20 o21 o22 o23 o24 o25 o26 d40 d41 d56) [(7, iv z), (50, d50), (51, d51), (52, d52), (53, d53), (54, d54)]), [], h, none⟩ ?_
      refine WpM.op (iv (i + 1)) _ (by kernel_rfl) (arith_add (by kernel_rfl) (by kernel_rfl) (by omega)) ?_
      refine rn 4 ⟨.code x39_14, [.loop x39_14, .blk 0, .seq x39_38], (.str s :: U :: iv 0 :: iv 0 :: .slice none 0 0 true :: iv 10 :: .str t :: iv z :: iv (i + 1) :: .int .u8 (bt t i) :: iv (dgt false (bt t i)) :: U :: U :: U :: U :: o15 :: o16 :: o17 :: o18 :: o19 :: o20 :: o21 :: o22 :: o23 :: o24 :: o25 :: o26 :: iv i :: .str t :: iv ((t.length : Int)) :: .bool (decide (i < ((t.length : Int)))) :: .str t :: iv i :: .int .u8 (bt t i) :: .int .u8 (bt t i) :: .bool (decide ((bt t i) ≥ 65)) :: .bool false :: U :: U :: .bool false :: d40 :: d41 :: iv 10 :: .str k_0123456789 :: .int .u8 (bt t i) :: iv (dgt false (bt t i)) :: iv (dgt false (bt t i)) :: .bool (decide ((dgt false (bt t i)) < 0)) :: iv z :: .bool (decide (z < 16777216)) :: d50 :: d51 :: d52 :: d53 :: d54 :: iv i :: iv (i + 1) :: us 40), [], h, none⟩ ?_
      refine ih _ ?_ _ h z _ _ _ _ _ _ _ _ _ _ _ _ _ _ _ _ _ _ _ _ _ _ _ _ _ _ _ _ _ _ _ _ rfl ?_ ?_ ?_ ?_ ?_ ?_
      ·omega
      ·omega
      ·omega
      ·omega
      ·omega
      ·rw [scan_step h0i (by omega) (by omega), if_neg (by omega)] at hA
       rw [← hA]
       all_goals rfl
      ·exact hX
  ·have c101p := dec_f c101
   refine rn 4 ⟨.done .norm, [.seq x39_38], (E51 s t z i d9 d10 o15 o16 o17 o18 o19 o20 o21 o22 o23 o24 o25 o26 d31 d32 d33 d34 d35 d36 d37 d38 d39 d40 d41 d42 d43 d44 d45 d46 d47 d48 d49 d50 d51 d52 d53 d54 d55 d56), [], h, none⟩ ?_
   have hB : (i, z) = dscan false t (0, 0) := (by first | exact (scan_end (by omega)).symm.trans hA | exact (scan_stop h0i (by omega) (by omega)).symm.trans hA)
   rw [← hB]
   exact num_rest hs hts hl h0i h1i hX
def E55 (s : List UInt8) (t : List UInt8) (z : Int) (i : Int) (d9 : V) (d10 : V) (o15 : V) (o16 : V) (o17 : V) (o18 : V) (o19 : V) (o20 : V) (o21 : V) (o22 : V) (o23 : V) (o24 : V) (o25 : V) (o26 : V) (d31 : V) (d32 : V) (d33 : V) (d34 : V) (d35 : V) (d36 : V) (d37 : V) (d38 : V) (d39 : V) (d40 : V) (d41 : V) (d42 : V) (d43 : V) (d44 : V) (d45 : V) (d46 : V) (d47 : V) (d48 : V) (d49 : V) (d50 : V) (d51 : V) (d52 : V) (d53 : V) (d54 : V) (d55 : V) (d56 : V) : List V := (.str s :: U :: iv 0 :: iv 0 :: .slice none 0 0 true :: iv 16 :: .str t :: iv z :: iv i :: d9 :: d10 :: U :: U :: U :: U :: o15 :: o16 :: o17 :: o18 :: o19 :: o20 :: o21 :: o22 :: o23 :: o24 :: o25 :: o26 :: iv i :: .str t :: iv ((t.length : Int)) :: .bool (decide (i < ((t.length : Int)))) :: d31 :: d32 :: d33 :: d34 :: d35 :: d36 :: d37 :: d38 :: d39 :: d40 :: d41 :: d42 :: d43 :: d44 :: d45 :: d46 :: d47 :: d48 :: d49 :: d50 :: d51 :: d52 :: d53 :: d54 :: d55 :: d56 :: us 40)
def E56 (s : List UInt8) (t : List UInt8) (z : Int) (i : Int) (d10 : V) (o15 : V) (o16 : V) (o17 : V) (o18 : V) (o19 : V) (o20 : V) (o21 : V) (o22 : V) (o23 : V) (o24 : V) (o25 : V) (o26 : V) (d40 : V) (d41 : V) (d42 : V) (d43 : V) (d44 : V) (d45 : V) (d46 : V) (d47 : V) (d48 : V) (d49 : V) (d50 : V) (d51 : V) (d52 : V) (d53 : V) (d54 : V) (d55 : V) (d56 : V) : List V := (.str s :: U :: iv 0 :: iv 0 :: .slice none 0 0 true :: iv 16 :: .str t :: iv z :: iv i :: .int .u8 (bt t i) :: d10 :: U :: U :: U :: U :: o15 :: o16 :: o17 :: o18 :: o19 :: o20 :: o21 :: o22 :: o23 :: o24 :: o25 :: o26 :: iv i :: .str t :: iv ((t.length : Int)) :: .bool (decide (i < ((t.length : Int)))) :: .str t :: iv i :: .int .u8 (bt t i) :: .int .u8 (bt t i) :: .bool (decide ((bt t i) ≥ 65)) :: .bool true :: .int .u8 (bt t i) :: .bool (decide ((bt t i) ≤ 70)) :: .bool (decide ((bt t i) ≤ 70)) :: d40 :: d41 :: d42 :: d43 :: d44 :: d45 :: d46 :: d47 :: d48 :: d49 :: d50 :: d51 :: d52 :: d53 :: d54 :: d55 :: d56 :: us 40)
def E57 (s : List UInt8) (t : List UInt8) (z : Int) (i : Int) (o15 : V) (o16 : V) (o17 : V) (o18 : V) (o19 : V) (o20 : V) (o21 : V) (o22 : V) (o23 : V) (o24 : V) (o25 : V) (o26 : V) (d48 : V) (d49 : V) (d50 : V) (d51 : V) (d52 : V) (d53 : V) (d54 : V) (d55 : V) (d56 : V) : List V := (.str s :: U :: iv 0 :: iv 0 :: .slice none 0 0 true :: iv 16 :: .str t :: iv z :: iv i :: .int .u8 (IntKind.wrap .u8 (BitVec.ofInt (IntKind.bits .u8) (bt t i) ||| BitVec.ofInt (IntKind.bits .u8) 32).toNat) :: iv (dgt true (bt t i)) :: U :: U :: U :: U :: o15 :: o16 :: o17 :: o18 :: o19 :: o20 :: o21 :: o22 :: o23 :: o24 :: o25 :: o26 :: iv i :: .str t :: iv ((t.length : Int)) :: .bool (decide (i < ((t.length : Int)))) :: .str t :: iv i :: .int .u8 (bt t i) :: .int .u8 (bt t i) :: .bool (decide ((bt t i) ≥ 65)) :: .bool true :: .int .u8 (bt t i) :: .bool (decide ((bt t i) ≤ 70)) :: .bool (decide ((bt t i) ≤ 70)) :: .int .u8 (bt t i) :: .int .u8 (IntKind.wrap .u8 (BitVec.ofInt (IntKind.bits .u8) (bt t i) ||| BitVec.ofInt (IntKind.bits .u8) 32).toNat) :: iv 16 :: .str k_0123456789abcdef :: .int .u8 (IntKind.wrap .u8 (BitVec.ofInt (IntKind.bits .u8) (bt t i) ||| BitVec.ofInt (IntKind.bits .u8) 32).toNat) :: iv (dgt true (bt t i)) :: iv (dgt true (bt t i)) :: .bool (decide ((dgt true (bt t i)) < 0)) :: d48 :: d49 :: d50 :: d51 :: d52 :: d53 :: d54 :: d55 :: d56 :: us 40)
def E58 (s : List UInt8) (t : List UInt8) (z : Int) (i : Int) (o15 : V) (o16 : V) (o17 : V) (o18 : V) (o19 : V) (o20 : V) (o21 : V) (o22 : V) (o23 : V) (o24 : V) (o25 : V) (o26 : V) (d40 : V) (d41 : V) (d56 : V) : List V := (.str s :: U :: iv 0 :: iv 0 :: .slice none 0 0 true :: iv 16 :: .str t :: iv ((z * 16) + (dgt true (bt t i))) :: iv i :: .int .u8 (bt t i) :: iv (dgt true (bt t i)) :: U :: U :: U :: U :: o15 :: o16 :: o17 :: o18 :: o19 :: o20 :: o21 :: o22 :: o23 :: o24 :: o25 :: o26 :: iv i :: .str t :: iv ((t.length : Int)) :: .bool (decide (i < ((t.length : Int)))) :: .str t :: iv i :: .int .u8 (bt t i) :: .int .u8 (bt t i) :: .bool (decide ((bt t i) ≥ 65)) :: .bool false :: U :: U :: .bool false :: d40 :: d41 :: iv 16 :: .str k_0123456789abcdef :: .int .u8 (bt t i) :: iv (dgt true (bt t i)) :: iv (dgt true (bt t i)) :: .bool (decide ((dgt true (bt t i)) < 0)) :: iv z :: .bool (decide (z < 16777216)) :: iv z :: iv 16 :: iv (z * 16) :: iv (dgt true (bt t i)) :: iv ((z * 16) + (dgt true (bt t i))) :: iv i :: d56 :: us 40)
theorem num_loop16 {W : World} {s t : List UInt8} {l : Int} {h0 : H} {o15 o16 o17 o18 o19 o20 o21 o22 o23 o24 o25 o26 : V} (hs : s.length ≤ 140737488351232) (hts : t.length ≤ s.length) (hl : l = (s.length : Int) - (t.length : Int)) (nn : Nat) : ∀ (i : Int) (h : H) (z : Int) (d9 d10 d27 d28 d29 d30 d31 d32 d33 d34 d35 d36 d37 d38 d39 d40 d41 d42 d43 d44 d45 d46 d47 d48 d49 d50 d51 d52 d53 d54 d55 d56 : V), nn = ((t.length : Int) - i).toNat → (0 ≤ i) → (i ≤ (t.length : Int)) → (0 ≤ z) → (z ≤ 268435471) → (dscan true (t.drop i.toNat) (i, z) = dscan true t (0, 0)) → (HX h0 h) → WpM Tryd.prog W prim2 ⟨.code x39_14, [.loop x39_14, .blk 0, .seq x39_38], (.str s :: U :: iv 0 :: iv 0 :: .slice none 0 0 true :: iv 16 :: .str t :: iv z :: iv i :: d9 :: d10 :: U :: U :: U :: U :: o15 :: o16 :: o17 :: o18 :: o19 :: o20 :: o21 :: o22 :: o23 :: o24 :: o25 :: o26 :: d27 :: d28 :: d29 :: d30 :: d31 :: d32 :: d33 :: d34 :: d35 :: d36 :: d37 :: d38 :: d39 :: d40 :: d41 :: d42 :: d43 :: d44 :: d45 :: d46 :: d47 :: d48 :: d49 :: d50 :: d51 :: d52 :: d53 :: d54 :: d55 :: d56 :: us 40), [], h, none⟩ (retQ Tryd.prog W [.tmp 2, .tmp 3, .tmp 4] (fun v h' => HX h0 h' ∧ ∃ r e cs w, numRes s l (dscan true t (0, 0)) = (r, e, cs) ∧ v = .tup [iv r, iv e, w] ∧ CodesAt h' w cs)) := by
 induction nn using Nat.strongRecOn with
 | _ nn ih =>
  intro i h z d9 d10 d27 d28 d29 d30 d31 d32 d33 d34 d35 d36 d37 d38 d39 d40 d41 d42 d43 d44 d45 d46 d47 d48 d49 d50 d51 d52 d53 d54 d55 d56 hn9 h0i h1i hn0 hn1 hA hX
  have hbt := bt_range t i
  have hdg := dgt_range true (bt t i)
  have hba : dbase true = 16 := rfl
  skip
  refine rn 9 ⟨.code x39_17, [.seq x39_18, .loop x39_14, .blk 0, .seq x39_38], (E55 s t z i d9 d10 o15 o16 o17 o18 o19 o20 o21 o22 o23 o24 o25 o26 d31 d32 d33 d34 d35 d36 d37 d38 d39 d40 d41 d42 d43 d44 d45 d46 d47 d48 d49 d50 d51 d52 d53 d54 d55 d56), [], h, none⟩ ?_
  refine WpM.cond (t := (decide (i < ((t.length : Int))))) (by kernel_rfl) (fun c101 => ?_) (fun c101 => ?_)
  ·have c101p := dec_t c101
   refine rn 7 ⟨.ops (p39_20_2 :: o39_20.drop 3), [.seq x39_21, .blk 1, .loop x39_14, .blk 0, .seq x39_38], (ss (E55 s t z i d9 d10 o15 o16 o17 o18 o19 o20 o21 o22 o23 o24 o25 o26 d31 d32 d33 d34 d35 d36 d37 d38 d39 d40 d41 d42 d43 d44 d45 d46 d47 d48 d49 d50 d51 d52 d53 d54 d55 d56) [(31, .str t), (32, iv i)]), [], h, none⟩ ?_
   refine WpM.op (.int .u8 (bt t i)) _ (by kernel_rfl) (index_str (k := .i64) (by kernel_rfl) (by kernel_rfl) (by kernel_rfl) (by omega)) ?_
   refine rn 9 ⟨.ops (p39_23_3 :: o39_23.drop 4), [.seq x39_24, .seq x39_26, .blk 1, .loop x39_14, .blk 0, .seq x39_38], (ss (E55 s t z i d9 d10 o15 o16 o17 o18 o19 o20 o21 o22 o23 o24 o25 o26 d31 d32 d33 d34 d35 d36 d37 d38 d39 d40 d41 d42 d43 d44 d45 d46 d47 d48 d49 d50 d51 d52 d53 d54 d55 d56) [(9, .int .u8 (bt t i)), (31, .str t), (32, iv i), (33, .int .u8 (bt t i)), (34, .int .u8 (bt t i)), (35, .bool (decide ((bt t i) ≥ 65))), (36, .bool (decide ((bt t i) ≥ 65)))]), [], h, none⟩ ?_
   refine WpM.guard (b := (decide ((bt t i) ≥ 65))) (by kernel_rfl) (fun c102 => ?_) (fun c102 => ?_)
   ·have c102p := dec_t c102
    refine rn 5 ⟨.code x39_24, [.seq x39_26, .blk 1, .loop x39_14, .blk 0, .seq x39_38], (E56 s t z i d10 o15 o16 o17 o18 o19 o20 o21 o22 o23 o24 o25 o26 d40 d41 d42 d43 d44 d45 d46 d47 d48 d49 d50 d51 d52 d53 d54 d55 d56), [], h, none⟩ ?_
    refine WpM.cond (t := (decide ((bt t i) ≤ 70))) (by kernel_rfl) (fun c103 => ?_) (fun c103 => ?_)
    ·have c103p := dec_t c103
     refine rn 11 ⟨.ops (p39_27_3 :: o39_27.drop 4), [.seq x39_28, .blk 1, .loop x39_14, .blk 0, .seq x39_38], (ss (E56 s t z i d10 o15 o16 o17 o18 o19 o20 o21 o22 o23 o24 o25 o26 d40 d41 d42 d43 d44 d45 d46 d47 d48 d49 d50 d51 d52 d53 d54 d55 d56) [(9, .int .u8 (IntKind.wrap .u8 (BitVec.ofInt (IntKind.bits .u8) (bt t i) ||| BitVec.ofInt (IntKind.bits .u8) 32).toNat)), (40, .int .u8 (bt t i)), (41, .int .u8 (IntKind.wrap .u8 (BitVec.ofInt (IntKind.bits .u8) (bt t i) ||| BitVec.ofInt (IntKind.bits .u8) 32).toNat)), (42, iv 16), (43, .str k_0123456789abcdef), (44, .int .u8 (IntKind.wrap .u8 (BitVec.ofInt (IntKind.bits .u8) (bt t i) ||| BitVec.ofInt (IntKind.bits .u8) 32).toNat))]), [], h, none⟩ ?_
     refine WpM.givenQ (f := 30) (args := [.str k_0123456789abcdef, .int .u8 (IntKind.wrap .u8 (BitVec.ofInt (IntKind.bits .u8) (bt t i) ||| BitVec.ofInt (IntKind.bits .u8) 32).toNat)]) (q := q30) (iv (dgt true (bt t i))) (by kernel_rfl) (by kernel_rfl) (by kernel_rfl) (by simp only [q30]; exact congrArg (fun z => some (V.int .i64 z)) (idx_low (by omega) (by omega)).1) ?_
     refine rn 10 ⟨.code x39_31, [.seq x39_32, .blk 1, .loop x39_14, .blk 0, .seq x39_38], (E57 s t z i o15 o16 o17 o18 o19 o20 o21 o22 o23 o24 o25 o26 d48 d49 d50 d51 d52 d53 d54 d55 d56), [], h, none⟩ ?_
     refine WpM.cond (t := (decide ((dgt true (bt t i)) < 0))) (by kernel_rfl) (fun c104 => ?_) (fun c104 => ?_)
     ·have c104p := dec_t c104
      refine rn 5 ⟨.done .norm, [.seq x39_38], (E57 s t z i o15 o16 o17 o18 o19 o20 o21 o22 o23 o24 o25 o26 d48 d49 d50 d51 d52 d53 d54 d55 d56), [], h, none⟩ ?_
      have hB : (i, z) = dscan true t (0, 0) := (by first | exact (scan_end (by omega)).symm.trans hA | exact (scan_stop h0i (by omega) (by omega)).symm.trans hA)
      rw [← hB]
      exact num_rest hs hts hl h0i h1i hX
     ·have c104p := dec_f c104
      refine rn 9 ⟨.code x39_35, [.seq x39_37, .blk 1, .loop x39_14, .blk 0, .seq x39_38], (ss (E57 s t z i o15 o16 o17 o18 o19 o20 o21 o22 o23 o24 o25 o26 d48 d49 d50 d51 d52 d53 d54 d55 d56) [(48, iv z), (49, .bool (decide (z < 16777216)))]), [], h, none⟩ ?_
      refine WpM.cond (t := (decide (z < 16777216))) (by kernel_rfl) (fun c105 => ?_) (fun c105 => ?_)
      ·have c105p := dec_t c105
       refine rn 3 ⟨.ops (p39_36_2 :: o39_36.drop 3), [.seq x39_37, .blk 1, .loop x39_14, .blk 0, .seq x39_38], (ss (E57 s t z i o15 o16 o17 o18 o19 o20 o21 o22 o23 o24 o25 o26 d48 d49 d50 d51 d52 d53 d54 d55 d56) [(48, iv z), (49, .bool (decide (z < 16777216))), (50, iv z), (51, iv 16)]), [], h, none⟩ ?_
       refine WpM.op (iv (z * 16)) _ (by kernel_rfl) (arith_mul (by kernel_rfl) (by kernel_rfl) (by omega)) ?_
       refine rn 1 ⟨.ops (p39_36_4 :: o39_36.drop 5), [.seq x39_37, .blk 1, .loop x39_14, .blk 0, .seq x39_38], (ss (E57 s t z i o15 o16 o17 o18 o19 o20 o21 o22 o23 o24 o25 o26 d48 d49 d50 d51 d52 d53 d54 d55 d56) [(48, iv z), (49, .bool (decide (z < 16777216))), (50, iv z), (51, iv 16), (52, iv (z * 16)), (53, iv (dgt true (bt t i)))]), [], h, none⟩ ?_
       refine WpM.op (iv ((z * 16) + (dgt true (bt t i)))) _ (by kernel_rfl) (arith_add (by kernel_rfl) (by kernel_rfl) (by omega)) ?_
       refine rn 5 ⟨.ops (p39_37_1 :: o39_37.drop 2), [.blk 1, .loop x39_14, .blk 0, .seq x39_38], (ss (E57 s t z i o15 o16 o17 o18 o19 o20 o21 o22 o23 o24 o25 o26 d48 d49 d50 d51 d52 d53 d54 d55 d56) [(7, iv ((z * 16) + (dgt true (bt t i)))), (48, iv z), (49, .bool (decide (z < 16777216))), (50, iv z), (51, iv 16), (52, iv (z * 16)), (53, iv (dgt true (bt t i))), (54, iv ((z * 16) + (dgt true (bt t i)))), (55, iv i)]), [], h, none⟩ ?_
       refine WpM.op (iv (i + 1)) _ (by kernel_rfl) (arith_add (by kernel_rfl) (by kernel_rfl) (by omega)) ?_
       refine rn 4 ⟨.code x39_14, [.loop x39_14, .blk 0, .seq x39_38], (.str s :: U :: iv 0 :: iv 0 :: .slice none 0 0 true :: iv 16 :: .str t :: iv ((z * 16) + (dgt true (bt t i))) :: iv (i + 1) :: .int .u8 (IntKind.wrap .u8 (BitVec.ofInt (IntKind.bits .u8) (bt t i) ||| BitVec.ofInt (IntKind.bits .u8) 32).toNat) :: iv (dgt true (bt t i)) :: U :: U :: U :: U :: o15 :: o16 :: o17 :: o18 :: o19 :: o20 :: o21 :: o22 :: o23 :: o24 :: o25 :: o26 :: iv i :: .str t :: iv ((t.length : Int)) :: .bool (decide (i < ((t.length : Int)))) :: .str t :: iv i :: .int .u8 (bt t i) :: .int .u8 (bt t i) :: .bool (decide ((bt t i) ≥ 65)) :: .bool true :: .int .u8 (bt t i) :: .bool (decide ((bt t i) ≤ 70)) :: .bool (decide ((bt t i) ≤ 70)) :: .int .u8 (bt t i) :: .int .u8 (IntKind.wrap .u8 (BitVec.ofInt (IntKind.bits .u8) (bt t i) ||| BitVec.ofInt (IntKind.bits .u8) 32).toNat) :: iv 16 :: .str k_0123456789abcdef :: .int .u8 (IntKind.wrap .u8 (BitVec.ofInt (IntKind.bits .u8) (bt t i) ||| BitVec.ofInt (IntKind.bits .u8) 32).toNat) :: iv (dgt true (bt t i)) :: iv (dgt true (bt t i)) :: .bool (decide ((dgt true (bt t i)) < 0)) :: iv z :: .bool (decide (z < 16777216)) :: iv z :: iv 16 :: iv (z * 16) :: iv (dgt true (bt t i)) :: iv ((z * 16) + (dgt true (bt t i))) :: iv i :: iv (i + 1) :: us 40), [], h, none⟩ ?_
       refine ih _ ?_ _ h ((z * 16) + (dgt true (bt t i))) _ _ _ _ _ _ _ _ _ _ _ _ _ _ _ _ _ _ _ _ _ _ _ _ _ _ _ _ _ _ _ _ rfl ?_ ?_ ?_ ?_ ?_ ?_
       ·omega
       ·omega
       ·omega
       ·omega
       ·omega
       ·rw [scan_step h0i (by omega) (by omega), if_pos (by omega)] at hA
        rw [← hA]
        all_goals rfl
       ·exact hX
      ·have c105p := dec_f c105
       refine rn 4 ⟨.ops (p39_37_1 :: o39_37.drop 2), [.blk 1, .loop x39_14, .blk 0, .seq x39_38], (ss (E57 s t z i o15 o16 o17 o18 o19 o20 o21 o22 o23 o24 o25 o26 d48 d49 d50 d51 d52 d53 d54 d55 d56) [(48, iv z), (49, .bool (decide (z < 16777216))), (55, iv i)]), [], h, none⟩ ?_
       refine WpM.op (iv (i + 1)) _ (by kernel_rfl) (arith_add (by kernel_rfl) (by kernel_rfl) (by omega)) ?_
       refine rn 4 ⟨.code x39_14, [.loop x39_14, .blk 0, .seq x39_38], (.str s :: U :: iv 0 :: iv 0 :: .slice none 0 0 true :: iv 16 :: .str t :: iv z :: iv (i + 1) :: .int .u8 (IntKind.wrap .u8 (BitVec.ofInt (IntKind.bits .u8) (bt t i) ||| BitVec.ofInt (IntKind.bits .u8) 32).toNat) :: iv (dgt true (bt t i)) :: U :: U :: U :: U :: o15 :: o16 :: o17 :: o18 :: o19 :: o20 :: o21 :: o22 :: o23 :: o24 :: o25 :: o26 :: iv i :: .str t :: iv ((t.length : Int)) :: .bool (decide (i < ((t.length : Int)))) :: .str t :: iv i :: .int .u8 (bt t i) :: .int .u8 (bt t i) :: .bool (decide ((bt t i) ≥ 65)) :: .bool true :: .int .u8 (bt t i) :: .bool (decide ((bt t i) ≤ 70)) :: .bool (decide ((bt t i) ≤ 70)) :: .int .u8 (bt t i) :: .int .u8 (IntKind.wrap .u8 (BitVec.ofInt (IntKind.bits .u8) (bt t i) ||| BitVec.ofInt (IntKind.bits .u8) 32).toNat) :: iv 16 :: .str k_0123456789abcdef :: .int .u8 (IntKind.wrap .u8 (BitVec.ofInt (IntKind.bits .u8) (bt t i) ||| BitVec.ofInt (IntKind.bits .u8) 32).toNat) :: iv (dgt true (bt t i)) :: iv (dgt true (bt t i)) :: .bool (decide ((dgt true (bt t i)) < 0)) :: iv z :: .bool (decide (z < 16777216)) :: d50 :: d51 :: d52 :: d53 :: d54 :: iv i :: iv (i + 1) :: us 40), [], h, none⟩ ?_
       refine ih _ ?_ _ h z _ _ _ _ _ _ _ _ _ _ _ _ _ _ _ _ _ _ _ _ _ _ _ _ _ _ _ _ _ _ _ _ rfl ?_ ?_ ?_ ?_ ?_ ?_
       ·omega
       ·omega
       ·omega
       ·omega
       ·omega
       ·rw [scan_step h0i (by omega) (by omega), if_neg (by omega)] at hA
        rw [← hA]
        all_goals rfl
       ·exact hX
    ·have c103p := dec_f c103
     refine rn 7 ⟨.ops (p39_27_3 :: o39_27.drop 4), [.seq x39_28, .blk 1, .loop x39_14, .blk 0, .seq x39_38], (ss (E56 s t z i d10 o15 o16 o17 o18 o19 o20 o21 o22 o23 o24 o25 o26 d40 d41 d42 d43 d44 d45 d46 d47 d48 d49 d50 d51 d52 d53 d54 d55 d56) [(42, iv 16), (43, .str k_0123456789abcdef), (44, .int .u8 (bt t i))]), [], h, none⟩ ?_
     refine WpM.givenQ (f := 30) (args := [.str k_0123456789abcdef, .int .u8 (bt t i)]) (q := q30) (iv (dgt true (bt t i))) (by kernel_rfl) (by kernel_rfl) (by kernel_rfl) (by simp only [q30]; exact congrArg (fun z => some (V.int .i64 z)) (idx_plain (by omega) (by omega) (by omega)).1) ?_
     refine rn 10 ⟨.code x39_31, [.seq x39_32, .blk 1, .loop x39_14, .blk 0, .seq x39_38], (ss (E57 s t z i o15 o16 o17 o18 o19 o20 o21 o22 o23 o24 o25 o26 d48 d49 d50 d51 d52 d53 d54 d55 d56) [(9, .int .u8 (bt t i)), (40, d40), (41, d41), (44, .int .u8 (bt t i))]), [], h, none⟩ ?_
     refine WpM.cond (t := (decide ((dgt true (bt t i)) < 0))) (by kernel_rfl) (fun c106 => ?_) (fun c106 => ?_)
     ·have c106p := dec_t c106
      refine rn 5 ⟨.done .norm, [.seq x39_38], (ss (E57 s t z i o15 o16 o17 o18 o19 o20 o21 o22 o23 o24 o25 o26 d48 d49 d50 d51 d52 d53 d54 d55 d56) [(9, .int .u8 (bt t i)), (40, d40), (41, d41), (44, .int .u8 (bt t i))]), [], h, none⟩ ?_
      have hB : (i, z) = dscan true t (0, 0) := (by first | exact (scan_end (by omega)).symm.trans hA | exact (scan_stop h0i (by omega) (by omega)).symm.trans hA)
      rw [← hB]
      exact num_rest hs hts hl h0i h1i hX
     ·have c106p := dec_f c106
      refine rn 9 ⟨.code x39_35, [.seq x39_37, .blk 1, .loop x39_14, .blk 0, .seq x39_38], (ss (E57 s t z i o15 o16 o17 o18 o19 o20 o21 o22 o23 o24 o25 o26 d48 d49 d50 d51 d52 d53 d54 d55 d56) [(9, .int .u8 (bt t i)), (40, d40), (41, d41), (44, .int .u8 (bt t i)), (48, iv z), (49, .bool (decide (z < 16777216)))]), [], h, none⟩ ?_
      refine WpM.cond (t := (decide (z < 16777216))) (by kernel_rfl) (fun c107 => ?_) (fun c107 => ?_)
      ·have c107p := dec_t c107
       refine rn 3 ⟨.ops (p39_36_2 :: o39_36.drop 3), [.seq x39_37, .blk 1, .loop x39_14, .blk 0, .seq x39_38], (ss (E57 s t z i o15 o16 o17 o18 o19 o20 o21 o22 o23 o24 o25 o26 d48 d49 d50 d51 d52 d53 d54 d55 d56) [(9, .int .u8 (bt t i)), (40, d40), (41, d41), (44, .int .u8 (bt t i)), (48, iv z), (49, .bool (decide (z < 16777216))), (50, iv z), (51, iv 16)]), [], h, none⟩ ?_
       refine WpM.op (iv (z * 16)) _ (by kernel_rfl) (arith_mul (by kernel_rfl) (by kernel_rfl) (by omega)) ?_
       refine rn 1 ⟨.ops (p39_36_4 :: o39_36.drop 5), [.seq x39_37, .blk 1, .loop x39_14, .blk 0, .seq x39_38], (ss (E57 s t z i o15 o16 o17 o18 o19 o20 o21 o22 o23 o24 o25 o26 d48 d49 d50 d51 d52 d53 d54 d55 d56) [(9, .int .u8 (bt t i)), (40, d40), (41, d41), (44, .int .u8 (bt t i)), (48, iv z), (49, .bool (decide (z < 16777216))), (50, iv z), (51, iv 16), (52, iv (z * 16)), (53, iv (dgt true (bt t i)))]), [], h, none⟩ ?_
       refine WpM.op (iv ((z * 16) + (dgt true (bt t i)))) _ (by kernel_rfl) (arith_add (by kernel_rfl) (by kernel_rfl) (by omega)) ?_
       refine rn 5 ⟨.ops (p39_37_1 :: o39_37.drop 2), [.blk 1, .loop x39_14, .blk 0, .seq x39_38], (ss (E57 s t z i o15 o16 o17 o18 o19 o20 o21 o22 o23 o24 o25 o26 d48 d49 d50 d51 d52 d53 d54 d55 d56) [(7, iv ((z * 16) + (dgt true (bt t i)))), (9, .int .u8 (bt t i)), (40, d40), (41, d41), (44, .int .u8 (bt t i)), (48, iv z), (49, .bool (decide (z < 16777216))), (50, iv z), (51, iv 16), (52, iv (z * 16)), (53, iv (dgt true (bt t i))), (54, iv ((z * 16) + (dgt true (bt t i)))), (55, iv i)]), [], h, none⟩ ?_
       refine WpM.op (iv (i + 1)) _ (by kernel_rfl) (arith_add (by kernel_rfl) (by kernel_rfl) (by omega)) ?_
       refine rn 4 ⟨.code x39_14, [.loop x39_14, .blk 0, .seq x39_38], (.str s :: U :: iv 0 :: iv 0 :: .slice none 0 0 true :: iv 16 :: .str t :: iv ((z * 16) + (dgt true (bt t i))) :: iv (i + 1) :: .int .u8 (bt t i) :: iv (dgt true (bt t i)) :: U :: U :: U :: U :: o15 :: o16 :: o17 :: o18 :: o19 :: o20 :: o21 :: o22 :: o23 :: o24 :: o25 :: o26 :: iv i :: .str t :: iv ((t.length : Int)) :: .bool (decide (i < ((t.length : Int)))) :: .str t :: iv i :: .int .u8 (bt t i) :: .int .u8 (bt t i) :: .bool (decide ((bt t i) ≥ 65)) :: .bool true :: .int .u8 (bt t i) :: .bool (decide ((bt t i) ≤ 70)) :: .bool (decide ((bt t i) ≤ 70)) :: d40 :: d41 :: iv 16 :: .str k_0123456789abcdef :: .int .u8 (bt t i) :: iv (dgt true (bt t i)) :: iv (dgt true (bt t i)) :: .bool (decide ((dgt true (bt t i)) < 0)) :: iv z :: .bool (decide (z < 16777216)) :: iv z :: iv 16 :: iv (z * 16) :: iv (dgt true (bt t i)) :: iv ((z * 16) + (dgt true (bt t i))) :: iv i :: iv (i + 1) :: us 40), [], h, none⟩ ?_
       refine ih _ ?_ _ h ((z * 16) + (dgt true (bt t i))) _ _ _ _ _ _ _ _ _ _ _ _ _ _ _ _ _ _ _ _ _ _ _ _ _ _ _ _ _ _ _ _ rfl ?_ ?_ ?_ ?_ ?_ ?_
       ·omega
       ·omega
       ·omega
       ·omega
       ·omega
       ·rw [scan_step h0i (by omega) (by omega), if_pos (by omega)] at hA
        rw [← hA]
        all_goals rfl
       ·exact hX
      ·have c107p := dec_f c107
       refine rn 4 ⟨.ops (p39_37_1 :: o39_37.drop 2), [.blk 1, .loop x39_14, .blk 0, .seq x39_38], (ss (E57 s t z i o15 o16 o17 o18 o19 o20 o21 o22 o23 o24 o25 o26 d48 d49 d50 d51 d52 d53 d54 d55 d56) [(9, .int .u8 (bt t i)), (40, d40), (41, d41), (44, .int .u8 (bt t i)), (48, iv z), (49, .bool (decide (z < 16777216))), (55, iv i)]), [], h, none⟩ ?_
       refine WpM.op (iv (i + 1)) _ (by kernel_rfl) (arith_add (by kernel_rfl) (by kernel_rfl) (by omega)) ?_
       refine rn 4 ⟨.code x39_14, [.loop x39_14, .blk 0, .seq x39_38], (.str s :: U :: iv 0 :: iv 0 :: .slice none 0 0 true :: iv 16 :: .str t :: iv z :: iv (i + 1) :: .int .u8 (bt t i) :: iv (dgt true (bt t i)) :: U :: U :: U :: U :: o15 :: o16 :: o17 :: o18 :: o19 :: o20 :: o21 :: o22 :: o23 :: o24 :: o25 :: o26 :: iv i :: .str t :: iv ((t.length : Int)) :: .bool (decide (i < ((t.length : Int)))) :: .str t :: iv i :: .int .u8 (bt t i) :: .int .u8 (bt t i) :: .bool (decide ((bt t i) ≥ 65)) :: .bool true :: .int .u8 (bt t i) :: .bool (decide ((bt t i) ≤ 70)) :: .bool (decide ((bt t i) ≤ 70)) :: d40 :: d41 :: iv 16 :: .str k_0123456789abcdef :: .int .u8 (bt t i) :: iv (dgt true (bt t i)) :: iv (dgt true (bt t i)) :: .bool (decide ((dgt true (bt t i)) < 0)) :: iv z :: .bool (decide (z < 16777216)) :: d50 :: d51 :: d52 :: d53 :: d54 :: iv i :: iv (i + 1) :: us 40), [], h, none⟩ ?_
       refine ih _ ?_ _ h z _ _ _ _ _ _ _ _ _ _ _ _ _ _ _ _ _ _ _ _ _ _ _ _ _ _ _ _ _ _ _ _ rfl ?_ ?_ ?_ ?_ ?_ ?_
       ·omega
       ·omega
       ·omega
       ·omega
       ·omega
       ·rw [scan_step h0i (by omega) (by omega), if_neg (by omega)] at hA
        rw [← hA]
        all_goals rfl
       ·exact hX
   ·have c102p := dec_f c102
    refine rn 13 ⟨.ops (p39_27_3 :: o39_27.drop 4), [.seq x39_28, .blk 1, .loop x39_14, .blk 0, .seq x39_38], (ss (E56 s t z i d10 o15 o16 o17 o18 o19 o20 o21 o22 o23 o24 o25 o26 d40 d41 d42 d43 d44 d45 d46 d47 d48 d49 d50 d51 d52 d53 d54 d55 d56) [(36, .bool false), (37, U), (38, U), (39, .bool false), (42, iv 16), (43, .str k_0123456789abcdef), (44, .int .u8 (bt t i))]), [], h, none⟩ ?_
    refine WpM.givenQ (f := 30) (args := [.str k_0123456789abcdef, .int .u8 (bt t i)]) (q := q30) (iv (dgt true (bt t i))) (by kernel_rfl) (by kernel_rfl) (by kernel_rfl) (by simp only [q30]; exact congrArg (fun z => some (V.int .i64 z)) (idx_plain (by omega) (by omega) (by omega)).1) ?_
    refine rn 10 ⟨.code x39_31, [.seq x39_32, .blk 1, .loop x39_14, .blk 0, .seq x39_38], (ss (E57 s t z i o15 o16 o17 o18 o19 o20 o21 o22 o23 o24 o25 o26 d48 d49 d50 d51 d52 d53 d54 d55 d56) [(9, .int .u8 (bt t i)), (36, .bool false), (37, U), (38, U), (39, .bool false), (40, d40), (41, d41), (44, .int .u8 (bt t i))]), [], h, none⟩ ?_
    refine WpM.cond (t := (decide ((dgt true (bt t i)) < 0))) (by kernel_rfl) (fun c108 => ?_) (fun c108 => ?_)
    ·have c108p := dec_t c108
     refine rn 5 ⟨.done .norm, [.seq x39_38], (ss (E57 s t z i o15 o16 o17 o18 o19 o20 o21 o22 o23 o24 o25 o26 d48 d49 d50 d51 d52 d53 d54 d55 d56) [(9, .int .u8 (bt t i)), (36, .bool false), (37, U), (38, U), (39, .bool false), (40, d40), (41, d41), (44, .int .u8 (bt t i))]), [], h, none⟩ ?_
     have hB : (i, z) = dscan true t (0, 0) := (by first | exact (scan_end (by omega)).symm.trans hA | exact (scan_stop h0i (by omega) (by omega)).symm.trans hA)
     rw [← hB]
     exact num_rest hs hts hl h0i h1i hX
    ·have c108p := dec_f c108
     refine rn 9 ⟨.code x39_35, [.seq x39_37, .blk 1, .loop x39_14, .blk 0, .seq x39_38], (ss (E57 s t z i o15 o16 o17 o18 o19 o20 o21 o22 o23 o24 o25 o26 d48 d49 d50 d51 d52 d53 d54 d55 d56) [(9, .int .u8 (bt t i)), (36, .bool false), (37, U), (38, U), (39, .bool false), (40, d40), (41, d41), (44, .int .u8 (bt t i)), (48, iv z), (49, .bool (decide (z < 16777216)))]), [], h, none⟩ ?_
     refine WpM.cond (t := (decide (z < 16777216))) (by kernel_rfl) (fun c109 => ?_) (fun c109 => ?_)
     ·have c109p := dec_t c109
      refine rn 3 ⟨.ops (p39_36_2 :: o39_36.drop 3), [.seq x39_37, .blk 1, .loop x39_14, .blk 0, .seq x39_38], (ss (E57 s t z i o15 o16 o17 o18 o19 o20 o21 o22 o23 o24 o25 o26 d48 d49 d50 d51 d52 d53 d54 d55 d56) [(9, .int .u8 (bt t i)), (36, .bool false), (37, U), (38, U), (39, .bool false), (40, d40), (41, d41), (44, .int .u8 (bt t i)), (48, iv z), (49, .bool (decide (z < 16777216))), (50, iv z), (51, iv 16)]), [], h, none⟩ ?_
      refine WpM.op (iv (z * 16)) _ (by kernel_rfl) (arith_mul (by kernel_rfl) (by kernel_rfl) (by omega)) ?_
      refine rn 1 ⟨.ops (p39_36_4 :: o39_36.drop 5), [.seq x39_37, .blk 1, .loop x39_14, .blk 0, .seq x39_38], (ss (E57 s t z i o15 o16 o17 o18 o19 o20 o21 o22 o23 o24 o25 o26 d48 d49 d50 d51 d52 d53 d54 d55 d56) [(9, .int .u8 (bt t i)), (36, .bool false), (37, U), (38, U), (39, .bool false), (40, d40), (41, d41), (44, .int .u8 (bt t i)), (48, iv z), (49, .bool (decide (z < 16777216))), (50, iv z), (51, iv 16), (52, iv (z * 16)), (53, iv (dgt true (bt t i)))]), [], h, none⟩ ?_
      refine WpM.op (iv ((z * 16) + (dgt true (bt t i)))) _ (by kernel_rfl) (arith_add (by kernel_rfl) (by kernel_rfl) (by omega)) ?_
      refine rn 5 ⟨.ops (p39_37_1 :: o39_37.drop 2), [.blk 1, .loop x39_14, .blk 0, .seq x39_38], (E58 s t z i o15 o16 o17 o18 o19 o20 o21 o22 o23 o24 o25 o26 d40 d41 d56), [], h, none⟩ ?_
      refine WpM.op (iv (i + 1)) _ (by kernel_rfl) (arith_add (by kernel_rfl) (by kernel_rfl) (by omega)) ?_
      refine rn 4 ⟨.code x39_14, [.loop x39_14, .blk 0, .seq x39_38], (.str s :: U :: iv 0 :: iv 0 :: .slice none 0 0 true :: iv 16 :: .str t :: iv ((z * 16) + (dgt true (bt t i))) :: iv (i + 1) :: .int .u8 (bt t i) :: iv (dgt true (bt t i)) :: U :: U :: U :: U :: o15 :: o16 :: o17 :: o18 :: o19 :: o20 :: o21 :: o22 :: o23 :: o24 :: o25 :: o26 :: iv i :: .str t :: iv ((t.length : Int)) :: .bool (decide (i < ((t.length : Int)))) :: .str t :: iv i :: .int .u8 (bt t i) :: .int .u8 (bt t i) :: .bool (decide ((bt t i) ≥ 65)) :: .bool false :: U :: U :: .bool false :: d40 :: d41 :: iv 16 :: .str k_0123456789abcdef :: .int .u8 (bt t i) :: iv (dgt true (bt t i)) :: iv (dgt true (bt t i)) :: .bool (decide ((dgt true (bt t i)) < 0)) :: iv z :: .bool (decide (z < 16777216)) :: iv z :: iv 16 :: iv (z * 16) :: iv (dgt true (bt t i)) :: iv ((z * 16) + (dgt true (bt t i))) :: iv i :: iv (i + 1) :: us 40), [], h, none⟩ ?_
      refine ih _ ?_ _ h ((z * 16) + (dgt true (bt t i))) _ _ _ _ _ _ _ _ _ _ _ _ _ _ _ _ _ _ _ _ _ _ _ _ _ _ _ _ _ _ _ _ rfl ?_ ?_ ?_ ?_ ?_ ?_
      ·omega
      ·omega
      ·omega
      ·omega
      ·omega
      ·rw [scan_step h0i (by omega) (by omega), if_pos (by omega)] at hA
       rw [← hA]
       all_goals rfl
      ·exact hX
     ·have c109p := dec_f c109
      refine rn 4 ⟨.ops (p39_37_1 :: o39_37.drop 2), [.blk 1, .loop x39_14, .blk 0, .seq x39_38], (ss (E58 s t z i o15 o16 o17 o18 o19 o20 o21 o22 o23 o24 o25 o26 d40 d41 d56) [(7, iv z), (50, d50), (51, d51), (52, d52), (53, d53), (54, d54)]), [], h, none⟩ ?_
      refine WpM.op (iv (i + 1)) _ (by kernel_rfl) (arith_add (by kernel_rfl) (by kernel_rfl) (by omega)) ?_
      refine rn 4 ⟨.code x39_14, [.loop x39_14, .blk 0, .seq x39_38], (.str s :: U :: iv 0 :: iv 0 :: .slice none 0 0 true :: iv 16 :: .str t :: iv z :: iv (i + 1) :: .int .u8 (bt t i) :: iv (dgt true (bt t i)) :: U :: U :: U :: U :: o15 :: o16 :: o17 :: o18 :: o19 :: o20 :: o21 :: o22 :: o23 :: o24 :: o25 :: o26 :: iv i :: .str t :: iv ((t.length : Int)) :: .bool (decide (i < ((t.length : Int)))) :: .str t :: iv i :: .int .u8 (bt t i) :: .int .u8 (bt t i) :: .bool (decide ((bt t i) ≥ 65)) :: .bool false :: U :: U :: .bool false :: d40 :: d41 :: iv 16 :: .str k_0123456789abcdef :: .int .u8 (bt t i) :: iv (dgt true (bt t i)) :: iv (dgt true (bt t i)) :: .bool (decide ((dgt true (bt t i)) < 0)) :: iv z :: .bool (decide (z < 16777216)) :: d50 :: d51 :: d52 :: d53 :: d54 :: iv i :: iv (i + 1) :: us 40), [], h, none⟩ ?_
      refine ih _ ?_ _ h z _ _ _ _ _ _ _ _ _ _ _ _ _ _ _ _ _ _ _ _ _ _ _ _ _ _ _ _ _ _ _ _ rfl ?_ ?_ ?_ ?_ ?_ ?_
      ·omega
      ·omega
      ·omega
      ·omega
      ·omega
      ·rw [scan_step h0i (by omega) (by omega), if_neg (by omega)] at hA
       rw [← hA]
       all_goals rfl
      ·exact hX
  ·have c101p := dec_f c101
   refine rn 4 ⟨.done .norm, [.seq x39_38], (E55 s t z i d9 d10 o15 o16 o17 o18 o19 o20 o21 o22 o23 o24 o25 o26 d31 d32 d33 d34 d35 d36 d37 d38 d39 d40 d41 d42 d43 d44 d45 d46 d47 d48 d49 d50 d51 d52 d53 d54 d55 d56), [], h, none⟩ ?_
   have hB : (i, z) = dscan true t (0, 0) := (by first | exact (scan_end (by omega)).symm.trans hA | exact (scan_stop h0i (by omega) (by omega)).symm.trans hA)
   rw [← hB]
   exact num_rest hs hts hl h0i h1i hX
def hexQ (s : List UInt8) : Bool := decide (2 < s.length) && (decide (bt (s.drop 2) 0 = 120) || decide (bt (s.drop 2) 0 = 88))
def numP (s : List UInt8) : Int × Int × List Int := if hexQ s = true then numRes s 3 (dscan true ((s.drop 2).drop 1) (0, 0)) else numRes s 2 (dscan false (s.drop 2) (0, 0))
def or32OK (n : Nat) : Bool := (IntKind.wrap .u8 (BitVec.ofInt (IntKind.bits .u8) (n : Int) ||| BitVec.ofInt (IntKind.bits .u8) 32).toNat == 120) == (decide (n = 120) || decide (n = 88))
theorem or32_all : (List.range 256).all or32OK = true := by kernel_rfl
theorem or32 {c : Int} (h0 : 0 ≤ c) (h1 : c ≤ 255) : IntKind.wrap .u8 (BitVec.ofInt (IntKind.bits .u8) c ||| BitVec.ofInt (IntKind.bits .u8) 32).toNat = 120 ↔ (c = 120 ∨ c = 88) := by
 obtain ⟨n, rfl⟩ := Int.eq_ofNat_of_zero_le h0
 have := List.all_eq_true.1 or32_all n (List.mem_range.2 (by omega))
 unfold or32OK at this
 rw [beq_iff_eq, Bool.eq_iff_iff] at this
 simp only [beq_iff_eq, Bool.or_eq_true, decide_eq_true_eq] at this
 rw [this]
 omega
def E59 (s : List UInt8) : List V := (.str s :: U :: iv 0 :: iv 0 :: .slice none 0 0 true :: iv 10 :: .str (s.drop 2) :: U :: U :: U :: U :: U :: U :: U :: U :: .str s :: .str (s.drop 2) :: .str (s.drop 2) :: .bool (!((s.drop 2) == [])) :: .bool (!((s.drop 2) == [])) :: us 77)
def E60 (s : List UInt8) : List V := (.str s :: U :: iv 0 :: iv 0 :: .slice none 0 0 true :: iv 10 :: .str (s.drop 2) :: U :: U :: U :: U :: U :: U :: U :: U :: .str s :: .str (s.drop 2) :: .str (s.drop 2) :: .bool (!((s.drop 2) == [])) :: .bool true :: .str (s.drop 2) :: .int .u8 (bt (s.drop 2) 0) :: .int .u8 (IntKind.wrap .u8 (BitVec.ofInt (IntKind.bits .u8) (bt (s.drop 2) 0) ||| BitVec.ofInt (IntKind.bits .u8) 32).toNat) :: .bool ((IntKind.wrap .u8 (BitVec.ofInt (IntKind.bits .u8) (bt (s.drop 2) 0) ||| BitVec.ofInt (IntKind.bits .u8) 32).toNat) == 120) :: .bool ((IntKind.wrap .u8 (BitVec.ofInt (IntKind.bits .u8) (bt (s.drop 2) 0) ||| BitVec.ofInt (IntKind.bits .u8) 32).toNat) == 120) :: us 72)
theorem number_ok {W : World} {s : List UInt8} {h0 : H} (hs : s.length ≤ 140737488351232) (h2 : 2 ≤ s.length) : WpF Tryd.prog W prim2 39 [.str s] h0 (fun v h' => HX h0 h' ∧ ∃ r e cs w, numP s = (r, e, cs) ∧ v = .tup [iv r, iv e, w] ∧ CodesAt h' w cs) := by
 refine WpF.m tab_ok (by kernel_rfl) rfl ?_
 refine WpM.cfg (c' := ⟨.code x39_0, [], (.str s :: us 96), [], h0, none⟩) (by kernel_rfl) ?_
 refine rn 10 ⟨.draw m39_3 ((1, p39_3_1) :: o39_3.drop 2) [], [.seq x39_4], (.str s :: U :: iv 0 :: iv 0 :: .slice none 0 0 true :: U :: U :: U :: U :: U :: U :: U :: U :: U :: U :: .str s :: us 81), [], h0, none⟩ ?_
 refine WpM.opD (.str (s.drop 2)) _ (by kernel_rfl) (by kernel_rfl) (slice_from (s := s) (l := 2) (by kernel_rfl) (by kernel_rfl) (by kernel_rfl) (optNat_lit (k := .i64) (n := 2) (i := 2) (by first | rfl | omega)) (by first | omega | (simp only [List.length_drop]; omega))) (by kernel_rfl) ?_
 refine rn 10 ⟨.ops (p39_6_3 :: o39_6.drop 4), [.seq x39_7, .seq x39_9], (E59 s), [], h0, none⟩ ?_
 refine WpM.guard (b := (!((s.drop 2) == []))) (by kernel_rfl) (fun c1 => ?_) (fun c1 => ?_)
 ·have c1p := nbeq_t c1
  have hl_c1 : 2 < s.length := by (have h9 := c1p; rw [Ne, List.drop_eq_nil_iff] at h9; omega)
  refine rn 1 ⟨.ops (p39_6_4 :: o39_6.drop 5), [.seq x39_7, .seq x39_9], (ss (E59 s) [(19, .bool true), (20, .str (s.drop 2))]), [], h0, none⟩ ?_
  refine WpM.op (.int .u8 (bt (s.drop 2) 0)) _ (by kernel_rfl) (index_str (k := .i64) (by kernel_rfl) (by kernel_rfl) (by kernel_rfl) (by first | omega | (simp only [List.length_drop]; omega))) ?_
  refine rn 5 ⟨.code x39_7, [.seq x39_9], (E60 s), [], h0, none⟩ ?_
  refine WpM.cond (t := ((IntKind.wrap .u8 (BitVec.ofInt (IntKind.bits .u8) (bt (s.drop 2) 0) ||| BitVec.ofInt (IntKind.bits .u8) 32).toNat) == 120)) (by kernel_rfl) (fun c2 => ?_) (fun c2 => ?_)
  ·have c2p := beq_t c2
   have hb_c2 := or32 (c := bt (s.drop 2) 0) (bt_range _ _).1 (bt_range _ _).2
   refine rn 2 ⟨.draw m39_8 ((1, p39_8_1) :: o39_8.drop 2) [], [.seq x39_9], (ss (E60 s) [(25, .str (s.drop 2))]), [], h0, none⟩ ?_
   refine WpM.opD (.str ((s.drop 2).drop 1)) _ (by kernel_rfl) (by kernel_rfl) (slice_from (s := (s.drop 2)) (l := 1) (by kernel_rfl) (by kernel_rfl) (by kernel_rfl) (optNat_lit (k := .i64) (n := 1) (i := 1) (by first | rfl | omega)) (by first | omega | (simp only [List.length_drop]; omega))) (by kernel_rfl) ?_
   refine rn 13 ⟨.code x39_14, [.loop x39_14, .blk 0, .seq x39_38], (.str s :: U :: iv 0 :: iv 0 :: .slice none 0 0 true :: iv 16 :: .str ((s.drop 2).drop 1) :: iv 0 :: iv 0 :: U :: U :: U :: U :: U :: U :: .str s :: .str (s.drop 2) :: .str (s.drop 2) :: .bool (!((s.drop 2) == [])) :: .bool true :: .str (s.drop 2) :: .int .u8 (bt (s.drop 2) 0) :: .int .u8 (IntKind.wrap .u8 (BitVec.ofInt (IntKind.bits .u8) (bt (s.drop 2) 0) ||| BitVec.ofInt (IntKind.bits .u8) 32).toNat) :: .bool ((IntKind.wrap .u8 (BitVec.ofInt (IntKind.bits .u8) (bt (s.drop 2) 0) ||| BitVec.ofInt (IntKind.bits .u8) 32).toNat) == 120) :: .bool ((IntKind.wrap .u8 (BitVec.ofInt (IntKind.bits .u8) (bt (s.drop 2) 0) ||| BitVec.ofInt (IntKind.bits .u8) 32).toNat) == 120) :: .str (s.drop 2) :: .str ((s.drop 2).drop 1) :: us 70), [], h0, none⟩ ?_
   have hN : numP s = numRes s 3 (dscan true ((s.drop 2).drop 1) (0, 0)) := by unfold numP; rw [if_pos (by unfold hexQ; simp only [Bool.and_eq_true, Bool.or_eq_true, decide_eq_true_eq]; exact ⟨by omega, by omega⟩)]
   rw [hN]
   exact num_loop16 (l := 3) hs (by simp only [List.length_drop]; omega) (by simp only [List.length_drop]; omega) _ 0 _ 0 _ _ _ _ _ _ _ _ _ _ _ _ _ _ _ _ _ _ _ _ _ _ _ _ _ _ _ _ _ _ _ _ rfl (by omega) (by omega) (by omega) (by omega) rfl (HX.refl h0)
  ·have c2p := beq_f c2
   have hb_c2 := or32 (c := bt (s.drop 2) 0) (bt_range _ _).1 (bt_range _ _).2
   refine rn 11 ⟨.code x39_14, [.loop x39_14, .blk 0, .seq x39_38], (.str s :: U :: iv 0 :: iv 0 :: .slice none 0 0 true :: iv 10 :: .str (s.drop 2) :: iv 0 :: iv 0 :: U :: U :: U :: U :: U :: U :: .str s :: .str (s.drop 2) :: .str (s.drop 2) :: .bool (!((s.drop 2) == [])) :: .bool true :: .str (s.drop 2) :: .int .u8 (bt (s.drop 2) 0) :: .int .u8 (IntKind.wrap .u8 (BitVec.ofInt (IntKind.bits .u8) (bt (s.drop 2) 0) ||| BitVec.ofInt (IntKind.bits .u8) 32).toNat) :: .bool ((IntKind.wrap .u8 (BitVec.ofInt (IntKind.bits .u8) (bt (s.drop 2) 0) ||| BitVec.ofInt (IntKind.bits .u8) 32).toNat) == 120) :: .bool ((IntKind.wrap .u8 (BitVec.ofInt (IntKind.bits .u8) (bt (s.drop 2) 0) ||| BitVec.ofInt (IntKind.bits .u8) 32).toNat) == 120) :: us 72), [], h0, none⟩ ?_
   have hN : numP s = numRes s 2 (dscan false (s.drop 2) (0, 0)) := by unfold numP; rw [if_neg (by unfold hexQ; simp only [Bool.and_eq_true, Bool.or_eq_true, decide_eq_true_eq]; omega)]
   rw [hN]
   exact num_loop10 (l := 2) hs (by simp only [List.length_drop]; omega) (by simp only [List.length_drop]; omega) _ 0 _ 0 _ _ _ _ _ _ _ _ _ _ _ _ _ _ _ _ _ _ _ _ _ _ _ _ _ _ _ _ _ _ _ _ rfl (by omega) (by omega) (by omega) (by omega) rfl (HX.refl h0)
 ·have c1p := nbeq_f c1
  have hl_c1 : s.length ≤ 2 := List.drop_eq_nil_iff.1 c1p
  refine rn 19 ⟨.code x39_14, [.loop x39_14, .blk 0, .seq x39_38], (.str s :: U :: iv 0 :: iv 0 :: .slice none 0 0 true :: iv 10 :: .str (s.drop 2) :: iv 0 :: iv 0 :: U :: U :: U :: U :: U :: U :: .str s :: .str (s.drop 2) :: .str (s.drop 2) :: .bool (!((s.drop 2) == [])) :: .bool false :: U :: U :: U :: U :: .bool false :: us 72), [], h0, none⟩ ?_
  have hN : numP s = numRes s 2 (dscan false (s.drop 2) (0, 0)) := by unfold numP; rw [if_neg (by unfold hexQ; simp only [Bool.and_eq_true, Bool.or_eq_true, decide_eq_true_eq]; omega)]
  rw [hN]
  exact num_loop10 (l := 2) hs (by simp only [List.length_drop]; omega) (by simp only [List.length_drop]; omega) _ 0 _ 0 _ _ _ _ _ _ _ _ _ _ _ _ _ _ _ _ _ _ _ _ _ _ _ _ _ _ _ _ _ _ _ _ rfl (by omega) (by omega) (by omega) (by omega) rfl (HX.refl h0)
end Go.Proofs.YtkhjmgchlbnkjaaDoor.Dg
