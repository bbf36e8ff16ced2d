/-
 The names; a number as a character.
-/
import Derived.Test.YtkhjmgchlbnkjaaDoorB0
set_option linter.unusedVariables false
set_option linter.unusedSimpArgs false
namespace Go.Proofs.YtkhjmgchlbnkjaaDoor.Dg
open Go Go.RowKit
set_option maxRecDepth 20000
set_option maxHeartbeats 8000000
def REFS : List T74 := [⟨[65, 77, 80], 38⟩, ⟨[65, 77, 80, 59], 38⟩, ⟨[71, 84], 62⟩, ⟨[71, 84, 59], 62⟩, ⟨[76, 84], 60⟩, ⟨[76, 84, 59], 60⟩, ⟨[81, 85, 79, 84], 34⟩, ⟨[81, 85, 79, 84, 59], 34⟩, ⟨[97, 108, 112, 104, 97, 59], 945⟩, ⟨[97, 109, 112], 38⟩, ⟨[97, 109, 112, 59], 38⟩, ⟨[97, 110, 100, 59], 8743⟩, ⟨[97, 110, 103, 59], 8736⟩, ⟨[97, 112, 111, 115, 59], 39⟩, ⟨[98, 101, 116, 97, 59], 946⟩, ⟨[98, 117, 108, 108, 59], 8226⟩, ⟨[99, 97, 112, 59], 8745⟩, ⟨[99, 101, 110, 116], 162⟩, ⟨[99, 101, 110, 116, 59], 162⟩, ⟨[99, 111, 112, 121], 169⟩, ⟨[99, 111, 112, 121, 59], 169⟩, ⟨[99, 117, 112, 59], 8746⟩, ⟨[100, 101, 103], 176⟩, ⟨[100, 101, 103, 59], 176⟩, ⟨[100, 105, 118, 105, 100, 101], 247⟩, ⟨[100, 105, 118, 105, 100, 101, 59], 247⟩, ⟨[101, 97, 99, 117, 116, 101], 233⟩, ⟨[101, 97, 99, 117, 116, 101, 59], 233⟩, ⟨[101, 109, 115, 112, 59], 8195⟩, ⟨[101, 116, 97, 59], 951⟩, ⟨[101, 116, 104], 240⟩, ⟨[101, 116, 104, 59], 240⟩, ⟨[101, 117, 114, 111, 59], 8364⟩, ⟨[103, 101, 59], 8805⟩, ⟨[103, 116], 62⟩, ⟨[103, 116, 59], 62⟩, ⟨[104, 101, 108, 108, 105, 112, 59], 8230⟩, ⟨[105, 110, 59], 8712⟩, ⟨[105, 110, 116, 59], 8747⟩, ⟨[108, 97, 113, 117, 111], 171⟩, ⟨[108, 97, 113, 117, 111, 59], 171⟩, ⟨[108, 101, 59], 8804⟩, ⟨[108, 116], 60⟩, ⟨[108, 116, 59], 60⟩, ⟨[109, 100, 97, 115, 104, 59], 8212⟩, ⟨[109, 105, 99, 114, 111], 181⟩, ⟨[109, 105, 99, 114, 111, 59], 181⟩, ⟨[110, 98, 115, 112], 160⟩, ⟨[110, 98, 115, 112, 59], 160⟩, ⟨[110, 101, 59], 8800⟩, ⟨[110, 111, 116], 172⟩, ⟨[110, 111, 116, 59], 172⟩, ⟨[110, 111, 116, 105, 110, 59], 8713⟩, ⟨[111, 117, 109, 108], 246⟩, ⟨[111, 117, 109, 108, 59], 246⟩, ⟨[112, 97, 114, 97], 182⟩, ⟨[112, 97, 114, 97, 59], 182⟩, ⟨[112, 105, 59], 960⟩, ⟨[112, 105, 118, 59], 982⟩, ⟨[113, 117, 111, 116], 34⟩, ⟨[113, 117, 111, 116, 59], 34⟩, ⟨[114, 97, 113, 117, 111], 187⟩, ⟨[114, 97, 113, 117, 111, 59], 187⟩, ⟨[114, 101, 103], 174⟩, ⟨[114, 101, 103, 59], 174⟩, ⟨[115, 101, 99, 116], 167⟩, ⟨[115, 101, 99, 116, 59], 167⟩, ⟨[115, 104, 121], 173⟩, ⟨[115, 104, 121, 59], 173⟩, ⟨[115, 117, 98, 59], 8834⟩, ⟨[115, 117, 109, 59], 8721⟩, ⟨[116, 105, 109, 101, 115], 215⟩, ⟨[116, 105, 109, 101, 115, 59], 215⟩, ⟨[117, 109, 108], 168⟩, ⟨[117, 109, 108, 59], 168⟩, ⟨[121, 101, 110], 165⟩, ⟨[121, 101, 110, 59], 165⟩, ⟨[122, 119, 106, 59], 8205⟩]
theorem refs_len : REFS.length = 78 := rfl
theorem refs_good : ∀ x ∈ REFS, x.fName ≠ [] ∧ x.fName.length ≤ 8 := by
 have h : REFS.all (fun x => !x.fName.isEmpty && decide (x.fName.length ≤ 8)) = true := by kernel_rfl
 intro x hx
 have := List.all_eq_true.1 h x hx
 simp only [Bool.and_eq_true, decide_eq_true_eq, Bool.not_eq_true'] at this
 exact ⟨fun e => by (rw [e] at this; exact absurd this.1 (by decide)), this.2⟩
def domL (l : List T74) (w : Wrd) : Bool := w == [] || l.any fun x => w.isPrefixOf x.fName
def isL (l : List T74) (w : Wrd) : Bool := l.any fun x => x.fName == w
def rL (l : List T74) (w : Wrd) : Int := match l.find? (fun x => x.fName == w) with | some x => x.fR | none => 0
theorem TL.eqs {l : List T74} {D B : Wrd → Bool} {R : Wrd → Int} (t : TL l D B R) : D = domL l ∧ B = isL l ∧ R = rL l := ⟨funext t.D, funext t.B, funext t.R⟩
theorem new_refs {W : World} {q : Nat} {hB : H} (lq : q < hB.nx) (gq : hB.get q = some (.cells (rv T74.cells REFS) 74)) : WpF Tryd.prog W prim2 23 [.slice (nw q) 78 78 true] hB (fun v h' => HX hB h' ∧ ∃ (p : Wrd → Nat) (m : Wrd → Option Nat) (c : Int) (pt : Nat), v = .ptr (nw pt) ∧ p [] = pt ∧ Tri 72 70 hB.nx h' (domL REFS) (isL REFS) (rL REFS) p m c ∧ 0 < c) := by
 have h := new_ok (W := W) lq gq (by rw [refs_len]; decide) refs_good
 rw [refs_len] at h
 refine WpF.mono h ?_
 rintro v h' ⟨a, D, B, R, p, m, c, rfl, hT, hL, hc⟩
 obtain ⟨rfl, rfl, rfl⟩ := hL.eqs
 exact ⟨a, p, m, c, _, rfl, rfl, hT, hc (by intro e; cases e)⟩
def C1 : List Int := [8364, 129, 8218, 402, 8222, 8230, 8224, 8225, 710, 8240, 352, 8249, 338, 141, 381, 143, 144, 8216, 8217, 8220, 8221, 8226, 8211, 8212, 732, 8482, 353, 8250, 339, 157, 382, 376]
theorem c1_range (i : Int) : 0 ≤ gt C1 i ∧ gt C1 i ≤ 65536 := by
 have h : C1.all (fun x => decide (0 ≤ x ∧ x ≤ 65536)) = true := by kernel_rfl
 unfold gt
 rw [List.getD_eq_getElem?_getD]
 cases e : C1[i.toNat]? with
 | none => decide
 | some x =>
  have := List.all_eq_true.1 h x (List.mem_of_getElem? e)
  simpa using this
def numV (n : Int) : Int := if n ≤ 0 ∨ 1114111 < n ∨ (55296 ≤ n ∧ n ≤ 57343) then 65533 else if 128 ≤ n ∧ n < 160 then gt C1 (n - 128) else n
def badN (n : Int) : Bool := decide (n ≤ 0 ∨ 1114111 < n ∨ (55296 ≤ n ∧ n ≤ 57343) ∨ (128 ≤ n ∧ n < 160) ∨ (n < 32 ∧ n ≠ 9 ∧ n ≠ 10 ∧ n ≠ 12) ∨ n = 127 ∨ (64976 ≤ n ∧ n ≤ 65007) ∨ 65534 ≤ n % 65536)
def numF (n : Int) : Int := if badN n = true then 20 else 0
theorem numF_bad {n : Int} (h : n ≤ 0 ∨ 1114111 < n ∨ (55296 ≤ n ∧ n ≤ 57343) ∨ (128 ≤ n ∧ n < 160) ∨ (n < 32 ∧ n ≠ 9 ∧ n ≠ 10 ∧ n ≠ 12) ∨ n = 127 ∨ (64976 ≤ n ∧ n ≤ 65007) ∨ 65534 ≤ n % 65536) : numF n = 20 := by unfold numF badN; rw [if_pos (decide_eq_true h)]
theorem numF_good {n : Int} (h : ¬ (n ≤ 0 ∨ 1114111 < n ∨ (55296 ≤ n ∧ n ≤ 57343) ∨ (128 ≤ n ∧ n < 160) ∨ (n < 32 ∧ n ≠ 9 ∧ n ≠ 10 ∧ n ≠ 12) ∨ n = 127 ∨ (64976 ≤ n ∧ n ≤ 65007) ∨ 65534 ≤ n % 65536)) : numF n = 0 := by unfold numF badN; rw [if_neg (by simpa using h)]
theorem numV_odd {n : Int} (h : n ≤ 0 ∨ 1114111 < n ∨ (55296 ≤ n ∧ n ≤ 57343)) : numV n = 65533 := by unfold numV; rw [if_pos h]
theorem numV_c1 {n : Int} (h : 128 ≤ n ∧ n < 160) : numV n = gt C1 (n - 128) := by unfold numV; rw [if_neg (by omega), if_pos h]
theorem numV_id {n : Int} (h : ¬ (n ≤ 0 ∨ 1114111 < n ∨ (55296 ≤ n ∧ n ≤ 57343))) (h2 : ¬ (128 ≤ n ∧ n < 160)) : numV n = n := by unfold numV; rw [if_neg h, if_neg h2]
theorem and_nat {n : Int} (h0 : 0 ≤ n) (h1 : n ≤ 1114111) {k : Nat} (hk : k < 65536) : IntKind.wrap .i64 (BitVec.ofInt (IntKind.bits .i64) n &&& BitVec.ofInt (IntKind.bits .i64) (k : Int)).toNat = ((n.toNat &&& k : Nat) : Int) := by
 obtain ⟨m, rfl⟩ := Int.eq_ofNat_of_zero_le h0
 have e1 : ∀ j : Nat, j < 2 ^ 64 → (BitVec.ofInt (IntKind.bits .i64) (j : Int)).toNat = j := fun j hj => by
  show (BitVec.ofInt 64 (j : Int)).toNat = j
  rw [BitVec.toNat_ofInt]
  omega
 rw [BitVec.toNat_and, e1 m (by omega), e1 k (by omega)]
 have h2 : m &&& k ≤ k := Nat.and_le_right
 have h3 : (m : Int).toNat = m := rfl
 rw [h3]
 exact wrap_id (by omega) (by omega)
theorem and_mod {m : Nat} : m &&& 65535 = m % 65536 := Nat.and_two_pow_sub_one_eq_mod m 16
theorem and_two {m : Nat} : m &&& 65534 = m % 65536 / 2 * 2 := by
 have h1 : (m &&& 65534) / 2 = m / 2 % 32768 := by
  rw [Nat.and_div_two]
  exact Nat.and_two_pow_sub_one_eq_mod (m / 2) 15
 have h2 : (m &&& 65534) % 2 = 0 := by
  have := Nat.and_mod_two_pow (a := m) (b := 65534) (n := 1)
  simpa using this
 omega
theorem and_hi {n : Int} (h0 : 0 < n) (h1 : n ≤ 1114111) : (IntKind.wrap .i64 (BitVec.ofInt (IntKind.bits .i64) n &&& BitVec.ofInt (IntKind.bits .i64) 65534).toNat = 65534) ↔ 65534 ≤ n % 65536 := by
 have := and_nat (by omega : 0 ≤ n) h1 (k := 65534) (by decide)
 rw [and_two] at this
 have e : ((65534 : Nat) : Int) = 65534 := rfl
 rw [e] at this
 rw [this]
 omega
theorem and_lo {n : Int} (h0 : 0 < n) (h1 : n ≤ 1114111) : IntKind.wrap .i64 (BitVec.ofInt (IntKind.bits .i64) n &&& BitVec.ofInt (IntKind.bits .i64) 65535).toNat = n % 65536 := by
 have := and_nat (by omega : 0 ≤ n) h1 (k := 65535) (by decide)
 rw [and_mod] at this
 have e : ((65535 : Nat) : Int) = 65535 := rfl
 rw [e] at this
 rw [this]
 omega
theorem refs_ok {W : World} (h : H) : WpF Tryd.prog W prim2 24 [] h (fun v h' => HX h h' ∧ ∃ q, v = .slice (nw q) 78 78 true ∧ q < h'.nx ∧ h'.get q = some (.cells (rv T74.cells REFS) 74)) := by
 have e : (run Tryd.prog W prim2 40).call 24 [] h = some (.slice (nw h.nx) 78 78 true, h.alloc (.cells (rv T74.cells REFS) 74)) := by kernel_rfl
 exact WpF.at e ⟨(HX.refl h).alloc (HA.mk' h _), _, rfl, (HA.mk' h _).lt, (HA.mk' h _).get⟩
def E14 (n : Int) : List V := (iv n :: U :: iv 65533 :: iv 20 :: .bool true :: iv n :: .bool (decide (n ≤ 0)) :: .bool true :: U :: U :: .bool true :: .bool true :: U :: U :: U :: U :: U :: U :: .bool true :: us 41)
def E15 (n : Int) : List V := (iv n :: U :: iv 0 :: iv 0 :: U :: iv n :: .bool (decide (n ≤ 0)) :: .bool false :: iv n :: .bool (decide (n > 1114111)) :: .bool (decide (n > 1114111)) :: .bool (decide (n > 1114111)) :: us 48)
def E16 (n : Int) : List V := (iv n :: U :: iv 0 :: iv 0 :: .bool (decide (n ≤ 57343)) :: iv n :: .bool (decide (n ≤ 0)) :: .bool false :: iv n :: .bool (decide (n > 1114111)) :: .bool (decide (n > 1114111)) :: .bool false :: iv n :: .bool (decide (n ≥ 55296)) :: .bool true :: iv n :: .bool (decide (n ≤ 57343)) :: .bool (decide (n ≤ 57343)) :: .bool (decide (n ≤ 57343)) :: us 41)
def E17 (n : Int) : List V := (iv n :: U :: iv 0 :: iv 0 :: .bool (decide (n ≤ 57343)) :: iv n :: .bool (decide (n ≤ 0)) :: .bool false :: iv n :: .bool (decide (n > 1114111)) :: .bool (decide (n > 1114111)) :: .bool false :: iv n :: .bool (decide (n ≥ 55296)) :: .bool true :: iv n :: .bool (decide (n ≤ 57343)) :: .bool (decide (n ≤ 57343)) :: .bool (decide (n ≤ 57343)) :: .bool (decide (n < 160)) :: iv n :: .bool (decide (n ≥ 128)) :: .bool true :: iv n :: .bool (decide (n < 160)) :: .bool (decide (n < 160)) :: U :: U :: U :: U :: U :: U :: .bool (n == 127) :: iv n :: .bool (decide (n < 32)) :: .bool false :: U :: U :: .bool false :: .bool false :: U :: U :: .bool false :: .bool false :: U :: U :: .bool false :: iv n :: .bool (n == 127) :: us 11)
def E18 (n : Int) : List V := (iv n :: U :: iv 0 :: iv 0 :: .bool false :: iv n :: .bool (decide (n ≤ 0)) :: .bool false :: iv n :: .bool (decide (n > 1114111)) :: .bool (decide (n > 1114111)) :: .bool false :: iv n :: .bool (decide (n ≥ 55296)) :: .bool false :: U :: U :: .bool false :: .bool false :: .bool (decide (n < 160)) :: iv n :: .bool (decide (n ≥ 128)) :: .bool true :: iv n :: .bool (decide (n < 160)) :: .bool (decide (n < 160)) :: us 34)
def E19 (n : Int) : List V := (iv n :: U :: iv n :: iv 20 :: .bool false :: iv n :: .bool (decide (n ≤ 0)) :: .bool false :: iv n :: .bool (decide (n > 1114111)) :: .bool (decide (n > 1114111)) :: .bool false :: iv n :: .bool (decide (n ≥ 55296)) :: .bool false :: U :: U :: .bool false :: .bool false :: .bool (decide (n < 160)) :: iv n :: .bool (decide (n ≥ 128)) :: .bool true :: iv n :: .bool (decide (n < 160)) :: .bool (decide (n < 160)) :: U :: U :: U :: U :: U :: U :: .bool ((IntKind.wrap .i64 (BitVec.ofInt (IntKind.bits .i64) n &&& BitVec.ofInt (IntKind.bits .i64) 65534).toNat) == 65534) :: iv n :: .bool (decide (n < 32)) :: .bool false :: U :: U :: .bool false :: .bool false :: U :: U :: .bool false :: .bool false :: U :: U :: .bool false :: iv n :: .bool (n == 127) :: iv n :: .bool (decide (n ≥ 64976)) :: .bool false :: U :: U :: .bool false :: iv n :: iv (IntKind.wrap .i64 (BitVec.ofInt (IntKind.bits .i64) n &&& BitVec.ofInt (IntKind.bits .i64) 65534).toNat) :: .bool ((IntKind.wrap .i64 (BitVec.ofInt (IntKind.bits .i64) n &&& BitVec.ofInt (IntKind.bits .i64) 65534).toNat) == 65534) :: iv n :: U :: [])
def E20 (n : Int) : List V := (iv n :: U :: iv 0 :: iv 0 :: .bool false :: iv n :: .bool (decide (n ≤ 0)) :: .bool false :: iv n :: .bool (decide (n > 1114111)) :: .bool (decide (n > 1114111)) :: .bool false :: iv n :: .bool (decide (n ≥ 55296)) :: .bool false :: U :: U :: .bool false :: .bool false :: .bool false :: iv n :: .bool (decide (n ≥ 128)) :: .bool false :: U :: U :: .bool false :: U :: U :: U :: U :: U :: U :: U :: iv n :: .bool (decide (n < 32)) :: .bool true :: iv n :: .bool (!(n == 9)) :: .bool (!(n == 9)) :: .bool true :: iv n :: .bool (!(n == 10)) :: .bool (!(n == 10)) :: .bool (!(n == 10)) :: us 16)
def E21 (n : Int) : List V := (iv n :: U :: iv n :: iv 20 :: .bool false :: iv n :: .bool (decide (n ≤ 0)) :: .bool false :: iv n :: .bool (decide (n > 1114111)) :: .bool (decide (n > 1114111)) :: .bool false :: iv n :: .bool (decide (n ≥ 55296)) :: .bool false :: U :: U :: .bool false :: .bool false :: .bool false :: iv n :: .bool (decide (n ≥ 128)) :: .bool false :: U :: U :: .bool false :: U :: U :: U :: U :: U :: U :: .bool ((IntKind.wrap .i64 (BitVec.ofInt (IntKind.bits .i64) n &&& BitVec.ofInt (IntKind.bits .i64) 65534).toNat) == 65534) :: iv n :: .bool (decide (n < 32)) :: .bool true :: iv n :: .bool (!(n == 9)) :: .bool (!(n == 9)) :: .bool true :: iv n :: .bool (!(n == 10)) :: .bool (!(n == 10)) :: .bool true :: iv n :: .bool (!(n == 12)) :: .bool (!(n == 12)) :: iv n :: .bool (n == 127) :: iv n :: .bool (decide (n ≥ 64976)) :: .bool false :: U :: U :: .bool false :: iv n :: iv (IntKind.wrap .i64 (BitVec.ofInt (IntKind.bits .i64) n &&& BitVec.ofInt (IntKind.bits .i64) 65534).toNat) :: .bool ((IntKind.wrap .i64 (BitVec.ofInt (IntKind.bits .i64) n &&& BitVec.ofInt (IntKind.bits .i64) 65534).toNat) == 65534) :: iv n :: U :: [])
theorem num_ok {W : World} {n : Int} (h : H) : WpF Tryd.prog W prim2 8 [iv n] h (fun v h' => HX h h' ∧ v = .tup [iv (numV n), iv (numF n)]) := by
 refine WpF.m tab_ok (by kernel_rfl) rfl ?_
 refine WpM.cfg (c' := ⟨.code x8_0, [], (iv n :: us 59), [], h, none⟩) (by kernel_rfl) ?_
 refine rn 13 ⟨.ops (p8_5_3 :: o8_5.drop 4), [.seq x8_6, .blk 0, .seq x8_28], (iv n :: U :: iv 0 :: iv 0 :: U :: iv n :: .bool (decide (n ≤ 0)) :: .bool (decide (n ≤ 0)) :: us 52), [], h, none⟩ ?_
 refine WpM.guard (b := (decide (n ≤ 0))) (by kernel_rfl) (fun c1 => ?_) (fun c1 => ?_)
 ·have c1p := dec_t c1
  refine rn 24 ⟨.done .ret, [], (E14 n), [], h, none⟩ ?_
  refine WpM.ret (.tup [iv 65533, iv 20]) h (by kernel_rfl) (by kernel_rfl) ?_
  exact ⟨(HX.refl h), by rw [numV_odd (by omega), numF_bad (by omega)]⟩
 ·have c1p := dec_f c1
  refine rn 4 ⟨.ops (p8_5_7 :: o8_5.drop 8), [.seq x8_6, .blk 0, .seq x8_28], (E15 n), [], h, none⟩ ?_
  refine WpM.guard (b := (decide (n > 1114111))) (by kernel_rfl) (fun c2 => ?_) (fun c2 => ?_)
  ·have c2p := dec_t c2
   refine rn 20 ⟨.done .ret, [], (ss (E15 n) [(2, iv 65533), (3, iv 20), (4, .bool true), (11, .bool true), (18, .bool true)]), [], h, none⟩ ?_
   refine WpM.ret (.tup [iv 65533, iv 20]) h (by kernel_rfl) (by kernel_rfl) ?_
   exact ⟨(HX.refl h), by rw [numV_odd (by omega), numF_bad (by omega)]⟩
  ·have c2p := dec_f c2
   refine rn 3 ⟨.ops (p8_5_10 :: o8_5.drop 11), [.seq x8_6, .blk 0, .seq x8_28], (ss (E15 n) [(11, .bool false), (12, iv n), (13, .bool (decide (n ≥ 55296))), (14, .bool (decide (n ≥ 55296)))]), [], h, none⟩ ?_
   refine WpM.guard (b := (decide (n ≥ 55296))) (by kernel_rfl) (fun c3 => ?_) (fun c3 => ?_)
   ·have c3p := dec_t c3
    refine rn 7 ⟨.code x8_6, [.blk 0, .seq x8_28], (E16 n), [], h, none⟩ ?_
    refine WpM.cond (t := (decide (n ≤ 57343))) (by kernel_rfl) (fun c4 => ?_) (fun c4 => ?_)
    ·have c4p := dec_t c4
     refine rn 9 ⟨.done .ret, [], (ss (E16 n) [(2, iv 65533), (3, iv 20)]), [], h, none⟩ ?_
     refine WpM.ret (.tup [iv 65533, iv 20]) h (by kernel_rfl) (by kernel_rfl) ?_
     exact ⟨(HX.refl h), by rw [numV_odd (by omega), numF_bad (by omega)]⟩
    ·have c4p := dec_f c4
     refine rn 5 ⟨.ops (p8_10_3 :: o8_10.drop 4), [.seq x8_11, .blk 0, .seq x8_28], (ss (E16 n) [(20, iv n), (21, .bool (decide (n ≥ 128))), (22, .bool (decide (n ≥ 128)))]), [], h, none⟩ ?_
     refine WpM.guard (b := (decide (n ≥ 128))) (by kernel_rfl) (fun c5 => ?_) (fun c5 => ?_)
     ·have c5p := dec_t c5
      refine rn 6 ⟨.code x8_11, [.blk 0, .seq x8_28], (ss (E16 n) [(19, .bool (decide (n < 160))), (20, iv n), (21, .bool (decide (n ≥ 128))), (22, .bool true), (23, iv n), (24, .bool (decide (n < 160))), (25, .bool (decide (n < 160)))]), [], h, none⟩ ?_
      refine WpM.cond (t := (decide (n < 160))) (by kernel_rfl) (fun c6 => ?_) (fun c6 => ?_)
      ·have c6p := dec_t c6
       exfalso; omega
      ·have c6p := dec_f c6
       refine rn 6 ⟨.ops (p8_16_3 :: o8_16.drop 4), [.seq x8_17, .seq x8_25, .blk 0, .seq x8_28], (ss (E16 n) [(19, .bool (decide (n < 160))), (20, iv n), (21, .bool (decide (n ≥ 128))), (22, .bool true), (23, iv n), (24, .bool (decide (n < 160))), (25, .bool (decide (n < 160))), (33, iv n), (34, .bool (decide (n < 32))), (35, .bool (decide (n < 32)))]), [], h, none⟩ ?_
       refine WpM.guard (b := (decide (n < 32))) (by kernel_rfl) (fun c7 => ?_) (fun c7 => ?_)
       ·have c7p := dec_t c7
        exfalso; omega
       ·have c7p := dec_f c7
        refine rn 22 ⟨.code x8_20, [.seq x8_25, .blk 0, .seq x8_28], (E17 n), [], h, none⟩ ?_
        refine WpM.cond (t := (n == 127)) (by kernel_rfl) (fun c8 => ?_) (fun c8 => ?_)
        ·have c8p := beq_t c8
         exfalso; omega
        ·have c8p := beq_f c8
         refine rn 5 ⟨.ops (p8_22_3 :: o8_22.drop 4), [.seq x8_23, .seq x8_25, .blk 0, .seq x8_28], (ss (E17 n) [(49, iv n), (50, .bool (decide (n ≥ 64976))), (51, .bool (decide (n ≥ 64976)))]), [], h, none⟩ ?_
         refine WpM.guard (b := (decide (n ≥ 64976))) (by kernel_rfl) (fun c9 => ?_) (fun c9 => ?_)
         ·have c9p := dec_t c9
          refine rn 6 ⟨.code x8_23, [.seq x8_25, .blk 0, .seq x8_28], (ss (E17 n) [(32, .bool (decide (n ≤ 65007))), (49, iv n), (50, .bool (decide (n ≥ 64976))), (51, .bool true), (52, iv n), (53, .bool (decide (n ≤ 65007))), (54, .bool (decide (n ≤ 65007)))]), [], h, none⟩ ?_
          refine WpM.cond (t := (decide (n ≤ 65007))) (by kernel_rfl) (fun c10 => ?_) (fun c10 => ?_)
          ·have c10p := dec_t c10
           refine rn 2 ⟨.code x8_25, [.blk 0, .seq x8_28], (ss (E17 n) [(32, .bool (decide (n ≤ 65007))), (49, iv n), (50, .bool (decide (n ≥ 64976))), (51, .bool true), (52, iv n), (53, .bool (decide (n ≤ 65007))), (54, .bool (decide (n ≤ 65007)))]), [], h, none⟩ ?_
           refine WpM.cond (t := (decide (n ≤ 65007))) (by kernel_rfl) (fun e_ => ?_) (fun e_ => absurd (e_.symm.trans c10) (by decide))
           refine rn 10 ⟨.done .ret, [], (ss (E17 n) [(2, iv n), (3, iv 20), (32, .bool (decide (n ≤ 65007))), (49, iv n), (50, .bool (decide (n ≥ 64976))), (51, .bool true), (52, iv n), (53, .bool (decide (n ≤ 65007))), (54, .bool (decide (n ≤ 65007))), (58, iv n)]), [], h, none⟩ ?_
           refine WpM.ret (.tup [iv n, iv 20]) h (by kernel_rfl) (by kernel_rfl) ?_
           exact ⟨(HX.refl h), by rw [numV_id (by omega) (by omega), numF_bad (by omega)]⟩
          ·have c10p := dec_f c10
           refine rn 7 ⟨.code x8_25, [.blk 0, .seq x8_28], (ss (E17 n) [(32, .bool ((IntKind.wrap .i64 (BitVec.ofInt (IntKind.bits .i64) n &&& BitVec.ofInt (IntKind.bits .i64) 65534).toNat) == 65534)), (49, iv n), (50, .bool (decide (n ≥ 64976))), (51, .bool true), (52, iv n), (53, .bool (decide (n ≤ 65007))), (54, .bool (decide (n ≤ 65007))), (55, iv n), (56, iv (IntKind.wrap .i64 (BitVec.ofInt (IntKind.bits .i64) n &&& BitVec.ofInt (IntKind.bits .i64) 65534).toNat)), (57, .bool ((IntKind.wrap .i64 (BitVec.ofInt (IntKind.bits .i64) n &&& BitVec.ofInt (IntKind.bits .i64) 65534).toNat) == 65534))]), [], h, none⟩ ?_
           refine WpM.cond (t := ((IntKind.wrap .i64 (BitVec.ofInt (IntKind.bits .i64) n &&& BitVec.ofInt (IntKind.bits .i64) 65534).toNat) == 65534)) (by kernel_rfl) (fun c11 => ?_) (fun c11 => ?_)
           ·have c11p := beq_t c11
            have hb_c11 := and_hi (n := n) (by omega) (by omega)
            refine rn 10 ⟨.done .ret, [], (ss (E17 n) [(2, iv n), (3, iv 20), (32, .bool ((IntKind.wrap .i64 (BitVec.ofInt (IntKind.bits .i64) n &&& BitVec.ofInt (IntKind.bits .i64) 65534).toNat) == 65534)), (49, iv n), (50, .bool (decide (n ≥ 64976))), (51, .bool true), (52, iv n), (53, .bool (decide (n ≤ 65007))), (54, .bool (decide (n ≤ 65007))), (55, iv n), (56, iv (IntKind.wrap .i64 (BitVec.ofInt (IntKind.bits .i64) n &&& BitVec.ofInt (IntKind.bits .i64) 65534).toNat)), (57, .bool ((IntKind.wrap .i64 (BitVec.ofInt (IntKind.bits .i64) n &&& BitVec.ofInt (IntKind.bits .i64) 65534).toNat) == 65534)), (58, iv n)]), [], h, none⟩ ?_
            refine WpM.ret (.tup [iv n, iv 20]) h (by kernel_rfl) (by kernel_rfl) ?_
            exact ⟨(HX.refl h), by rw [numV_id (by omega) (by omega), numF_bad (by omega)]⟩
           ·have c11p := beq_f c11
            have hb_c11 := and_hi (n := n) (by omega) (by omega)
            refine rn 11 ⟨.done .ret, [], (ss (E17 n) [(2, iv n), (32, .bool ((IntKind.wrap .i64 (BitVec.ofInt (IntKind.bits .i64) n &&& BitVec.ofInt (IntKind.bits .i64) 65534).toNat) == 65534)), (49, iv n), (50, .bool (decide (n ≥ 64976))), (51, .bool true), (52, iv n), (53, .bool (decide (n ≤ 65007))), (54, .bool (decide (n ≤ 65007))), (55, iv n), (56, iv (IntKind.wrap .i64 (BitVec.ofInt (IntKind.bits .i64) n &&& BitVec.ofInt (IntKind.bits .i64) 65534).toNat)), (57, .bool ((IntKind.wrap .i64 (BitVec.ofInt (IntKind.bits .i64) n &&& BitVec.ofInt (IntKind.bits .i64) 65534).toNat) == 65534)), (59, iv n)]), [], h, none⟩ ?_
            refine WpM.ret (.tup [iv n, iv 0]) h (by kernel_rfl) (by kernel_rfl) ?_
            exact ⟨(HX.refl h), by rw [numV_id (by omega) (by omega), numF_good (by omega)]⟩
         ·have c9p := dec_f c9
          refine rn 14 ⟨.code x8_25, [.blk 0, .seq x8_28], (ss (E17 n) [(32, .bool ((IntKind.wrap .i64 (BitVec.ofInt (IntKind.bits .i64) n &&& BitVec.ofInt (IntKind.bits .i64) 65534).toNat) == 65534)), (49, iv n), (50, .bool (decide (n ≥ 64976))), (51, .bool false), (54, .bool false), (55, iv n), (56, iv (IntKind.wrap .i64 (BitVec.ofInt (IntKind.bits .i64) n &&& BitVec.ofInt (IntKind.bits .i64) 65534).toNat)), (57, .bool ((IntKind.wrap .i64 (BitVec.ofInt (IntKind.bits .i64) n &&& BitVec.ofInt (IntKind.bits .i64) 65534).toNat) == 65534))]), [], h, none⟩ ?_
          refine WpM.cond (t := ((IntKind.wrap .i64 (BitVec.ofInt (IntKind.bits .i64) n &&& BitVec.ofInt (IntKind.bits .i64) 65534).toNat) == 65534)) (by kernel_rfl) (fun c12 => ?_) (fun c12 => ?_)
          ·have c12p := beq_t c12
           have hb_c12 := and_hi (n := n) (by omega) (by omega)
           refine rn 10 ⟨.done .ret, [], (ss (E17 n) [(2, iv n), (3, iv 20), (32, .bool ((IntKind.wrap .i64 (BitVec.ofInt (IntKind.bits .i64) n &&& BitVec.ofInt (IntKind.bits .i64) 65534).toNat) == 65534)), (49, iv n), (50, .bool (decide (n ≥ 64976))), (51, .bool false), (54, .bool false), (55, iv n), (56, iv (IntKind.wrap .i64 (BitVec.ofInt (IntKind.bits .i64) n &&& BitVec.ofInt (IntKind.bits .i64) 65534).toNat)), (57, .bool ((IntKind.wrap .i64 (BitVec.ofInt (IntKind.bits .i64) n &&& BitVec.ofInt (IntKind.bits .i64) 65534).toNat) == 65534)), (58, iv n)]), [], h, none⟩ ?_
           refine WpM.ret (.tup [iv n, iv 20]) h (by kernel_rfl) (by kernel_rfl) ?_
           exact ⟨(HX.refl h), by rw [numV_id (by omega) (by omega), numF_bad (by omega)]⟩
          ·have c12p := beq_f c12
           have hb_c12 := and_hi (n := n) (by omega) (by omega)
           refine rn 11 ⟨.done .ret, [], (ss (E17 n) [(2, iv n), (32, .bool ((IntKind.wrap .i64 (BitVec.ofInt (IntKind.bits .i64) n &&& BitVec.ofInt (IntKind.bits .i64) 65534).toNat) == 65534)), (49, iv n), (50, .bool (decide (n ≥ 64976))), (51, .bool false), (54, .bool false), (55, iv n), (56, iv (IntKind.wrap .i64 (BitVec.ofInt (IntKind.bits .i64) n &&& BitVec.ofInt (IntKind.bits .i64) 65534).toNat)), (57, .bool ((IntKind.wrap .i64 (BitVec.ofInt (IntKind.bits .i64) n &&& BitVec.ofInt (IntKind.bits .i64) 65534).toNat) == 65534)), (59, iv n)]), [], h, none⟩ ?_
           refine WpM.ret (.tup [iv n, iv 0]) h (by kernel_rfl) (by kernel_rfl) ?_
           exact ⟨(HX.refl h), by rw [numV_id (by omega) (by omega), numF_good (by omega)]⟩
     ·have c5p := dec_f c5
      exfalso; omega
   ·have c3p := dec_f c3
    refine rn 13 ⟨.ops (p8_10_3 :: o8_10.drop 4), [.seq x8_11, .blk 0, .seq x8_28], (ss (E16 n) [(4, .bool false), (14, .bool false), (15, U), (16, U), (17, .bool false), (18, .bool false), (20, iv n), (21, .bool (decide (n ≥ 128))), (22, .bool (decide (n ≥ 128)))]), [], h, none⟩ ?_
    refine WpM.guard (b := (decide (n ≥ 128))) (by kernel_rfl) (fun c13 => ?_) (fun c13 => ?_)
    ·have c13p := dec_t c13
     refine rn 6 ⟨.code x8_11, [.blk 0, .seq x8_28], (E18 n), [], h, none⟩ ?_
     refine WpM.cond (t := (decide (n < 160))) (by kernel_rfl) (fun c14 => ?_) (fun c14 => ?_)
     ·have c14p := dec_t c14
      refine rn 10 ⟨.ops (p19_3_0 :: o19_3.drop 1), [.seq .ret, .call [.tmp 0] (some 26) (o8_13.drop 1) (E18 n) [] none, .seq .ret, .blk 0, .seq x8_28], [.slice none 0 0 true, U], [], h, none⟩ ?_
      refine WpM.opA (fun p => .slice (nw p) 32 32 true) (.cells (rv (fun x => [.int .i32 x]) C1) 21) (by kernel_rfl) (by kernel_rfl) (fun p15 h16 a17 => ?_)
      refine rn 6 ⟨.ops (p8_13_2 :: o8_13.drop 3), [.seq .ret, .blk 0, .seq x8_28], (ss (E18 n) [(26, .slice (nw p15) 32 32 true), (27, iv n)]), [], h16, none⟩ ?_
      refine WpM.op (iv (n - 128)) _ (by kernel_rfl) (arith_sub (by kernel_rfl) (by kernel_rfl) (by first | omega | (have c1l : C1.length = 32 := rfl; have := c1_range (n - 128); omega))) ?_
      refine rn 0 ⟨.ops (p8_13_3 :: o8_13.drop 4), [.seq .ret, .blk 0, .seq x8_28], (ss (E18 n) [(26, .slice (nw p15) 32 32 true), (27, iv n), (28, iv (n - 128))]), [], h16, none⟩ ?_
      refine WpM.op (.ptr (some (.new p15 (0 + (n - 128).toNat * 1)))) _ (by kernel_rfl) (indexAddr_sl (e := 21) (a := (.new p15 0)) (len := 32) (lb := 32) (ex := true) (z := 1) (k := .i64) (n := (n - 128)) (by kernel_rfl) (by kernel_rfl) (by kernel_rfl) (by kernel_rfl) (by first | omega | (have c1l : C1.length = 32 := rfl; have := c1_range (n - 128); omega))) ?_
      refine rn 0 ⟨.ops (p8_13_4 :: o8_13.drop 5), [.seq .ret, .blk 0, .seq x8_28], (ss (E18 n) [(26, .slice (nw p15) 32 32 true), (27, iv n), (28, iv (n - 128)), (29, .ptr (some (.new p15 (0 + (n - 128).toNat * 1))))]), [], h16, none⟩ ?_
      refine WpM.op (.int .i32 ((gt C1 (n - 128)))) _ (by kernel_rfl) (load_new (o := (0 + (n - 128).toNat * 1)) (by kernel_rfl) a17.get (rv_ld (z := 1) (f := (fun x => [.int .i32 x])) (fun _ => rfl) (i := (n - 128)) (by first | omega | (have c1l : C1.length = 32 := rfl; have := c1_range (n - 128); omega)) (off := 0) (by kernel_rfl) (by decide) (by kernel_rfl) (by first | omega | (have c1l : C1.length = 32 := rfl; have := c1_range (n - 128); omega)))) ?_
      refine rn 0 ⟨.ops (p8_13_5 :: o8_13.drop 6), [.seq .ret, .blk 0, .seq x8_28], (ss (E18 n) [(26, .slice (nw p15) 32 32 true), (27, iv n), (28, iv (n - 128)), (29, .ptr (some (.new p15 (0 + (n - 128).toNat * 1)))), (30, .int .i32 ((gt C1 (n - 128))))]), [], h16, none⟩ ?_
      refine WpM.op (iv ((gt C1 (n - 128)))) _ (by kernel_rfl) (conv_i64 (k := .i32) (ht := rfl) (hu := by kernel_rfl) (hx := by kernel_rfl) (hn := by first | omega | (have c1l : C1.length = 32 := rfl; have := c1_range (n - 128); omega))) ?_
      refine rn 7 ⟨.done .ret, [], (ss (E18 n) [(2, iv ((gt C1 (n - 128)))), (3, iv 20), (26, .slice (nw p15) 32 32 true), (27, iv n), (28, iv (n - 128)), (29, .ptr (some (.new p15 (0 + (n - 128).toNat * 1)))), (30, .int .i32 ((gt C1 (n - 128)))), (31, iv ((gt C1 (n - 128))))]), [], h16, none⟩ ?_
      refine WpM.ret (.tup [iv ((gt C1 (n - 128))), iv 20]) h16 (by kernel_rfl) (by kernel_rfl) ?_
      exact ⟨((HX.refl h).alloc a17), by rw [numV_c1 (by omega), numF_bad (by omega)]⟩
     ·have c14p := dec_f c14
      refine rn 6 ⟨.ops (p8_16_3 :: o8_16.drop 4), [.seq x8_17, .seq x8_25, .blk 0, .seq x8_28], (ss (E18 n) [(33, iv n), (34, .bool (decide (n < 32))), (35, .bool (decide (n < 32)))]), [], h, none⟩ ?_
      refine WpM.guard (b := (decide (n < 32))) (by kernel_rfl) (fun c18 => ?_) (fun c18 => ?_)
      ·have c18p := dec_t c18
       exfalso; omega
      ·have c18p := dec_f c18
       refine rn 22 ⟨.code x8_20, [.seq x8_25, .blk 0, .seq x8_28], (ss (E17 n) [(4, .bool false), (14, .bool false), (15, U), (16, U), (17, .bool false), (18, .bool false)]), [], h, none⟩ ?_
       refine WpM.cond (t := (n == 127)) (by kernel_rfl) (fun c19 => ?_) (fun c19 => ?_)
       ·have c19p := beq_t c19
        exfalso; omega
       ·have c19p := beq_f c19
        refine rn 5 ⟨.ops (p8_22_3 :: o8_22.drop 4), [.seq x8_23, .seq x8_25, .blk 0, .seq x8_28], (ss (E17 n) [(4, .bool false), (14, .bool false), (15, U), (16, U), (17, .bool false), (18, .bool false), (49, iv n), (50, .bool (decide (n ≥ 64976))), (51, .bool (decide (n ≥ 64976)))]), [], h, none⟩ ?_
        refine WpM.guard (b := (decide (n ≥ 64976))) (by kernel_rfl) (fun c20 => ?_) (fun c20 => ?_)
        ·have c20p := dec_t c20
         exfalso; omega
        ·have c20p := dec_f c20
         refine rn 14 ⟨.code x8_25, [.blk 0, .seq x8_28], (ss (E17 n) [(4, .bool false), (14, .bool false), (15, U), (16, U), (17, .bool false), (18, .bool false), (32, .bool ((IntKind.wrap .i64 (BitVec.ofInt (IntKind.bits .i64) n &&& BitVec.ofInt (IntKind.bits .i64) 65534).toNat) == 65534)), (49, iv n), (50, .bool (decide (n ≥ 64976))), (51, .bool false), (54, .bool false), (55, iv n), (56, iv (IntKind.wrap .i64 (BitVec.ofInt (IntKind.bits .i64) n &&& BitVec.ofInt (IntKind.bits .i64) 65534).toNat)), (57, .bool ((IntKind.wrap .i64 (BitVec.ofInt (IntKind.bits .i64) n &&& BitVec.ofInt (IntKind.bits .i64) 65534).toNat) == 65534))]), [], h, none⟩ ?_
         refine WpM.cond (t := ((IntKind.wrap .i64 (BitVec.ofInt (IntKind.bits .i64) n &&& BitVec.ofInt (IntKind.bits .i64) 65534).toNat) == 65534)) (by kernel_rfl) (fun c21 => ?_) (fun c21 => ?_)
         ·have c21p := beq_t c21
          have hb_c21 := and_hi (n := n) (by omega) (by omega)
          refine rn 10 ⟨.done .ret, [], (E19 n), [], h, none⟩ ?_
          refine WpM.ret (.tup [iv n, iv 20]) h (by kernel_rfl) (by kernel_rfl) ?_
          exact ⟨(HX.refl h), by rw [numV_id (by omega) (by omega), numF_bad (by omega)]⟩
         ·have c21p := beq_f c21
          have hb_c21 := and_hi (n := n) (by omega) (by omega)
          refine rn 11 ⟨.done .ret, [], (ss (E19 n) [(3, iv 0), (58, U), (59, iv n)]), [], h, none⟩ ?_
          refine WpM.ret (.tup [iv n, iv 0]) h (by kernel_rfl) (by kernel_rfl) ?_
          exact ⟨(HX.refl h), by rw [numV_id (by omega) (by omega), numF_good (by omega)]⟩
    ·have c13p := dec_f c13
     refine rn 13 ⟨.ops (p8_16_3 :: o8_16.drop 4), [.seq x8_17, .seq x8_25, .blk 0, .seq x8_28], (ss (E18 n) [(19, .bool false), (22, .bool false), (23, U), (24, U), (25, .bool false), (33, iv n), (34, .bool (decide (n < 32))), (35, .bool (decide (n < 32)))]), [], h, none⟩ ?_
     refine WpM.guard (b := (decide (n < 32))) (by kernel_rfl) (fun c22 => ?_) (fun c22 => ?_)
     ·have c22p := dec_t c22
      refine rn 4 ⟨.ops (p8_16_7 :: o8_16.drop 8), [.seq x8_17, .seq x8_25, .blk 0, .seq x8_28], (ss (E18 n) [(19, .bool false), (22, .bool false), (23, U), (24, U), (25, .bool false), (33, iv n), (34, .bool (decide (n < 32))), (35, .bool true), (36, iv n), (37, .bool (!(n == 9))), (38, .bool (!(n == 9))), (39, .bool (!(n == 9)))]), [], h, none⟩ ?_
      refine WpM.guard (b := (!(n == 9))) (by kernel_rfl) (fun c23 => ?_) (fun c23 => ?_)
      ·have c23p := nbeq_t c23
       refine rn 4 ⟨.ops (p8_16_11 :: o8_16.drop 12), [.seq x8_17, .seq x8_25, .blk 0, .seq x8_28], (E20 n), [], h, none⟩ ?_
       refine WpM.guard (b := (!(n == 10))) (by kernel_rfl) (fun c24 => ?_) (fun c24 => ?_)
       ·have c24p := nbeq_t c24
        refine rn 6 ⟨.code x8_17, [.seq x8_25, .blk 0, .seq x8_28], (ss (E20 n) [(32, .bool (!(n == 12))), (43, .bool true), (44, iv n), (45, .bool (!(n == 12))), (46, .bool (!(n == 12)))]), [], h, none⟩ ?_
        refine WpM.cond (t := (!(n == 12))) (by kernel_rfl) (fun c25 => ?_) (fun c25 => ?_)
        ·have c25p := nbeq_t c25
         refine rn 2 ⟨.code x8_25, [.blk 0, .seq x8_28], (ss (E20 n) [(32, .bool (!(n == 12))), (43, .bool true), (44, iv n), (45, .bool (!(n == 12))), (46, .bool (!(n == 12)))]), [], h, none⟩ ?_
         refine WpM.cond (t := (!(n == 12))) (by kernel_rfl) (fun e_ => ?_) (fun e_ => absurd (e_.symm.trans (not_of_f (of_not_t c25))) (by decide))
         refine rn 10 ⟨.done .ret, [], (ss (E20 n) [(2, iv n), (3, iv 20), (32, .bool (!(n == 12))), (43, .bool true), (44, iv n), (45, .bool (!(n == 12))), (46, .bool (!(n == 12))), (58, iv n)]), [], h, none⟩ ?_
         refine WpM.ret (.tup [iv n, iv 20]) h (by kernel_rfl) (by kernel_rfl) ?_
         exact ⟨(HX.refl h), by rw [numV_id (by omega) (by omega), numF_bad (by omega)]⟩
        ·have c25p := nbeq_f c25
         refine rn 7 ⟨.code x8_20, [.seq x8_25, .blk 0, .seq x8_28], (ss (E20 n) [(32, .bool (n == 127)), (43, .bool true), (44, iv n), (45, .bool (!(n == 12))), (46, .bool (!(n == 12))), (47, iv n), (48, .bool (n == 127))]), [], h, none⟩ ?_
         refine WpM.cond (t := (n == 127)) (by kernel_rfl) (fun c26 => ?_) (fun c26 => ?_)
         ·have c26p := beq_t c26
          exfalso; omega
         ·have c26p := beq_f c26
          refine rn 5 ⟨.ops (p8_22_3 :: o8_22.drop 4), [.seq x8_23, .seq x8_25, .blk 0, .seq x8_28], (ss (E20 n) [(32, .bool (n == 127)), (43, .bool true), (44, iv n), (45, .bool (!(n == 12))), (46, .bool (!(n == 12))), (47, iv n), (48, .bool (n == 127)), (49, iv n), (50, .bool (decide (n ≥ 64976))), (51, .bool (decide (n ≥ 64976)))]), [], h, none⟩ ?_
          refine WpM.guard (b := (decide (n ≥ 64976))) (by kernel_rfl) (fun c27 => ?_) (fun c27 => ?_)
          ·have c27p := dec_t c27
           exfalso; omega
          ·have c27p := dec_f c27
           refine rn 14 ⟨.code x8_25, [.blk 0, .seq x8_28], (ss (E20 n) [(32, .bool ((IntKind.wrap .i64 (BitVec.ofInt (IntKind.bits .i64) n &&& BitVec.ofInt (IntKind.bits .i64) 65534).toNat) == 65534)), (43, .bool true), (44, iv n), (45, .bool (!(n == 12))), (46, .bool (!(n == 12))), (47, iv n), (48, .bool (n == 127)), (49, iv n), (50, .bool (decide (n ≥ 64976))), (51, .bool false), (54, .bool false), (55, iv n), (56, iv (IntKind.wrap .i64 (BitVec.ofInt (IntKind.bits .i64) n &&& BitVec.ofInt (IntKind.bits .i64) 65534).toNat)), (57, .bool ((IntKind.wrap .i64 (BitVec.ofInt (IntKind.bits .i64) n &&& BitVec.ofInt (IntKind.bits .i64) 65534).toNat) == 65534))]), [], h, none⟩ ?_
           refine WpM.cond (t := ((IntKind.wrap .i64 (BitVec.ofInt (IntKind.bits .i64) n &&& BitVec.ofInt (IntKind.bits .i64) 65534).toNat) == 65534)) (by kernel_rfl) (fun c28 => ?_) (fun c28 => ?_)
           ·have c28p := beq_t c28
            have hb_c28 := and_hi (n := n) (by omega) (by omega)
            refine rn 10 ⟨.done .ret, [], (E21 n), [], h, none⟩ ?_
            refine WpM.ret (.tup [iv n, iv 20]) h (by kernel_rfl) (by kernel_rfl) ?_
            exact ⟨(HX.refl h), by rw [numV_id (by omega) (by omega), numF_bad (by omega)]⟩
           ·have c28p := beq_f c28
            have hb_c28 := and_hi (n := n) (by omega) (by omega)
            refine rn 11 ⟨.done .ret, [], (ss (E21 n) [(3, iv 0), (58, U), (59, iv n)]), [], h, none⟩ ?_
            refine WpM.ret (.tup [iv n, iv 0]) h (by kernel_rfl) (by kernel_rfl) ?_
            exact ⟨(HX.refl h), by rw [numV_id (by omega) (by omega), numF_good (by omega)]⟩
       ·have c24p := nbeq_f c24
        refine rn 14 ⟨.code x8_20, [.seq x8_25, .blk 0, .seq x8_28], (ss (E20 n) [(32, .bool (n == 127)), (43, .bool false), (46, .bool false), (47, iv n), (48, .bool (n == 127))]), [], h, none⟩ ?_
        refine WpM.cond (t := (n == 127)) (by kernel_rfl) (fun c29 => ?_) (fun c29 => ?_)
        ·have c29p := beq_t c29
         exfalso; omega
        ·have c29p := beq_f c29
         refine rn 5 ⟨.ops (p8_22_3 :: o8_22.drop 4), [.seq x8_23, .seq x8_25, .blk 0, .seq x8_28], (ss (E20 n) [(32, .bool (n == 127)), (43, .bool false), (46, .bool false), (47, iv n), (48, .bool (n == 127)), (49, iv n), (50, .bool (decide (n ≥ 64976))), (51, .bool (decide (n ≥ 64976)))]), [], h, none⟩ ?_
         refine WpM.guard (b := (decide (n ≥ 64976))) (by kernel_rfl) (fun c30 => ?_) (fun c30 => ?_)
         ·have c30p := dec_t c30
          exfalso; omega
         ·have c30p := dec_f c30
          refine rn 14 ⟨.code x8_25, [.blk 0, .seq x8_28], (ss (E21 n) [(2, iv 0), (3, iv 0), (43, .bool false), (44, U), (45, U), (46, .bool false), (58, U)]), [], h, none⟩ ?_
          refine WpM.cond (t := ((IntKind.wrap .i64 (BitVec.ofInt (IntKind.bits .i64) n &&& BitVec.ofInt (IntKind.bits .i64) 65534).toNat) == 65534)) (by kernel_rfl) (fun c31 => ?_) (fun c31 => ?_)
          ·have c31p := beq_t c31
           have hb_c31 := and_hi (n := n) (by omega) (by omega)
           refine rn 10 ⟨.done .ret, [], (ss (E21 n) [(43, .bool false), (44, U), (45, U), (46, .bool false)]), [], h, none⟩ ?_
           refine WpM.ret (.tup [iv n, iv 20]) h (by kernel_rfl) (by kernel_rfl) ?_
           exact ⟨(HX.refl h), by rw [numV_id (by omega) (by omega), numF_bad (by omega)]⟩
          ·have c31p := beq_f c31
           have hb_c31 := and_hi (n := n) (by omega) (by omega)
           refine rn 11 ⟨.done .ret, [], (ss (E21 n) [(3, iv 0), (43, .bool false), (44, U), (45, U), (46, .bool false), (58, U), (59, iv n)]), [], h, none⟩ ?_
           refine WpM.ret (.tup [iv n, iv 0]) h (by kernel_rfl) (by kernel_rfl) ?_
           exact ⟨(HX.refl h), by rw [numV_id (by omega) (by omega), numF_good (by omega)]⟩
      ·have c23p := nbeq_f c23
       refine rn 18 ⟨.code x8_20, [.seq x8_25, .blk 0, .seq x8_28], (ss (E20 n) [(32, .bool (n == 127)), (39, .bool false), (40, U), (41, U), (42, .bool false), (43, .bool false), (46, .bool false), (47, iv n), (48, .bool (n == 127))]), [], h, none⟩ ?_
       refine WpM.cond (t := (n == 127)) (by kernel_rfl) (fun c32 => ?_) (fun c32 => ?_)
       ·have c32p := beq_t c32
        exfalso; omega
       ·have c32p := beq_f c32
        refine rn 5 ⟨.ops (p8_22_3 :: o8_22.drop 4), [.seq x8_23, .seq x8_25, .blk 0, .seq x8_28], (ss (E20 n) [(32, .bool (n == 127)), (39, .bool false), (40, U), (41, U), (42, .bool false), (43, .bool false), (46, .bool false), (47, iv n), (48, .bool (n == 127)), (49, iv n), (50, .bool (decide (n ≥ 64976))), (51, .bool (decide (n ≥ 64976)))]), [], h, none⟩ ?_
        refine WpM.guard (b := (decide (n ≥ 64976))) (by kernel_rfl) (fun c33 => ?_) (fun c33 => ?_)
        ·have c33p := dec_t c33
         exfalso; omega
        ·have c33p := dec_f c33
         refine rn 14 ⟨.code x8_25, [.blk 0, .seq x8_28], (ss (E21 n) [(2, iv 0), (3, iv 0), (39, .bool false), (40, U), (41, U), (42, .bool false), (43, .bool false), (44, U), (45, U), (46, .bool false), (58, U)]), [], h, none⟩ ?_
         refine WpM.cond (t := ((IntKind.wrap .i64 (BitVec.ofInt (IntKind.bits .i64) n &&& BitVec.ofInt (IntKind.bits .i64) 65534).toNat) == 65534)) (by kernel_rfl) (fun c34 => ?_) (fun c34 => ?_)
         ·have c34p := beq_t c34
          have hb_c34 := and_hi (n := n) (by omega) (by omega)
          refine rn 10 ⟨.done .ret, [], (ss (E21 n) [(39, .bool false), (40, U), (41, U), (42, .bool false), (43, .bool false), (44, U), (45, U), (46, .bool false)]), [], h, none⟩ ?_
          refine WpM.ret (.tup [iv n, iv 20]) h (by kernel_rfl) (by kernel_rfl) ?_
          exact ⟨(HX.refl h), by rw [numV_id (by omega) (by omega), numF_bad (by omega)]⟩
         ·have c34p := beq_f c34
          have hb_c34 := and_hi (n := n) (by omega) (by omega)
          refine rn 11 ⟨.done .ret, [], (ss (E21 n) [(3, iv 0), (39, .bool false), (40, U), (41, U), (42, .bool false), (43, .bool false), (44, U), (45, U), (46, .bool false), (58, U), (59, iv n)]), [], h, none⟩ ?_
          refine WpM.ret (.tup [iv n, iv 0]) h (by kernel_rfl) (by kernel_rfl) ?_
          exact ⟨(HX.refl h), by rw [numV_id (by omega) (by omega), numF_good (by omega)]⟩
     ·have c22p := dec_f c22
      refine rn 22 ⟨.code x8_20, [.seq x8_25, .blk 0, .seq x8_28], (ss (E17 n) [(4, .bool false), (14, .bool false), (15, U), (16, U), (17, .bool false), (18, .bool false), (19, .bool false), (22, .bool false), (23, U), (24, U), (25, .bool false)]), [], h, none⟩ ?_
      refine WpM.cond (t := (n == 127)) (by kernel_rfl) (fun c35 => ?_) (fun c35 => ?_)
      ·have c35p := beq_t c35
       refine rn 2 ⟨.code x8_25, [.blk 0, .seq x8_28], (ss (E17 n) [(4, .bool false), (14, .bool false), (15, U), (16, U), (17, .bool false), (18, .bool false), (19, .bool false), (22, .bool false), (23, U), (24, U), (25, .bool false)]), [], h, none⟩ ?_
       refine WpM.cond (t := (n == 127)) (by kernel_rfl) (fun e_ => ?_) (fun e_ => absurd (e_.symm.trans c35) (by decide))
       refine rn 10 ⟨.done .ret, [], (ss (E19 n) [(19, .bool false), (22, .bool false), (23, U), (24, U), (25, .bool false), (32, .bool (n == 127)), (49, U), (50, U), (51, U), (54, U), (55, U), (56, U), (57, U)]), [], h, none⟩ ?_
       refine WpM.ret (.tup [iv n, iv 20]) h (by kernel_rfl) (by kernel_rfl) ?_
       exact ⟨(HX.refl h), by rw [numV_id (by omega) (by omega), numF_bad (by omega)]⟩
      ·have c35p := beq_f c35
       refine rn 5 ⟨.ops (p8_22_3 :: o8_22.drop 4), [.seq x8_23, .seq x8_25, .blk 0, .seq x8_28], (ss (E19 n) [(2, iv 0), (3, iv 0), (19, .bool false), (22, .bool false), (23, U), (24, U), (25, .bool false), (32, .bool (n == 127)), (51, .bool (decide (n ≥ 64976))), (54, U), (55, U), (56, U), (57, U), (58, U)]), [], h, none⟩ ?_
       refine WpM.guard (b := (decide (n ≥ 64976))) (by kernel_rfl) (fun c36 => ?_) (fun c36 => ?_)
       ·have c36p := dec_t c36
        exfalso; omega
       ·have c36p := dec_f c36
        refine rn 14 ⟨.code x8_25, [.blk 0, .seq x8_28], (ss (E19 n) [(2, iv 0), (3, iv 0), (19, .bool false), (22, .bool false), (23, U), (24, U), (25, .bool false), (58, U)]), [], h, none⟩ ?_
        refine WpM.cond (t := ((IntKind.wrap .i64 (BitVec.ofInt (IntKind.bits .i64) n &&& BitVec.ofInt (IntKind.bits .i64) 65534).toNat) == 65534)) (by kernel_rfl) (fun c37 => ?_) (fun c37 => ?_)
        ·have c37p := beq_t c37
         have hb_c37 := and_hi (n := n) (by omega) (by omega)
         refine rn 10 ⟨.done .ret, [], (ss (E19 n) [(19, .bool false), (22, .bool false), (23, U), (24, U), (25, .bool false)]), [], h, none⟩ ?_
         refine WpM.ret (.tup [iv n, iv 20]) h (by kernel_rfl) (by kernel_rfl) ?_
         exact ⟨(HX.refl h), by rw [numV_id (by omega) (by omega), numF_bad (by omega)]⟩
        ·have c37p := beq_f c37
         have hb_c37 := and_hi (n := n) (by omega) (by omega)
         refine rn 11 ⟨.done .ret, [], (ss (E19 n) [(3, iv 0), (19, .bool false), (22, .bool false), (23, U), (24, U), (25, .bool false), (58, U), (59, iv n)]), [], h, none⟩ ?_
         refine WpM.ret (.tup [iv n, iv 0]) h (by kernel_rfl) (by kernel_rfl) ?_
         exact ⟨(HX.refl h), by rw [numV_id (by omega) (by omega), numF_good (by omega)]⟩
def mayB (n : Int) : Bool := decide (0 ≤ n ∧ n ≤ 1114111 ∧ (n < 55296 ∨ 57343 < n))
theorem mayB_t {n : Int} (h : mayB n = true) : 0 ≤ n ∧ n ≤ 1114111 ∧ (n < 55296 ∨ 57343 < n) := of_decide_eq_true h
theorem mayB_f {n : Int} (h : mayB n = false) : ¬ (0 ≤ n ∧ n ≤ 1114111 ∧ (n < 55296 ∨ 57343 < n)) := of_decide_eq_false h
def E22 (n : Int) : List V := (iv n :: U :: .bool false :: iv n :: .bool (decide (n ≥ 0)) :: .bool true :: iv n :: .bool (decide (n ≤ 1114111)) :: .bool (decide (n ≤ 1114111)) :: .bool (decide (n ≤ 1114111)) :: us 7)
def E23 (n : Int) : List V := (iv n :: U :: .bool (decide (n > 57343)) :: iv n :: .bool (decide (n ≥ 0)) :: .bool true :: iv n :: .bool (decide (n ≤ 1114111)) :: .bool (decide (n ≤ 1114111)) :: .bool true :: iv n :: .bool (decide (n < 55296)) :: .bool false :: iv n :: .bool (decide (n > 57343)) :: .bool (decide (n > 57343)) :: .bool (decide (n > 57343)) :: [])
theorem may_ok {W : World} {n : Int} {h : H} : WpF Tryd.prog W prim2 20 [iv n] h (fun v h' => h = h' ∧ v = .bool (mayB n)) := by
 refine WpF.m tab_ok (by kernel_rfl) rfl ?_
 refine WpM.cfg (c' := ⟨.code x20_0, [], (iv n :: us 16), [], h, none⟩) (by kernel_rfl) ?_
 refine rn 10 ⟨.ops (p20_3_3 :: o20_3.drop 4), [.seq .ret], (iv n :: U :: .bool false :: iv n :: .bool (decide (n ≥ 0)) :: .bool (decide (n ≥ 0)) :: us 11), [], h, none⟩ ?_
 refine WpM.guard (b := (decide (n ≥ 0))) (by kernel_rfl) (fun c1 => ?_) (fun c1 => ?_)
 ·have c1p := dec_t c1
  refine rn 4 ⟨.ops (p20_3_7 :: o20_3.drop 8), [.seq .ret], (E22 n), [], h, none⟩ ?_
  refine WpM.guard (b := (decide (n ≤ 1114111))) (by kernel_rfl) (fun c2 => ?_) (fun c2 => ?_)
  ·have c2p := dec_t c2
   refine rn 3 ⟨.ops (p20_3_10 :: o20_3.drop 11), [.seq .ret], (ss (E22 n) [(9, .bool true), (10, iv n), (11, .bool (decide (n < 55296))), (12, .bool (decide (n < 55296)))]), [], h, none⟩ ?_
   refine WpM.guard (b := (decide (n < 55296))) (by kernel_rfl) (fun c3 => ?_) (fun c3 => ?_)
   ·have c3p := dec_t c3
    refine rn 8 ⟨.done .ret, [], (ss (E22 n) [(2, .bool true), (9, .bool true), (10, iv n), (11, .bool (decide (n < 55296))), (12, .bool true), (15, .bool true), (16, .bool true)]), [], h, none⟩ ?_
    refine WpM.ret (.bool true) h (by kernel_rfl) (by kernel_rfl) ?_
    exact ⟨rfl, congrArg V.bool (by unfold mayB; first | exact (decide_eq_true (by omega)).symm | exact (decide_eq_false (by omega)).symm | (apply decide_eq_decide.2; omega))⟩
   ·have c3p := dec_f c3
    refine rn 8 ⟨.done .ret, [], (E23 n), [], h, none⟩ ?_
    refine WpM.ret (.bool (decide (n > 57343))) h (by kernel_rfl) (by kernel_rfl) ?_
    exact ⟨rfl, congrArg V.bool (by unfold mayB; first | exact (decide_eq_true (by omega)).symm | exact (decide_eq_false (by omega)).symm | (apply decide_eq_decide.2; omega))⟩
  ·have c2p := dec_f c2
   refine rn 11 ⟨.done .ret, [], (ss (E22 n) [(9, .bool false), (16, .bool false)]), [], h, none⟩ ?_
   refine WpM.ret (.bool false) h (by kernel_rfl) (by kernel_rfl) ?_
   exact ⟨rfl, congrArg V.bool (by unfold mayB; first | exact (decide_eq_true (by omega)).symm | exact (decide_eq_false (by omega)).symm | (apply decide_eq_decide.2; omega))⟩
 ·have c1p := dec_f c1
  refine rn 15 ⟨.done .ret, [], (ss (E22 n) [(5, .bool false), (6, U), (7, U), (8, .bool false), (9, .bool false), (16, .bool false)]), [], h, none⟩ ?_
  refine WpM.ret (.bool false) h (by kernel_rfl) (by kernel_rfl) ?_
  exact ⟨rfl, congrArg V.bool (by unfold mayB; first | exact (decide_eq_true (by omega)).symm | exact (decide_eq_false (by omega)).symm | (apply decide_eq_decide.2; omega))⟩
def E24 (n : Int) : List V := (iv n :: U :: iv 0 :: .bool (n == 0) :: iv n :: .bool (n == 0) :: .bool true :: iv n :: .bool (n == 9) :: .bool true :: U :: U :: .bool true :: .bool true :: U :: U :: .bool true :: .bool true :: U :: U :: .bool true :: us 36)
def E25 (n : Int) : List V := (iv n :: U :: iv 0 :: .bool (n == 0) :: iv n :: .bool (n == 0) :: U :: iv n :: .bool (n == 9) :: .bool false :: iv n :: .bool (n == 10) :: .bool (n == 10) :: .bool (n == 10) :: us 43)
def E26 (n : Int) : List V := (iv n :: U :: iv 0 :: .bool (n == 0) :: iv n :: .bool (n == 0) :: .bool (n == 13) :: iv n :: .bool (n == 9) :: .bool false :: iv n :: .bool (n == 10) :: .bool (n == 10) :: .bool false :: iv n :: .bool (n == 12) :: .bool (n == 12) :: .bool false :: iv n :: .bool (n == 13) :: .bool (n == 13) :: U :: iv n :: .bool (decide (n ≥ 1)) :: .bool (decide (n ≥ 1)) :: us 32)
def E27 (n : Int) : List V := (iv n :: U :: iv 0 :: .bool (n == 0) :: iv n :: .bool (n == 0) :: .bool (n == 13) :: iv n :: .bool (n == 9) :: .bool false :: iv n :: .bool (n == 10) :: .bool (n == 10) :: .bool false :: iv n :: .bool (n == 12) :: .bool (n == 12) :: .bool false :: iv n :: .bool (n == 13) :: .bool (n == 13) :: .bool (decide (n ≤ 159)) :: iv n :: .bool (decide (n ≥ 1)) :: .bool true :: iv n :: .bool (decide (n ≤ 31)) :: .bool (decide (n ≤ 31)) :: .bool false :: iv n :: .bool (decide (n ≥ 127)) :: .bool true :: iv n :: .bool (decide (n ≤ 159)) :: .bool (decide (n ≤ 159)) :: .bool (decide (n ≤ 159)) :: U :: iv n :: .bool (decide (n ≥ 64976)) :: .bool (decide (n ≥ 64976)) :: us 17)
def E28 (n : Int) : List V := (iv n :: U :: iv 4 :: .bool (n == 0) :: iv n :: .bool (n == 0) :: .bool (n == 13) :: iv n :: .bool (n == 9) :: .bool false :: iv n :: .bool (n == 10) :: .bool (n == 10) :: .bool false :: iv n :: .bool (n == 12) :: .bool (n == 12) :: .bool false :: iv n :: .bool (n == 13) :: .bool (n == 13) :: .bool (decide (n ≤ 159)) :: iv n :: .bool (decide (n ≥ 1)) :: .bool true :: iv n :: .bool (decide (n ≤ 31)) :: .bool (decide (n ≤ 31)) :: .bool false :: iv n :: .bool (decide (n ≥ 127)) :: .bool true :: iv n :: .bool (decide (n ≤ 159)) :: .bool (decide (n ≤ 159)) :: .bool (decide (n ≤ 159)) :: .bool true :: iv n :: .bool (decide (n ≥ 64976)) :: .bool true :: iv n :: .bool (decide (n ≤ 65007)) :: .bool (decide (n ≤ 65007)) :: .bool false :: iv n :: .bool (decide (n ≥ 0)) :: .bool true :: iv n :: iv (IntKind.wrap .i64 (BitVec.ofInt (IntKind.bits .i64) n &&& BitVec.ofInt (IntKind.bits .i64) 65535).toNat) :: .bool ((IntKind.wrap .i64 (BitVec.ofInt (IntKind.bits .i64) n &&& BitVec.ofInt (IntKind.bits .i64) 65535).toNat) == 65534) :: .bool true :: U :: U :: U :: .bool true :: .bool true :: .bool true :: [])
def E29 (n : Int) : List V := (iv n :: U :: iv 0 :: .bool (n == 0) :: iv n :: .bool (n == 0) :: .bool (n == 13) :: iv n :: .bool (n == 9) :: .bool false :: iv n :: .bool (n == 10) :: .bool (n == 10) :: .bool false :: iv n :: .bool (n == 12) :: .bool (n == 12) :: .bool false :: iv n :: .bool (n == 13) :: .bool (n == 13) :: .bool false :: iv n :: .bool (decide (n ≥ 1)) :: .bool true :: iv n :: .bool (decide (n ≤ 31)) :: .bool (decide (n ≤ 31)) :: .bool false :: iv n :: .bool (decide (n ≥ 127)) :: .bool false :: U :: U :: .bool false :: .bool false :: U :: iv n :: .bool (decide (n ≥ 64976)) :: .bool false :: U :: U :: .bool false :: .bool false :: iv n :: .bool (decide (n ≥ 0)) :: .bool true :: iv n :: iv (IntKind.wrap .i64 (BitVec.ofInt (IntKind.bits .i64) n &&& BitVec.ofInt (IntKind.bits .i64) 65535).toNat) :: .bool ((IntKind.wrap .i64 (BitVec.ofInt (IntKind.bits .i64) n &&& BitVec.ofInt (IntKind.bits .i64) 65535).toNat) == 65534) :: .bool ((IntKind.wrap .i64 (BitVec.ofInt (IntKind.bits .i64) n &&& BitVec.ofInt (IntKind.bits .i64) 65535).toNat) == 65534) :: us 6)
theorem bad_ok {W : World} {n : Int} {h : H} (hn : 0 < n ∧ n ≤ 1114111) : WpF Tryd.prog W prim2 21 [iv n] h (fun v h' => h = h' ∧ ∃ b : Int, v = iv b ∧ (b = 0 ↔ ¬ (n = 0 ∨ (1 ≤ n ∧ n ≤ 31 ∧ n ≠ 9 ∧ n ≠ 10 ∧ n ≠ 12 ∧ n ≠ 13) ∨ (127 ≤ n ∧ n ≤ 159) ∨ (64976 ≤ n ∧ n ≤ 65007) ∨ 65534 ≤ n % 65536))) := by
 refine WpF.m tab_ok (by kernel_rfl) rfl ?_
 refine WpM.cfg (c' := ⟨.code x21_0, [], (iv n :: us 56), [], h, none⟩) (by kernel_rfl) ?_
 refine rn 14 ⟨.code x21_6, [.blk 0, .seq x21_24], (iv n :: U :: iv 0 :: .bool (n == 0) :: iv n :: .bool (n == 0) :: us 51), [], h, none⟩ ?_
 refine WpM.cond (t := (n == 0)) (by kernel_rfl) (fun c1 => ?_) (fun c1 => ?_)
 ·have c1p := beq_t c1
  refine rn 8 ⟨.done .ret, [], (iv n :: U :: iv 2 :: .bool (n == 0) :: iv n :: .bool (n == 0) :: us 51), [], h, none⟩ ?_
  refine WpM.ret (iv 2) h (by kernel_rfl) (by kernel_rfl) ?_
  exact ⟨rfl, _, rfl, by omega⟩
 ·have c1p := beq_f c1
  refine rn 5 ⟨.ops (p21_10_3 :: o21_10.drop 4), [.seq x21_11, .blk 0, .seq x21_24], (iv n :: U :: iv 0 :: .bool (n == 0) :: iv n :: .bool (n == 0) :: U :: iv n :: .bool (n == 9) :: .bool (n == 9) :: us 47), [], h, none⟩ ?_
  refine WpM.guard (b := (n == 9)) (by kernel_rfl) (fun c2 => ?_) (fun c2 => ?_)
  ·have c2p := beq_t c2
   refine rn 23 ⟨.done .ret, [], (E24 n), [], h, none⟩ ?_
   refine WpM.ret (iv 0) h (by kernel_rfl) (by kernel_rfl) ?_
   exact ⟨rfl, _, rfl, by omega⟩
  ·have c2p := beq_f c2
   refine rn 4 ⟨.ops (p21_10_7 :: o21_10.drop 8), [.seq x21_11, .blk 0, .seq x21_24], (E25 n), [], h, none⟩ ?_
   refine WpM.guard (b := (n == 10)) (by kernel_rfl) (fun c3 => ?_) (fun c3 => ?_)
   ·have c3p := beq_t c3
    refine rn 19 ⟨.done .ret, [], (ss (E25 n) [(6, .bool true), (13, .bool true), (16, .bool true), (17, .bool true), (20, .bool true)]), [], h, none⟩ ?_
    refine WpM.ret (iv 0) h (by kernel_rfl) (by kernel_rfl) ?_
    exact ⟨rfl, _, rfl, by omega⟩
   ·have c3p := beq_f c3
    refine rn 4 ⟨.ops (p21_10_11 :: o21_10.drop 12), [.seq x21_11, .blk 0, .seq x21_24], (ss (E25 n) [(13, .bool false), (14, iv n), (15, .bool (n == 12)), (16, .bool (n == 12)), (17, .bool (n == 12))]), [], h, none⟩ ?_
    refine WpM.guard (b := (n == 12)) (by kernel_rfl) (fun c4 => ?_) (fun c4 => ?_)
    ·have c4p := beq_t c4
     refine rn 15 ⟨.done .ret, [], (ss (E25 n) [(6, .bool true), (13, .bool false), (14, iv n), (15, .bool (n == 12)), (16, .bool (n == 12)), (17, .bool true), (20, .bool true)]), [], h, none⟩ ?_
     refine WpM.ret (iv 0) h (by kernel_rfl) (by kernel_rfl) ?_
     exact ⟨rfl, _, rfl, by omega⟩
    ·have c4p := beq_f c4
     refine rn 6 ⟨.code x21_11, [.blk 0, .seq x21_24], (ss (E25 n) [(6, .bool (n == 13)), (13, .bool false), (14, iv n), (15, .bool (n == 12)), (16, .bool (n == 12)), (17, .bool false), (18, iv n), (19, .bool (n == 13)), (20, .bool (n == 13))]), [], h, none⟩ ?_
     refine WpM.cond (t := (n == 13)) (by kernel_rfl) (fun c5 => ?_) (fun c5 => ?_)
     ·have c5p := beq_t c5
      refine rn 8 ⟨.done .ret, [], (ss (E25 n) [(6, .bool (n == 13)), (13, .bool false), (14, iv n), (15, .bool (n == 12)), (16, .bool (n == 12)), (17, .bool false), (18, iv n), (19, .bool (n == 13)), (20, .bool (n == 13))]), [], h, none⟩ ?_
      refine WpM.ret (iv 0) h (by kernel_rfl) (by kernel_rfl) ?_
      exact ⟨rfl, _, rfl, by omega⟩
     ·have c5p := beq_f c5
      refine rn 5 ⟨.ops (p21_15_3 :: o21_15.drop 4), [.seq x21_16, .blk 0, .seq x21_24], (E26 n), [], h, none⟩ ?_
      refine WpM.guard (b := (decide (n ≥ 1))) (by kernel_rfl) (fun c6 => ?_) (fun c6 => ?_)
      ·have c6p := dec_t c6
       refine rn 4 ⟨.ops (p21_15_7 :: o21_15.drop 8), [.seq x21_16, .blk 0, .seq x21_24], (ss (E26 n) [(24, .bool true), (25, iv n), (26, .bool (decide (n ≤ 31))), (27, .bool (decide (n ≤ 31))), (28, .bool (decide (n ≤ 31)))]), [], h, none⟩ ?_
       refine WpM.guard (b := (decide (n ≤ 31))) (by kernel_rfl) (fun c7 => ?_) (fun c7 => ?_)
       ·have c7p := dec_t c7
        refine rn 19 ⟨.done .ret, [], (ss (E26 n) [(2, iv 3), (21, .bool true), (24, .bool true), (25, iv n), (26, .bool (decide (n ≤ 31))), (27, .bool (decide (n ≤ 31))), (28, .bool true), (35, .bool true)]), [], h, none⟩ ?_
        refine WpM.ret (iv 3) h (by kernel_rfl) (by kernel_rfl) ?_
        exact ⟨rfl, _, rfl, by omega⟩
       ·have c7p := dec_f c7
        refine rn 3 ⟨.ops (p21_15_10 :: o21_15.drop 11), [.seq x21_16, .blk 0, .seq x21_24], (ss (E26 n) [(24, .bool true), (25, iv n), (26, .bool (decide (n ≤ 31))), (27, .bool (decide (n ≤ 31))), (28, .bool false), (29, iv n), (30, .bool (decide (n ≥ 127))), (31, .bool (decide (n ≥ 127)))]), [], h, none⟩ ?_
        refine WpM.guard (b := (decide (n ≥ 127))) (by kernel_rfl) (fun c8 => ?_) (fun c8 => ?_)
        ·have c8p := dec_t c8
         refine rn 7 ⟨.code x21_16, [.blk 0, .seq x21_24], (ss (E26 n) [(21, .bool (decide (n ≤ 159))), (24, .bool true), (25, iv n), (26, .bool (decide (n ≤ 31))), (27, .bool (decide (n ≤ 31))), (28, .bool false), (29, iv n), (30, .bool (decide (n ≥ 127))), (31, .bool true), (32, iv n), (33, .bool (decide (n ≤ 159))), (34, .bool (decide (n ≤ 159))), (35, .bool (decide (n ≤ 159)))]), [], h, none⟩ ?_
         refine WpM.cond (t := (decide (n ≤ 159))) (by kernel_rfl) (fun c9 => ?_) (fun c9 => ?_)
         ·have c9p := dec_t c9
          refine rn 8 ⟨.done .ret, [], (ss (E26 n) [(2, iv 3), (21, .bool (decide (n ≤ 159))), (24, .bool true), (25, iv n), (26, .bool (decide (n ≤ 31))), (27, .bool (decide (n ≤ 31))), (28, .bool false), (29, iv n), (30, .bool (decide (n ≥ 127))), (31, .bool true), (32, iv n), (33, .bool (decide (n ≤ 159))), (34, .bool (decide (n ≤ 159))), (35, .bool (decide (n ≤ 159)))]), [], h, none⟩ ?_
          refine WpM.ret (iv 3) h (by kernel_rfl) (by kernel_rfl) ?_
          exact ⟨rfl, _, rfl, by omega⟩
         ·have c9p := dec_f c9
          refine rn 5 ⟨.ops (p21_20_3 :: o21_20.drop 4), [.seq x21_21, .blk 0, .seq x21_24], (E27 n), [], h, none⟩ ?_
          refine WpM.guard (b := (decide (n ≥ 64976))) (by kernel_rfl) (fun c10 => ?_) (fun c10 => ?_)
          ·have c10p := dec_t c10
           refine rn 4 ⟨.ops (p21_20_7 :: o21_20.drop 8), [.seq x21_21, .blk 0, .seq x21_24], (ss (E27 n) [(39, .bool true), (40, iv n), (41, .bool (decide (n ≤ 65007))), (42, .bool (decide (n ≤ 65007))), (43, .bool (decide (n ≤ 65007)))]), [], h, none⟩ ?_
           refine WpM.guard (b := (decide (n ≤ 65007))) (by kernel_rfl) (fun c11 => ?_) (fun c11 => ?_)
           ·have c11p := dec_t c11
            refine rn 25 ⟨.done .ret, [], (ss (E27 n) [(2, iv 4), (36, .bool true), (39, .bool true), (40, iv n), (41, .bool (decide (n ≤ 65007))), (42, .bool (decide (n ≤ 65007))), (43, .bool true), (56, .bool true)]), [], h, none⟩ ?_
            refine WpM.ret (iv 4) h (by kernel_rfl) (by kernel_rfl) ?_
            exact ⟨rfl, _, rfl, by omega⟩
           ·have c11p := dec_f c11
            refine rn 3 ⟨.ops (p21_20_10 :: o21_20.drop 11), [.seq x21_21, .blk 0, .seq x21_24], (ss (E27 n) [(39, .bool true), (40, iv n), (41, .bool (decide (n ≤ 65007))), (42, .bool (decide (n ≤ 65007))), (43, .bool false), (44, iv n), (45, .bool (decide (n ≥ 0))), (46, .bool (decide (n ≥ 0)))]), [], h, none⟩ ?_
            refine WpM.guard (b := (decide (n ≥ 0))) (by kernel_rfl) (fun c12 => ?_) (fun c12 => ?_)
            ·have c12p := dec_t c12
             refine rn 4 ⟨.ops (p21_20_14 :: o21_20.drop 15), [.seq x21_21, .blk 0, .seq x21_24], (ss (E27 n) [(39, .bool true), (40, iv n), (41, .bool (decide (n ≤ 65007))), (42, .bool (decide (n ≤ 65007))), (43, .bool false), (44, iv n), (45, .bool (decide (n ≥ 0))), (46, .bool true), (47, iv n), (48, iv (IntKind.wrap .i64 (BitVec.ofInt (IntKind.bits .i64) n &&& BitVec.ofInt (IntKind.bits .i64) 65535).toNat)), (49, .bool ((IntKind.wrap .i64 (BitVec.ofInt (IntKind.bits .i64) n &&& BitVec.ofInt (IntKind.bits .i64) 65535).toNat) == 65534)), (50, .bool ((IntKind.wrap .i64 (BitVec.ofInt (IntKind.bits .i64) n &&& BitVec.ofInt (IntKind.bits .i64) 65535).toNat) == 65534))]), [], h, none⟩ ?_
             refine WpM.guard (b := ((IntKind.wrap .i64 (BitVec.ofInt (IntKind.bits .i64) n &&& BitVec.ofInt (IntKind.bits .i64) 65535).toNat) == 65534)) (by kernel_rfl) (fun c13 => ?_) (fun c13 => ?_)
             ·have c13p := beq_t c13
              have hb_c13 := and_lo (n := n) (by omega) (by omega)
              refine rn 18 ⟨.done .ret, [], (E28 n), [], h, none⟩ ?_
              refine WpM.ret (iv 4) h (by kernel_rfl) (by kernel_rfl) ?_
              exact ⟨rfl, _, rfl, by omega⟩
             ·have c13p := beq_f c13
              have hb_c13 := and_lo (n := n) (by omega) (by omega)
              refine rn 9 ⟨.code x21_21, [.blk 0, .seq x21_24], (ss (E28 n) [(2, iv 0), (36, .bool ((IntKind.wrap .i64 (BitVec.ofInt (IntKind.bits .i64) n &&& BitVec.ofInt (IntKind.bits .i64) 65535).toNat) == 65535)), (50, .bool false), (51, iv n), (52, iv (IntKind.wrap .i64 (BitVec.ofInt (IntKind.bits .i64) n &&& BitVec.ofInt (IntKind.bits .i64) 65535).toNat)), (53, .bool ((IntKind.wrap .i64 (BitVec.ofInt (IntKind.bits .i64) n &&& BitVec.ofInt (IntKind.bits .i64) 65535).toNat) == 65535)), (54, .bool ((IntKind.wrap .i64 (BitVec.ofInt (IntKind.bits .i64) n &&& BitVec.ofInt (IntKind.bits .i64) 65535).toNat) == 65535)), (55, .bool ((IntKind.wrap .i64 (BitVec.ofInt (IntKind.bits .i64) n &&& BitVec.ofInt (IntKind.bits .i64) 65535).toNat) == 65535)), (56, .bool ((IntKind.wrap .i64 (BitVec.ofInt (IntKind.bits .i64) n &&& BitVec.ofInt (IntKind.bits .i64) 65535).toNat) == 65535))]), [], h, none⟩ ?_
              refine WpM.cond (t := ((IntKind.wrap .i64 (BitVec.ofInt (IntKind.bits .i64) n &&& BitVec.ofInt (IntKind.bits .i64) 65535).toNat) == 65535)) (by kernel_rfl) (fun c14 => ?_) (fun c14 => ?_)
              ·have c14p := beq_t c14
               have hb_c14 := and_lo (n := n) (by omega) (by omega)
               refine rn 8 ⟨.done .ret, [], (ss (E28 n) [(36, .bool ((IntKind.wrap .i64 (BitVec.ofInt (IntKind.bits .i64) n &&& BitVec.ofInt (IntKind.bits .i64) 65535).toNat) == 65535)), (50, .bool false), (51, iv n), (52, iv (IntKind.wrap .i64 (BitVec.ofInt (IntKind.bits .i64) n &&& BitVec.ofInt (IntKind.bits .i64) 65535).toNat)), (53, .bool ((IntKind.wrap .i64 (BitVec.ofInt (IntKind.bits .i64) n &&& BitVec.ofInt (IntKind.bits .i64) 65535).toNat) == 65535)), (54, .bool ((IntKind.wrap .i64 (BitVec.ofInt (IntKind.bits .i64) n &&& BitVec.ofInt (IntKind.bits .i64) 65535).toNat) == 65535)), (55, .bool ((IntKind.wrap .i64 (BitVec.ofInt (IntKind.bits .i64) n &&& BitVec.ofInt (IntKind.bits .i64) 65535).toNat) == 65535)), (56, .bool ((IntKind.wrap .i64 (BitVec.ofInt (IntKind.bits .i64) n &&& BitVec.ofInt (IntKind.bits .i64) 65535).toNat) == 65535))]), [], h, none⟩ ?_
               refine WpM.ret (iv 4) h (by kernel_rfl) (by kernel_rfl) ?_
               exact ⟨rfl, _, rfl, by omega⟩
              ·have c14p := beq_f c14
               have hb_c14 := and_lo (n := n) (by omega) (by omega)
               refine rn 9 ⟨.done .ret, [], (ss (E28 n) [(2, iv 0), (36, .bool ((IntKind.wrap .i64 (BitVec.ofInt (IntKind.bits .i64) n &&& BitVec.ofInt (IntKind.bits .i64) 65535).toNat) == 65535)), (50, .bool false), (51, iv n), (52, iv (IntKind.wrap .i64 (BitVec.ofInt (IntKind.bits .i64) n &&& BitVec.ofInt (IntKind.bits .i64) 65535).toNat)), (53, .bool ((IntKind.wrap .i64 (BitVec.ofInt (IntKind.bits .i64) n &&& BitVec.ofInt (IntKind.bits .i64) 65535).toNat) == 65535)), (54, .bool ((IntKind.wrap .i64 (BitVec.ofInt (IntKind.bits .i64) n &&& BitVec.ofInt (IntKind.bits .i64) 65535).toNat) == 65535)), (55, .bool ((IntKind.wrap .i64 (BitVec.ofInt (IntKind.bits .i64) n &&& BitVec.ofInt (IntKind.bits .i64) 65535).toNat) == 65535)), (56, .bool ((IntKind.wrap .i64 (BitVec.ofInt (IntKind.bits .i64) n &&& BitVec.ofInt (IntKind.bits .i64) 65535).toNat) == 65535))]), [], h, none⟩ ?_
               refine WpM.ret (iv 0) h (by kernel_rfl) (by kernel_rfl) ?_
               exact ⟨rfl, _, rfl, by omega⟩
            ·have c12p := dec_f c12
             exfalso; omega
          ·have c10p := dec_f c10
           refine rn 7 ⟨.ops (p21_20_10 :: o21_20.drop 11), [.seq x21_21, .blk 0, .seq x21_24], (ss (E27 n) [(39, .bool false), (42, .bool false), (43, .bool false), (44, iv n), (45, .bool (decide (n ≥ 0))), (46, .bool (decide (n ≥ 0)))]), [], h, none⟩ ?_
           refine WpM.guard (b := (decide (n ≥ 0))) (by kernel_rfl) (fun c15 => ?_) (fun c15 => ?_)
           ·have c15p := dec_t c15
            refine rn 4 ⟨.ops (p21_20_14 :: o21_20.drop 15), [.seq x21_21, .blk 0, .seq x21_24], (ss (E28 n) [(2, iv 0), (36, U), (39, .bool false), (40, U), (41, U), (42, .bool false), (50, .bool ((IntKind.wrap .i64 (BitVec.ofInt (IntKind.bits .i64) n &&& BitVec.ofInt (IntKind.bits .i64) 65535).toNat) == 65534)), (54, U), (55, U), (56, U)]), [], h, none⟩ ?_
            refine WpM.guard (b := ((IntKind.wrap .i64 (BitVec.ofInt (IntKind.bits .i64) n &&& BitVec.ofInt (IntKind.bits .i64) 65535).toNat) == 65534)) (by kernel_rfl) (fun c16 => ?_) (fun c16 => ?_)
            ·have c16p := beq_t c16
             have hb_c16 := and_lo (n := n) (by omega) (by omega)
             refine rn 18 ⟨.done .ret, [], (ss (E28 n) [(39, .bool false), (40, U), (41, U), (42, .bool false)]), [], h, none⟩ ?_
             refine WpM.ret (iv 4) h (by kernel_rfl) (by kernel_rfl) ?_
             exact ⟨rfl, _, rfl, by omega⟩
            ·have c16p := beq_f c16
             have hb_c16 := and_lo (n := n) (by omega) (by omega)
             refine rn 9 ⟨.code x21_21, [.blk 0, .seq x21_24], (ss (E28 n) [(2, iv 0), (36, .bool ((IntKind.wrap .i64 (BitVec.ofInt (IntKind.bits .i64) n &&& BitVec.ofInt (IntKind.bits .i64) 65535).toNat) == 65535)), (39, .bool false), (40, U), (41, U), (42, .bool false), (50, .bool false), (51, iv n), (52, iv (IntKind.wrap .i64 (BitVec.ofInt (IntKind.bits .i64) n &&& BitVec.ofInt (IntKind.bits .i64) 65535).toNat)), (53, .bool ((IntKind.wrap .i64 (BitVec.ofInt (IntKind.bits .i64) n &&& BitVec.ofInt (IntKind.bits .i64) 65535).toNat) == 65535)), (54, .bool ((IntKind.wrap .i64 (BitVec.ofInt (IntKind.bits .i64) n &&& BitVec.ofInt (IntKind.bits .i64) 65535).toNat) == 65535)), (55, .bool ((IntKind.wrap .i64 (BitVec.ofInt (IntKind.bits .i64) n &&& BitVec.ofInt (IntKind.bits .i64) 65535).toNat) == 65535)), (56, .bool ((IntKind.wrap .i64 (BitVec.ofInt (IntKind.bits .i64) n &&& BitVec.ofInt (IntKind.bits .i64) 65535).toNat) == 65535))]), [], h, none⟩ ?_
             refine WpM.cond (t := ((IntKind.wrap .i64 (BitVec.ofInt (IntKind.bits .i64) n &&& BitVec.ofInt (IntKind.bits .i64) 65535).toNat) == 65535)) (by kernel_rfl) (fun c17 => ?_) (fun c17 => ?_)
             ·have c17p := beq_t c17
              have hb_c17 := and_lo (n := n) (by omega) (by omega)
              refine rn 8 ⟨.done .ret, [], (ss (E28 n) [(36, .bool ((IntKind.wrap .i64 (BitVec.ofInt (IntKind.bits .i64) n &&& BitVec.ofInt (IntKind.bits .i64) 65535).toNat) == 65535)), (39, .bool false), (40, U), (41, U), (42, .bool false), (50, .bool false), (51, iv n), (52, iv (IntKind.wrap .i64 (BitVec.ofInt (IntKind.bits .i64) n &&& BitVec.ofInt (IntKind.bits .i64) 65535).toNat)), (53, .bool ((IntKind.wrap .i64 (BitVec.ofInt (IntKind.bits .i64) n &&& BitVec.ofInt (IntKind.bits .i64) 65535).toNat) == 65535)), (54, .bool ((IntKind.wrap .i64 (BitVec.ofInt (IntKind.bits .i64) n &&& BitVec.ofInt (IntKind.bits .i64) 65535).toNat) == 65535)), (55, .bool ((IntKind.wrap .i64 (BitVec.ofInt (IntKind.bits .i64) n &&& BitVec.ofInt (IntKind.bits .i64) 65535).toNat) == 65535)), (56, .bool ((IntKind.wrap .i64 (BitVec.ofInt (IntKind.bits .i64) n &&& BitVec.ofInt (IntKind.bits .i64) 65535).toNat) == 65535))]), [], h, none⟩ ?_
              refine WpM.ret (iv 4) h (by kernel_rfl) (by kernel_rfl) ?_
              exact ⟨rfl, _, rfl, by omega⟩
             ·have c17p := beq_f c17
              have hb_c17 := and_lo (n := n) (by omega) (by omega)
              refine rn 9 ⟨.done .ret, [], (ss (E28 n) [(2, iv 0), (36, .bool ((IntKind.wrap .i64 (BitVec.ofInt (IntKind.bits .i64) n &&& BitVec.ofInt (IntKind.bits .i64) 65535).toNat) == 65535)), (39, .bool false), (40, U), (41, U), (42, .bool false), (50, .bool false), (51, iv n), (52, iv (IntKind.wrap .i64 (BitVec.ofInt (IntKind.bits .i64) n &&& BitVec.ofInt (IntKind.bits .i64) 65535).toNat)), (53, .bool ((IntKind.wrap .i64 (BitVec.ofInt (IntKind.bits .i64) n &&& BitVec.ofInt (IntKind.bits .i64) 65535).toNat) == 65535)), (54, .bool ((IntKind.wrap .i64 (BitVec.ofInt (IntKind.bits .i64) n &&& BitVec.ofInt (IntKind.bits .i64) 65535).toNat) == 65535)), (55, .bool ((IntKind.wrap .i64 (BitVec.ofInt (IntKind.bits .i64) n &&& BitVec.ofInt (IntKind.bits .i64) 65535).toNat) == 65535)), (56, .bool ((IntKind.wrap .i64 (BitVec.ofInt (IntKind.bits .i64) n &&& BitVec.ofInt (IntKind.bits .i64) 65535).toNat) == 65535))]), [], h, none⟩ ?_
              refine WpM.ret (iv 0) h (by kernel_rfl) (by kernel_rfl) ?_
              exact ⟨rfl, _, rfl, by omega⟩
           ·have c15p := dec_f c15
            exfalso; omega
        ·have c8p := dec_f c8
         refine rn 13 ⟨.ops (p21_20_3 :: o21_20.drop 4), [.seq x21_21, .blk 0, .seq x21_24], (ss (E27 n) [(21, .bool false), (31, .bool false), (32, U), (33, U), (34, .bool false), (35, .bool false)]), [], h, none⟩ ?_
         refine WpM.guard (b := (decide (n ≥ 64976))) (by kernel_rfl) (fun c18 => ?_) (fun c18 => ?_)
         ·have c18p := dec_t c18
          exfalso; omega
         ·have c18p := dec_f c18
          refine rn 7 ⟨.ops (p21_20_10 :: o21_20.drop 11), [.seq x21_21, .blk 0, .seq x21_24], (ss (E27 n) [(21, .bool false), (31, .bool false), (32, U), (33, U), (34, .bool false), (35, .bool false), (39, .bool false), (42, .bool false), (43, .bool false), (44, iv n), (45, .bool (decide (n ≥ 0))), (46, .bool (decide (n ≥ 0)))]), [], h, none⟩ ?_
          refine WpM.guard (b := (decide (n ≥ 0))) (by kernel_rfl) (fun c19 => ?_) (fun c19 => ?_)
          ·have c19p := dec_t c19
           refine rn 4 ⟨.ops (p21_20_14 :: o21_20.drop 15), [.seq x21_21, .blk 0, .seq x21_24], (E29 n), [], h, none⟩ ?_
           refine WpM.guard (b := ((IntKind.wrap .i64 (BitVec.ofInt (IntKind.bits .i64) n &&& BitVec.ofInt (IntKind.bits .i64) 65535).toNat) == 65534)) (by kernel_rfl) (fun c20 => ?_) (fun c20 => ?_)
           ·have c20p := beq_t c20
            have hb_c20 := and_lo (n := n) (by omega) (by omega)
            refine rn 18 ⟨.done .ret, [], (ss (E29 n) [(2, iv 4), (36, .bool true), (50, .bool true), (54, .bool true), (55, .bool true), (56, .bool true)]), [], h, none⟩ ?_
            refine WpM.ret (iv 4) h (by kernel_rfl) (by kernel_rfl) ?_
            exact ⟨rfl, _, rfl, by omega⟩
           ·have c20p := beq_f c20
            have hb_c20 := and_lo (n := n) (by omega) (by omega)
            refine rn 9 ⟨.code x21_21, [.blk 0, .seq x21_24], (ss (E29 n) [(36, .bool ((IntKind.wrap .i64 (BitVec.ofInt (IntKind.bits .i64) n &&& BitVec.ofInt (IntKind.bits .i64) 65535).toNat) == 65535)), (50, .bool false), (51, iv n), (52, iv (IntKind.wrap .i64 (BitVec.ofInt (IntKind.bits .i64) n &&& BitVec.ofInt (IntKind.bits .i64) 65535).toNat)), (53, .bool ((IntKind.wrap .i64 (BitVec.ofInt (IntKind.bits .i64) n &&& BitVec.ofInt (IntKind.bits .i64) 65535).toNat) == 65535)), (54, .bool ((IntKind.wrap .i64 (BitVec.ofInt (IntKind.bits .i64) n &&& BitVec.ofInt (IntKind.bits .i64) 65535).toNat) == 65535)), (55, .bool ((IntKind.wrap .i64 (BitVec.ofInt (IntKind.bits .i64) n &&& BitVec.ofInt (IntKind.bits .i64) 65535).toNat) == 65535)), (56, .bool ((IntKind.wrap .i64 (BitVec.ofInt (IntKind.bits .i64) n &&& BitVec.ofInt (IntKind.bits .i64) 65535).toNat) == 65535))]), [], h, none⟩ ?_
            refine WpM.cond (t := ((IntKind.wrap .i64 (BitVec.ofInt (IntKind.bits .i64) n &&& BitVec.ofInt (IntKind.bits .i64) 65535).toNat) == 65535)) (by kernel_rfl) (fun c21 => ?_) (fun c21 => ?_)
            ·have c21p := beq_t c21
             have hb_c21 := and_lo (n := n) (by omega) (by omega)
             refine rn 8 ⟨.done .ret, [], (ss (E29 n) [(2, iv 4), (36, .bool ((IntKind.wrap .i64 (BitVec.ofInt (IntKind.bits .i64) n &&& BitVec.ofInt (IntKind.bits .i64) 65535).toNat) == 65535)), (50, .bool false), (51, iv n), (52, iv (IntKind.wrap .i64 (BitVec.ofInt (IntKind.bits .i64) n &&& BitVec.ofInt (IntKind.bits .i64) 65535).toNat)), (53, .bool ((IntKind.wrap .i64 (BitVec.ofInt (IntKind.bits .i64) n &&& BitVec.ofInt (IntKind.bits .i64) 65535).toNat) == 65535)), (54, .bool ((IntKind.wrap .i64 (BitVec.ofInt (IntKind.bits .i64) n &&& BitVec.ofInt (IntKind.bits .i64) 65535).toNat) == 65535)), (55, .bool ((IntKind.wrap .i64 (BitVec.ofInt (IntKind.bits .i64) n &&& BitVec.ofInt (IntKind.bits .i64) 65535).toNat) == 65535)), (56, .bool ((IntKind.wrap .i64 (BitVec.ofInt (IntKind.bits .i64) n &&& BitVec.ofInt (IntKind.bits .i64) 65535).toNat) == 65535))]), [], h, none⟩ ?_
             refine WpM.ret (iv 4) h (by kernel_rfl) (by kernel_rfl) ?_
             exact ⟨rfl, _, rfl, by omega⟩
            ·have c21p := beq_f c21
             have hb_c21 := and_lo (n := n) (by omega) (by omega)
             refine rn 9 ⟨.done .ret, [], (ss (E29 n) [(36, .bool ((IntKind.wrap .i64 (BitVec.ofInt (IntKind.bits .i64) n &&& BitVec.ofInt (IntKind.bits .i64) 65535).toNat) == 65535)), (50, .bool false), (51, iv n), (52, iv (IntKind.wrap .i64 (BitVec.ofInt (IntKind.bits .i64) n &&& BitVec.ofInt (IntKind.bits .i64) 65535).toNat)), (53, .bool ((IntKind.wrap .i64 (BitVec.ofInt (IntKind.bits .i64) n &&& BitVec.ofInt (IntKind.bits .i64) 65535).toNat) == 65535)), (54, .bool ((IntKind.wrap .i64 (BitVec.ofInt (IntKind.bits .i64) n &&& BitVec.ofInt (IntKind.bits .i64) 65535).toNat) == 65535)), (55, .bool ((IntKind.wrap .i64 (BitVec.ofInt (IntKind.bits .i64) n &&& BitVec.ofInt (IntKind.bits .i64) 65535).toNat) == 65535)), (56, .bool ((IntKind.wrap .i64 (BitVec.ofInt (IntKind.bits .i64) n &&& BitVec.ofInt (IntKind.bits .i64) 65535).toNat) == 65535))]), [], h, none⟩ ?_
             refine WpM.ret (iv 0) h (by kernel_rfl) (by kernel_rfl) ?_
             exact ⟨rfl, _, rfl, by omega⟩
          ·have c19p := dec_f c19
           exfalso; omega
      ·have c6p := dec_f c6
       refine rn 7 ⟨.ops (p21_15_10 :: o21_15.drop 11), [.seq x21_16, .blk 0, .seq x21_24], (ss (E26 n) [(24, .bool false), (27, .bool false), (28, .bool false), (29, iv n), (30, .bool (decide (n ≥ 127))), (31, .bool (decide (n ≥ 127)))]), [], h, none⟩ ?_
       refine WpM.guard (b := (decide (n ≥ 127))) (by kernel_rfl) (fun c22 => ?_) (fun c22 => ?_)
       ·have c22p := dec_t c22
        exfalso; omega
       ·have c22p := dec_f c22
        refine rn 13 ⟨.ops (p21_20_3 :: o21_20.drop 4), [.seq x21_21, .blk 0, .seq x21_24], (ss (E27 n) [(21, .bool false), (24, .bool false), (25, U), (26, U), (27, .bool false), (31, .bool false), (32, U), (33, U), (34, .bool false), (35, .bool false)]), [], h, none⟩ ?_
        refine WpM.guard (b := (decide (n ≥ 64976))) (by kernel_rfl) (fun c23 => ?_) (fun c23 => ?_)
        ·have c23p := dec_t c23
         exfalso; omega
        ·have c23p := dec_f c23
         refine rn 7 ⟨.ops (p21_20_10 :: o21_20.drop 11), [.seq x21_21, .blk 0, .seq x21_24], (ss (E29 n) [(24, .bool false), (25, U), (26, U), (27, .bool false), (46, .bool (decide (n ≥ 0))), (47, U), (48, U), (49, U), (50, U)]), [], h, none⟩ ?_
         refine WpM.guard (b := (decide (n ≥ 0))) (by kernel_rfl) (fun c24 => ?_) (fun c24 => ?_)
         ·have c24p := dec_t c24
          refine rn 4 ⟨.ops (p21_20_14 :: o21_20.drop 15), [.seq x21_21, .blk 0, .seq x21_24], (ss (E29 n) [(24, .bool false), (25, U), (26, U), (27, .bool false)]), [], h, none⟩ ?_
          refine WpM.guard (b := ((IntKind.wrap .i64 (BitVec.ofInt (IntKind.bits .i64) n &&& BitVec.ofInt (IntKind.bits .i64) 65535).toNat) == 65534)) (by kernel_rfl) (fun c25 => ?_) (fun c25 => ?_)
          ·have c25p := beq_t c25
           have hb_c25 := and_lo (n := n) (by omega) (by omega)
           refine rn 18 ⟨.done .ret, [], (ss (E29 n) [(2, iv 4), (24, .bool false), (25, U), (26, U), (27, .bool false), (36, .bool true), (50, .bool true), (54, .bool true), (55, .bool true), (56, .bool true)]), [], h, none⟩ ?_
           refine WpM.ret (iv 4) h (by kernel_rfl) (by kernel_rfl) ?_
           exact ⟨rfl, _, rfl, by omega⟩
          ·have c25p := beq_f c25
           have hb_c25 := and_lo (n := n) (by omega) (by omega)
           refine rn 9 ⟨.code x21_21, [.blk 0, .seq x21_24], (ss (E29 n) [(24, .bool false), (25, U), (26, U), (27, .bool false), (36, .bool ((IntKind.wrap .i64 (BitVec.ofInt (IntKind.bits .i64) n &&& BitVec.ofInt (IntKind.bits .i64) 65535).toNat) == 65535)), (50, .bool false), (51, iv n), (52, iv (IntKind.wrap .i64 (BitVec.ofInt (IntKind.bits .i64) n &&& BitVec.ofInt (IntKind.bits .i64) 65535).toNat)), (53, .bool ((IntKind.wrap .i64 (BitVec.ofInt (IntKind.bits .i64) n &&& BitVec.ofInt (IntKind.bits .i64) 65535).toNat) == 65535)), (54, .bool ((IntKind.wrap .i64 (BitVec.ofInt (IntKind.bits .i64) n &&& BitVec.ofInt (IntKind.bits .i64) 65535).toNat) == 65535)), (55, .bool ((IntKind.wrap .i64 (BitVec.ofInt (IntKind.bits .i64) n &&& BitVec.ofInt (IntKind.bits .i64) 65535).toNat) == 65535)), (56, .bool ((IntKind.wrap .i64 (BitVec.ofInt (IntKind.bits .i64) n &&& BitVec.ofInt (IntKind.bits .i64) 65535).toNat) == 65535))]), [], h, none⟩ ?_
           refine WpM.cond (t := ((IntKind.wrap .i64 (BitVec.ofInt (IntKind.bits .i64) n &&& BitVec.ofInt (IntKind.bits .i64) 65535).toNat) == 65535)) (by kernel_rfl) (fun c26 => ?_) (fun c26 => ?_)
           ·have c26p := beq_t c26
            have hb_c26 := and_lo (n := n) (by omega) (by omega)
            refine rn 8 ⟨.done .ret, [], (ss (E29 n) [(2, iv 4), (24, .bool false), (25, U), (26, U), (27, .bool false), (36, .bool ((IntKind.wrap .i64 (BitVec.ofInt (IntKind.bits .i64) n &&& BitVec.ofInt (IntKind.bits .i64) 65535).toNat) == 65535)), (50, .bool false), (51, iv n), (52, iv (IntKind.wrap .i64 (BitVec.ofInt (IntKind.bits .i64) n &&& BitVec.ofInt (IntKind.bits .i64) 65535).toNat)), (53, .bool ((IntKind.wrap .i64 (BitVec.ofInt (IntKind.bits .i64) n &&& BitVec.ofInt (IntKind.bits .i64) 65535).toNat) == 65535)), (54, .bool ((IntKind.wrap .i64 (BitVec.ofInt (IntKind.bits .i64) n &&& BitVec.ofInt (IntKind.bits .i64) 65535).toNat) == 65535)), (55, .bool ((IntKind.wrap .i64 (BitVec.ofInt (IntKind.bits .i64) n &&& BitVec.ofInt (IntKind.bits .i64) 65535).toNat) == 65535)), (56, .bool ((IntKind.wrap .i64 (BitVec.ofInt (IntKind.bits .i64) n &&& BitVec.ofInt (IntKind.bits .i64) 65535).toNat) == 65535))]), [], h, none⟩ ?_
            refine WpM.ret (iv 4) h (by kernel_rfl) (by kernel_rfl) ?_
            exact ⟨rfl, _, rfl, by omega⟩
           ·have c26p := beq_f c26
            have hb_c26 := and_lo (n := n) (by omega) (by omega)
            refine rn 9 ⟨.done .ret, [], (ss (E29 n) [(24, .bool false), (25, U), (26, U), (27, .bool false), (36, .bool ((IntKind.wrap .i64 (BitVec.ofInt (IntKind.bits .i64) n &&& BitVec.ofInt (IntKind.bits .i64) 65535).toNat) == 65535)), (50, .bool false), (51, iv n), (52, iv (IntKind.wrap .i64 (BitVec.ofInt (IntKind.bits .i64) n &&& BitVec.ofInt (IntKind.bits .i64) 65535).toNat)), (53, .bool ((IntKind.wrap .i64 (BitVec.ofInt (IntKind.bits .i64) n &&& BitVec.ofInt (IntKind.bits .i64) 65535).toNat) == 65535)), (54, .bool ((IntKind.wrap .i64 (BitVec.ofInt (IntKind.bits .i64) n &&& BitVec.ofInt (IntKind.bits .i64) 65535).toNat) == 65535)), (55, .bool ((IntKind.wrap .i64 (BitVec.ofInt (IntKind.bits .i64) n &&& BitVec.ofInt (IntKind.bits .i64) 65535).toNat) == 65535)), (56, .bool ((IntKind.wrap .i64 (BitVec.ofInt (IntKind.bits .i64) n &&& BitVec.ofInt (IntKind.bits .i64) 65535).toNat) == 65535))]), [], h, none⟩ ?_
            refine WpM.ret (iv 0) h (by kernel_rfl) (by kernel_rfl) ?_
            exact ⟨rfl, _, rfl, by omega⟩
         ·have c24p := dec_f c24
          refine rn 23 ⟨.done .ret, [], (ss (E29 n) [(24, .bool false), (25, U), (26, U), (27, .bool false), (36, .bool false), (46, .bool false), (47, U), (48, U), (49, U), (50, U), (55, .bool false), (56, .bool false)]), [], h, none⟩ ?_
          refine WpM.ret (iv 0) h (by kernel_rfl) (by kernel_rfl) ?_
          exact ⟨rfl, _, rfl, by omega⟩
theorem rnum_ok {W : World} {n : Int} (h : H) : WpF Tryd.prog W prim2 9 [iv n] h (fun v h' => HX h h' ∧ v = .tup [iv (numV n), iv (numF n)]) := by
 refine WpF.m tab_ok (by kernel_rfl) rfl ?_
 refine WpM.cfg (c' := ⟨.code x9_0, [], (iv n :: us 32), [], h, none⟩) (by kernel_rfl) ?_
 refine rn 12 ⟨.ops (p9_4_3 :: o9_4.drop 4), [.seq x9_5, .seq x9_8], (iv n :: U :: iv 0 :: iv 0 :: U :: iv n :: .bool (decide (n ≤ 0)) :: .bool (decide (n ≤ 0)) :: us 25), [], h, none⟩ ?_
 refine WpM.guard (b := (decide (n ≤ 0))) (by kernel_rfl) (fun c1 => ?_) (fun c1 => ?_)
 ·have c1p := dec_t c1
  refine rn 15 ⟨.done .ret, [], (iv n :: U :: iv 65533 :: iv 20 :: U :: iv n :: .bool (decide (n ≤ 0)) :: .bool true :: U :: U :: U :: .bool true :: us 21), [], h, none⟩ ?_
  refine WpM.ret (.tup [iv 65533, iv 20]) h (by kernel_rfl) (by kernel_rfl) ?_
  exact ⟨(HX.refl h), by rw [numV_odd (by omega), numF_bad (by omega)]⟩
 ·have c1p := dec_f c1
  refine rn 1 ⟨.ops (p9_4_4 :: o9_4.drop 5), [.seq x9_5, .seq x9_8], (iv n :: U :: iv 0 :: iv 0 :: U :: iv n :: .bool (decide (n ≤ 0)) :: .bool false :: iv n :: us 24), [], h, none⟩ ?_
  refine WpM.call 20 [iv n] (by kernel_rfl) (by kernel_rfl) ?_
  refine WpF.mono may_ok ?_
  rintro _ _ ⟨rfl, rfl⟩
  refine rn 4 ⟨.code x9_5, [.seq x9_8], (iv n :: U :: iv 0 :: iv 0 :: U :: iv n :: .bool (decide (n ≤ 0)) :: .bool false :: iv n :: .bool (mayB n) :: .bool (!(mayB n)) :: .bool (!(mayB n)) :: us 21), [], h, none⟩ ?_
  refine WpM.cond (t := (!(mayB n))) (by kernel_rfl) (fun c2 => ?_) (fun c2 => ?_)
  ·have c2p := not_t c2
   have hb_c2 := mayB_f (not_t c2)
   refine rn 8 ⟨.done .ret, [], (iv n :: U :: iv 65533 :: iv 20 :: U :: iv n :: .bool (decide (n ≤ 0)) :: .bool false :: iv n :: .bool (mayB n) :: .bool (!(mayB n)) :: .bool (!(mayB n)) :: us 21), [], h, none⟩ ?_
   refine WpM.ret (.tup [iv 65533, iv 20]) h (by kernel_rfl) (by kernel_rfl) ?_
   exact ⟨(HX.refl h), by rw [numV_odd (by omega), numF_bad (by omega)]⟩
  ·have c2p := not_f c2
   have hb_c2 := mayB_t (not_f c2)
   refine rn 8 ⟨.ops (p9_10_3 :: o9_10.drop 4), [.seq x9_11, .seq x9_16], (iv n :: U :: iv 0 :: iv 0 :: U :: iv n :: .bool (decide (n ≤ 0)) :: .bool false :: iv n :: .bool (mayB n) :: .bool (!(mayB n)) :: .bool (!(mayB n)) :: iv n :: .bool (decide (n ≥ 128)) :: .bool (decide (n ≥ 128)) :: us 18), [], h, none⟩ ?_
   refine WpM.guard (b := (decide (n ≥ 128))) (by kernel_rfl) (fun c3 => ?_) (fun c3 => ?_)
   ·have c3p := dec_t c3
    refine rn 5 ⟨.code x9_11, [.seq x9_16], (iv n :: U :: iv 0 :: iv 0 :: U :: iv n :: .bool (decide (n ≤ 0)) :: .bool false :: iv n :: .bool (mayB n) :: .bool (!(mayB n)) :: .bool (!(mayB n)) :: iv n :: .bool (decide (n ≥ 128)) :: .bool true :: iv n :: .bool (decide (n ≤ 159)) :: .bool (decide (n ≤ 159)) :: us 15), [], h, none⟩ ?_
    refine WpM.cond (t := (decide (n ≤ 159))) (by kernel_rfl) (fun c4 => ?_) (fun c4 => ?_)
    ·have c4p := dec_t c4
     refine rn 2 ⟨.ops (p9_13_0 :: o9_13.drop 1), [.seq x9_14, .seq x9_16], (iv n :: U :: iv 0 :: iv 0 :: U :: iv n :: .bool (decide (n ≤ 0)) :: .bool false :: iv n :: .bool (mayB n) :: .bool (!(mayB n)) :: .bool (!(mayB n)) :: iv n :: .bool (decide (n ≥ 128)) :: .bool true :: iv n :: .bool (decide (n ≤ 159)) :: .bool (decide (n ≤ 159)) :: us 15), [], h, none⟩ ?_
     refine WpM.opA (fun p => .slice (nw p) 32 32 true) (.cells (rv (fun x => [iv x]) C1) 3) (by kernel_rfl) (by kernel_rfl) (fun p5 h6 a7 => ?_)
     refine rn 7 ⟨.ops (p9_15_2 :: o9_15.drop 3), [.seq .ret, .seq x9_16], (iv n :: U :: iv 0 :: iv 0 :: .slice (nw p5) 32 32 true :: iv n :: .bool (decide (n ≤ 0)) :: .bool false :: iv n :: .bool (mayB n) :: .bool (!(mayB n)) :: .bool (!(mayB n)) :: iv n :: .bool (decide (n ≥ 128)) :: .bool true :: iv n :: .bool (decide (n ≤ 159)) :: .bool (decide (n ≤ 159)) :: .slice (nw p5) 32 32 true :: .slice (nw p5) 32 32 true :: iv n :: us 12), [], h6, none⟩ ?_
     refine WpM.op (iv (n - 128)) _ (by kernel_rfl) (arith_sub (by kernel_rfl) (by kernel_rfl) (by first | omega | (have c1l : C1.length = 32 := rfl; have := c1_range (n - 128); omega))) ?_
     refine rn 0 ⟨.ops (p9_15_3 :: o9_15.drop 4), [.seq .ret, .seq x9_16], (iv n :: U :: iv 0 :: iv 0 :: .slice (nw p5) 32 32 true :: iv n :: .bool (decide (n ≤ 0)) :: .bool false :: iv n :: .bool (mayB n) :: .bool (!(mayB n)) :: .bool (!(mayB n)) :: iv n :: .bool (decide (n ≥ 128)) :: .bool true :: iv n :: .bool (decide (n ≤ 159)) :: .bool (decide (n ≤ 159)) :: .slice (nw p5) 32 32 true :: .slice (nw p5) 32 32 true :: iv n :: iv (n - 128) :: us 11), [], h6, none⟩ ?_
     refine WpM.op (.ptr (some (.new p5 (0 + (n - 128).toNat * 1)))) _ (by kernel_rfl) (indexAddr_sl (e := 3) (a := (.new p5 0)) (len := 32) (lb := 32) (ex := true) (z := 1) (k := .i64) (n := (n - 128)) (by kernel_rfl) (by kernel_rfl) (by kernel_rfl) (by kernel_rfl) (by first | omega | (have c1l : C1.length = 32 := rfl; have := c1_range (n - 128); omega))) ?_
     refine rn 0 ⟨.ops (p9_15_4 :: o9_15.drop 5), [.seq .ret, .seq x9_16], (iv n :: U :: iv 0 :: iv 0 :: .slice (nw p5) 32 32 true :: iv n :: .bool (decide (n ≤ 0)) :: .bool false :: iv n :: .bool (mayB n) :: .bool (!(mayB n)) :: .bool (!(mayB n)) :: iv n :: .bool (decide (n ≥ 128)) :: .bool true :: iv n :: .bool (decide (n ≤ 159)) :: .bool (decide (n ≤ 159)) :: .slice (nw p5) 32 32 true :: .slice (nw p5) 32 32 true :: iv n :: iv (n - 128) :: .ptr (some (.new p5 (0 + (n - 128).toNat * 1))) :: us 10), [], h6, none⟩ ?_
     refine WpM.op (iv ((gt C1 (n - 128)))) _ (by kernel_rfl) (load_new (o := (0 + (n - 128).toNat * 1)) (by kernel_rfl) a7.get (rv_ld (z := 1) (f := (fun x => [iv x])) (fun _ => rfl) (i := (n - 128)) (by first | omega | (have c1l : C1.length = 32 := rfl; have := c1_range (n - 128); omega)) (off := 0) (by kernel_rfl) (by decide) (by kernel_rfl) (by first | omega | (have c1l : C1.length = 32 := rfl; have := c1_range (n - 128); omega)))) ?_
     refine rn 6 ⟨.done .ret, [], (iv n :: U :: iv ((gt C1 (n - 128))) :: iv 20 :: .slice (nw p5) 32 32 true :: iv n :: .bool (decide (n ≤ 0)) :: .bool false :: iv n :: .bool (mayB n) :: .bool (!(mayB n)) :: .bool (!(mayB n)) :: iv n :: .bool (decide (n ≥ 128)) :: .bool true :: iv n :: .bool (decide (n ≤ 159)) :: .bool (decide (n ≤ 159)) :: .slice (nw p5) 32 32 true :: .slice (nw p5) 32 32 true :: iv n :: iv (n - 128) :: .ptr (some (.new p5 (0 + (n - 128).toNat * 1))) :: iv ((gt C1 (n - 128))) :: us 9), [], h6, none⟩ ?_
     refine WpM.ret (.tup [iv ((gt C1 (n - 128))), iv 20]) h6 (by kernel_rfl) (by kernel_rfl) ?_
     exact ⟨((HX.refl h).alloc a7), by rw [numV_c1 (by omega), numF_bad (by omega)]⟩
    ·have c4p := dec_f c4
     refine rn 6 ⟨.ops (p9_18_1 :: o9_18.drop 2), [.seq x9_19, .seq x9_22], (iv n :: U :: iv 0 :: iv 0 :: U :: iv n :: .bool (decide (n ≤ 0)) :: .bool false :: iv n :: .bool (mayB n) :: .bool (!(mayB n)) :: .bool (!(mayB n)) :: iv n :: .bool (decide (n ≥ 128)) :: .bool true :: iv n :: .bool (decide (n ≤ 159)) :: .bool (decide (n ≤ 159)) :: U :: U :: U :: U :: U :: U :: iv n :: us 8), [], h, none⟩ ?_
     refine WpM.call 21 [iv n] (by kernel_rfl) (by kernel_rfl) ?_
     refine WpF.mono (bad_ok (by omega)) ?_
     rintro _ _ ⟨rfl, zb, rfl, hzb⟩
     refine rn 2 ⟨.ops (p9_18_4 :: o9_18.drop 5), [.seq x9_19, .seq x9_22], (iv n :: U :: iv 0 :: iv 0 :: U :: iv n :: .bool (decide (n ≤ 0)) :: .bool false :: iv n :: .bool (mayB n) :: .bool (!(mayB n)) :: .bool (!(mayB n)) :: iv n :: .bool (decide (n ≥ 128)) :: .bool true :: iv n :: .bool (decide (n ≤ 159)) :: .bool (decide (n ≤ 159)) :: U :: U :: U :: U :: U :: U :: iv n :: iv zb :: .bool (!(zb == 0)) :: .bool (!(zb == 0)) :: us 5), [], h, none⟩ ?_
     refine WpM.guard (b := (!(zb == 0))) (by kernel_rfl) (fun c8 => ?_) (fun c8 => ?_)
     ·have c8p := nbeq_t c8
      refine rn 15 ⟨.done .ret, [], (iv n :: U :: iv n :: iv 20 :: U :: iv n :: .bool (decide (n ≤ 0)) :: .bool false :: iv n :: .bool (mayB n) :: .bool (!(mayB n)) :: .bool (!(mayB n)) :: iv n :: .bool (decide (n ≥ 128)) :: .bool true :: iv n :: .bool (decide (n ≤ 159)) :: .bool (decide (n ≤ 159)) :: U :: U :: U :: U :: U :: U :: iv n :: iv zb :: .bool (!(zb == 0)) :: .bool true :: U :: U :: .bool true :: iv n :: U :: []), [], h, none⟩ ?_
      refine WpM.ret (.tup [iv n, iv 20]) h (by kernel_rfl) (by kernel_rfl) ?_
      exact ⟨(HX.refl h), by rw [numV_id (by omega) (by omega), numF_bad (by omega)]⟩
     ·have c8p := nbeq_f c8
      refine rn 5 ⟨.code x9_19, [.seq x9_22], (iv n :: U :: iv 0 :: iv 0 :: U :: iv n :: .bool (decide (n ≤ 0)) :: .bool false :: iv n :: .bool (mayB n) :: .bool (!(mayB n)) :: .bool (!(mayB n)) :: iv n :: .bool (decide (n ≥ 128)) :: .bool true :: iv n :: .bool (decide (n ≤ 159)) :: .bool (decide (n ≤ 159)) :: U :: U :: U :: U :: U :: U :: iv n :: iv zb :: .bool (!(zb == 0)) :: .bool false :: iv n :: .bool (n == 13) :: .bool (n == 13) :: U :: U :: []), [], h, none⟩ ?_
      refine WpM.cond (t := (n == 13)) (by kernel_rfl) (fun c9 => ?_) (fun c9 => ?_)
      ·have c9p := beq_t c9
       exfalso; omega
      ·have c9p := beq_f c9
       refine rn 10 ⟨.done .ret, [], (iv n :: U :: iv n :: iv 0 :: U :: iv n :: .bool (decide (n ≤ 0)) :: .bool false :: iv n :: .bool (mayB n) :: .bool (!(mayB n)) :: .bool (!(mayB n)) :: iv n :: .bool (decide (n ≥ 128)) :: .bool true :: iv n :: .bool (decide (n ≤ 159)) :: .bool (decide (n ≤ 159)) :: U :: U :: U :: U :: U :: U :: iv n :: iv zb :: .bool (!(zb == 0)) :: .bool false :: iv n :: .bool (n == 13) :: .bool (n == 13) :: U :: iv n :: []), [], h, none⟩ ?_
       refine WpM.ret (.tup [iv n, iv 0]) h (by kernel_rfl) (by kernel_rfl) ?_
       exact ⟨(HX.refl h), by rw [numV_id (by omega) (by omega), numF_good (by omega)]⟩
   ·have c3p := dec_f c3
    refine rn 12 ⟨.ops (p9_18_1 :: o9_18.drop 2), [.seq x9_19, .seq x9_22], (iv n :: U :: iv 0 :: iv 0 :: U :: iv n :: .bool (decide (n ≤ 0)) :: .bool false :: iv n :: .bool (mayB n) :: .bool (!(mayB n)) :: .bool (!(mayB n)) :: iv n :: .bool (decide (n ≥ 128)) :: .bool false :: U :: U :: .bool false :: U :: U :: U :: U :: U :: U :: iv n :: us 8), [], h, none⟩ ?_
    refine WpM.call 21 [iv n] (by kernel_rfl) (by kernel_rfl) ?_
    refine WpF.mono (bad_ok (by omega)) ?_
    rintro _ _ ⟨rfl, zb, rfl, hzb⟩
    refine rn 2 ⟨.ops (p9_18_4 :: o9_18.drop 5), [.seq x9_19, .seq x9_22], (iv n :: U :: iv 0 :: iv 0 :: U :: iv n :: .bool (decide (n ≤ 0)) :: .bool false :: iv n :: .bool (mayB n) :: .bool (!(mayB n)) :: .bool (!(mayB n)) :: iv n :: .bool (decide (n ≥ 128)) :: .bool false :: U :: U :: .bool false :: U :: U :: U :: U :: U :: U :: iv n :: iv zb :: .bool (!(zb == 0)) :: .bool (!(zb == 0)) :: us 5), [], h, none⟩ ?_
    refine WpM.guard (b := (!(zb == 0))) (by kernel_rfl) (fun c10 => ?_) (fun c10 => ?_)
    ·have c10p := nbeq_t c10
     refine rn 15 ⟨.done .ret, [], (iv n :: U :: iv n :: iv 20 :: U :: iv n :: .bool (decide (n ≤ 0)) :: .bool false :: iv n :: .bool (mayB n) :: .bool (!(mayB n)) :: .bool (!(mayB n)) :: iv n :: .bool (decide (n ≥ 128)) :: .bool false :: U :: U :: .bool false :: U :: U :: U :: U :: U :: U :: iv n :: iv zb :: .bool (!(zb == 0)) :: .bool true :: U :: U :: .bool true :: iv n :: U :: []), [], h, none⟩ ?_
     refine WpM.ret (.tup [iv n, iv 20]) h (by kernel_rfl) (by kernel_rfl) ?_
     exact ⟨(HX.refl h), by rw [numV_id (by omega) (by omega), numF_bad (by omega)]⟩
    ·have c10p := nbeq_f c10
     refine rn 5 ⟨.code x9_19, [.seq x9_22], (iv n :: U :: iv 0 :: iv 0 :: U :: iv n :: .bool (decide (n ≤ 0)) :: .bool false :: iv n :: .bool (mayB n) :: .bool (!(mayB n)) :: .bool (!(mayB n)) :: iv n :: .bool (decide (n ≥ 128)) :: .bool false :: U :: U :: .bool false :: U :: U :: U :: U :: U :: U :: iv n :: iv zb :: .bool (!(zb == 0)) :: .bool false :: iv n :: .bool (n == 13) :: .bool (n == 13) :: U :: U :: []), [], h, none⟩ ?_
     refine WpM.cond (t := (n == 13)) (by kernel_rfl) (fun c11 => ?_) (fun c11 => ?_)
     ·have c11p := beq_t c11
      refine rn 9 ⟨.done .ret, [], (iv n :: U :: iv n :: iv 20 :: U :: iv n :: .bool (decide (n ≤ 0)) :: .bool false :: iv n :: .bool (mayB n) :: .bool (!(mayB n)) :: .bool (!(mayB n)) :: iv n :: .bool (decide (n ≥ 128)) :: .bool false :: U :: U :: .bool false :: U :: U :: U :: U :: U :: U :: iv n :: iv zb :: .bool (!(zb == 0)) :: .bool false :: iv n :: .bool (n == 13) :: .bool (n == 13) :: iv n :: U :: []), [], h, none⟩ ?_
      refine WpM.ret (.tup [iv n, iv 20]) h (by kernel_rfl) (by kernel_rfl) ?_
      exact ⟨(HX.refl h), by rw [numV_id (by omega) (by omega), numF_bad (by omega)]⟩
     ·have c11p := beq_f c11
      refine rn 10 ⟨.done .ret, [], (iv n :: U :: iv n :: iv 0 :: U :: iv n :: .bool (decide (n ≤ 0)) :: .bool false :: iv n :: .bool (mayB n) :: .bool (!(mayB n)) :: .bool (!(mayB n)) :: iv n :: .bool (decide (n ≥ 128)) :: .bool false :: U :: U :: .bool false :: U :: U :: U :: U :: U :: U :: iv n :: iv zb :: .bool (!(zb == 0)) :: .bool false :: iv n :: .bool (n == 13) :: .bool (n == 13) :: U :: iv n :: []), [], h, none⟩ ?_
      refine WpM.ret (.tup [iv n, iv 0]) h (by kernel_rfl) (by kernel_rfl) ?_
      exact ⟨(HX.refl h), by rw [numV_id (by omega) (by omega), numF_good (by omega)]⟩
end Go.Proofs.YtkhjmgchlbnkjaaDoor.Dg
