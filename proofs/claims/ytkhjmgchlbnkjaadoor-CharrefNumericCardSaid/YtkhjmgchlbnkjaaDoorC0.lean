/-
  The names; a number as a character.
-/
import Derived.Test.YtkhjmgchlbnkjaaDoorB0
set_option linter.unusedVariables false
set_option linter.unusedSimpArgs false
namespace Go.Proofs.YtkhjmgchlbnkjaaDoor.Dg
open Go Go.RowKit
set_option maxRecDepth 20000
def k_AMP : List UInt8 := [65, 77, 80]
def k_AMP' : List UInt8 := [65, 77, 80, 59]
def k_GT : List UInt8 := [71, 84]
def k_GT' : List UInt8 := [71, 84, 59]
def k_LT : List UInt8 := [76, 84]
def k_LT' : List UInt8 := [76, 84, 59]
def k_QUOT : List UInt8 := [81, 85, 79, 84]
def k_QUOT' : List UInt8 := [81, 85, 79, 84, 59]
def k_alpha : List UInt8 := [97, 108, 112, 104, 97, 59]
def k_amp : List UInt8 := [97, 109, 112]
def k_amp' : List UInt8 := [97, 109, 112, 59]
def k_and : List UInt8 := [97, 110, 100, 59]
def k_ang : List UInt8 := [97, 110, 103, 59]
def k_apos : List UInt8 := [97, 112, 111, 115, 59]
def k_beta : List UInt8 := [98, 101, 116, 97, 59]
def k_bull : List UInt8 := [98, 117, 108, 108, 59]
def k_cap : List UInt8 := [99, 97, 112, 59]
def k_cent : List UInt8 := [99, 101, 110, 116]
def k_cent' : List UInt8 := [99, 101, 110, 116, 59]
def k_copy : List UInt8 := [99, 111, 112, 121]
def k_copy' : List UInt8 := [99, 111, 112, 121, 59]
def k_cup : List UInt8 := [99, 117, 112, 59]
def k_deg : List UInt8 := [100, 101, 103]
def k_deg' : List UInt8 := [100, 101, 103, 59]
def k_divide : List UInt8 := [100, 105, 118, 105, 100, 101]
def k_divide' : List UInt8 := [100, 105, 118, 105, 100, 101, 59]
def k_eacute : List UInt8 := [101, 97, 99, 117, 116, 101]
def k_eacute' : List UInt8 := [101, 97, 99, 117, 116, 101, 59]
def k_emsp : List UInt8 := [101, 109, 115, 112, 59]
def k_eta : List UInt8 := [101, 116, 97, 59]
def k_eth : List UInt8 := [101, 116, 104]
def k_eth' : List UInt8 := [101, 116, 104, 59]
def k_euro : List UInt8 := [101, 117, 114, 111, 59]
def k_ge : List UInt8 := [103, 101, 59]
def k_gt : List UInt8 := [103, 116]
def k_gt' : List UInt8 := [103, 116, 59]
def k_hellip : List UInt8 := [104, 101, 108, 108, 105, 112, 59]
def k_in : List UInt8 := [105, 110, 59]
def k_int : List UInt8 := [105, 110, 116, 59]
def k_laquo : List UInt8 := [108, 97, 113, 117, 111]
def k_laquo' : List UInt8 := [108, 97, 113, 117, 111, 59]
def k_le : List UInt8 := [108, 101, 59]
def k_lt : List UInt8 := [108, 116]
def k_lt' : List UInt8 := [108, 116, 59]
def k_mdash : List UInt8 := [109, 100, 97, 115, 104, 59]
def k_micro : List UInt8 := [109, 105, 99, 114, 111]
def k_micro' : List UInt8 := [109, 105, 99, 114, 111, 59]
def k_nbsp : List UInt8 := [110, 98, 115, 112]
def k_nbsp' : List UInt8 := [110, 98, 115, 112, 59]
def k_ne : List UInt8 := [110, 101, 59]
def k_not : List UInt8 := [110, 111, 116]
def k_not' : List UInt8 := [110, 111, 116, 59]
def k_notin : List UInt8 := [110, 111, 116, 105, 110, 59]
def k_ouml : List UInt8 := [111, 117, 109, 108]
def k_ouml' : List UInt8 := [111, 117, 109, 108, 59]
def k_para : List UInt8 := [112, 97, 114, 97]
def k_para' : List UInt8 := [112, 97, 114, 97, 59]
def k_pi : List UInt8 := [112, 105, 59]
def k_piv : List UInt8 := [112, 105, 118, 59]
def k_quot : List UInt8 := [113, 117, 111, 116]
def k_quot' : List UInt8 := [113, 117, 111, 116, 59]
def k_raquo : List UInt8 := [114, 97, 113, 117, 111]
def k_raquo' : List UInt8 := [114, 97, 113, 117, 111, 59]
def k_reg : List UInt8 := [114, 101, 103]
def k_reg' : List UInt8 := [114, 101, 103, 59]
def k_sect : List UInt8 := [115, 101, 99, 116]
def k_sect' : List UInt8 := [115, 101, 99, 116, 59]
def k_shy : List UInt8 := [115, 104, 121]
def k_shy' : List UInt8 := [115, 104, 121, 59]
def k_sub : List UInt8 := [115, 117, 98, 59]
def k_sum : List UInt8 := [115, 117, 109, 59]
def k_times : List UInt8 := [116, 105, 109, 101, 115]
def k_times' : List UInt8 := [116, 105, 109, 101, 115, 59]
def k_uml : List UInt8 := [117, 109, 108]
def k_uml' : List UInt8 := [117, 109, 108, 59]
def k_yen : List UInt8 := [121, 101, 110]
def k_yen' : List UInt8 := [121, 101, 110, 59]
def k_zwj : List UInt8 := [122, 119, 106, 59]
def REFS : List T74 := [⟨[65, 77, 80], 38⟩, ⟨[65, 77, 80, 59], 38⟩, ⟨[71, 84], 62⟩, ⟨[71, 84, 59], 62⟩, ⟨[76, 84], 60⟩, ⟨[76, 84, 59], 60⟩, ⟨[81, 85, 79, 84], 34⟩, ⟨[81, 85, 79, 84, 59], 34⟩, ⟨[97, 108, 112, 104, 97, 59], 945⟩, ⟨[97, 109, 112], 38⟩, ⟨[97, 109, 112, 59], 38⟩, ⟨[97, 110, 100, 59], 8743⟩, ⟨[97, 110, 103, 59], 8736⟩, ⟨[97, 112, 111, 115, 59], 39⟩, ⟨[98, 101, 116, 97, 59], 946⟩, ⟨[98, 117, 108, 108, 59], 8226⟩, ⟨[99, 97, 112, 59], 8745⟩, ⟨[99, 101, 110, 116], 162⟩, ⟨[99, 101, 110, 116, 59], 162⟩, ⟨[99, 111, 112, 121], 169⟩, ⟨[99, 111, 112, 121, 59], 169⟩, ⟨[99, 117, 112, 59], 8746⟩, ⟨[100, 101, 103], 176⟩, ⟨[100, 101, 103, 59], 176⟩, ⟨[100, 105, 118, 105, 100, 101], 247⟩, ⟨[100, 105, 118, 105, 100, 101, 59], 247⟩, ⟨[101, 97, 99, 117, 116, 101], 233⟩, ⟨[101, 97, 99, 117, 116, 101, 59], 233⟩, ⟨[101, 109, 115, 112, 59], 8195⟩, ⟨[101, 116, 97, 59], 951⟩, ⟨[101, 116, 104], 240⟩, ⟨[101, 116, 104, 59], 240⟩, ⟨[101, 117, 114, 111, 59], 8364⟩, ⟨[103, 101, 59], 8805⟩, ⟨[103, 116], 62⟩, ⟨[103, 116, 59], 62⟩, ⟨[104, 101, 108, 108, 105, 112, 59], 8230⟩, ⟨[105, 110, 59], 8712⟩, ⟨[105, 110, 116, 59], 8747⟩, ⟨[108, 97, 113, 117, 111], 171⟩, ⟨[108, 97, 113, 117, 111, 59], 171⟩, ⟨[108, 101, 59], 8804⟩, ⟨[108, 116], 60⟩, ⟨[108, 116, 59], 60⟩, ⟨[109, 100, 97, 115, 104, 59], 8212⟩, ⟨[109, 105, 99, 114, 111], 181⟩, ⟨[109, 105, 99, 114, 111, 59], 181⟩, ⟨[110, 98, 115, 112], 160⟩, ⟨[110, 98, 115, 112, 59], 160⟩, ⟨[110, 101, 59], 8800⟩, ⟨[110, 111, 116], 172⟩, ⟨[110, 111, 116, 59], 172⟩, ⟨[110, 111, 116, 105, 110, 59], 8713⟩, ⟨[111, 117, 109, 108], 246⟩, ⟨[111, 117, 109, 108, 59], 246⟩, ⟨[112, 97, 114, 97], 182⟩, ⟨[112, 97, 114, 97, 59], 182⟩, ⟨[112, 105, 59], 960⟩, ⟨[112, 105, 118, 59], 982⟩, ⟨[113, 117, 111, 116], 34⟩, ⟨[113, 117, 111, 116, 59], 34⟩, ⟨[114, 97, 113, 117, 111], 187⟩, ⟨[114, 97, 113, 117, 111, 59], 187⟩, ⟨[114, 101, 103], 174⟩, ⟨[114, 101, 103, 59], 174⟩, ⟨[115, 101, 99, 116], 167⟩, ⟨[115, 101, 99, 116, 59], 167⟩, ⟨[115, 104, 121], 173⟩, ⟨[115, 104, 121, 59], 173⟩, ⟨[115, 117, 98, 59], 8834⟩, ⟨[115, 117, 109, 59], 8721⟩, ⟨[116, 105, 109, 101, 115], 215⟩, ⟨[116, 105, 109, 101, 115, 59], 215⟩, ⟨[117, 109, 108], 168⟩, ⟨[117, 109, 108, 59], 168⟩, ⟨[121, 101, 110], 165⟩, ⟨[121, 101, 110, 59], 165⟩, ⟨[122, 119, 106, 59], 8205⟩]
theorem refs_len : REFS.length = 78 := rfl
theorem refs_good : ∀ x ∈ REFS, x.fName ≠ [] ∧ x.fName.length ≤ 8 := by
  have h : REFS.all (fun x => !x.fName.isEmpty && decide (x.fName.length ≤ 8)) = true := by kernel_rfl
  intro x hx
  have := List.all_eq_true.1 h x hx
  simp only [Bool.and_eq_true, decide_eq_true_eq, Bool.not_eq_true'] at this
  exact ⟨fun e => by (rw [e] at this; exact absurd this.1 (by decide)), this.2⟩
def domL (l : List T74) (w : Wrd) : Bool := w == [] || l.any fun x => w.isPrefixOf x.fName
def isL (l : List T74) (w : Wrd) : Bool := l.any fun x => x.fName == w
def rL (l : List T74) (w : Wrd) : Int := match l.find? (fun x => x.fName == w) with | some x => x.fR | none => 0
theorem TL.eqs {l : List T74} {D B : Wrd → Bool} {R : Wrd → Int} (t : TL l D B R) : D = domL l ∧ B = isL l ∧ R = rL l := ⟨funext t.D, funext t.B, funext t.R⟩
theorem new_refs {W : World} {q : Nat} {hB : H} (lq : q < hB.nx) (gq : hB.get q = some (.cells (rv T74.cells REFS) 74)) : WpF Tryd.prog W prim2 23 [.slice (some (.new q 0)) 78 78 true] hB (fun v h' => HX hB h' ∧ ∃ (p : Wrd → Nat) (m : Wrd → Option Nat) (c : Int) (pt : Nat), v = .ptr (some (.new pt 0)) ∧ p [] = pt ∧ Tri 72 70 hB.nx h' (domL REFS) (isL REFS) (rL REFS) p m c ∧ 0 < c) := by
  have h := new_ok (W := W) lq gq (by rw [refs_len]; decide) refs_good
  rw [refs_len] at h
  refine WpF.mono h ?_
  rintro v h' ⟨a, D, B, R, p, m, c, rfl, hT, hL, hc⟩
  obtain ⟨rfl, rfl, rfl⟩ := hL.eqs
  exact ⟨a, p, m, c, _, rfl, rfl, hT, hc (by intro e; cases e)⟩
def C1 : List Int := [8364, 129, 8218, 402, 8222, 8230, 8224, 8225, 710, 8240, 352, 8249, 338, 141, 381, 143, 144, 8216, 8217, 8220, 8221, 8226, 8211, 8212, 732, 8482, 353, 8250, 339, 157, 382, 376]
theorem c1_range (i : Int) : 0 ≤ gt C1 i ∧ gt C1 i ≤ 65536 := by
  have h : C1.all (fun x => decide (0 ≤ x ∧ x ≤ 65536)) = true := by kernel_rfl
  unfold gt
  rw [List.getD_eq_getElem?_getD]
  cases e : C1[i.toNat]? with
  | none => decide
  | some x =>
    have := List.all_eq_true.1 h x (List.mem_of_getElem? e)
    simpa using this
def numV (n : Int) : Int := if n ≤ 0 ∨ 1114111 < n ∨ (55296 ≤ n ∧ n ≤ 57343) then 65533 else if 128 ≤ n ∧ n < 160 then gt C1 (n - 128) else n
def badN (n : Int) : Bool := decide (n ≤ 0 ∨ 1114111 < n ∨ (55296 ≤ n ∧ n ≤ 57343) ∨ (128 ≤ n ∧ n < 160) ∨ (n < 32 ∧ n ≠ 9 ∧ n ≠ 10 ∧ n ≠ 12) ∨ n = 127 ∨ (64976 ≤ n ∧ n ≤ 65007) ∨ 65534 ≤ n % 65536)
def numF (n : Int) : Int := if badN n = true then 20 else 0
theorem numF_bad {n : Int} (h : n ≤ 0 ∨ 1114111 < n ∨ (55296 ≤ n ∧ n ≤ 57343) ∨ (128 ≤ n ∧ n < 160) ∨ (n < 32 ∧ n ≠ 9 ∧ n ≠ 10 ∧ n ≠ 12) ∨ n = 127 ∨ (64976 ≤ n ∧ n ≤ 65007) ∨ 65534 ≤ n % 65536) : numF n = 20 := by unfold numF badN; rw [if_pos (decide_eq_true h)]
theorem numF_good {n : Int} (h : ¬ (n ≤ 0 ∨ 1114111 < n ∨ (55296 ≤ n ∧ n ≤ 57343) ∨ (128 ≤ n ∧ n < 160) ∨ (n < 32 ∧ n ≠ 9 ∧ n ≠ 10 ∧ n ≠ 12) ∨ n = 127 ∨ (64976 ≤ n ∧ n ≤ 65007) ∨ 65534 ≤ n % 65536)) : numF n = 0 := by unfold numF badN; rw [if_neg (by simpa using h)]
theorem numV_odd {n : Int} (h : n ≤ 0 ∨ 1114111 < n ∨ (55296 ≤ n ∧ n ≤ 57343)) : numV n = 65533 := by unfold numV; rw [if_pos h]
theorem numV_c1 {n : Int} (h : 128 ≤ n ∧ n < 160) : numV n = gt C1 (n - 128) := by unfold numV; rw [if_neg (by omega), if_pos h]
theorem numV_id {n : Int} (h : ¬ (n ≤ 0 ∨ 1114111 < n ∨ (55296 ≤ n ∧ n ≤ 57343))) (h2 : ¬ (128 ≤ n ∧ n < 160)) : numV n = n := by unfold numV; rw [if_neg h, if_neg h2]
theorem and_nat {n : Int} (h0 : 0 ≤ n) (h1 : n ≤ 1114111) {k : Nat} (hk : k < 65536) : IntKind.wrap .i64 (BitVec.ofInt (IntKind.bits .i64) n &&& BitVec.ofInt (IntKind.bits .i64) (k : Int)).toNat = ((n.toNat &&& k : Nat) : Int) := by
  obtain ⟨m, rfl⟩ := Int.eq_ofNat_of_zero_le h0
  have e1 : ∀ j : Nat, j < 2 ^ 64 → (BitVec.ofInt (IntKind.bits .i64) (j : Int)).toNat = j := fun j hj => by
    show (BitVec.ofInt 64 (j : Int)).toNat = j
    rw [BitVec.toNat_ofInt]
    omega
  rw [BitVec.toNat_and, e1 m (by omega), e1 k (by omega)]
  have h2 : m &&& k ≤ k := Nat.and_le_right
  have h3 : (m : Int).toNat = m := rfl
  rw [h3]
  exact wrap_id (by omega) (by omega)
theorem and_mod {m : Nat} : m &&& 65535 = m % 65536 := Nat.and_two_pow_sub_one_eq_mod m 16
theorem and_two {m : Nat} : m &&& 65534 = m % 65536 / 2 * 2 := by
  have h1 : (m &&& 65534) / 2 = m / 2 % 32768 := by
    rw [Nat.and_div_two]
    exact Nat.and_two_pow_sub_one_eq_mod (m / 2) 15
  have h2 : (m &&& 65534) % 2 = 0 := by
    have := Nat.and_mod_two_pow (a := m) (b := 65534) (n := 1)
    simpa using this
  omega
theorem and_hi {n : Int} (h0 : 0 < n) (h1 : n ≤ 1114111) : (IntKind.wrap .i64 (BitVec.ofInt (IntKind.bits .i64) n &&& BitVec.ofInt (IntKind.bits .i64) 65534).toNat = 65534) ↔ 65534 ≤ n % 65536 := by
  have := and_nat (by omega : 0 ≤ n) h1 (k := 65534) (by decide)
  rw [and_two] at this
  have e : ((65534 : Nat) : Int) = 65534 := rfl
  rw [e] at this
  rw [this]
  omega
theorem and_lo {n : Int} (h0 : 0 < n) (h1 : n ≤ 1114111) : IntKind.wrap .i64 (BitVec.ofInt (IntKind.bits .i64) n &&& BitVec.ofInt (IntKind.bits .i64) 65535).toNat = n % 65536 := by
  have := and_nat (by omega : 0 ≤ n) h1 (k := 65535) (by decide)
  rw [and_mod] at this
  have e : ((65535 : Nat) : Int) = 65535 := rfl
  rw [e] at this
  rw [this]
  omega
theorem refs_ok {W : World} (h : H) : WpF Tryd.prog W prim2 24 [] h (fun v h' => HX h h' ∧ ∃ q, v = .slice (some (.new q 0)) 78 78 true ∧ q < h'.nx ∧ h'.get q = some (.cells (rv T74.cells REFS) 74)) := by
  refine WpF.m tab_ok (by kernel_rfl) rfl ?_
  refine WpM.cfg (c' := ⟨.code x24_0, [], (us 80), [], h, none⟩) (by kernel_rfl) ?_
  refine WpM.run tab_ok 85 ⟨.ops (p24_3_78 :: o24_3.drop 79), [.seq .ret], (.slice none 0 0 true :: .agg [.str k_AMP, .int .i64 38] :: .agg [.str k_AMP', .int .i64 38] :: .agg [.str k_GT, .int .i64 62] :: .agg [.str k_GT', .int .i64 62] :: .agg [.str k_LT, .int .i64 60] :: .agg [.str k_LT', .int .i64 60] :: .agg [.str k_QUOT, .int .i64 34] :: .agg [.str k_QUOT', .int .i64 34] :: .agg [.str k_alpha, .int .i64 945] :: .agg [.str k_amp, .int .i64 38] :: .agg [.str k_amp', .int .i64 38] :: .agg [.str k_and, .int .i64 8743] :: .agg [.str k_ang, .int .i64 8736] :: .agg [.str k_apos, .int .i64 39] :: .agg [.str k_beta, .int .i64 946] :: .agg [.str k_bull, .int .i64 8226] :: .agg [.str k_cap, .int .i64 8745] :: .agg [.str k_cent, .int .i64 162] :: .agg [.str k_cent', .int .i64 162] :: .agg [.str k_copy, .int .i64 169] :: .agg [.str k_copy', .int .i64 169] :: .agg [.str k_cup, .int .i64 8746] :: .agg [.str k_deg, .int .i64 176] :: .agg [.str k_deg', .int .i64 176] :: .agg [.str k_divide, .int .i64 247] :: .agg [.str k_divide', .int .i64 247] :: .agg [.str k_eacute, .int .i64 233] :: .agg [.str k_eacute', .int .i64 233] :: .agg [.str k_emsp, .int .i64 8195] :: .agg [.str k_eta, .int .i64 951] :: .agg [.str k_eth, .int .i64 240] :: .agg [.str k_eth', .int .i64 240] :: .agg [.str k_euro, .int .i64 8364] :: .agg [.str k_ge, .int .i64 8805] :: .agg [.str k_gt, .int .i64 62] :: .agg [.str k_gt', .int .i64 62] :: .agg [.str k_hellip, .int .i64 8230] :: .agg [.str k_in, .int .i64 8712] :: .agg [.str k_int, .int .i64 8747] :: .agg [.str k_laquo, .int .i64 171] :: .agg [.str k_laquo', .int .i64 171] :: .agg [.str k_le, .int .i64 8804] :: .agg [.str k_lt, .int .i64 60] :: .agg [.str k_lt', .int .i64 60] :: .agg [.str k_mdash, .int .i64 8212] :: .agg [.str k_micro, .int .i64 181] :: .agg [.str k_micro', .int .i64 181] :: .agg [.str k_nbsp, .int .i64 160] :: .agg [.str k_nbsp', .int .i64 160] :: .agg [.str k_ne, .int .i64 8800] :: .agg [.str k_not, .int .i64 172] :: .agg [.str k_not', .int .i64 172] :: .agg [.str k_notin, .int .i64 8713] :: .agg [.str k_ouml, .int .i64 246] :: .agg [.str k_ouml', .int .i64 246] :: .agg [.str k_para, .int .i64 182] :: .agg [.str k_para', .int .i64 182] :: .agg [.str k_pi, .int .i64 960] :: .agg [.str k_piv, .int .i64 982] :: .agg [.str k_quot, .int .i64 34] :: .agg [.str k_quot', .int .i64 34] :: .agg [.str k_raquo, .int .i64 187] :: .agg [.str k_raquo', .int .i64 187] :: .agg [.str k_reg, .int .i64 174] :: .agg [.str k_reg', .int .i64 174] :: .agg [.str k_sect, .int .i64 167] :: .agg [.str k_sect', .int .i64 167] :: .agg [.str k_shy, .int .i64 173] :: .agg [.str k_shy', .int .i64 173] :: .agg [.str k_sub, .int .i64 8834] :: .agg [.str k_sum, .int .i64 8721] :: .agg [.str k_times, .int .i64 215] :: .agg [.str k_times', .int .i64 215] :: .agg [.str k_uml, .int .i64 168] :: .agg [.str k_uml', .int .i64 168] :: .agg [.str k_yen, .int .i64 165] :: .agg [.str k_yen', .int .i64 165] :: .agg [.str k_zwj, .int .i64 8205] :: U :: []), [], h, none⟩ (by kernel_rfl) ?_
  refine WpM.opA (fun p => .slice (some (.new p 0)) 78 78 true) (.cells (.str k_AMP :: .int .i64 38 :: .str k_AMP' :: .int .i64 38 :: .str k_GT :: .int .i64 62 :: .str k_GT' :: .int .i64 62 :: .str k_LT :: .int .i64 60 :: .str k_LT' :: .int .i64 60 :: .str k_QUOT :: .int .i64 34 :: .str k_QUOT' :: .int .i64 34 :: .str k_alpha :: .int .i64 945 :: .str k_amp :: .int .i64 38 :: .str k_amp' :: .int .i64 38 :: .str k_and :: .int .i64 8743 :: .str k_ang :: .int .i64 8736 :: .str k_apos :: .int .i64 39 :: .str k_beta :: .int .i64 946 :: .str k_bull :: .int .i64 8226 :: .str k_cap :: .int .i64 8745 :: .str k_cent :: .int .i64 162 :: .str k_cent' :: .int .i64 162 :: .str k_copy :: .int .i64 169 :: .str k_copy' :: .int .i64 169 :: .str k_cup :: .int .i64 8746 :: .str k_deg :: .int .i64 176 :: .str k_deg' :: .int .i64 176 :: .str k_divide :: .int .i64 247 :: .str k_divide' :: .int .i64 247 :: .str k_eacute :: .int .i64 233 :: .str k_eacute' :: .int .i64 233 :: .str k_emsp :: .int .i64 8195 :: .str k_eta :: .int .i64 951 :: .str k_eth :: .int .i64 240 :: .str k_eth' :: .int .i64 240 :: .str k_euro :: .int .i64 8364 :: .str k_ge :: .int .i64 8805 :: .str k_gt :: .int .i64 62 :: .str k_gt' :: .int .i64 62 :: .str k_hellip :: .int .i64 8230 :: .str k_in :: .int .i64 8712 :: .str k_int :: .int .i64 8747 :: .str k_laquo :: .int .i64 171 :: .str k_laquo' :: .int .i64 171 :: .str k_le :: .int .i64 8804 :: .str k_lt :: .int .i64 60 :: .str k_lt' :: .int .i64 60 :: .str k_mdash :: .int .i64 8212 :: .str k_micro :: .int .i64 181 :: .str k_micro' :: .int .i64 181 :: .str k_nbsp :: .int .i64 160 :: .str k_nbsp' :: .int .i64 160 :: .str k_ne :: .int .i64 8800 :: .str k_not :: .int .i64 172 :: .str k_not' :: .int .i64 172 :: .str k_notin :: .int .i64 8713 :: .str k_ouml :: .int .i64 246 :: .str k_ouml' :: .int .i64 246 :: .str k_para :: .int .i64 182 :: .str k_para' :: .int .i64 182 :: .str k_pi :: .int .i64 960 :: .str k_piv :: .int .i64 982 :: .str k_quot :: .int .i64 34 :: .str k_quot' :: .int .i64 34 :: .str k_raquo :: .int .i64 187 :: .str k_raquo' :: .int .i64 187 :: .str k_reg :: .int .i64 174 :: .str k_reg' :: .int .i64 174 :: .str k_sect :: .int .i64 167 :: .str k_sect' :: .int .i64 167 :: .str k_shy :: .int .i64 173 :: .str k_shy' :: .int .i64 173 :: .str k_sub :: .int .i64 8834 :: .str k_sum :: .int .i64 8721 :: .str k_times :: .int .i64 215 :: .str k_times' :: .int .i64 215 :: .str k_uml :: .int .i64 168 :: .str k_uml' :: .int .i64 168 :: .str k_yen :: .int .i64 165 :: .str k_yen' :: .int .i64 165 :: .str k_zwj :: .int .i64 8205 :: []) 74) (by kernel_rfl) (by kernel_rfl) (fun p1 h2 a3 => ?_)
  refine WpM.run tab_ok 4 ⟨.done .ret, [], (.slice (some (.new p1 0)) 78 78 true :: .agg [.str k_AMP, .int .i64 38] :: .agg [.str k_AMP', .int .i64 38] :: .agg [.str k_GT, .int .i64 62] :: .agg [.str k_GT', .int .i64 62] :: .agg [.str k_LT, .int .i64 60] :: .agg [.str k_LT', .int .i64 60] :: .agg [.str k_QUOT, .int .i64 34] :: .agg [.str k_QUOT', .int .i64 34] :: .agg [.str k_alpha, .int .i64 945] :: .agg [.str k_amp, .int .i64 38] :: .agg [.str k_amp', .int .i64 38] :: .agg [.str k_and, .int .i64 8743] :: .agg [.str k_ang, .int .i64 8736] :: .agg [.str k_apos, .int .i64 39] :: .agg [.str k_beta, .int .i64 946] :: .agg [.str k_bull, .int .i64 8226] :: .agg [.str k_cap, .int .i64 8745] :: .agg [.str k_cent, .int .i64 162] :: .agg [.str k_cent', .int .i64 162] :: .agg [.str k_copy, .int .i64 169] :: .agg [.str k_copy', .int .i64 169] :: .agg [.str k_cup, .int .i64 8746] :: .agg [.str k_deg, .int .i64 176] :: .agg [.str k_deg', .int .i64 176] :: .agg [.str k_divide, .int .i64 247] :: .agg [.str k_divide', .int .i64 247] :: .agg [.str k_eacute, .int .i64 233] :: .agg [.str k_eacute', .int .i64 233] :: .agg [.str k_emsp, .int .i64 8195] :: .agg [.str k_eta, .int .i64 951] :: .agg [.str k_eth, .int .i64 240] :: .agg [.str k_eth', .int .i64 240] :: .agg [.str k_euro, .int .i64 8364] :: .agg [.str k_ge, .int .i64 8805] :: .agg [.str k_gt, .int .i64 62] :: .agg [.str k_gt', .int .i64 62] :: .agg [.str k_hellip, .int .i64 8230] :: .agg [.str k_in, .int .i64 8712] :: .agg [.str k_int, .int .i64 8747] :: .agg [.str k_laquo, .int .i64 171] :: .agg [.str k_laquo', .int .i64 171] :: .agg [.str k_le, .int .i64 8804] :: .agg [.str k_lt, .int .i64 60] :: .agg [.str k_lt', .int .i64 60] :: .agg [.str k_mdash, .int .i64 8212] :: .agg [.str k_micro, .int .i64 181] :: .agg [.str k_micro', .int .i64 181] :: .agg [.str k_nbsp, .int .i64 160] :: .agg [.str k_nbsp', .int .i64 160] :: .agg [.str k_ne, .int .i64 8800] :: .agg [.str k_not, .int .i64 172] :: .agg [.str k_not', .int .i64 172] :: .agg [.str k_notin, .int .i64 8713] :: .agg [.str k_ouml, .int .i64 246] :: .agg [.str k_ouml', .int .i64 246] :: .agg [.str k_para, .int .i64 182] :: .agg [.str k_para', .int .i64 182] :: .agg [.str k_pi, .int .i64 960] :: .agg [.str k_piv, .int .i64 982] :: .agg [.str k_quot, .int .i64 34] :: .agg [.str k_quot', .int .i64 34] :: .agg [.str k_raquo, .int .i64 187] :: .agg [.str k_raquo', .int .i64 187] :: .agg [.str k_reg, .int .i64 174] :: .agg [.str k_reg', .int .i64 174] :: .agg [.str k_sect, .int .i64 167] :: .agg [.str k_sect', .int .i64 167] :: .agg [.str k_shy, .int .i64 173] :: .agg [.str k_shy', .int .i64 173] :: .agg [.str k_sub, .int .i64 8834] :: .agg [.str k_sum, .int .i64 8721] :: .agg [.str k_times, .int .i64 215] :: .agg [.str k_times', .int .i64 215] :: .agg [.str k_uml, .int .i64 168] :: .agg [.str k_uml', .int .i64 168] :: .agg [.str k_yen, .int .i64 165] :: .agg [.str k_yen', .int .i64 165] :: .agg [.str k_zwj, .int .i64 8205] :: .slice (some (.new p1 0)) 78 78 true :: []), [], h2, none⟩ (by kernel_rfl) ?_
  refine WpM.ret (.slice (some (.new p1 0)) 78 78 true) h2 (by kernel_rfl) (by kernel_rfl) ?_
  exact ⟨((HX.refl h).alloc a3), p1, rfl, a3.lt, (a3.get).trans (congrArg (fun l => some (AO.cells l 74)) (by kernel_rfl))⟩
def E10 (n : Int) : List V := (.int .i64 n :: U :: .int .i64 65533 :: .int .i64 20 :: .bool true :: .int .i64 n :: .bool (decide (n ≤ 0)) :: .bool true :: U :: U :: .bool true :: .bool true :: U :: U :: U :: U :: U :: U :: .bool true :: us 41)
def E11 (n : Int) : List V := (.int .i64 n :: U :: .int .i64 0 :: .int .i64 0 :: U :: .int .i64 n :: .bool (decide (n ≤ 0)) :: .bool false :: .int .i64 n :: .bool (decide (n > 1114111)) :: .bool (decide (n > 1114111)) :: .bool (decide (n > 1114111)) :: us 48)
def E12 (n : Int) : List V := (.int .i64 n :: U :: .int .i64 0 :: .int .i64 0 :: .bool (decide (n ≤ 57343)) :: .int .i64 n :: .bool (decide (n ≤ 0)) :: .bool false :: .int .i64 n :: .bool (decide (n > 1114111)) :: .bool (decide (n > 1114111)) :: .bool false :: .int .i64 n :: .bool (decide (n ≥ 55296)) :: .bool true :: .int .i64 n :: .bool (decide (n ≤ 57343)) :: .bool (decide (n ≤ 57343)) :: .bool (decide (n ≤ 57343)) :: us 41)
def E13 (n : Int) : List V := (.int .i64 n :: U :: .int .i64 0 :: .int .i64 0 :: .bool (decide (n ≤ 57343)) :: .int .i64 n :: .bool (decide (n ≤ 0)) :: .bool false :: .int .i64 n :: .bool (decide (n > 1114111)) :: .bool (decide (n > 1114111)) :: .bool false :: .int .i64 n :: .bool (decide (n ≥ 55296)) :: .bool true :: .int .i64 n :: .bool (decide (n ≤ 57343)) :: .bool (decide (n ≤ 57343)) :: .bool (decide (n ≤ 57343)) :: .bool (decide (n < 160)) :: .int .i64 n :: .bool (decide (n ≥ 128)) :: .bool true :: .int .i64 n :: .bool (decide (n < 160)) :: .bool (decide (n < 160)) :: U :: U :: U :: U :: U :: U :: .bool (n == 127) :: .int .i64 n :: .bool (decide (n < 32)) :: .bool false :: U :: U :: .bool false :: .bool false :: U :: U :: .bool false :: .bool false :: U :: U :: .bool false :: .int .i64 n :: .bool (n == 127) :: us 11)
def E14 (n : Int) : List V := (.int .i64 n :: U :: .int .i64 0 :: .int .i64 0 :: .bool false :: .int .i64 n :: .bool (decide (n ≤ 0)) :: .bool false :: .int .i64 n :: .bool (decide (n > 1114111)) :: .bool (decide (n > 1114111)) :: .bool false :: .int .i64 n :: .bool (decide (n ≥ 55296)) :: .bool false :: U :: U :: .bool false :: .bool false :: .bool (decide (n < 160)) :: .int .i64 n :: .bool (decide (n ≥ 128)) :: .bool true :: .int .i64 n :: .bool (decide (n < 160)) :: .bool (decide (n < 160)) :: us 34)
def E15 (n : Int) : List V := (.int .i64 n :: U :: .int .i64 n :: .int .i64 20 :: .bool false :: .int .i64 n :: .bool (decide (n ≤ 0)) :: .bool false :: .int .i64 n :: .bool (decide (n > 1114111)) :: .bool (decide (n > 1114111)) :: .bool false :: .int .i64 n :: .bool (decide (n ≥ 55296)) :: .bool false :: U :: U :: .bool false :: .bool false :: .bool (decide (n < 160)) :: .int .i64 n :: .bool (decide (n ≥ 128)) :: .bool true :: .int .i64 n :: .bool (decide (n < 160)) :: .bool (decide (n < 160)) :: U :: U :: U :: U :: U :: U :: .bool ((IntKind.wrap .i64 (BitVec.ofInt (IntKind.bits .i64) n &&& BitVec.ofInt (IntKind.bits .i64) 65534).toNat) == 65534) :: .int .i64 n :: .bool (decide (n < 32)) :: .bool false :: U :: U :: .bool false :: .bool false :: U :: U :: .bool false :: .bool false :: U :: U :: .bool false :: .int .i64 n :: .bool (n == 127) :: .int .i64 n :: .bool (decide (n ≥ 64976)) :: .bool false :: U :: U :: .bool false :: .int .i64 n :: .int .i64 (IntKind.wrap .i64 (BitVec.ofInt (IntKind.bits .i64) n &&& BitVec.ofInt (IntKind.bits .i64) 65534).toNat) :: .bool ((IntKind.wrap .i64 (BitVec.ofInt (IntKind.bits .i64) n &&& BitVec.ofInt (IntKind.bits .i64) 65534).toNat) == 65534) :: .int .i64 n :: U :: [])
def E16 (n : Int) : List V := (.int .i64 n :: U :: .int .i64 0 :: .int .i64 0 :: .bool false :: .int .i64 n :: .bool (decide (n ≤ 0)) :: .bool false :: .int .i64 n :: .bool (decide (n > 1114111)) :: .bool (decide (n > 1114111)) :: .bool false :: .int .i64 n :: .bool (decide (n ≥ 55296)) :: .bool false :: U :: U :: .bool false :: .bool false :: .bool false :: .int .i64 n :: .bool (decide (n ≥ 128)) :: .bool false :: U :: U :: .bool false :: U :: U :: U :: U :: U :: U :: U :: .int .i64 n :: .bool (decide (n < 32)) :: .bool true :: .int .i64 n :: .bool (!(n == 9)) :: .bool (!(n == 9)) :: .bool true :: .int .i64 n :: .bool (!(n == 10)) :: .bool (!(n == 10)) :: .bool (!(n == 10)) :: us 16)
def E17 (n : Int) : List V := (.int .i64 n :: U :: .int .i64 n :: .int .i64 20 :: .bool false :: .int .i64 n :: .bool (decide (n ≤ 0)) :: .bool false :: .int .i64 n :: .bool (decide (n > 1114111)) :: .bool (decide (n > 1114111)) :: .bool false :: .int .i64 n :: .bool (decide (n ≥ 55296)) :: .bool false :: U :: U :: .bool false :: .bool false :: .bool false :: .int .i64 n :: .bool (decide (n ≥ 128)) :: .bool false :: U :: U :: .bool false :: U :: U :: U :: U :: U :: U :: .bool ((IntKind.wrap .i64 (BitVec.ofInt (IntKind.bits .i64) n &&& BitVec.ofInt (IntKind.bits .i64) 65534).toNat) == 65534) :: .int .i64 n :: .bool (decide (n < 32)) :: .bool true :: .int .i64 n :: .bool (!(n == 9)) :: .bool (!(n == 9)) :: .bool true :: .int .i64 n :: .bool (!(n == 10)) :: .bool (!(n == 10)) :: .bool true :: .int .i64 n :: .bool (!(n == 12)) :: .bool (!(n == 12)) :: .int .i64 n :: .bool (n == 127) :: .int .i64 n :: .bool (decide (n ≥ 64976)) :: .bool false :: U :: U :: .bool false :: .int .i64 n :: .int .i64 (IntKind.wrap .i64 (BitVec.ofInt (IntKind.bits .i64) n &&& BitVec.ofInt (IntKind.bits .i64) 65534).toNat) :: .bool ((IntKind.wrap .i64 (BitVec.ofInt (IntKind.bits .i64) n &&& BitVec.ofInt (IntKind.bits .i64) 65534).toNat) == 65534) :: .int .i64 n :: U :: [])
theorem num_ok {W : World} {n : Int} (h : H) : WpF Tryd.prog W prim2 8 [.int .i64 n] h (fun v h' => HX h h' ∧ v = .tup [.int .i64 (numV n), .int .i64 (numF n)]) := by
  refine WpF.m tab_ok (by kernel_rfl) rfl ?_
  refine WpM.cfg (c' := ⟨.code x8_0, [], (.int .i64 n :: us 59), [], h, none⟩) (by kernel_rfl) ?_
  refine WpM.run tab_ok 13 ⟨.ops (p8_5_3 :: o8_5.drop 4), [.seq x8_6, .blk 0, .seq x8_28], (.int .i64 n :: U :: .int .i64 0 :: .int .i64 0 :: U :: .int .i64 n :: .bool (decide (n ≤ 0)) :: .bool (decide (n ≤ 0)) :: us 52), [], h, none⟩ (by kernel_rfl) ?_
  refine WpM.guard (b := (decide (n ≤ 0))) (by kernel_rfl) (fun c1 => ?_) (fun c1 => ?_)
  · have c1p := dec_t c1
    refine WpM.run tab_ok 24 ⟨.done .ret, [], (E10 n), [], h, none⟩ (by kernel_rfl) ?_
    refine WpM.ret (.tup [.int .i64 65533, .int .i64 20]) h (by kernel_rfl) (by kernel_rfl) ?_
    exact ⟨(HX.refl h), by rw [numV_odd (by omega), numF_bad (by omega)]⟩
  · have c1p := dec_f c1
    refine WpM.run tab_ok 4 ⟨.ops (p8_5_7 :: o8_5.drop 8), [.seq x8_6, .blk 0, .seq x8_28], (E11 n), [], h, none⟩ (by kernel_rfl) ?_
    refine WpM.guard (b := (decide (n > 1114111))) (by kernel_rfl) (fun c2 => ?_) (fun c2 => ?_)
    · have c2p := dec_t c2
      refine WpM.run tab_ok 20 ⟨.done .ret, [], ((((((E11 n).set 2 (.int .i64 65533)).set 3 (.int .i64 20)).set 4 (.bool true)).set 11 (.bool true)).set 18 (.bool true)), [], h, none⟩ (by kernel_rfl) ?_
      refine WpM.ret (.tup [.int .i64 65533, .int .i64 20]) h (by kernel_rfl) (by kernel_rfl) ?_
      exact ⟨(HX.refl h), by rw [numV_odd (by omega), numF_bad (by omega)]⟩
    · have c2p := dec_f c2
      refine WpM.run tab_ok 3 ⟨.ops (p8_5_10 :: o8_5.drop 11), [.seq x8_6, .blk 0, .seq x8_28], (((((E11 n).set 11 (.bool false)).set 12 (.int .i64 n)).set 13 (.bool (decide (n ≥ 55296)))).set 14 (.bool (decide (n ≥ 55296)))), [], h, none⟩ (by kernel_rfl) ?_
      refine WpM.guard (b := (decide (n ≥ 55296))) (by kernel_rfl) (fun c3 => ?_) (fun c3 => ?_)
      · have c3p := dec_t c3
        refine WpM.run tab_ok 7 ⟨.code x8_6, [.blk 0, .seq x8_28], (E12 n), [], h, none⟩ (by kernel_rfl) ?_
        refine WpM.cond (t := (decide (n ≤ 57343))) (by kernel_rfl) (fun c4 => ?_) (fun c4 => ?_)
        · have c4p := dec_t c4
          refine WpM.run tab_ok 9 ⟨.done .ret, [], (((E12 n).set 2 (.int .i64 65533)).set 3 (.int .i64 20)), [], h, none⟩ (by kernel_rfl) ?_
          refine WpM.ret (.tup [.int .i64 65533, .int .i64 20]) h (by kernel_rfl) (by kernel_rfl) ?_
          exact ⟨(HX.refl h), by rw [numV_odd (by omega), numF_bad (by omega)]⟩
        · have c4p := dec_f c4
          refine WpM.run tab_ok 5 ⟨.ops (p8_10_3 :: o8_10.drop 4), [.seq x8_11, .blk 0, .seq x8_28], ((((E12 n).set 20 (.int .i64 n)).set 21 (.bool (decide (n ≥ 128)))).set 22 (.bool (decide (n ≥ 128)))), [], h, none⟩ (by kernel_rfl) ?_
          refine WpM.guard (b := (decide (n ≥ 128))) (by kernel_rfl) (fun c5 => ?_) (fun c5 => ?_)
          · have c5p := dec_t c5
            refine WpM.run tab_ok 6 ⟨.code x8_11, [.blk 0, .seq x8_28], ((((((((E12 n).set 19 (.bool (decide (n < 160)))).set 20 (.int .i64 n)).set 21 (.bool (decide (n ≥ 128)))).set 22 (.bool true)).set 23 (.int .i64 n)).set 24 (.bool (decide (n < 160)))).set 25 (.bool (decide (n < 160)))), [], h, none⟩ (by kernel_rfl) ?_
            refine WpM.cond (t := (decide (n < 160))) (by kernel_rfl) (fun c6 => ?_) (fun c6 => ?_)
            · have c6p := dec_t c6
              exfalso; omega
            · have c6p := dec_f c6
              refine WpM.run tab_ok 6 ⟨.ops (p8_16_3 :: o8_16.drop 4), [.seq x8_17, .seq x8_25, .blk 0, .seq x8_28], (((((((((((E12 n).set 19 (.bool (decide (n < 160)))).set 20 (.int .i64 n)).set 21 (.bool (decide (n ≥ 128)))).set 22 (.bool true)).set 23 (.int .i64 n)).set 24 (.bool (decide (n < 160)))).set 25 (.bool (decide (n < 160)))).set 33 (.int .i64 n)).set 34 (.bool (decide (n < 32)))).set 35 (.bool (decide (n < 32)))), [], h, none⟩ (by kernel_rfl) ?_
              refine WpM.guard (b := (decide (n < 32))) (by kernel_rfl) (fun c7 => ?_) (fun c7 => ?_)
              · have c7p := dec_t c7
                exfalso; omega
              · have c7p := dec_f c7
                refine WpM.run tab_ok 22 ⟨.code x8_20, [.seq x8_25, .blk 0, .seq x8_28], (E13 n), [], h, none⟩ (by kernel_rfl) ?_
                refine WpM.cond (t := (n == 127)) (by kernel_rfl) (fun c8 => ?_) (fun c8 => ?_)
                · have c8p := beq_t c8
                  exfalso; omega
                · have c8p := beq_f c8
                  refine WpM.run tab_ok 5 ⟨.ops (p8_22_3 :: o8_22.drop 4), [.seq x8_23, .seq x8_25, .blk 0, .seq x8_28], ((((E13 n).set 49 (.int .i64 n)).set 50 (.bool (decide (n ≥ 64976)))).set 51 (.bool (decide (n ≥ 64976)))), [], h, none⟩ (by kernel_rfl) ?_
                  refine WpM.guard (b := (decide (n ≥ 64976))) (by kernel_rfl) (fun c9 => ?_) (fun c9 => ?_)
                  · have c9p := dec_t c9
                    refine WpM.run tab_ok 6 ⟨.code x8_23, [.seq x8_25, .blk 0, .seq x8_28], ((((((((E13 n).set 32 (.bool (decide (n ≤ 65007)))).set 49 (.int .i64 n)).set 50 (.bool (decide (n ≥ 64976)))).set 51 (.bool true)).set 52 (.int .i64 n)).set 53 (.bool (decide (n ≤ 65007)))).set 54 (.bool (decide (n ≤ 65007)))), [], h, none⟩ (by kernel_rfl) ?_
                    refine WpM.cond (t := (decide (n ≤ 65007))) (by kernel_rfl) (fun c10 => ?_) (fun c10 => ?_)
                    · have c10p := dec_t c10
                      refine WpM.run tab_ok 2 ⟨.code x8_25, [.blk 0, .seq x8_28], ((((((((E13 n).set 32 (.bool (decide (n ≤ 65007)))).set 49 (.int .i64 n)).set 50 (.bool (decide (n ≥ 64976)))).set 51 (.bool true)).set 52 (.int .i64 n)).set 53 (.bool (decide (n ≤ 65007)))).set 54 (.bool (decide (n ≤ 65007)))), [], h, none⟩ (by kernel_rfl) ?_
                      refine WpM.cond (t := (decide (n ≤ 65007))) (by kernel_rfl) (fun e_ => ?_) (fun e_ => absurd (e_.symm.trans c10) (by decide))
                      refine WpM.run tab_ok 10 ⟨.done .ret, [], (((((((((((E13 n).set 2 (.int .i64 n)).set 3 (.int .i64 20)).set 32 (.bool (decide (n ≤ 65007)))).set 49 (.int .i64 n)).set 50 (.bool (decide (n ≥ 64976)))).set 51 (.bool true)).set 52 (.int .i64 n)).set 53 (.bool (decide (n ≤ 65007)))).set 54 (.bool (decide (n ≤ 65007)))).set 58 (.int .i64 n)), [], h, none⟩ (by kernel_rfl) ?_
                      refine WpM.ret (.tup [.int .i64 n, .int .i64 20]) h (by kernel_rfl) (by kernel_rfl) ?_
                      exact ⟨(HX.refl h), by rw [numV_id (by omega) (by omega), numF_bad (by omega)]⟩
                    · have c10p := dec_f c10
                      refine WpM.run tab_ok 7 ⟨.code x8_25, [.blk 0, .seq x8_28], (((((((((((E13 n).set 32 (.bool ((IntKind.wrap .i64 (BitVec.ofInt (IntKind.bits .i64) n &&& BitVec.ofInt (IntKind.bits .i64) 65534).toNat) == 65534))).set 49 (.int .i64 n)).set 50 (.bool (decide (n ≥ 64976)))).set 51 (.bool true)).set 52 (.int .i64 n)).set 53 (.bool (decide (n ≤ 65007)))).set 54 (.bool (decide (n ≤ 65007)))).set 55 (.int .i64 n)).set 56 (.int .i64 (IntKind.wrap .i64 (BitVec.ofInt (IntKind.bits .i64) n &&& BitVec.ofInt (IntKind.bits .i64) 65534).toNat))).set 57 (.bool ((IntKind.wrap .i64 (BitVec.ofInt (IntKind.bits .i64) n &&& BitVec.ofInt (IntKind.bits .i64) 65534).toNat) == 65534))), [], h, none⟩ (by kernel_rfl) ?_
                      refine WpM.cond (t := ((IntKind.wrap .i64 (BitVec.ofInt (IntKind.bits .i64) n &&& BitVec.ofInt (IntKind.bits .i64) 65534).toNat) == 65534)) (by kernel_rfl) (fun c11 => ?_) (fun c11 => ?_)
                      · have c11p := beq_t c11
                        have hb_c11 := and_hi (n := n) (by omega) (by omega)
                        refine WpM.run tab_ok 10 ⟨.done .ret, [], ((((((((((((((E13 n).set 2 (.int .i64 n)).set 3 (.int .i64 20)).set 32 (.bool ((IntKind.wrap .i64 (BitVec.ofInt (IntKind.bits .i64) n &&& BitVec.ofInt (IntKind.bits .i64) 65534).toNat) == 65534))).set 49 (.int .i64 n)).set 50 (.bool (decide (n ≥ 64976)))).set 51 (.bool true)).set 52 (.int .i64 n)).set 53 (.bool (decide (n ≤ 65007)))).set 54 (.bool (decide (n ≤ 65007)))).set 55 (.int .i64 n)).set 56 (.int .i64 (IntKind.wrap .i64 (BitVec.ofInt (IntKind.bits .i64) n &&& BitVec.ofInt (IntKind.bits .i64) 65534).toNat))).set 57 (.bool ((IntKind.wrap .i64 (BitVec.ofInt (IntKind.bits .i64) n &&& BitVec.ofInt (IntKind.bits .i64) 65534).toNat) == 65534))).set 58 (.int .i64 n)), [], h, none⟩ (by kernel_rfl) ?_
                        refine WpM.ret (.tup [.int .i64 n, .int .i64 20]) h (by kernel_rfl) (by kernel_rfl) ?_
                        exact ⟨(HX.refl h), by rw [numV_id (by omega) (by omega), numF_bad (by omega)]⟩
                      · have c11p := beq_f c11
                        have hb_c11 := and_hi (n := n) (by omega) (by omega)
                        refine WpM.run tab_ok 11 ⟨.done .ret, [], (((((((((((((E13 n).set 2 (.int .i64 n)).set 32 (.bool ((IntKind.wrap .i64 (BitVec.ofInt (IntKind.bits .i64) n &&& BitVec.ofInt (IntKind.bits .i64) 65534).toNat) == 65534))).set 49 (.int .i64 n)).set 50 (.bool (decide (n ≥ 64976)))).set 51 (.bool true)).set 52 (.int .i64 n)).set 53 (.bool (decide (n ≤ 65007)))).set 54 (.bool (decide (n ≤ 65007)))).set 55 (.int .i64 n)).set 56 (.int .i64 (IntKind.wrap .i64 (BitVec.ofInt (IntKind.bits .i64) n &&& BitVec.ofInt (IntKind.bits .i64) 65534).toNat))).set 57 (.bool ((IntKind.wrap .i64 (BitVec.ofInt (IntKind.bits .i64) n &&& BitVec.ofInt (IntKind.bits .i64) 65534).toNat) == 65534))).set 59 (.int .i64 n)), [], h, none⟩ (by kernel_rfl) ?_
                        refine WpM.ret (.tup [.int .i64 n, .int .i64 0]) h (by kernel_rfl) (by kernel_rfl) ?_
                        exact ⟨(HX.refl h), by rw [numV_id (by omega) (by omega), numF_good (by omega)]⟩
                  · have c9p := dec_f c9
                    refine WpM.run tab_ok 14 ⟨.code x8_25, [.blk 0, .seq x8_28], (((((((((E13 n).set 32 (.bool ((IntKind.wrap .i64 (BitVec.ofInt (IntKind.bits .i64) n &&& BitVec.ofInt (IntKind.bits .i64) 65534).toNat) == 65534))).set 49 (.int .i64 n)).set 50 (.bool (decide (n ≥ 64976)))).set 51 (.bool false)).set 54 (.bool false)).set 55 (.int .i64 n)).set 56 (.int .i64 (IntKind.wrap .i64 (BitVec.ofInt (IntKind.bits .i64) n &&& BitVec.ofInt (IntKind.bits .i64) 65534).toNat))).set 57 (.bool ((IntKind.wrap .i64 (BitVec.ofInt (IntKind.bits .i64) n &&& BitVec.ofInt (IntKind.bits .i64) 65534).toNat) == 65534))), [], h, none⟩ (by kernel_rfl) ?_
                    refine WpM.cond (t := ((IntKind.wrap .i64 (BitVec.ofInt (IntKind.bits .i64) n &&& BitVec.ofInt (IntKind.bits .i64) 65534).toNat) == 65534)) (by kernel_rfl) (fun c12 => ?_) (fun c12 => ?_)
                    · have c12p := beq_t c12
                      have hb_c12 := and_hi (n := n) (by omega) (by omega)
                      refine WpM.run tab_ok 10 ⟨.done .ret, [], ((((((((((((E13 n).set 2 (.int .i64 n)).set 3 (.int .i64 20)).set 32 (.bool ((IntKind.wrap .i64 (BitVec.ofInt (IntKind.bits .i64) n &&& BitVec.ofInt (IntKind.bits .i64) 65534).toNat) == 65534))).set 49 (.int .i64 n)).set 50 (.bool (decide (n ≥ 64976)))).set 51 (.bool false)).set 54 (.bool false)).set 55 (.int .i64 n)).set 56 (.int .i64 (IntKind.wrap .i64 (BitVec.ofInt (IntKind.bits .i64) n &&& BitVec.ofInt (IntKind.bits .i64) 65534).toNat))).set 57 (.bool ((IntKind.wrap .i64 (BitVec.ofInt (IntKind.bits .i64) n &&& BitVec.ofInt (IntKind.bits .i64) 65534).toNat) == 65534))).set 58 (.int .i64 n)), [], h, none⟩ (by kernel_rfl) ?_
                      refine WpM.ret (.tup [.int .i64 n, .int .i64 20]) h (by kernel_rfl) (by kernel_rfl) ?_
                      exact ⟨(HX.refl h), by rw [numV_id (by omega) (by omega), numF_bad (by omega)]⟩
                    · have c12p := beq_f c12
                      have hb_c12 := and_hi (n := n) (by omega) (by omega)
                      refine WpM.run tab_ok 11 ⟨.done .ret, [], (((((((((((E13 n).set 2 (.int .i64 n)).set 32 (.bool ((IntKind.wrap .i64 (BitVec.ofInt (IntKind.bits .i64) n &&& BitVec.ofInt (IntKind.bits .i64) 65534).toNat) == 65534))).set 49 (.int .i64 n)).set 50 (.bool (decide (n ≥ 64976)))).set 51 (.bool false)).set 54 (.bool false)).set 55 (.int .i64 n)).set 56 (.int .i64 (IntKind.wrap .i64 (BitVec.ofInt (IntKind.bits .i64) n &&& BitVec.ofInt (IntKind.bits .i64) 65534).toNat))).set 57 (.bool ((IntKind.wrap .i64 (BitVec.ofInt (IntKind.bits .i64) n &&& BitVec.ofInt (IntKind.bits .i64) 65534).toNat) == 65534))).set 59 (.int .i64 n)), [], h, none⟩ (by kernel_rfl) ?_
                      refine WpM.ret (.tup [.int .i64 n, .int .i64 0]) h (by kernel_rfl) (by kernel_rfl) ?_
                      exact ⟨(HX.refl h), by rw [numV_id (by omega) (by omega), numF_good (by omega)]⟩
          · have c5p := dec_f c5
            exfalso; omega
      · have c3p := dec_f c3
        refine WpM.run tab_ok 13 ⟨.ops (p8_10_3 :: o8_10.drop 4), [.seq x8_11, .blk 0, .seq x8_28], ((((((((((E12 n).set 4 (.bool false)).set 14 (.bool false)).set 15 U).set 16 U).set 17 (.bool false)).set 18 (.bool false)).set 20 (.int .i64 n)).set 21 (.bool (decide (n ≥ 128)))).set 22 (.bool (decide (n ≥ 128)))), [], h, none⟩ (by kernel_rfl) ?_
        refine WpM.guard (b := (decide (n ≥ 128))) (by kernel_rfl) (fun c13 => ?_) (fun c13 => ?_)
        · have c13p := dec_t c13
          refine WpM.run tab_ok 6 ⟨.code x8_11, [.blk 0, .seq x8_28], (E14 n), [], h, none⟩ (by kernel_rfl) ?_
          refine WpM.cond (t := (decide (n < 160))) (by kernel_rfl) (fun c14 => ?_) (fun c14 => ?_)
          · have c14p := dec_t c14
            refine WpM.run tab_ok 10 ⟨.ops (p19_3_0 :: o19_3.drop 1), [.seq .ret, .call [.tmp 0] (some 26) (o8_13.drop 1) (E14 n) [] none, .seq .ret, .blk 0, .seq x8_28], [.slice none 0 0 true, U], [], h, none⟩ (by kernel_rfl) ?_
            refine WpM.opA (fun p => .slice (some (.new p 0)) 32 32 true) (.cells (rv (fun x => [.int .i32 x]) C1) 21) (by kernel_rfl) (by kernel_rfl) (fun p15 h16 a17 => ?_)
            refine WpM.run tab_ok 6 ⟨.ops (p8_13_2 :: o8_13.drop 3), [.seq .ret, .blk 0, .seq x8_28], (((E14 n).set 26 (.slice (some (.new p15 0)) 32 32 true)).set 27 (.int .i64 n)), [], h16, none⟩ (by kernel_rfl) ?_
            refine WpM.op (.int .i64 (n - 128)) _ (by kernel_rfl) (arith_sub (by kernel_rfl) (by kernel_rfl) (by first | omega | (have c1l : C1.length = 32 := rfl; have := c1_range (n - 128); omega))) ?_
            refine WpM.run tab_ok 0 ⟨.ops (p8_13_3 :: o8_13.drop 4), [.seq .ret, .blk 0, .seq x8_28], ((((E14 n).set 26 (.slice (some (.new p15 0)) 32 32 true)).set 27 (.int .i64 n)).set 28 (.int .i64 (n - 128))), [], h16, none⟩ (by kernel_rfl) ?_
            refine WpM.op (.ptr (some (.new p15 (0 + (n - 128).toNat * 1)))) _ (by kernel_rfl) (indexAddr_sl (e := 21) (a := (.new p15 0)) (len := 32) (lb := 32) (ex := true) (z := 1) (k := .i64) (n := (n - 128)) (by kernel_rfl) (by kernel_rfl) (by kernel_rfl) (by kernel_rfl) (by first | omega | (have c1l : C1.length = 32 := rfl; have := c1_range (n - 128); omega))) ?_
            refine WpM.run tab_ok 0 ⟨.ops (p8_13_4 :: o8_13.drop 5), [.seq .ret, .blk 0, .seq x8_28], (((((E14 n).set 26 (.slice (some (.new p15 0)) 32 32 true)).set 27 (.int .i64 n)).set 28 (.int .i64 (n - 128))).set 29 (.ptr (some (.new p15 (0 + (n - 128).toNat * 1))))), [], h16, none⟩ (by kernel_rfl) ?_
            refine WpM.op (.int .i32 ((gt C1 (n - 128)))) _ (by kernel_rfl) (load_new (o := (0 + (n - 128).toNat * 1)) (by kernel_rfl) a17.get (rv_ld (z := 1) (f := (fun x => [.int .i32 x])) (fun _ => rfl) (i := (n - 128)) (by first | omega | (have c1l : C1.length = 32 := rfl; have := c1_range (n - 128); omega)) (off := 0) (by kernel_rfl) (by decide) (by kernel_rfl) (by first | omega | (have c1l : C1.length = 32 := rfl; have := c1_range (n - 128); omega)))) ?_
            refine WpM.run tab_ok 0 ⟨.ops (p8_13_5 :: o8_13.drop 6), [.seq .ret, .blk 0, .seq x8_28], ((((((E14 n).set 26 (.slice (some (.new p15 0)) 32 32 true)).set 27 (.int .i64 n)).set 28 (.int .i64 (n - 128))).set 29 (.ptr (some (.new p15 (0 + (n - 128).toNat * 1))))).set 30 (.int .i32 ((gt C1 (n - 128))))), [], h16, none⟩ (by kernel_rfl) ?_
            refine WpM.op (.int .i64 ((gt C1 (n - 128)))) _ (by kernel_rfl) (conv_i64 (k := .i32) (ht := rfl) (hu := by kernel_rfl) (hx := by kernel_rfl) (hn := by first | omega | (have c1l : C1.length = 32 := rfl; have := c1_range (n - 128); omega))) ?_
            refine WpM.run tab_ok 7 ⟨.done .ret, [], (((((((((E14 n).set 2 (.int .i64 ((gt C1 (n - 128))))).set 3 (.int .i64 20)).set 26 (.slice (some (.new p15 0)) 32 32 true)).set 27 (.int .i64 n)).set 28 (.int .i64 (n - 128))).set 29 (.ptr (some (.new p15 (0 + (n - 128).toNat * 1))))).set 30 (.int .i32 ((gt C1 (n - 128))))).set 31 (.int .i64 ((gt C1 (n - 128))))), [], h16, none⟩ (by kernel_rfl) ?_
            refine WpM.ret (.tup [.int .i64 ((gt C1 (n - 128))), .int .i64 20]) h16 (by kernel_rfl) (by kernel_rfl) ?_
            exact ⟨((HX.refl h).alloc a17), by rw [numV_c1 (by omega), numF_bad (by omega)]⟩
          · have c14p := dec_f c14
            refine WpM.run tab_ok 6 ⟨.ops (p8_16_3 :: o8_16.drop 4), [.seq x8_17, .seq x8_25, .blk 0, .seq x8_28], ((((E14 n).set 33 (.int .i64 n)).set 34 (.bool (decide (n < 32)))).set 35 (.bool (decide (n < 32)))), [], h, none⟩ (by kernel_rfl) ?_
            refine WpM.guard (b := (decide (n < 32))) (by kernel_rfl) (fun c18 => ?_) (fun c18 => ?_)
            · have c18p := dec_t c18
              exfalso; omega
            · have c18p := dec_f c18
              refine WpM.run tab_ok 22 ⟨.code x8_20, [.seq x8_25, .blk 0, .seq x8_28], (((((((E13 n).set 4 (.bool false)).set 14 (.bool false)).set 15 U).set 16 U).set 17 (.bool false)).set 18 (.bool false)), [], h, none⟩ (by kernel_rfl) ?_
              refine WpM.cond (t := (n == 127)) (by kernel_rfl) (fun c19 => ?_) (fun c19 => ?_)
              · have c19p := beq_t c19
                exfalso; omega
              · have c19p := beq_f c19
                refine WpM.run tab_ok 5 ⟨.ops (p8_22_3 :: o8_22.drop 4), [.seq x8_23, .seq x8_25, .blk 0, .seq x8_28], ((((((((((E13 n).set 4 (.bool false)).set 14 (.bool false)).set 15 U).set 16 U).set 17 (.bool false)).set 18 (.bool false)).set 49 (.int .i64 n)).set 50 (.bool (decide (n ≥ 64976)))).set 51 (.bool (decide (n ≥ 64976)))), [], h, none⟩ (by kernel_rfl) ?_
                refine WpM.guard (b := (decide (n ≥ 64976))) (by kernel_rfl) (fun c20 => ?_) (fun c20 => ?_)
                · have c20p := dec_t c20
                  exfalso; omega
                · have c20p := dec_f c20
                  refine WpM.run tab_ok 14 ⟨.code x8_25, [.blk 0, .seq x8_28], (((((((((((((((E13 n).set 4 (.bool false)).set 14 (.bool false)).set 15 U).set 16 U).set 17 (.bool false)).set 18 (.bool false)).set 32 (.bool ((IntKind.wrap .i64 (BitVec.ofInt (IntKind.bits .i64) n &&& BitVec.ofInt (IntKind.bits .i64) 65534).toNat) == 65534))).set 49 (.int .i64 n)).set 50 (.bool (decide (n ≥ 64976)))).set 51 (.bool false)).set 54 (.bool false)).set 55 (.int .i64 n)).set 56 (.int .i64 (IntKind.wrap .i64 (BitVec.ofInt (IntKind.bits .i64) n &&& BitVec.ofInt (IntKind.bits .i64) 65534).toNat))).set 57 (.bool ((IntKind.wrap .i64 (BitVec.ofInt (IntKind.bits .i64) n &&& BitVec.ofInt (IntKind.bits .i64) 65534).toNat) == 65534))), [], h, none⟩ (by kernel_rfl) ?_
                  refine WpM.cond (t := ((IntKind.wrap .i64 (BitVec.ofInt (IntKind.bits .i64) n &&& BitVec.ofInt (IntKind.bits .i64) 65534).toNat) == 65534)) (by kernel_rfl) (fun c21 => ?_) (fun c21 => ?_)
                  · have c21p := beq_t c21
                    have hb_c21 := and_hi (n := n) (by omega) (by omega)
                    refine WpM.run tab_ok 10 ⟨.done .ret, [], (E15 n), [], h, none⟩ (by kernel_rfl) ?_
                    refine WpM.ret (.tup [.int .i64 n, .int .i64 20]) h (by kernel_rfl) (by kernel_rfl) ?_
                    exact ⟨(HX.refl h), by rw [numV_id (by omega) (by omega), numF_bad (by omega)]⟩
                  · have c21p := beq_f c21
                    have hb_c21 := and_hi (n := n) (by omega) (by omega)
                    refine WpM.run tab_ok 11 ⟨.done .ret, [], ((((E15 n).set 3 (.int .i64 0)).set 58 U).set 59 (.int .i64 n)), [], h, none⟩ (by kernel_rfl) ?_
                    refine WpM.ret (.tup [.int .i64 n, .int .i64 0]) h (by kernel_rfl) (by kernel_rfl) ?_
                    exact ⟨(HX.refl h), by rw [numV_id (by omega) (by omega), numF_good (by omega)]⟩
        · have c13p := dec_f c13
          refine WpM.run tab_ok 13 ⟨.ops (p8_16_3 :: o8_16.drop 4), [.seq x8_17, .seq x8_25, .blk 0, .seq x8_28], (((((((((E14 n).set 19 (.bool false)).set 22 (.bool false)).set 23 U).set 24 U).set 25 (.bool false)).set 33 (.int .i64 n)).set 34 (.bool (decide (n < 32)))).set 35 (.bool (decide (n < 32)))), [], h, none⟩ (by kernel_rfl) ?_
          refine WpM.guard (b := (decide (n < 32))) (by kernel_rfl) (fun c22 => ?_) (fun c22 => ?_)
          · have c22p := dec_t c22
            refine WpM.run tab_ok 4 ⟨.ops (p8_16_7 :: o8_16.drop 8), [.seq x8_17, .seq x8_25, .blk 0, .seq x8_28], (((((((((((((E14 n).set 19 (.bool false)).set 22 (.bool false)).set 23 U).set 24 U).set 25 (.bool false)).set 33 (.int .i64 n)).set 34 (.bool (decide (n < 32)))).set 35 (.bool true)).set 36 (.int .i64 n)).set 37 (.bool (!(n == 9)))).set 38 (.bool (!(n == 9)))).set 39 (.bool (!(n == 9)))), [], h, none⟩ (by kernel_rfl) ?_
            refine WpM.guard (b := (!(n == 9))) (by kernel_rfl) (fun c23 => ?_) (fun c23 => ?_)
            · have c23p := nbeq_t c23
              refine WpM.run tab_ok 4 ⟨.ops (p8_16_11 :: o8_16.drop 12), [.seq x8_17, .seq x8_25, .blk 0, .seq x8_28], (E16 n), [], h, none⟩ (by kernel_rfl) ?_
              refine WpM.guard (b := (!(n == 10))) (by kernel_rfl) (fun c24 => ?_) (fun c24 => ?_)
              · have c24p := nbeq_t c24
                refine WpM.run tab_ok 6 ⟨.code x8_17, [.seq x8_25, .blk 0, .seq x8_28], ((((((E16 n).set 32 (.bool (!(n == 12)))).set 43 (.bool true)).set 44 (.int .i64 n)).set 45 (.bool (!(n == 12)))).set 46 (.bool (!(n == 12)))), [], h, none⟩ (by kernel_rfl) ?_
                refine WpM.cond (t := (!(n == 12))) (by kernel_rfl) (fun c25 => ?_) (fun c25 => ?_)
                · have c25p := nbeq_t c25
                  refine WpM.run tab_ok 2 ⟨.code x8_25, [.blk 0, .seq x8_28], ((((((E16 n).set 32 (.bool (!(n == 12)))).set 43 (.bool true)).set 44 (.int .i64 n)).set 45 (.bool (!(n == 12)))).set 46 (.bool (!(n == 12)))), [], h, none⟩ (by kernel_rfl) ?_
                  refine WpM.cond (t := (!(n == 12))) (by kernel_rfl) (fun e_ => ?_) (fun e_ => absurd (e_.symm.trans (not_of_f (of_not_t c25))) (by decide))
                  refine WpM.run tab_ok 10 ⟨.done .ret, [], (((((((((E16 n).set 2 (.int .i64 n)).set 3 (.int .i64 20)).set 32 (.bool (!(n == 12)))).set 43 (.bool true)).set 44 (.int .i64 n)).set 45 (.bool (!(n == 12)))).set 46 (.bool (!(n == 12)))).set 58 (.int .i64 n)), [], h, none⟩ (by kernel_rfl) ?_
                  refine WpM.ret (.tup [.int .i64 n, .int .i64 20]) h (by kernel_rfl) (by kernel_rfl) ?_
                  exact ⟨(HX.refl h), by rw [numV_id (by omega) (by omega), numF_bad (by omega)]⟩
                · have c25p := nbeq_f c25
                  refine WpM.run tab_ok 7 ⟨.code x8_20, [.seq x8_25, .blk 0, .seq x8_28], ((((((((E16 n).set 32 (.bool (n == 127))).set 43 (.bool true)).set 44 (.int .i64 n)).set 45 (.bool (!(n == 12)))).set 46 (.bool (!(n == 12)))).set 47 (.int .i64 n)).set 48 (.bool (n == 127))), [], h, none⟩ (by kernel_rfl) ?_
                  refine WpM.cond (t := (n == 127)) (by kernel_rfl) (fun c26 => ?_) (fun c26 => ?_)
                  · have c26p := beq_t c26
                    exfalso; omega
                  · have c26p := beq_f c26
                    refine WpM.run tab_ok 5 ⟨.ops (p8_22_3 :: o8_22.drop 4), [.seq x8_23, .seq x8_25, .blk 0, .seq x8_28], (((((((((((E16 n).set 32 (.bool (n == 127))).set 43 (.bool true)).set 44 (.int .i64 n)).set 45 (.bool (!(n == 12)))).set 46 (.bool (!(n == 12)))).set 47 (.int .i64 n)).set 48 (.bool (n == 127))).set 49 (.int .i64 n)).set 50 (.bool (decide (n ≥ 64976)))).set 51 (.bool (decide (n ≥ 64976)))), [], h, none⟩ (by kernel_rfl) ?_
                    refine WpM.guard (b := (decide (n ≥ 64976))) (by kernel_rfl) (fun c27 => ?_) (fun c27 => ?_)
                    · have c27p := dec_t c27
                      exfalso; omega
                    · have c27p := dec_f c27
                      refine WpM.run tab_ok 14 ⟨.code x8_25, [.blk 0, .seq x8_28], (((((((((((((((E16 n).set 32 (.bool ((IntKind.wrap .i64 (BitVec.ofInt (IntKind.bits .i64) n &&& BitVec.ofInt (IntKind.bits .i64) 65534).toNat) == 65534))).set 43 (.bool true)).set 44 (.int .i64 n)).set 45 (.bool (!(n == 12)))).set 46 (.bool (!(n == 12)))).set 47 (.int .i64 n)).set 48 (.bool (n == 127))).set 49 (.int .i64 n)).set 50 (.bool (decide (n ≥ 64976)))).set 51 (.bool false)).set 54 (.bool false)).set 55 (.int .i64 n)).set 56 (.int .i64 (IntKind.wrap .i64 (BitVec.ofInt (IntKind.bits .i64) n &&& BitVec.ofInt (IntKind.bits .i64) 65534).toNat))).set 57 (.bool ((IntKind.wrap .i64 (BitVec.ofInt (IntKind.bits .i64) n &&& BitVec.ofInt (IntKind.bits .i64) 65534).toNat) == 65534))), [], h, none⟩ (by kernel_rfl) ?_
                      refine WpM.cond (t := ((IntKind.wrap .i64 (BitVec.ofInt (IntKind.bits .i64) n &&& BitVec.ofInt (IntKind.bits .i64) 65534).toNat) == 65534)) (by kernel_rfl) (fun c28 => ?_) (fun c28 => ?_)
                      · have c28p := beq_t c28
                        have hb_c28 := and_hi (n := n) (by omega) (by omega)
                        refine WpM.run tab_ok 10 ⟨.done .ret, [], (E17 n), [], h, none⟩ (by kernel_rfl) ?_
                        refine WpM.ret (.tup [.int .i64 n, .int .i64 20]) h (by kernel_rfl) (by kernel_rfl) ?_
                        exact ⟨(HX.refl h), by rw [numV_id (by omega) (by omega), numF_bad (by omega)]⟩
                      · have c28p := beq_f c28
                        have hb_c28 := and_hi (n := n) (by omega) (by omega)
                        refine WpM.run tab_ok 11 ⟨.done .ret, [], ((((E17 n).set 3 (.int .i64 0)).set 58 U).set 59 (.int .i64 n)), [], h, none⟩ (by kernel_rfl) ?_
                        refine WpM.ret (.tup [.int .i64 n, .int .i64 0]) h (by kernel_rfl) (by kernel_rfl) ?_
                        exact ⟨(HX.refl h), by rw [numV_id (by omega) (by omega), numF_good (by omega)]⟩
              · have c24p := nbeq_f c24
                refine WpM.run tab_ok 14 ⟨.code x8_20, [.seq x8_25, .blk 0, .seq x8_28], ((((((E16 n).set 32 (.bool (n == 127))).set 43 (.bool false)).set 46 (.bool false)).set 47 (.int .i64 n)).set 48 (.bool (n == 127))), [], h, none⟩ (by kernel_rfl) ?_
                refine WpM.cond (t := (n == 127)) (by kernel_rfl) (fun c29 => ?_) (fun c29 => ?_)
                · have c29p := beq_t c29
                  exfalso; omega
                · have c29p := beq_f c29
                  refine WpM.run tab_ok 5 ⟨.ops (p8_22_3 :: o8_22.drop 4), [.seq x8_23, .seq x8_25, .blk 0, .seq x8_28], (((((((((E16 n).set 32 (.bool (n == 127))).set 43 (.bool false)).set 46 (.bool false)).set 47 (.int .i64 n)).set 48 (.bool (n == 127))).set 49 (.int .i64 n)).set 50 (.bool (decide (n ≥ 64976)))).set 51 (.bool (decide (n ≥ 64976)))), [], h, none⟩ (by kernel_rfl) ?_
                  refine WpM.guard (b := (decide (n ≥ 64976))) (by kernel_rfl) (fun c30 => ?_) (fun c30 => ?_)
                  · have c30p := dec_t c30
                    exfalso; omega
                  · have c30p := dec_f c30
                    refine WpM.run tab_ok 14 ⟨.code x8_25, [.blk 0, .seq x8_28], ((((((((E17 n).set 2 (.int .i64 0)).set 3 (.int .i64 0)).set 43 (.bool false)).set 44 U).set 45 U).set 46 (.bool false)).set 58 U), [], h, none⟩ (by kernel_rfl) ?_
                    refine WpM.cond (t := ((IntKind.wrap .i64 (BitVec.ofInt (IntKind.bits .i64) n &&& BitVec.ofInt (IntKind.bits .i64) 65534).toNat) == 65534)) (by kernel_rfl) (fun c31 => ?_) (fun c31 => ?_)
                    · have c31p := beq_t c31
                      have hb_c31 := and_hi (n := n) (by omega) (by omega)
                      refine WpM.run tab_ok 10 ⟨.done .ret, [], (((((E17 n).set 43 (.bool false)).set 44 U).set 45 U).set 46 (.bool false)), [], h, none⟩ (by kernel_rfl) ?_
                      refine WpM.ret (.tup [.int .i64 n, .int .i64 20]) h (by kernel_rfl) (by kernel_rfl) ?_
                      exact ⟨(HX.refl h), by rw [numV_id (by omega) (by omega), numF_bad (by omega)]⟩
                    · have c31p := beq_f c31
                      have hb_c31 := and_hi (n := n) (by omega) (by omega)
                      refine WpM.run tab_ok 11 ⟨.done .ret, [], ((((((((E17 n).set 3 (.int .i64 0)).set 43 (.bool false)).set 44 U).set 45 U).set 46 (.bool false)).set 58 U).set 59 (.int .i64 n)), [], h, none⟩ (by kernel_rfl) ?_
                      refine WpM.ret (.tup [.int .i64 n, .int .i64 0]) h (by kernel_rfl) (by kernel_rfl) ?_
                      exact ⟨(HX.refl h), by rw [numV_id (by omega) (by omega), numF_good (by omega)]⟩
            · have c23p := nbeq_f c23
              refine WpM.run tab_ok 18 ⟨.code x8_20, [.seq x8_25, .blk 0, .seq x8_28], ((((((((((E16 n).set 32 (.bool (n == 127))).set 39 (.bool false)).set 40 U).set 41 U).set 42 (.bool false)).set 43 (.bool false)).set 46 (.bool false)).set 47 (.int .i64 n)).set 48 (.bool (n == 127))), [], h, none⟩ (by kernel_rfl) ?_
              refine WpM.cond (t := (n == 127)) (by kernel_rfl) (fun c32 => ?_) (fun c32 => ?_)
              · have c32p := beq_t c32
                exfalso; omega
              · have c32p := beq_f c32
                refine WpM.run tab_ok 5 ⟨.ops (p8_22_3 :: o8_22.drop 4), [.seq x8_23, .seq x8_25, .blk 0, .seq x8_28], (((((((((((((E16 n).set 32 (.bool (n == 127))).set 39 (.bool false)).set 40 U).set 41 U).set 42 (.bool false)).set 43 (.bool false)).set 46 (.bool false)).set 47 (.int .i64 n)).set 48 (.bool (n == 127))).set 49 (.int .i64 n)).set 50 (.bool (decide (n ≥ 64976)))).set 51 (.bool (decide (n ≥ 64976)))), [], h, none⟩ (by kernel_rfl) ?_
                refine WpM.guard (b := (decide (n ≥ 64976))) (by kernel_rfl) (fun c33 => ?_) (fun c33 => ?_)
                · have c33p := dec_t c33
                  exfalso; omega
                · have c33p := dec_f c33
                  refine WpM.run tab_ok 14 ⟨.code x8_25, [.blk 0, .seq x8_28], ((((((((((((E17 n).set 2 (.int .i64 0)).set 3 (.int .i64 0)).set 39 (.bool false)).set 40 U).set 41 U).set 42 (.bool false)).set 43 (.bool false)).set 44 U).set 45 U).set 46 (.bool false)).set 58 U), [], h, none⟩ (by kernel_rfl) ?_
                  refine WpM.cond (t := ((IntKind.wrap .i64 (BitVec.ofInt (IntKind.bits .i64) n &&& BitVec.ofInt (IntKind.bits .i64) 65534).toNat) == 65534)) (by kernel_rfl) (fun c34 => ?_) (fun c34 => ?_)
                  · have c34p := beq_t c34
                    have hb_c34 := and_hi (n := n) (by omega) (by omega)
                    refine WpM.run tab_ok 10 ⟨.done .ret, [], (((((((((E17 n).set 39 (.bool false)).set 40 U).set 41 U).set 42 (.bool false)).set 43 (.bool false)).set 44 U).set 45 U).set 46 (.bool false)), [], h, none⟩ (by kernel_rfl) ?_
                    refine WpM.ret (.tup [.int .i64 n, .int .i64 20]) h (by kernel_rfl) (by kernel_rfl) ?_
                    exact ⟨(HX.refl h), by rw [numV_id (by omega) (by omega), numF_bad (by omega)]⟩
                  · have c34p := beq_f c34
                    have hb_c34 := and_hi (n := n) (by omega) (by omega)
                    refine WpM.run tab_ok 11 ⟨.done .ret, [], ((((((((((((E17 n).set 3 (.int .i64 0)).set 39 (.bool false)).set 40 U).set 41 U).set 42 (.bool false)).set 43 (.bool false)).set 44 U).set 45 U).set 46 (.bool false)).set 58 U).set 59 (.int .i64 n)), [], h, none⟩ (by kernel_rfl) ?_
                    refine WpM.ret (.tup [.int .i64 n, .int .i64 0]) h (by kernel_rfl) (by kernel_rfl) ?_
                    exact ⟨(HX.refl h), by rw [numV_id (by omega) (by omega), numF_good (by omega)]⟩
          · have c22p := dec_f c22
            refine WpM.run tab_ok 22 ⟨.code x8_20, [.seq x8_25, .blk 0, .seq x8_28], ((((((((((((E13 n).set 4 (.bool false)).set 14 (.bool false)).set 15 U).set 16 U).set 17 (.bool false)).set 18 (.bool false)).set 19 (.bool false)).set 22 (.bool false)).set 23 U).set 24 U).set 25 (.bool false)), [], h, none⟩ (by kernel_rfl) ?_
            refine WpM.cond (t := (n == 127)) (by kernel_rfl) (fun c35 => ?_) (fun c35 => ?_)
            · have c35p := beq_t c35
              refine WpM.run tab_ok 2 ⟨.code x8_25, [.blk 0, .seq x8_28], ((((((((((((E13 n).set 4 (.bool false)).set 14 (.bool false)).set 15 U).set 16 U).set 17 (.bool false)).set 18 (.bool false)).set 19 (.bool false)).set 22 (.bool false)).set 23 U).set 24 U).set 25 (.bool false)), [], h, none⟩ (by kernel_rfl) ?_
              refine WpM.cond (t := (n == 127)) (by kernel_rfl) (fun e_ => ?_) (fun e_ => absurd (e_.symm.trans c35) (by decide))
              refine WpM.run tab_ok 10 ⟨.done .ret, [], ((((((((((((((E15 n).set 19 (.bool false)).set 22 (.bool false)).set 23 U).set 24 U).set 25 (.bool false)).set 32 (.bool (n == 127))).set 49 U).set 50 U).set 51 U).set 54 U).set 55 U).set 56 U).set 57 U), [], h, none⟩ (by kernel_rfl) ?_
              refine WpM.ret (.tup [.int .i64 n, .int .i64 20]) h (by kernel_rfl) (by kernel_rfl) ?_
              exact ⟨(HX.refl h), by rw [numV_id (by omega) (by omega), numF_bad (by omega)]⟩
            · have c35p := beq_f c35
              refine WpM.run tab_ok 5 ⟨.ops (p8_22_3 :: o8_22.drop 4), [.seq x8_23, .seq x8_25, .blk 0, .seq x8_28], (((((((((((((((E15 n).set 2 (.int .i64 0)).set 3 (.int .i64 0)).set 19 (.bool false)).set 22 (.bool false)).set 23 U).set 24 U).set 25 (.bool false)).set 32 (.bool (n == 127))).set 51 (.bool (decide (n ≥ 64976)))).set 54 U).set 55 U).set 56 U).set 57 U).set 58 U), [], h, none⟩ (by kernel_rfl) ?_
              refine WpM.guard (b := (decide (n ≥ 64976))) (by kernel_rfl) (fun c36 => ?_) (fun c36 => ?_)
              · have c36p := dec_t c36
                exfalso; omega
              · have c36p := dec_f c36
                refine WpM.run tab_ok 14 ⟨.code x8_25, [.blk 0, .seq x8_28], (((((((((E15 n).set 2 (.int .i64 0)).set 3 (.int .i64 0)).set 19 (.bool false)).set 22 (.bool false)).set 23 U).set 24 U).set 25 (.bool false)).set 58 U), [], h, none⟩ (by kernel_rfl) ?_
                refine WpM.cond (t := ((IntKind.wrap .i64 (BitVec.ofInt (IntKind.bits .i64) n &&& BitVec.ofInt (IntKind.bits .i64) 65534).toNat) == 65534)) (by kernel_rfl) (fun c37 => ?_) (fun c37 => ?_)
                · have c37p := beq_t c37
                  have hb_c37 := and_hi (n := n) (by omega) (by omega)
                  refine WpM.run tab_ok 10 ⟨.done .ret, [], ((((((E15 n).set 19 (.bool false)).set 22 (.bool false)).set 23 U).set 24 U).set 25 (.bool false)), [], h, none⟩ (by kernel_rfl) ?_
                  refine WpM.ret (.tup [.int .i64 n, .int .i64 20]) h (by kernel_rfl) (by kernel_rfl) ?_
                  exact ⟨(HX.refl h), by rw [numV_id (by omega) (by omega), numF_bad (by omega)]⟩
                · have c37p := beq_f c37
                  have hb_c37 := and_hi (n := n) (by omega) (by omega)
                  refine WpM.run tab_ok 11 ⟨.done .ret, [], (((((((((E15 n).set 3 (.int .i64 0)).set 19 (.bool false)).set 22 (.bool false)).set 23 U).set 24 U).set 25 (.bool false)).set 58 U).set 59 (.int .i64 n)), [], h, none⟩ (by kernel_rfl) ?_
                  refine WpM.ret (.tup [.int .i64 n, .int .i64 0]) h (by kernel_rfl) (by kernel_rfl) ?_
                  exact ⟨(HX.refl h), by rw [numV_id (by omega) (by omega), numF_good (by omega)]⟩
def mayB (n : Int) : Bool := decide (0 ≤ n ∧ n ≤ 1114111 ∧ (n < 55296 ∨ 57343 < n))
theorem mayB_t {n : Int} (h : mayB n = true) : 0 ≤ n ∧ n ≤ 1114111 ∧ (n < 55296 ∨ 57343 < n) := of_decide_eq_true h
theorem mayB_f {n : Int} (h : mayB n = false) : ¬ (0 ≤ n ∧ n ≤ 1114111 ∧ (n < 55296 ∨ 57343 < n)) := of_decide_eq_false h
def E18 (n : Int) : List V := (.int .i64 n :: U :: .bool false :: .int .i64 n :: .bool (decide (n ≥ 0)) :: .bool true :: .int .i64 n :: .bool (decide (n ≤ 1114111)) :: .bool (decide (n ≤ 1114111)) :: .bool (decide (n ≤ 1114111)) :: us 7)
def E19 (n : Int) : List V := (.int .i64 n :: U :: .bool true :: .int .i64 n :: .bool (decide (n ≥ 0)) :: .bool true :: .int .i64 n :: .bool (decide (n ≤ 1114111)) :: .bool (decide (n ≤ 1114111)) :: .bool true :: .int .i64 n :: .bool (decide (n < 55296)) :: .bool true :: U :: U :: .bool true :: .bool true :: [])
def E20 (n : Int) : List V := (.int .i64 n :: U :: .bool false :: .int .i64 n :: .bool (decide (n ≥ 0)) :: .bool false :: U :: U :: .bool false :: .bool false :: U :: U :: U :: U :: U :: U :: .bool false :: [])
theorem may_ok {W : World} {n : Int} {h : H} : WpF Tryd.prog W prim2 20 [.int .i64 n] h (fun v h' => h = h' ∧ v = .bool (mayB n)) := by
  refine WpF.m tab_ok (by kernel_rfl) rfl ?_
  refine WpM.cfg (c' := ⟨.code x20_0, [], (.int .i64 n :: us 16), [], h, none⟩) (by kernel_rfl) ?_
  refine WpM.run tab_ok 10 ⟨.ops (p20_3_3 :: o20_3.drop 4), [.seq .ret], (.int .i64 n :: U :: .bool false :: .int .i64 n :: .bool (decide (n ≥ 0)) :: .bool (decide (n ≥ 0)) :: us 11), [], h, none⟩ (by kernel_rfl) ?_
  refine WpM.guard (b := (decide (n ≥ 0))) (by kernel_rfl) (fun c1 => ?_) (fun c1 => ?_)
  · have c1p := dec_t c1
    refine WpM.run tab_ok 4 ⟨.ops (p20_3_7 :: o20_3.drop 8), [.seq .ret], (E18 n), [], h, none⟩ (by kernel_rfl) ?_
    refine WpM.guard (b := (decide (n ≤ 1114111))) (by kernel_rfl) (fun c2 => ?_) (fun c2 => ?_)
    · have c2p := dec_t c2
      refine WpM.run tab_ok 3 ⟨.ops (p20_3_10 :: o20_3.drop 11), [.seq .ret], (((((E18 n).set 9 (.bool true)).set 10 (.int .i64 n)).set 11 (.bool (decide (n < 55296)))).set 12 (.bool (decide (n < 55296)))), [], h, none⟩ (by kernel_rfl) ?_
      refine WpM.guard (b := (decide (n < 55296))) (by kernel_rfl) (fun c3 => ?_) (fun c3 => ?_)
      · have c3p := dec_t c3
        refine WpM.run tab_ok 8 ⟨.done .ret, [], (E19 n), [], h, none⟩ (by kernel_rfl) ?_
        refine WpM.ret (.bool true) h (by kernel_rfl) (by kernel_rfl) ?_
        exact ⟨rfl, congrArg V.bool (by unfold mayB; first | exact (decide_eq_true (by omega)).symm | exact (decide_eq_false (by omega)).symm | (apply decide_eq_decide.2; omega))⟩
      · have c3p := dec_f c3
        refine WpM.run tab_ok 8 ⟨.done .ret, [], (((((((E19 n).set 2 (.bool (decide (n > 57343)))).set 12 (.bool false)).set 13 (.int .i64 n)).set 14 (.bool (decide (n > 57343)))).set 15 (.bool (decide (n > 57343)))).set 16 (.bool (decide (n > 57343)))), [], h, none⟩ (by kernel_rfl) ?_
        refine WpM.ret (.bool (decide (n > 57343))) h (by kernel_rfl) (by kernel_rfl) ?_
        exact ⟨rfl, congrArg V.bool (by unfold mayB; first | exact (decide_eq_true (by omega)).symm | exact (decide_eq_false (by omega)).symm | (apply decide_eq_decide.2; omega))⟩
    · have c2p := dec_f c2
      refine WpM.run tab_ok 11 ⟨.done .ret, [], (((E18 n).set 9 (.bool false)).set 16 (.bool false)), [], h, none⟩ (by kernel_rfl) ?_
      refine WpM.ret (.bool false) h (by kernel_rfl) (by kernel_rfl) ?_
      exact ⟨rfl, congrArg V.bool (by unfold mayB; first | exact (decide_eq_true (by omega)).symm | exact (decide_eq_false (by omega)).symm | (apply decide_eq_decide.2; omega))⟩
  · have c1p := dec_f c1
    refine WpM.run tab_ok 15 ⟨.done .ret, [], (E20 n), [], h, none⟩ (by kernel_rfl) ?_
    refine WpM.ret (.bool false) h (by kernel_rfl) (by kernel_rfl) ?_
    exact ⟨rfl, congrArg V.bool (by unfold mayB; first | exact (decide_eq_true (by omega)).symm | exact (decide_eq_false (by omega)).symm | (apply decide_eq_decide.2; omega))⟩
def E21 (n : Int) : List V := (.int .i64 n :: U :: .int .i64 0 :: .bool (n == 0) :: .int .i64 n :: .bool (n == 0) :: .bool true :: .int .i64 n :: .bool (n == 9) :: .bool true :: U :: U :: .bool true :: .bool true :: U :: U :: .bool true :: .bool true :: U :: U :: .bool true :: us 36)
def E22 (n : Int) : List V := (.int .i64 n :: U :: .int .i64 0 :: .bool (n == 0) :: .int .i64 n :: .bool (n == 0) :: U :: .int .i64 n :: .bool (n == 9) :: .bool false :: .int .i64 n :: .bool (n == 10) :: .bool (n == 10) :: .bool (n == 10) :: us 43)
def E23 (n : Int) : List V := (.int .i64 n :: U :: .int .i64 0 :: .bool (n == 0) :: .int .i64 n :: .bool (n == 0) :: .bool (n == 13) :: .int .i64 n :: .bool (n == 9) :: .bool false :: .int .i64 n :: .bool (n == 10) :: .bool (n == 10) :: .bool false :: .int .i64 n :: .bool (n == 12) :: .bool (n == 12) :: .bool false :: .int .i64 n :: .bool (n == 13) :: .bool (n == 13) :: us 36)
def E24 (n : Int) : List V := (.int .i64 n :: U :: .int .i64 0 :: .bool (n == 0) :: .int .i64 n :: .bool (n == 0) :: .bool (n == 13) :: .int .i64 n :: .bool (n == 9) :: .bool false :: .int .i64 n :: .bool (n == 10) :: .bool (n == 10) :: .bool false :: .int .i64 n :: .bool (n == 12) :: .bool (n == 12) :: .bool false :: .int .i64 n :: .bool (n == 13) :: .bool (n == 13) :: .bool (decide (n ≤ 159)) :: .int .i64 n :: .bool (decide (n ≥ 1)) :: .bool true :: .int .i64 n :: .bool (decide (n ≤ 31)) :: .bool (decide (n ≤ 31)) :: .bool false :: .int .i64 n :: .bool (decide (n ≥ 127)) :: .bool true :: .int .i64 n :: .bool (decide (n ≤ 159)) :: .bool (decide (n ≤ 159)) :: .bool (decide (n ≤ 159)) :: us 21)
def E25 (n : Int) : List V := (.int .i64 n :: U :: .int .i64 4 :: .bool (n == 0) :: .int .i64 n :: .bool (n == 0) :: .bool (n == 13) :: .int .i64 n :: .bool (n == 9) :: .bool false :: .int .i64 n :: .bool (n == 10) :: .bool (n == 10) :: .bool false :: .int .i64 n :: .bool (n == 12) :: .bool (n == 12) :: .bool false :: .int .i64 n :: .bool (n == 13) :: .bool (n == 13) :: .bool (decide (n ≤ 159)) :: .int .i64 n :: .bool (decide (n ≥ 1)) :: .bool true :: .int .i64 n :: .bool (decide (n ≤ 31)) :: .bool (decide (n ≤ 31)) :: .bool false :: .int .i64 n :: .bool (decide (n ≥ 127)) :: .bool true :: .int .i64 n :: .bool (decide (n ≤ 159)) :: .bool (decide (n ≤ 159)) :: .bool (decide (n ≤ 159)) :: .bool true :: .int .i64 n :: .bool (decide (n ≥ 64976)) :: .bool true :: .int .i64 n :: .bool (decide (n ≤ 65007)) :: .bool (decide (n ≤ 65007)) :: .bool false :: .int .i64 n :: .bool (decide (n ≥ 0)) :: .bool true :: .int .i64 n :: .int .i64 (IntKind.wrap .i64 (BitVec.ofInt (IntKind.bits .i64) n &&& BitVec.ofInt (IntKind.bits .i64) 65535).toNat) :: .bool ((IntKind.wrap .i64 (BitVec.ofInt (IntKind.bits .i64) n &&& BitVec.ofInt (IntKind.bits .i64) 65535).toNat) == 65534) :: .bool true :: U :: U :: U :: .bool true :: .bool true :: .bool true :: [])
def E26 (n : Int) : List V := (.int .i64 n :: U :: .int .i64 0 :: .bool (n == 0) :: .int .i64 n :: .bool (n == 0) :: .bool (n == 13) :: .int .i64 n :: .bool (n == 9) :: .bool false :: .int .i64 n :: .bool (n == 10) :: .bool (n == 10) :: .bool false :: .int .i64 n :: .bool (n == 12) :: .bool (n == 12) :: .bool false :: .int .i64 n :: .bool (n == 13) :: .bool (n == 13) :: .bool false :: .int .i64 n :: .bool (decide (n ≥ 1)) :: .bool true :: .int .i64 n :: .bool (decide (n ≤ 31)) :: .bool (decide (n ≤ 31)) :: .bool false :: .int .i64 n :: .bool (decide (n ≥ 127)) :: .bool false :: U :: U :: .bool false :: .bool false :: U :: .int .i64 n :: .bool (decide (n ≥ 64976)) :: .bool false :: U :: U :: .bool false :: .bool false :: .int .i64 n :: .bool (decide (n ≥ 0)) :: .bool true :: .int .i64 n :: .int .i64 (IntKind.wrap .i64 (BitVec.ofInt (IntKind.bits .i64) n &&& BitVec.ofInt (IntKind.bits .i64) 65535).toNat) :: .bool ((IntKind.wrap .i64 (BitVec.ofInt (IntKind.bits .i64) n &&& BitVec.ofInt (IntKind.bits .i64) 65535).toNat) == 65534) :: .bool ((IntKind.wrap .i64 (BitVec.ofInt (IntKind.bits .i64) n &&& BitVec.ofInt (IntKind.bits .i64) 65535).toNat) == 65534) :: us 6)
theorem bad_ok {W : World} {n : Int} {h : H} (hn : 0 < n ∧ n ≤ 1114111) : WpF Tryd.prog W prim2 21 [.int .i64 n] h (fun v h' => h = h' ∧ ∃ b : Int, v = .int .i64 b ∧ (b = 0 ↔ ¬ (n = 0 ∨ (1 ≤ n ∧ n ≤ 31 ∧ n ≠ 9 ∧ n ≠ 10 ∧ n ≠ 12 ∧ n ≠ 13) ∨ (127 ≤ n ∧ n ≤ 159) ∨ (64976 ≤ n ∧ n ≤ 65007) ∨ 65534 ≤ n % 65536))) := by
  refine WpF.m tab_ok (by kernel_rfl) rfl ?_
  refine WpM.cfg (c' := ⟨.code x21_0, [], (.int .i64 n :: us 56), [], h, none⟩) (by kernel_rfl) ?_
  refine WpM.run tab_ok 14 ⟨.code x21_6, [.blk 0, .seq x21_24], (.int .i64 n :: U :: .int .i64 0 :: .bool (n == 0) :: .int .i64 n :: .bool (n == 0) :: us 51), [], h, none⟩ (by kernel_rfl) ?_
  refine WpM.cond (t := (n == 0)) (by kernel_rfl) (fun c1 => ?_) (fun c1 => ?_)
  · have c1p := beq_t c1
    refine WpM.run tab_ok 8 ⟨.done .ret, [], (.int .i64 n :: U :: .int .i64 2 :: .bool (n == 0) :: .int .i64 n :: .bool (n == 0) :: us 51), [], h, none⟩ (by kernel_rfl) ?_
    refine WpM.ret (.int .i64 2) h (by kernel_rfl) (by kernel_rfl) ?_
    exact ⟨rfl, _, rfl, by omega⟩
  · have c1p := beq_f c1
    refine WpM.run tab_ok 5 ⟨.ops (p21_10_3 :: o21_10.drop 4), [.seq x21_11, .blk 0, .seq x21_24], (.int .i64 n :: U :: .int .i64 0 :: .bool (n == 0) :: .int .i64 n :: .bool (n == 0) :: U :: .int .i64 n :: .bool (n == 9) :: .bool (n == 9) :: us 47), [], h, none⟩ (by kernel_rfl) ?_
    refine WpM.guard (b := (n == 9)) (by kernel_rfl) (fun c2 => ?_) (fun c2 => ?_)
    · have c2p := beq_t c2
      refine WpM.run tab_ok 23 ⟨.done .ret, [], (E21 n), [], h, none⟩ (by kernel_rfl) ?_
      refine WpM.ret (.int .i64 0) h (by kernel_rfl) (by kernel_rfl) ?_
      exact ⟨rfl, _, rfl, by omega⟩
    · have c2p := beq_f c2
      refine WpM.run tab_ok 4 ⟨.ops (p21_10_7 :: o21_10.drop 8), [.seq x21_11, .blk 0, .seq x21_24], (E22 n), [], h, none⟩ (by kernel_rfl) ?_
      refine WpM.guard (b := (n == 10)) (by kernel_rfl) (fun c3 => ?_) (fun c3 => ?_)
      · have c3p := beq_t c3
        refine WpM.run tab_ok 19 ⟨.done .ret, [], ((((((E22 n).set 6 (.bool true)).set 13 (.bool true)).set 16 (.bool true)).set 17 (.bool true)).set 20 (.bool true)), [], h, none⟩ (by kernel_rfl) ?_
        refine WpM.ret (.int .i64 0) h (by kernel_rfl) (by kernel_rfl) ?_
        exact ⟨rfl, _, rfl, by omega⟩
      · have c3p := beq_f c3
        refine WpM.run tab_ok 4 ⟨.ops (p21_10_11 :: o21_10.drop 12), [.seq x21_11, .blk 0, .seq x21_24], ((((((E22 n).set 13 (.bool false)).set 14 (.int .i64 n)).set 15 (.bool (n == 12))).set 16 (.bool (n == 12))).set 17 (.bool (n == 12))), [], h, none⟩ (by kernel_rfl) ?_
        refine WpM.guard (b := (n == 12)) (by kernel_rfl) (fun c4 => ?_) (fun c4 => ?_)
        · have c4p := beq_t c4
          refine WpM.run tab_ok 15 ⟨.done .ret, [], ((((((((E22 n).set 6 (.bool true)).set 13 (.bool false)).set 14 (.int .i64 n)).set 15 (.bool (n == 12))).set 16 (.bool (n == 12))).set 17 (.bool true)).set 20 (.bool true)), [], h, none⟩ (by kernel_rfl) ?_
          refine WpM.ret (.int .i64 0) h (by kernel_rfl) (by kernel_rfl) ?_
          exact ⟨rfl, _, rfl, by omega⟩
        · have c4p := beq_f c4
          refine WpM.run tab_ok 6 ⟨.code x21_11, [.blk 0, .seq x21_24], (E23 n), [], h, none⟩ (by kernel_rfl) ?_
          refine WpM.cond (t := (n == 13)) (by kernel_rfl) (fun c5 => ?_) (fun c5 => ?_)
          · have c5p := beq_t c5
            refine WpM.run tab_ok 8 ⟨.done .ret, [], (E23 n), [], h, none⟩ (by kernel_rfl) ?_
            refine WpM.ret (.int .i64 0) h (by kernel_rfl) (by kernel_rfl) ?_
            exact ⟨rfl, _, rfl, by omega⟩
          · have c5p := beq_f c5
            refine WpM.run tab_ok 5 ⟨.ops (p21_15_3 :: o21_15.drop 4), [.seq x21_16, .blk 0, .seq x21_24], ((((E23 n).set 22 (.int .i64 n)).set 23 (.bool (decide (n ≥ 1)))).set 24 (.bool (decide (n ≥ 1)))), [], h, none⟩ (by kernel_rfl) ?_
            refine WpM.guard (b := (decide (n ≥ 1))) (by kernel_rfl) (fun c6 => ?_) (fun c6 => ?_)
            · have c6p := dec_t c6
              refine WpM.run tab_ok 4 ⟨.ops (p21_15_7 :: o21_15.drop 8), [.seq x21_16, .blk 0, .seq x21_24], ((((((((E23 n).set 22 (.int .i64 n)).set 23 (.bool (decide (n ≥ 1)))).set 24 (.bool true)).set 25 (.int .i64 n)).set 26 (.bool (decide (n ≤ 31)))).set 27 (.bool (decide (n ≤ 31)))).set 28 (.bool (decide (n ≤ 31)))), [], h, none⟩ (by kernel_rfl) ?_
              refine WpM.guard (b := (decide (n ≤ 31))) (by kernel_rfl) (fun c7 => ?_) (fun c7 => ?_)
              · have c7p := dec_t c7
                refine WpM.run tab_ok 19 ⟨.done .ret, [], (((((((((((E23 n).set 2 (.int .i64 3)).set 21 (.bool true)).set 22 (.int .i64 n)).set 23 (.bool (decide (n ≥ 1)))).set 24 (.bool true)).set 25 (.int .i64 n)).set 26 (.bool (decide (n ≤ 31)))).set 27 (.bool (decide (n ≤ 31)))).set 28 (.bool true)).set 35 (.bool true)), [], h, none⟩ (by kernel_rfl) ?_
                refine WpM.ret (.int .i64 3) h (by kernel_rfl) (by kernel_rfl) ?_
                exact ⟨rfl, _, rfl, by omega⟩
              · have c7p := dec_f c7
                refine WpM.run tab_ok 3 ⟨.ops (p21_15_10 :: o21_15.drop 11), [.seq x21_16, .blk 0, .seq x21_24], (((((((((((E23 n).set 22 (.int .i64 n)).set 23 (.bool (decide (n ≥ 1)))).set 24 (.bool true)).set 25 (.int .i64 n)).set 26 (.bool (decide (n ≤ 31)))).set 27 (.bool (decide (n ≤ 31)))).set 28 (.bool false)).set 29 (.int .i64 n)).set 30 (.bool (decide (n ≥ 127)))).set 31 (.bool (decide (n ≥ 127)))), [], h, none⟩ (by kernel_rfl) ?_
                refine WpM.guard (b := (decide (n ≥ 127))) (by kernel_rfl) (fun c8 => ?_) (fun c8 => ?_)
                · have c8p := dec_t c8
                  refine WpM.run tab_ok 7 ⟨.code x21_16, [.blk 0, .seq x21_24], (E24 n), [], h, none⟩ (by kernel_rfl) ?_
                  refine WpM.cond (t := (decide (n ≤ 159))) (by kernel_rfl) (fun c9 => ?_) (fun c9 => ?_)
                  · have c9p := dec_t c9
                    refine WpM.run tab_ok 8 ⟨.done .ret, [], ((E24 n).set 2 (.int .i64 3)), [], h, none⟩ (by kernel_rfl) ?_
                    refine WpM.ret (.int .i64 3) h (by kernel_rfl) (by kernel_rfl) ?_
                    exact ⟨rfl, _, rfl, by omega⟩
                  · have c9p := dec_f c9
                    refine WpM.run tab_ok 5 ⟨.ops (p21_20_3 :: o21_20.drop 4), [.seq x21_21, .blk 0, .seq x21_24], ((((E24 n).set 37 (.int .i64 n)).set 38 (.bool (decide (n ≥ 64976)))).set 39 (.bool (decide (n ≥ 64976)))), [], h, none⟩ (by kernel_rfl) ?_
                    refine WpM.guard (b := (decide (n ≥ 64976))) (by kernel_rfl) (fun c10 => ?_) (fun c10 => ?_)
                    · have c10p := dec_t c10
                      refine WpM.run tab_ok 4 ⟨.ops (p21_20_7 :: o21_20.drop 8), [.seq x21_21, .blk 0, .seq x21_24], ((((((((E24 n).set 37 (.int .i64 n)).set 38 (.bool (decide (n ≥ 64976)))).set 39 (.bool true)).set 40 (.int .i64 n)).set 41 (.bool (decide (n ≤ 65007)))).set 42 (.bool (decide (n ≤ 65007)))).set 43 (.bool (decide (n ≤ 65007)))), [], h, none⟩ (by kernel_rfl) ?_
                      refine WpM.guard (b := (decide (n ≤ 65007))) (by kernel_rfl) (fun c11 => ?_) (fun c11 => ?_)
                      · have c11p := dec_t c11
                        refine WpM.run tab_ok 25 ⟨.done .ret, [], (((((((((((E24 n).set 2 (.int .i64 4)).set 36 (.bool true)).set 37 (.int .i64 n)).set 38 (.bool (decide (n ≥ 64976)))).set 39 (.bool true)).set 40 (.int .i64 n)).set 41 (.bool (decide (n ≤ 65007)))).set 42 (.bool (decide (n ≤ 65007)))).set 43 (.bool true)).set 56 (.bool true)), [], h, none⟩ (by kernel_rfl) ?_
                        refine WpM.ret (.int .i64 4) h (by kernel_rfl) (by kernel_rfl) ?_
                        exact ⟨rfl, _, rfl, by omega⟩
                      · have c11p := dec_f c11
                        refine WpM.run tab_ok 3 ⟨.ops (p21_20_10 :: o21_20.drop 11), [.seq x21_21, .blk 0, .seq x21_24], (((((((((((E24 n).set 37 (.int .i64 n)).set 38 (.bool (decide (n ≥ 64976)))).set 39 (.bool true)).set 40 (.int .i64 n)).set 41 (.bool (decide (n ≤ 65007)))).set 42 (.bool (decide (n ≤ 65007)))).set 43 (.bool false)).set 44 (.int .i64 n)).set 45 (.bool (decide (n ≥ 0)))).set 46 (.bool (decide (n ≥ 0)))), [], h, none⟩ (by kernel_rfl) ?_
                        refine WpM.guard (b := (decide (n ≥ 0))) (by kernel_rfl) (fun c12 => ?_) (fun c12 => ?_)
                        · have c12p := dec_t c12
                          refine WpM.run tab_ok 4 ⟨.ops (p21_20_14 :: o21_20.drop 15), [.seq x21_21, .blk 0, .seq x21_24], (((((((((((((((E24 n).set 37 (.int .i64 n)).set 38 (.bool (decide (n ≥ 64976)))).set 39 (.bool true)).set 40 (.int .i64 n)).set 41 (.bool (decide (n ≤ 65007)))).set 42 (.bool (decide (n ≤ 65007)))).set 43 (.bool false)).set 44 (.int .i64 n)).set 45 (.bool (decide (n ≥ 0)))).set 46 (.bool true)).set 47 (.int .i64 n)).set 48 (.int .i64 (IntKind.wrap .i64 (BitVec.ofInt (IntKind.bits .i64) n &&& BitVec.ofInt (IntKind.bits .i64) 65535).toNat))).set 49 (.bool ((IntKind.wrap .i64 (BitVec.ofInt (IntKind.bits .i64) n &&& BitVec.ofInt (IntKind.bits .i64) 65535).toNat) == 65534))).set 50 (.bool ((IntKind.wrap .i64 (BitVec.ofInt (IntKind.bits .i64) n &&& BitVec.ofInt (IntKind.bits .i64) 65535).toNat) == 65534))), [], h, none⟩ (by kernel_rfl) ?_
                          refine WpM.guard (b := ((IntKind.wrap .i64 (BitVec.ofInt (IntKind.bits .i64) n &&& BitVec.ofInt (IntKind.bits .i64) 65535).toNat) == 65534)) (by kernel_rfl) (fun c13 => ?_) (fun c13 => ?_)
                          · have c13p := beq_t c13
                            have hb_c13 := and_lo (n := n) (by omega) (by omega)
                            refine WpM.run tab_ok 18 ⟨.done .ret, [], (E25 n), [], h, none⟩ (by kernel_rfl) ?_
                            refine WpM.ret (.int .i64 4) h (by kernel_rfl) (by kernel_rfl) ?_
                            exact ⟨rfl, _, rfl, by omega⟩
                          · have c13p := beq_f c13
                            have hb_c13 := and_lo (n := n) (by omega) (by omega)
                            refine WpM.run tab_ok 9 ⟨.code x21_21, [.blk 0, .seq x21_24], ((((((((((E25 n).set 2 (.int .i64 0)).set 36 (.bool ((IntKind.wrap .i64 (BitVec.ofInt (IntKind.bits .i64) n &&& BitVec.ofInt (IntKind.bits .i64) 65535).toNat) == 65535))).set 50 (.bool false)).set 51 (.int .i64 n)).set 52 (.int .i64 (IntKind.wrap .i64 (BitVec.ofInt (IntKind.bits .i64) n &&& BitVec.ofInt (IntKind.bits .i64) 65535).toNat))).set 53 (.bool ((IntKind.wrap .i64 (BitVec.ofInt (IntKind.bits .i64) n &&& BitVec.ofInt (IntKind.bits .i64) 65535).toNat) == 65535))).set 54 (.bool ((IntKind.wrap .i64 (BitVec.ofInt (IntKind.bits .i64) n &&& BitVec.ofInt (IntKind.bits .i64) 65535).toNat) == 65535))).set 55 (.bool ((IntKind.wrap .i64 (BitVec.ofInt (IntKind.bits .i64) n &&& BitVec.ofInt (IntKind.bits .i64) 65535).toNat) == 65535))).set 56 (.bool ((IntKind.wrap .i64 (BitVec.ofInt (IntKind.bits .i64) n &&& BitVec.ofInt (IntKind.bits .i64) 65535).toNat) == 65535))), [], h, none⟩ (by kernel_rfl) ?_
                            refine WpM.cond (t := ((IntKind.wrap .i64 (BitVec.ofInt (IntKind.bits .i64) n &&& BitVec.ofInt (IntKind.bits .i64) 65535).toNat) == 65535)) (by kernel_rfl) (fun c14 => ?_) (fun c14 => ?_)
                            · have c14p := beq_t c14
                              have hb_c14 := and_lo (n := n) (by omega) (by omega)
                              refine WpM.run tab_ok 8 ⟨.done .ret, [], (((((((((E25 n).set 36 (.bool ((IntKind.wrap .i64 (BitVec.ofInt (IntKind.bits .i64) n &&& BitVec.ofInt (IntKind.bits .i64) 65535).toNat) == 65535))).set 50 (.bool false)).set 51 (.int .i64 n)).set 52 (.int .i64 (IntKind.wrap .i64 (BitVec.ofInt (IntKind.bits .i64) n &&& BitVec.ofInt (IntKind.bits .i64) 65535).toNat))).set 53 (.bool ((IntKind.wrap .i64 (BitVec.ofInt (IntKind.bits .i64) n &&& BitVec.ofInt (IntKind.bits .i64) 65535).toNat) == 65535))).set 54 (.bool ((IntKind.wrap .i64 (BitVec.ofInt (IntKind.bits .i64) n &&& BitVec.ofInt (IntKind.bits .i64) 65535).toNat) == 65535))).set 55 (.bool ((IntKind.wrap .i64 (BitVec.ofInt (IntKind.bits .i64) n &&& BitVec.ofInt (IntKind.bits .i64) 65535).toNat) == 65535))).set 56 (.bool ((IntKind.wrap .i64 (BitVec.ofInt (IntKind.bits .i64) n &&& BitVec.ofInt (IntKind.bits .i64) 65535).toNat) == 65535))), [], h, none⟩ (by kernel_rfl) ?_
                              refine WpM.ret (.int .i64 4) h (by kernel_rfl) (by kernel_rfl) ?_
                              exact ⟨rfl, _, rfl, by omega⟩
                            · have c14p := beq_f c14
                              have hb_c14 := and_lo (n := n) (by omega) (by omega)
                              refine WpM.run tab_ok 9 ⟨.done .ret, [], ((((((((((E25 n).set 2 (.int .i64 0)).set 36 (.bool ((IntKind.wrap .i64 (BitVec.ofInt (IntKind.bits .i64) n &&& BitVec.ofInt (IntKind.bits .i64) 65535).toNat) == 65535))).set 50 (.bool false)).set 51 (.int .i64 n)).set 52 (.int .i64 (IntKind.wrap .i64 (BitVec.ofInt (IntKind.bits .i64) n &&& BitVec.ofInt (IntKind.bits .i64) 65535).toNat))).set 53 (.bool ((IntKind.wrap .i64 (BitVec.ofInt (IntKind.bits .i64) n &&& BitVec.ofInt (IntKind.bits .i64) 65535).toNat) == 65535))).set 54 (.bool ((IntKind.wrap .i64 (BitVec.ofInt (IntKind.bits .i64) n &&& BitVec.ofInt (IntKind.bits .i64) 65535).toNat) == 65535))).set 55 (.bool ((IntKind.wrap .i64 (BitVec.ofInt (IntKind.bits .i64) n &&& BitVec.ofInt (IntKind.bits .i64) 65535).toNat) == 65535))).set 56 (.bool ((IntKind.wrap .i64 (BitVec.ofInt (IntKind.bits .i64) n &&& BitVec.ofInt (IntKind.bits .i64) 65535).toNat) == 65535))), [], h, none⟩ (by kernel_rfl) ?_
                              refine WpM.ret (.int .i64 0) h (by kernel_rfl) (by kernel_rfl) ?_
                              exact ⟨rfl, _, rfl, by omega⟩
                        · have c12p := dec_f c12
                          exfalso; omega
                    · have c10p := dec_f c10
                      refine WpM.run tab_ok 7 ⟨.ops (p21_20_10 :: o21_20.drop 11), [.seq x21_21, .blk 0, .seq x21_24], (((((((((E24 n).set 37 (.int .i64 n)).set 38 (.bool (decide (n ≥ 64976)))).set 39 (.bool false)).set 42 (.bool false)).set 43 (.bool false)).set 44 (.int .i64 n)).set 45 (.bool (decide (n ≥ 0)))).set 46 (.bool (decide (n ≥ 0)))), [], h, none⟩ (by kernel_rfl) ?_
                      refine WpM.guard (b := (decide (n ≥ 0))) (by kernel_rfl) (fun c15 => ?_) (fun c15 => ?_)
                      · have c15p := dec_t c15
                        refine WpM.run tab_ok 4 ⟨.ops (p21_20_14 :: o21_20.drop 15), [.seq x21_21, .blk 0, .seq x21_24], (((((((((((E25 n).set 2 (.int .i64 0)).set 36 U).set 39 (.bool false)).set 40 U).set 41 U).set 42 (.bool false)).set 50 (.bool ((IntKind.wrap .i64 (BitVec.ofInt (IntKind.bits .i64) n &&& BitVec.ofInt (IntKind.bits .i64) 65535).toNat) == 65534))).set 54 U).set 55 U).set 56 U), [], h, none⟩ (by kernel_rfl) ?_
                        refine WpM.guard (b := ((IntKind.wrap .i64 (BitVec.ofInt (IntKind.bits .i64) n &&& BitVec.ofInt (IntKind.bits .i64) 65535).toNat) == 65534)) (by kernel_rfl) (fun c16 => ?_) (fun c16 => ?_)
                        · have c16p := beq_t c16
                          have hb_c16 := and_lo (n := n) (by omega) (by omega)
                          refine WpM.run tab_ok 18 ⟨.done .ret, [], (((((E25 n).set 39 (.bool false)).set 40 U).set 41 U).set 42 (.bool false)), [], h, none⟩ (by kernel_rfl) ?_
                          refine WpM.ret (.int .i64 4) h (by kernel_rfl) (by kernel_rfl) ?_
                          exact ⟨rfl, _, rfl, by omega⟩
                        · have c16p := beq_f c16
                          have hb_c16 := and_lo (n := n) (by omega) (by omega)
                          refine WpM.run tab_ok 9 ⟨.code x21_21, [.blk 0, .seq x21_24], ((((((((((((((E25 n).set 2 (.int .i64 0)).set 36 (.bool ((IntKind.wrap .i64 (BitVec.ofInt (IntKind.bits .i64) n &&& BitVec.ofInt (IntKind.bits .i64) 65535).toNat) == 65535))).set 39 (.bool false)).set 40 U).set 41 U).set 42 (.bool false)).set 50 (.bool false)).set 51 (.int .i64 n)).set 52 (.int .i64 (IntKind.wrap .i64 (BitVec.ofInt (IntKind.bits .i64) n &&& BitVec.ofInt (IntKind.bits .i64) 65535).toNat))).set 53 (.bool ((IntKind.wrap .i64 (BitVec.ofInt (IntKind.bits .i64) n &&& BitVec.ofInt (IntKind.bits .i64) 65535).toNat) == 65535))).set 54 (.bool ((IntKind.wrap .i64 (BitVec.ofInt (IntKind.bits .i64) n &&& BitVec.ofInt (IntKind.bits .i64) 65535).toNat) == 65535))).set 55 (.bool ((IntKind.wrap .i64 (BitVec.ofInt (IntKind.bits .i64) n &&& BitVec.ofInt (IntKind.bits .i64) 65535).toNat) == 65535))).set 56 (.bool ((IntKind.wrap .i64 (BitVec.ofInt (IntKind.bits .i64) n &&& BitVec.ofInt (IntKind.bits .i64) 65535).toNat) == 65535))), [], h, none⟩ (by kernel_rfl) ?_
                          refine WpM.cond (t := ((IntKind.wrap .i64 (BitVec.ofInt (IntKind.bits .i64) n &&& BitVec.ofInt (IntKind.bits .i64) 65535).toNat) == 65535)) (by kernel_rfl) (fun c17 => ?_) (fun c17 => ?_)
                          · have c17p := beq_t c17
                            have hb_c17 := and_lo (n := n) (by omega) (by omega)
                            refine WpM.run tab_ok 8 ⟨.done .ret, [], (((((((((((((E25 n).set 36 (.bool ((IntKind.wrap .i64 (BitVec.ofInt (IntKind.bits .i64) n &&& BitVec.ofInt (IntKind.bits .i64) 65535).toNat) == 65535))).set 39 (.bool false)).set 40 U).set 41 U).set 42 (.bool false)).set 50 (.bool false)).set 51 (.int .i64 n)).set 52 (.int .i64 (IntKind.wrap .i64 (BitVec.ofInt (IntKind.bits .i64) n &&& BitVec.ofInt (IntKind.bits .i64) 65535).toNat))).set 53 (.bool ((IntKind.wrap .i64 (BitVec.ofInt (IntKind.bits .i64) n &&& BitVec.ofInt (IntKind.bits .i64) 65535).toNat) == 65535))).set 54 (.bool ((IntKind.wrap .i64 (BitVec.ofInt (IntKind.bits .i64) n &&& BitVec.ofInt (IntKind.bits .i64) 65535).toNat) == 65535))).set 55 (.bool ((IntKind.wrap .i64 (BitVec.ofInt (IntKind.bits .i64) n &&& BitVec.ofInt (IntKind.bits .i64) 65535).toNat) == 65535))).set 56 (.bool ((IntKind.wrap .i64 (BitVec.ofInt (IntKind.bits .i64) n &&& BitVec.ofInt (IntKind.bits .i64) 65535).toNat) == 65535))), [], h, none⟩ (by kernel_rfl) ?_
                            refine WpM.ret (.int .i64 4) h (by kernel_rfl) (by kernel_rfl) ?_
                            exact ⟨rfl, _, rfl, by omega⟩
                          · have c17p := beq_f c17
                            have hb_c17 := and_lo (n := n) (by omega) (by omega)
                            refine WpM.run tab_ok 9 ⟨.done .ret, [], ((((((((((((((E25 n).set 2 (.int .i64 0)).set 36 (.bool ((IntKind.wrap .i64 (BitVec.ofInt (IntKind.bits .i64) n &&& BitVec.ofInt (IntKind.bits .i64) 65535).toNat) == 65535))).set 39 (.bool false)).set 40 U).set 41 U).set 42 (.bool false)).set 50 (.bool false)).set 51 (.int .i64 n)).set 52 (.int .i64 (IntKind.wrap .i64 (BitVec.ofInt (IntKind.bits .i64) n &&& BitVec.ofInt (IntKind.bits .i64) 65535).toNat))).set 53 (.bool ((IntKind.wrap .i64 (BitVec.ofInt (IntKind.bits .i64) n &&& BitVec.ofInt (IntKind.bits .i64) 65535).toNat) == 65535))).set 54 (.bool ((IntKind.wrap .i64 (BitVec.ofInt (IntKind.bits .i64) n &&& BitVec.ofInt (IntKind.bits .i64) 65535).toNat) == 65535))).set 55 (.bool ((IntKind.wrap .i64 (BitVec.ofInt (IntKind.bits .i64) n &&& BitVec.ofInt (IntKind.bits .i64) 65535).toNat) == 65535))).set 56 (.bool ((IntKind.wrap .i64 (BitVec.ofInt (IntKind.bits .i64) n &&& BitVec.ofInt (IntKind.bits .i64) 65535).toNat) == 65535))), [], h, none⟩ (by kernel_rfl) ?_
                            refine WpM.ret (.int .i64 0) h (by kernel_rfl) (by kernel_rfl) ?_
                            exact ⟨rfl, _, rfl, by omega⟩
                      · have c15p := dec_f c15
                        exfalso; omega
                · have c8p := dec_f c8
                  refine WpM.run tab_ok 13 ⟨.ops (p21_20_3 :: o21_20.drop 4), [.seq x21_21, .blk 0, .seq x21_24], ((((((((((E24 n).set 21 (.bool false)).set 31 (.bool false)).set 32 U).set 33 U).set 34 (.bool false)).set 35 (.bool false)).set 37 (.int .i64 n)).set 38 (.bool (decide (n ≥ 64976)))).set 39 (.bool (decide (n ≥ 64976)))), [], h, none⟩ (by kernel_rfl) ?_
                  refine WpM.guard (b := (decide (n ≥ 64976))) (by kernel_rfl) (fun c18 => ?_) (fun c18 => ?_)
                  · have c18p := dec_t c18
                    exfalso; omega
                  · have c18p := dec_f c18
                    refine WpM.run tab_ok 7 ⟨.ops (p21_20_10 :: o21_20.drop 11), [.seq x21_21, .blk 0, .seq x21_24], (((((((((((((((E24 n).set 21 (.bool false)).set 31 (.bool false)).set 32 U).set 33 U).set 34 (.bool false)).set 35 (.bool false)).set 37 (.int .i64 n)).set 38 (.bool (decide (n ≥ 64976)))).set 39 (.bool false)).set 42 (.bool false)).set 43 (.bool false)).set 44 (.int .i64 n)).set 45 (.bool (decide (n ≥ 0)))).set 46 (.bool (decide (n ≥ 0)))), [], h, none⟩ (by kernel_rfl) ?_
                    refine WpM.guard (b := (decide (n ≥ 0))) (by kernel_rfl) (fun c19 => ?_) (fun c19 => ?_)
                    · have c19p := dec_t c19
                      refine WpM.run tab_ok 4 ⟨.ops (p21_20_14 :: o21_20.drop 15), [.seq x21_21, .blk 0, .seq x21_24], (E26 n), [], h, none⟩ (by kernel_rfl) ?_
                      refine WpM.guard (b := ((IntKind.wrap .i64 (BitVec.ofInt (IntKind.bits .i64) n &&& BitVec.ofInt (IntKind.bits .i64) 65535).toNat) == 65534)) (by kernel_rfl) (fun c20 => ?_) (fun c20 => ?_)
                      · have c20p := beq_t c20
                        have hb_c20 := and_lo (n := n) (by omega) (by omega)
                        refine WpM.run tab_ok 18 ⟨.done .ret, [], (((((((E26 n).set 2 (.int .i64 4)).set 36 (.bool true)).set 50 (.bool true)).set 54 (.bool true)).set 55 (.bool true)).set 56 (.bool true)), [], h, none⟩ (by kernel_rfl) ?_
                        refine WpM.ret (.int .i64 4) h (by kernel_rfl) (by kernel_rfl) ?_
                        exact ⟨rfl, _, rfl, by omega⟩
                      · have c20p := beq_f c20
                        have hb_c20 := and_lo (n := n) (by omega) (by omega)
                        refine WpM.run tab_ok 9 ⟨.code x21_21, [.blk 0, .seq x21_24], (((((((((E26 n).set 36 (.bool ((IntKind.wrap .i64 (BitVec.ofInt (IntKind.bits .i64) n &&& BitVec.ofInt (IntKind.bits .i64) 65535).toNat) == 65535))).set 50 (.bool false)).set 51 (.int .i64 n)).set 52 (.int .i64 (IntKind.wrap .i64 (BitVec.ofInt (IntKind.bits .i64) n &&& BitVec.ofInt (IntKind.bits .i64) 65535).toNat))).set 53 (.bool ((IntKind.wrap .i64 (BitVec.ofInt (IntKind.bits .i64) n &&& BitVec.ofInt (IntKind.bits .i64) 65535).toNat) == 65535))).set 54 (.bool ((IntKind.wrap .i64 (BitVec.ofInt (IntKind.bits .i64) n &&& BitVec.ofInt (IntKind.bits .i64) 65535).toNat) == 65535))).set 55 (.bool ((IntKind.wrap .i64 (BitVec.ofInt (IntKind.bits .i64) n &&& BitVec.ofInt (IntKind.bits .i64) 65535).toNat) == 65535))).set 56 (.bool ((IntKind.wrap .i64 (BitVec.ofInt (IntKind.bits .i64) n &&& BitVec.ofInt (IntKind.bits .i64) 65535).toNat) == 65535))), [], h, none⟩ (by kernel_rfl) ?_
                        refine WpM.cond (t := ((IntKind.wrap .i64 (BitVec.ofInt (IntKind.bits .i64) n &&& BitVec.ofInt (IntKind.bits .i64) 65535).toNat) == 65535)) (by kernel_rfl) (fun c21 => ?_) (fun c21 => ?_)
                        · have c21p := beq_t c21
                          have hb_c21 := and_lo (n := n) (by omega) (by omega)
                          refine WpM.run tab_ok 8 ⟨.done .ret, [], ((((((((((E26 n).set 2 (.int .i64 4)).set 36 (.bool ((IntKind.wrap .i64 (BitVec.ofInt (IntKind.bits .i64) n &&& BitVec.ofInt (IntKind.bits .i64) 65535).toNat) == 65535))).set 50 (.bool false)).set 51 (.int .i64 n)).set 52 (.int .i64 (IntKind.wrap .i64 (BitVec.ofInt (IntKind.bits .i64) n &&& BitVec.ofInt (IntKind.bits .i64) 65535).toNat))).set 53 (.bool ((IntKind.wrap .i64 (BitVec.ofInt (IntKind.bits .i64) n &&& BitVec.ofInt (IntKind.bits .i64) 65535).toNat) == 65535))).set 54 (.bool ((IntKind.wrap .i64 (BitVec.ofInt (IntKind.bits .i64) n &&& BitVec.ofInt (IntKind.bits .i64) 65535).toNat) == 65535))).set 55 (.bool ((IntKind.wrap .i64 (BitVec.ofInt (IntKind.bits .i64) n &&& BitVec.ofInt (IntKind.bits .i64) 65535).toNat) == 65535))).set 56 (.bool ((IntKind.wrap .i64 (BitVec.ofInt (IntKind.bits .i64) n &&& BitVec.ofInt (IntKind.bits .i64) 65535).toNat) == 65535))), [], h, none⟩ (by kernel_rfl) ?_
                          refine WpM.ret (.int .i64 4) h (by kernel_rfl) (by kernel_rfl) ?_
                          exact ⟨rfl, _, rfl, by omega⟩
                        · have c21p := beq_f c21
                          have hb_c21 := and_lo (n := n) (by omega) (by omega)
                          refine WpM.run tab_ok 9 ⟨.done .ret, [], (((((((((E26 n).set 36 (.bool ((IntKind.wrap .i64 (BitVec.ofInt (IntKind.bits .i64) n &&& BitVec.ofInt (IntKind.bits .i64) 65535).toNat) == 65535))).set 50 (.bool false)).set 51 (.int .i64 n)).set 52 (.int .i64 (IntKind.wrap .i64 (BitVec.ofInt (IntKind.bits .i64) n &&& BitVec.ofInt (IntKind.bits .i64) 65535).toNat))).set 53 (.bool ((IntKind.wrap .i64 (BitVec.ofInt (IntKind.bits .i64) n &&& BitVec.ofInt (IntKind.bits .i64) 65535).toNat) == 65535))).set 54 (.bool ((IntKind.wrap .i64 (BitVec.ofInt (IntKind.bits .i64) n &&& BitVec.ofInt (IntKind.bits .i64) 65535).toNat) == 65535))).set 55 (.bool ((IntKind.wrap .i64 (BitVec.ofInt (IntKind.bits .i64) n &&& BitVec.ofInt (IntKind.bits .i64) 65535).toNat) == 65535))).set 56 (.bool ((IntKind.wrap .i64 (BitVec.ofInt (IntKind.bits .i64) n &&& BitVec.ofInt (IntKind.bits .i64) 65535).toNat) == 65535))), [], h, none⟩ (by kernel_rfl) ?_
                          refine WpM.ret (.int .i64 0) h (by kernel_rfl) (by kernel_rfl) ?_
                          exact ⟨rfl, _, rfl, by omega⟩
                    · have c19p := dec_f c19
                      exfalso; omega
            · have c6p := dec_f c6
              refine WpM.run tab_ok 7 ⟨.ops (p21_15_10 :: o21_15.drop 11), [.seq x21_16, .blk 0, .seq x21_24], (((((((((E23 n).set 22 (.int .i64 n)).set 23 (.bool (decide (n ≥ 1)))).set 24 (.bool false)).set 27 (.bool false)).set 28 (.bool false)).set 29 (.int .i64 n)).set 30 (.bool (decide (n ≥ 127)))).set 31 (.bool (decide (n ≥ 127)))), [], h, none⟩ (by kernel_rfl) ?_
              refine WpM.guard (b := (decide (n ≥ 127))) (by kernel_rfl) (fun c22 => ?_) (fun c22 => ?_)
              · have c22p := dec_t c22
                exfalso; omega
              · have c22p := dec_f c22
                refine WpM.run tab_ok 13 ⟨.ops (p21_20_3 :: o21_20.drop 4), [.seq x21_21, .blk 0, .seq x21_24], ((((((((((((((E24 n).set 21 (.bool false)).set 24 (.bool false)).set 25 U).set 26 U).set 27 (.bool false)).set 31 (.bool false)).set 32 U).set 33 U).set 34 (.bool false)).set 35 (.bool false)).set 37 (.int .i64 n)).set 38 (.bool (decide (n ≥ 64976)))).set 39 (.bool (decide (n ≥ 64976)))), [], h, none⟩ (by kernel_rfl) ?_
                refine WpM.guard (b := (decide (n ≥ 64976))) (by kernel_rfl) (fun c23 => ?_) (fun c23 => ?_)
                · have c23p := dec_t c23
                  exfalso; omega
                · have c23p := dec_f c23
                  refine WpM.run tab_ok 7 ⟨.ops (p21_20_10 :: o21_20.drop 11), [.seq x21_21, .blk 0, .seq x21_24], ((((((((((E26 n).set 24 (.bool false)).set 25 U).set 26 U).set 27 (.bool false)).set 46 (.bool (decide (n ≥ 0)))).set 47 U).set 48 U).set 49 U).set 50 U), [], h, none⟩ (by kernel_rfl) ?_
                  refine WpM.guard (b := (decide (n ≥ 0))) (by kernel_rfl) (fun c24 => ?_) (fun c24 => ?_)
                  · have c24p := dec_t c24
                    refine WpM.run tab_ok 4 ⟨.ops (p21_20_14 :: o21_20.drop 15), [.seq x21_21, .blk 0, .seq x21_24], (((((E26 n).set 24 (.bool false)).set 25 U).set 26 U).set 27 (.bool false)), [], h, none⟩ (by kernel_rfl) ?_
                    refine WpM.guard (b := ((IntKind.wrap .i64 (BitVec.ofInt (IntKind.bits .i64) n &&& BitVec.ofInt (IntKind.bits .i64) 65535).toNat) == 65534)) (by kernel_rfl) (fun c25 => ?_) (fun c25 => ?_)
                    · have c25p := beq_t c25
                      have hb_c25 := and_lo (n := n) (by omega) (by omega)
                      refine WpM.run tab_ok 18 ⟨.done .ret, [], (((((((((((E26 n).set 2 (.int .i64 4)).set 24 (.bool false)).set 25 U).set 26 U).set 27 (.bool false)).set 36 (.bool true)).set 50 (.bool true)).set 54 (.bool true)).set 55 (.bool true)).set 56 (.bool true)), [], h, none⟩ (by kernel_rfl) ?_
                      refine WpM.ret (.int .i64 4) h (by kernel_rfl) (by kernel_rfl) ?_
                      exact ⟨rfl, _, rfl, by omega⟩
                    · have c25p := beq_f c25
                      have hb_c25 := and_lo (n := n) (by omega) (by omega)
                      refine WpM.run tab_ok 9 ⟨.code x21_21, [.blk 0, .seq x21_24], (((((((((((((E26 n).set 24 (.bool false)).set 25 U).set 26 U).set 27 (.bool false)).set 36 (.bool ((IntKind.wrap .i64 (BitVec.ofInt (IntKind.bits .i64) n &&& BitVec.ofInt (IntKind.bits .i64) 65535).toNat) == 65535))).set 50 (.bool false)).set 51 (.int .i64 n)).set 52 (.int .i64 (IntKind.wrap .i64 (BitVec.ofInt (IntKind.bits .i64) n &&& BitVec.ofInt (IntKind.bits .i64) 65535).toNat))).set 53 (.bool ((IntKind.wrap .i64 (BitVec.ofInt (IntKind.bits .i64) n &&& BitVec.ofInt (IntKind.bits .i64) 65535).toNat) == 65535))).set 54 (.bool ((IntKind.wrap .i64 (BitVec.ofInt (IntKind.bits .i64) n &&& BitVec.ofInt (IntKind.bits .i64) 65535).toNat) == 65535))).set 55 (.bool ((IntKind.wrap .i64 (BitVec.ofInt (IntKind.bits .i64) n &&& BitVec.ofInt (IntKind.bits .i64) 65535).toNat) == 65535))).set 56 (.bool ((IntKind.wrap .i64 (BitVec.ofInt (IntKind.bits .i64) n &&& BitVec.ofInt (IntKind.bits .i64) 65535).toNat) == 65535))), [], h, none⟩ (by kernel_rfl) ?_
                      refine WpM.cond (t := ((IntKind.wrap .i64 (BitVec.ofInt (IntKind.bits .i64) n &&& BitVec.ofInt (IntKind.bits .i64) 65535).toNat) == 65535)) (by kernel_rfl) (fun c26 => ?_) (fun c26 => ?_)
                      · have c26p := beq_t c26
                        have hb_c26 := and_lo (n := n) (by omega) (by omega)
                        refine WpM.run tab_ok 8 ⟨.done .ret, [], ((((((((((((((E26 n).set 2 (.int .i64 4)).set 24 (.bool false)).set 25 U).set 26 U).set 27 (.bool false)).set 36 (.bool ((IntKind.wrap .i64 (BitVec.ofInt (IntKind.bits .i64) n &&& BitVec.ofInt (IntKind.bits .i64) 65535).toNat) == 65535))).set 50 (.bool false)).set 51 (.int .i64 n)).set 52 (.int .i64 (IntKind.wrap .i64 (BitVec.ofInt (IntKind.bits .i64) n &&& BitVec.ofInt (IntKind.bits .i64) 65535).toNat))).set 53 (.bool ((IntKind.wrap .i64 (BitVec.ofInt (IntKind.bits .i64) n &&& BitVec.ofInt (IntKind.bits .i64) 65535).toNat) == 65535))).set 54 (.bool ((IntKind.wrap .i64 (BitVec.ofInt (IntKind.bits .i64) n &&& BitVec.ofInt (IntKind.bits .i64) 65535).toNat) == 65535))).set 55 (.bool ((IntKind.wrap .i64 (BitVec.ofInt (IntKind.bits .i64) n &&& BitVec.ofInt (IntKind.bits .i64) 65535).toNat) == 65535))).set 56 (.bool ((IntKind.wrap .i64 (BitVec.ofInt (IntKind.bits .i64) n &&& BitVec.ofInt (IntKind.bits .i64) 65535).toNat) == 65535))), [], h, none⟩ (by kernel_rfl) ?_
                        refine WpM.ret (.int .i64 4) h (by kernel_rfl) (by kernel_rfl) ?_
                        exact ⟨rfl, _, rfl, by omega⟩
                      · have c26p := beq_f c26
                        have hb_c26 := and_lo (n := n) (by omega) (by omega)
                        refine WpM.run tab_ok 9 ⟨.done .ret, [], (((((((((((((E26 n).set 24 (.bool false)).set 25 U).set 26 U).set 27 (.bool false)).set 36 (.bool ((IntKind.wrap .i64 (BitVec.ofInt (IntKind.bits .i64) n &&& BitVec.ofInt (IntKind.bits .i64) 65535).toNat) == 65535))).set 50 (.bool false)).set 51 (.int .i64 n)).set 52 (.int .i64 (IntKind.wrap .i64 (BitVec.ofInt (IntKind.bits .i64) n &&& BitVec.ofInt (IntKind.bits .i64) 65535).toNat))).set 53 (.bool ((IntKind.wrap .i64 (BitVec.ofInt (IntKind.bits .i64) n &&& BitVec.ofInt (IntKind.bits .i64) 65535).toNat) == 65535))).set 54 (.bool ((IntKind.wrap .i64 (BitVec.ofInt (IntKind.bits .i64) n &&& BitVec.ofInt (IntKind.bits .i64) 65535).toNat) == 65535))).set 55 (.bool ((IntKind.wrap .i64 (BitVec.ofInt (IntKind.bits .i64) n &&& BitVec.ofInt (IntKind.bits .i64) 65535).toNat) == 65535))).set 56 (.bool ((IntKind.wrap .i64 (BitVec.ofInt (IntKind.bits .i64) n &&& BitVec.ofInt (IntKind.bits .i64) 65535).toNat) == 65535))), [], h, none⟩ (by kernel_rfl) ?_
                        refine WpM.ret (.int .i64 0) h (by kernel_rfl) (by kernel_rfl) ?_
                        exact ⟨rfl, _, rfl, by omega⟩
                  · have c24p := dec_f c24
                    refine WpM.run tab_ok 23 ⟨.done .ret, [], (((((((((((((E26 n).set 24 (.bool false)).set 25 U).set 26 U).set 27 (.bool false)).set 36 (.bool false)).set 46 (.bool false)).set 47 U).set 48 U).set 49 U).set 50 U).set 55 (.bool false)).set 56 (.bool false)), [], h, none⟩ (by kernel_rfl) ?_
                    refine WpM.ret (.int .i64 0) h (by kernel_rfl) (by kernel_rfl) ?_
                    exact ⟨rfl, _, rfl, by omega⟩
theorem rnum_ok {W : World} {n : Int} (h : H) : WpF Tryd.prog W prim2 9 [.int .i64 n] h (fun v h' => HX h h' ∧ v = .tup [.int .i64 (numV n), .int .i64 (numF n)]) := by
  refine WpF.m tab_ok (by kernel_rfl) rfl ?_
  refine WpM.cfg (c' := ⟨.code x9_0, [], (.int .i64 n :: us 32), [], h, none⟩) (by kernel_rfl) ?_
  refine WpM.run tab_ok 12 ⟨.ops (p9_4_3 :: o9_4.drop 4), [.seq x9_5, .seq x9_8], (.int .i64 n :: U :: .int .i64 0 :: .int .i64 0 :: U :: .int .i64 n :: .bool (decide (n ≤ 0)) :: .bool (decide (n ≤ 0)) :: us 25), [], h, none⟩ (by kernel_rfl) ?_
  refine WpM.guard (b := (decide (n ≤ 0))) (by kernel_rfl) (fun c1 => ?_) (fun c1 => ?_)
  · have c1p := dec_t c1
    refine WpM.run tab_ok 15 ⟨.done .ret, [], (.int .i64 n :: U :: .int .i64 65533 :: .int .i64 20 :: U :: .int .i64 n :: .bool (decide (n ≤ 0)) :: .bool true :: U :: U :: U :: .bool true :: us 21), [], h, none⟩ (by kernel_rfl) ?_
    refine WpM.ret (.tup [.int .i64 65533, .int .i64 20]) h (by kernel_rfl) (by kernel_rfl) ?_
    exact ⟨(HX.refl h), by rw [numV_odd (by omega), numF_bad (by omega)]⟩
  · have c1p := dec_f c1
    refine WpM.run tab_ok 1 ⟨.ops (p9_4_4 :: o9_4.drop 5), [.seq x9_5, .seq x9_8], (.int .i64 n :: U :: .int .i64 0 :: .int .i64 0 :: U :: .int .i64 n :: .bool (decide (n ≤ 0)) :: .bool false :: .int .i64 n :: us 24), [], h, none⟩ (by kernel_rfl) ?_
    refine WpM.call 20 [.int .i64 n] (by kernel_rfl) (by kernel_rfl) ?_
    refine WpF.mono may_ok ?_
    rintro _ _ ⟨rfl, rfl⟩
    refine WpM.run tab_ok 4 ⟨.code x9_5, [.seq x9_8], (.int .i64 n :: U :: .int .i64 0 :: .int .i64 0 :: U :: .int .i64 n :: .bool (decide (n ≤ 0)) :: .bool false :: .int .i64 n :: .bool (mayB n) :: .bool (!(mayB n)) :: .bool (!(mayB n)) :: us 21), [], h, none⟩ (by kernel_rfl) ?_
    refine WpM.cond (t := (!(mayB n))) (by kernel_rfl) (fun c2 => ?_) (fun c2 => ?_)
    · have c2p := not_t c2
      have hb_c2 := mayB_f (not_t c2)
      refine WpM.run tab_ok 8 ⟨.done .ret, [], (.int .i64 n :: U :: .int .i64 65533 :: .int .i64 20 :: U :: .int .i64 n :: .bool (decide (n ≤ 0)) :: .bool false :: .int .i64 n :: .bool (mayB n) :: .bool (!(mayB n)) :: .bool (!(mayB n)) :: us 21), [], h, none⟩ (by kernel_rfl) ?_
      refine WpM.ret (.tup [.int .i64 65533, .int .i64 20]) h (by kernel_rfl) (by kernel_rfl) ?_
      exact ⟨(HX.refl h), by rw [numV_odd (by omega), numF_bad (by omega)]⟩
    · have c2p := not_f c2
      have hb_c2 := mayB_t (not_f c2)
      refine WpM.run tab_ok 8 ⟨.ops (p9_10_3 :: o9_10.drop 4), [.seq x9_11, .seq x9_16], (.int .i64 n :: U :: .int .i64 0 :: .int .i64 0 :: U :: .int .i64 n :: .bool (decide (n ≤ 0)) :: .bool false :: .int .i64 n :: .bool (mayB n) :: .bool (!(mayB n)) :: .bool (!(mayB n)) :: .int .i64 n :: .bool (decide (n ≥ 128)) :: .bool (decide (n ≥ 128)) :: us 18), [], h, none⟩ (by kernel_rfl) ?_
      refine WpM.guard (b := (decide (n ≥ 128))) (by kernel_rfl) (fun c3 => ?_) (fun c3 => ?_)
      · have c3p := dec_t c3
        refine WpM.run tab_ok 5 ⟨.code x9_11, [.seq x9_16], (.int .i64 n :: U :: .int .i64 0 :: .int .i64 0 :: U :: .int .i64 n :: .bool (decide (n ≤ 0)) :: .bool false :: .int .i64 n :: .bool (mayB n) :: .bool (!(mayB n)) :: .bool (!(mayB n)) :: .int .i64 n :: .bool (decide (n ≥ 128)) :: .bool true :: .int .i64 n :: .bool (decide (n ≤ 159)) :: .bool (decide (n ≤ 159)) :: us 15), [], h, none⟩ (by kernel_rfl) ?_
        refine WpM.cond (t := (decide (n ≤ 159))) (by kernel_rfl) (fun c4 => ?_) (fun c4 => ?_)
        · have c4p := dec_t c4
          refine WpM.run tab_ok 2 ⟨.ops (p9_13_0 :: o9_13.drop 1), [.seq x9_14, .seq x9_16], (.int .i64 n :: U :: .int .i64 0 :: .int .i64 0 :: U :: .int .i64 n :: .bool (decide (n ≤ 0)) :: .bool false :: .int .i64 n :: .bool (mayB n) :: .bool (!(mayB n)) :: .bool (!(mayB n)) :: .int .i64 n :: .bool (decide (n ≥ 128)) :: .bool true :: .int .i64 n :: .bool (decide (n ≤ 159)) :: .bool (decide (n ≤ 159)) :: us 15), [], h, none⟩ (by kernel_rfl) ?_
          refine WpM.opA (fun p => .slice (some (.new p 0)) 32 32 true) (.cells (rv (fun x => [.int .i64 x]) C1) 3) (by kernel_rfl) (by kernel_rfl) (fun p5 h6 a7 => ?_)
          refine WpM.run tab_ok 7 ⟨.ops (p9_15_2 :: o9_15.drop 3), [.seq .ret, .seq x9_16], (.int .i64 n :: U :: .int .i64 0 :: .int .i64 0 :: .slice (some (.new p5 0)) 32 32 true :: .int .i64 n :: .bool (decide (n ≤ 0)) :: .bool false :: .int .i64 n :: .bool (mayB n) :: .bool (!(mayB n)) :: .bool (!(mayB n)) :: .int .i64 n :: .bool (decide (n ≥ 128)) :: .bool true :: .int .i64 n :: .bool (decide (n ≤ 159)) :: .bool (decide (n ≤ 159)) :: .slice (some (.new p5 0)) 32 32 true :: .slice (some (.new p5 0)) 32 32 true :: .int .i64 n :: us 12), [], h6, none⟩ (by kernel_rfl) ?_
          refine WpM.op (.int .i64 (n - 128)) _ (by kernel_rfl) (arith_sub (by kernel_rfl) (by kernel_rfl) (by first | omega | (have c1l : C1.length = 32 := rfl; have := c1_range (n - 128); omega))) ?_
          refine WpM.run tab_ok 0 ⟨.ops (p9_15_3 :: o9_15.drop 4), [.seq .ret, .seq x9_16], (.int .i64 n :: U :: .int .i64 0 :: .int .i64 0 :: .slice (some (.new p5 0)) 32 32 true :: .int .i64 n :: .bool (decide (n ≤ 0)) :: .bool false :: .int .i64 n :: .bool (mayB n) :: .bool (!(mayB n)) :: .bool (!(mayB n)) :: .int .i64 n :: .bool (decide (n ≥ 128)) :: .bool true :: .int .i64 n :: .bool (decide (n ≤ 159)) :: .bool (decide (n ≤ 159)) :: .slice (some (.new p5 0)) 32 32 true :: .slice (some (.new p5 0)) 32 32 true :: .int .i64 n :: .int .i64 (n - 128) :: us 11), [], h6, none⟩ (by kernel_rfl) ?_
          refine WpM.op (.ptr (some (.new p5 (0 + (n - 128).toNat * 1)))) _ (by kernel_rfl) (indexAddr_sl (e := 3) (a := (.new p5 0)) (len := 32) (lb := 32) (ex := true) (z := 1) (k := .i64) (n := (n - 128)) (by kernel_rfl) (by kernel_rfl) (by kernel_rfl) (by kernel_rfl) (by first | omega | (have c1l : C1.length = 32 := rfl; have := c1_range (n - 128); omega))) ?_
          refine WpM.run tab_ok 0 ⟨.ops (p9_15_4 :: o9_15.drop 5), [.seq .ret, .seq x9_16], (.int .i64 n :: U :: .int .i64 0 :: .int .i64 0 :: .slice (some (.new p5 0)) 32 32 true :: .int .i64 n :: .bool (decide (n ≤ 0)) :: .bool false :: .int .i64 n :: .bool (mayB n) :: .bool (!(mayB n)) :: .bool (!(mayB n)) :: .int .i64 n :: .bool (decide (n ≥ 128)) :: .bool true :: .int .i64 n :: .bool (decide (n ≤ 159)) :: .bool (decide (n ≤ 159)) :: .slice (some (.new p5 0)) 32 32 true :: .slice (some (.new p5 0)) 32 32 true :: .int .i64 n :: .int .i64 (n - 128) :: .ptr (some (.new p5 (0 + (n - 128).toNat * 1))) :: us 10), [], h6, none⟩ (by kernel_rfl) ?_
          refine WpM.op (.int .i64 ((gt C1 (n - 128)))) _ (by kernel_rfl) (load_new (o := (0 + (n - 128).toNat * 1)) (by kernel_rfl) a7.get (rv_ld (z := 1) (f := (fun x => [.int .i64 x])) (fun _ => rfl) (i := (n - 128)) (by first | omega | (have c1l : C1.length = 32 := rfl; have := c1_range (n - 128); omega)) (off := 0) (by kernel_rfl) (by decide) (by kernel_rfl) (by first | omega | (have c1l : C1.length = 32 := rfl; have := c1_range (n - 128); omega)))) ?_
          refine WpM.run tab_ok 6 ⟨.done .ret, [], (.int .i64 n :: U :: .int .i64 ((gt C1 (n - 128))) :: .int .i64 20 :: .slice (some (.new p5 0)) 32 32 true :: .int .i64 n :: .bool (decide (n ≤ 0)) :: .bool false :: .int .i64 n :: .bool (mayB n) :: .bool (!(mayB n)) :: .bool (!(mayB n)) :: .int .i64 n :: .bool (decide (n ≥ 128)) :: .bool true :: .int .i64 n :: .bool (decide (n ≤ 159)) :: .bool (decide (n ≤ 159)) :: .slice (some (.new p5 0)) 32 32 true :: .slice (some (.new p5 0)) 32 32 true :: .int .i64 n :: .int .i64 (n - 128) :: .ptr (some (.new p5 (0 + (n - 128).toNat * 1))) :: .int .i64 ((gt C1 (n - 128))) :: us 9), [], h6, none⟩ (by kernel_rfl) ?_
          refine WpM.ret (.tup [.int .i64 ((gt C1 (n - 128))), .int .i64 20]) h6 (by kernel_rfl) (by kernel_rfl) ?_
          exact ⟨((HX.refl h).alloc a7), by rw [numV_c1 (by omega), numF_bad (by omega)]⟩
        · have c4p := dec_f c4
          refine WpM.run tab_ok 6 ⟨.ops (p9_18_1 :: o9_18.drop 2), [.seq x9_19, .seq x9_22], (.int .i64 n :: U :: .int .i64 0 :: .int .i64 0 :: U :: .int .i64 n :: .bool (decide (n ≤ 0)) :: .bool false :: .int .i64 n :: .bool (mayB n) :: .bool (!(mayB n)) :: .bool (!(mayB n)) :: .int .i64 n :: .bool (decide (n ≥ 128)) :: .bool true :: .int .i64 n :: .bool (decide (n ≤ 159)) :: .bool (decide (n ≤ 159)) :: U :: U :: U :: U :: U :: U :: .int .i64 n :: us 8), [], h, none⟩ (by kernel_rfl) ?_
          refine WpM.call 21 [.int .i64 n] (by kernel_rfl) (by kernel_rfl) ?_
          refine WpF.mono (bad_ok (by omega)) ?_
          rintro _ _ ⟨rfl, zb, rfl, hzb⟩
          refine WpM.run tab_ok 2 ⟨.ops (p9_18_4 :: o9_18.drop 5), [.seq x9_19, .seq x9_22], (.int .i64 n :: U :: .int .i64 0 :: .int .i64 0 :: U :: .int .i64 n :: .bool (decide (n ≤ 0)) :: .bool false :: .int .i64 n :: .bool (mayB n) :: .bool (!(mayB n)) :: .bool (!(mayB n)) :: .int .i64 n :: .bool (decide (n ≥ 128)) :: .bool true :: .int .i64 n :: .bool (decide (n ≤ 159)) :: .bool (decide (n ≤ 159)) :: U :: U :: U :: U :: U :: U :: .int .i64 n :: .int .i64 zb :: .bool (!(zb == 0)) :: .bool (!(zb == 0)) :: us 5), [], h, none⟩ (by kernel_rfl) ?_
          refine WpM.guard (b := (!(zb == 0))) (by kernel_rfl) (fun c8 => ?_) (fun c8 => ?_)
          · have c8p := nbeq_t c8
            refine WpM.run tab_ok 15 ⟨.done .ret, [], (.int .i64 n :: U :: .int .i64 n :: .int .i64 20 :: U :: .int .i64 n :: .bool (decide (n ≤ 0)) :: .bool false :: .int .i64 n :: .bool (mayB n) :: .bool (!(mayB n)) :: .bool (!(mayB n)) :: .int .i64 n :: .bool (decide (n ≥ 128)) :: .bool true :: .int .i64 n :: .bool (decide (n ≤ 159)) :: .bool (decide (n ≤ 159)) :: U :: U :: U :: U :: U :: U :: .int .i64 n :: .int .i64 zb :: .bool (!(zb == 0)) :: .bool true :: U :: U :: .bool true :: .int .i64 n :: U :: []), [], h, none⟩ (by kernel_rfl) ?_
            refine WpM.ret (.tup [.int .i64 n, .int .i64 20]) h (by kernel_rfl) (by kernel_rfl) ?_
            exact ⟨(HX.refl h), by rw [numV_id (by omega) (by omega), numF_bad (by omega)]⟩
          · have c8p := nbeq_f c8
            refine WpM.run tab_ok 5 ⟨.code x9_19, [.seq x9_22], (.int .i64 n :: U :: .int .i64 0 :: .int .i64 0 :: U :: .int .i64 n :: .bool (decide (n ≤ 0)) :: .bool false :: .int .i64 n :: .bool (mayB n) :: .bool (!(mayB n)) :: .bool (!(mayB n)) :: .int .i64 n :: .bool (decide (n ≥ 128)) :: .bool true :: .int .i64 n :: .bool (decide (n ≤ 159)) :: .bool (decide (n ≤ 159)) :: U :: U :: U :: U :: U :: U :: .int .i64 n :: .int .i64 zb :: .bool (!(zb == 0)) :: .bool false :: .int .i64 n :: .bool (n == 13) :: .bool (n == 13) :: U :: U :: []), [], h, none⟩ (by kernel_rfl) ?_
            refine WpM.cond (t := (n == 13)) (by kernel_rfl) (fun c9 => ?_) (fun c9 => ?_)
            · have c9p := beq_t c9
              exfalso; omega
            · have c9p := beq_f c9
              refine WpM.run tab_ok 10 ⟨.done .ret, [], (.int .i64 n :: U :: .int .i64 n :: .int .i64 0 :: U :: .int .i64 n :: .bool (decide (n ≤ 0)) :: .bool false :: .int .i64 n :: .bool (mayB n) :: .bool (!(mayB n)) :: .bool (!(mayB n)) :: .int .i64 n :: .bool (decide (n ≥ 128)) :: .bool true :: .int .i64 n :: .bool (decide (n ≤ 159)) :: .bool (decide (n ≤ 159)) :: U :: U :: U :: U :: U :: U :: .int .i64 n :: .int .i64 zb :: .bool (!(zb == 0)) :: .bool false :: .int .i64 n :: .bool (n == 13) :: .bool (n == 13) :: U :: .int .i64 n :: []), [], h, none⟩ (by kernel_rfl) ?_
              refine WpM.ret (.tup [.int .i64 n, .int .i64 0]) h (by kernel_rfl) (by kernel_rfl) ?_
              exact ⟨(HX.refl h), by rw [numV_id (by omega) (by omega), numF_good (by omega)]⟩
      · have c3p := dec_f c3
        refine WpM.run tab_ok 12 ⟨.ops (p9_18_1 :: o9_18.drop 2), [.seq x9_19, .seq x9_22], (.int .i64 n :: U :: .int .i64 0 :: .int .i64 0 :: U :: .int .i64 n :: .bool (decide (n ≤ 0)) :: .bool false :: .int .i64 n :: .bool (mayB n) :: .bool (!(mayB n)) :: .bool (!(mayB n)) :: .int .i64 n :: .bool (decide (n ≥ 128)) :: .bool false :: U :: U :: .bool false :: U :: U :: U :: U :: U :: U :: .int .i64 n :: us 8), [], h, none⟩ (by kernel_rfl) ?_
        refine WpM.call 21 [.int .i64 n] (by kernel_rfl) (by kernel_rfl) ?_
        refine WpF.mono (bad_ok (by omega)) ?_
        rintro _ _ ⟨rfl, zb, rfl, hzb⟩
        refine WpM.run tab_ok 2 ⟨.ops (p9_18_4 :: o9_18.drop 5), [.seq x9_19, .seq x9_22], (.int .i64 n :: U :: .int .i64 0 :: .int .i64 0 :: U :: .int .i64 n :: .bool (decide (n ≤ 0)) :: .bool false :: .int .i64 n :: .bool (mayB n) :: .bool (!(mayB n)) :: .bool (!(mayB n)) :: .int .i64 n :: .bool (decide (n ≥ 128)) :: .bool false :: U :: U :: .bool false :: U :: U :: U :: U :: U :: U :: .int .i64 n :: .int .i64 zb :: .bool (!(zb == 0)) :: .bool (!(zb == 0)) :: us 5), [], h, none⟩ (by kernel_rfl) ?_
        refine WpM.guard (b := (!(zb == 0))) (by kernel_rfl) (fun c10 => ?_) (fun c10 => ?_)
        · have c10p := nbeq_t c10
          refine WpM.run tab_ok 15 ⟨.done .ret, [], (.int .i64 n :: U :: .int .i64 n :: .int .i64 20 :: U :: .int .i64 n :: .bool (decide (n ≤ 0)) :: .bool false :: .int .i64 n :: .bool (mayB n) :: .bool (!(mayB n)) :: .bool (!(mayB n)) :: .int .i64 n :: .bool (decide (n ≥ 128)) :: .bool false :: U :: U :: .bool false :: U :: U :: U :: U :: U :: U :: .int .i64 n :: .int .i64 zb :: .bool (!(zb == 0)) :: .bool true :: U :: U :: .bool true :: .int .i64 n :: U :: []), [], h, none⟩ (by kernel_rfl) ?_
          refine WpM.ret (.tup [.int .i64 n, .int .i64 20]) h (by kernel_rfl) (by kernel_rfl) ?_
          exact ⟨(HX.refl h), by rw [numV_id (by omega) (by omega), numF_bad (by omega)]⟩
        · have c10p := nbeq_f c10
          refine WpM.run tab_ok 5 ⟨.code x9_19, [.seq x9_22], (.int .i64 n :: U :: .int .i64 0 :: .int .i64 0 :: U :: .int .i64 n :: .bool (decide (n ≤ 0)) :: .bool false :: .int .i64 n :: .bool (mayB n) :: .bool (!(mayB n)) :: .bool (!(mayB n)) :: .int .i64 n :: .bool (decide (n ≥ 128)) :: .bool false :: U :: U :: .bool false :: U :: U :: U :: U :: U :: U :: .int .i64 n :: .int .i64 zb :: .bool (!(zb == 0)) :: .bool false :: .int .i64 n :: .bool (n == 13) :: .bool (n == 13) :: U :: U :: []), [], h, none⟩ (by kernel_rfl) ?_
          refine WpM.cond (t := (n == 13)) (by kernel_rfl) (fun c11 => ?_) (fun c11 => ?_)
          · have c11p := beq_t c11
            refine WpM.run tab_ok 9 ⟨.done .ret, [], (.int .i64 n :: U :: .int .i64 n :: .int .i64 20 :: U :: .int .i64 n :: .bool (decide (n ≤ 0)) :: .bool false :: .int .i64 n :: .bool (mayB n) :: .bool (!(mayB n)) :: .bool (!(mayB n)) :: .int .i64 n :: .bool (decide (n ≥ 128)) :: .bool false :: U :: U :: .bool false :: U :: U :: U :: U :: U :: U :: .int .i64 n :: .int .i64 zb :: .bool (!(zb == 0)) :: .bool false :: .int .i64 n :: .bool (n == 13) :: .bool (n == 13) :: .int .i64 n :: U :: []), [], h, none⟩ (by kernel_rfl) ?_
            refine WpM.ret (.tup [.int .i64 n, .int .i64 20]) h (by kernel_rfl) (by kernel_rfl) ?_
            exact ⟨(HX.refl h), by rw [numV_id (by omega) (by omega), numF_bad (by omega)]⟩
          · have c11p := beq_f c11
            refine WpM.run tab_ok 10 ⟨.done .ret, [], (.int .i64 n :: U :: .int .i64 n :: .int .i64 0 :: U :: .int .i64 n :: .bool (decide (n ≤ 0)) :: .bool false :: .int .i64 n :: .bool (mayB n) :: .bool (!(mayB n)) :: .bool (!(mayB n)) :: .int .i64 n :: .bool (decide (n ≥ 128)) :: .bool false :: U :: U :: .bool false :: U :: U :: U :: U :: U :: U :: .int .i64 n :: .int .i64 zb :: .bool (!(zb == 0)) :: .bool false :: .int .i64 n :: .bool (n == 13) :: .bool (n == 13) :: U :: .int .i64 n :: []), [], h, none⟩ (by kernel_rfl) ?_
            refine WpM.ret (.tup [.int .i64 n, .int .i64 0]) h (by kernel_rfl) (by kernel_rfl) ?_
            exact ⟨(HX.refl h), by rw [numV_id (by omega) (by omega), numF_good (by omega)]⟩
end Go.Proofs.YtkhjmgchlbnkjaaDoor.Dg
