/-
 The longest name, either way; what a reference says.
-/
import Derived.Test.YtkhjmgchlbnkjaaDoorG0
set_option linter.unusedVariables false
set_option linter.unusedSimpArgs false
namespace Go.Proofs.YtkhjmgchlbnkjaaDoor.Dg
open Go Go.RowKit
set_option maxRecDepth 20000
set_option maxHeartbeats 8000000
def Best (l : List T74) (t : Wrd) (m : Nat) (a : Int × Int) : Prop :=
 (a = (0, 0) ∧ ∀ x ∈ l, x.fName <+: t → ¬ x.fName.length ≤ m) ∨ (∃ x ∈ l, x.fName <+: t ∧ x.fName.length ≤ m ∧ a = (x.fR, (x.fName.length : Int)) ∧ ∀ y ∈ l, y.fName <+: t → y.fName.length ≤ m → y.fName.length ≤ x.fName.length)
theorem pre_eq {a b t : Wrd} (h1 : a <+: t) (h2 : b <+: t) (h : a.length = b.length) : a = b := by
 rw [List.prefix_iff_eq_take] at h1 h2
 rw [h1, h2, h]
theorem Best.uniq {l : List T74} (hd : ∀ x ∈ l, ∀ y ∈ l, x.fName = y.fName → x.fR = y.fR) {t : Wrd} {m : Nat} {a b : Int × Int} (h1 : Best l t m a) (h2 : Best l t m b) : a = b := by
 rcases h1 with ⟨rfl, h1⟩ | ⟨x, hx, px, lx, rfl, mx⟩
 ·rcases h2 with ⟨rfl, _⟩ | ⟨y, hy, py, ly, rfl, _⟩
  ·rfl
  ·exact absurd ly (h1 y hy py)
 ·rcases h2 with ⟨rfl, h2⟩ | ⟨y, hy, py, ly, rfl, my⟩
  ·exact absurd lx (h2 x hx px)
  ·have e := pre_eq px py (Nat.le_antisymm (my x hx px lx) (mx y hy py ly))
   rw [hd x hx y hy e, e]
theorem isL_find {l : List T74} {w : Wrd} (h : isL l w = true) : ∃ x ∈ l, x.fName = w ∧ rL l w = x.fR := by
 unfold isL at h
 rw [any_find] at h
 obtain ⟨x, hx⟩ := Option.isSome_iff_exists.1 h
 refine ⟨x, List.mem_of_find?_eq_some hx, by simpa using List.find?_some hx, ?_⟩
 unfold rL
 rw [hx]
theorem isL_no {l : List T74} {w : Wrd} (h : isL l w = false) : ∀ x ∈ l, x.fName ≠ w := by
 intro x hx e
 unfold isL at h
 rw [List.any_eq_false] at h
 exact h x hx (by simpa using e)
theorem lonG_best {l : List T74} {t : Wrd} : ∀ (rest w : Wrd) (a : Int × Int), t = w ++ rest → Best l t w.length a → Best l t t.length (lonG (domL l) (isL l) (rL l) w rest a)
 | [], w, a, ht, hb => by
  have e : t.length = w.length := by rw [ht]; simp
  rw [e]; exact hb
 | b :: r, w, a, ht, hb => by
  have ht2 : t = (w ++ [b]) ++ r := by rw [ht]; simp
  have hp : w ++ [b] <+: t := ⟨r, ht2.symm⟩
  have hl : (w ++ [b]).length = w.length + 1 := by simp
  rw [lonG]
  by_cases hD : domL l (w ++ [b]) = true
  ·rw [if_pos hD]
   refine lonG_best r (w ++ [b]) _ ht2 ?_
   rw [hl]
   cases hB : isL l (w ++ [b]) with
   | true =>
    rw [if_pos rfl]
    obtain ⟨x, hx, en, er⟩ := isL_find hB
    exact .inr ⟨x, hx, by rw [en]; exact hp, by rw [en, hl]; exact Nat.le_refl _, by rw [er, en, hl]; simp, fun y _ _ ly => by rw [en, hl]; exact ly⟩
   | false =>
    rw [if_neg (by decide)]
    have hno : ∀ y ∈ l, y.fName <+: t → y.fName.length ≤ w.length + 1 → y.fName.length ≤ w.length := by
     intro y hy py ly
     by_cases e : y.fName.length ≤ w.length
     ·exact e
     ·exact absurd (pre_eq py hp (by rw [hl]; omega)) (isL_no hB y hy)
    rcases hb with ⟨rfl, h1⟩ | ⟨x, hx, px, lx, rfl, mx⟩
    ·exact .inl ⟨rfl, fun y hy py ly => h1 y hy py (hno y hy py ly)⟩
    ·exact .inr ⟨x, hx, px, by omega, rfl, fun y hy py ly => mx y hy py (hno y hy py ly)⟩
  ·rw [if_neg hD]
   have hno : ∀ y ∈ l, y.fName <+: t → y.fName.length ≤ w.length := by
    intro y hy py
    by_cases e : y.fName.length ≤ w.length
    ·exact e
    ·exfalso
     apply hD
     have : w ++ [b] <+: y.fName := List.prefix_of_prefix_length_le hp py (by rw [hl]; omega)
     unfold domL
     rw [Bool.or_eq_true]
     exact .inr (List.any_eq_true.2 ⟨y, hy, List.isPrefixOf_iff_prefix.2 this⟩)
   have hwt : w.length ≤ t.length := by rw [ht]; simp
   rcases hb with ⟨rfl, h1⟩ | ⟨x, hx, px, lx, rfl, mx⟩
   ·exact .inl ⟨rfl, fun y hy py _ => absurd (hno y hy py) (h1 y hy py)⟩
   ·exact .inr ⟨x, hx, px, by omega, rfl, fun y hy py _ => mx y hy py (hno y hy py)⟩
theorem rlon_best {t : Wrd} : ∀ (l2 l1 : List T74) (a : Int × Int), (∀ x ∈ l2, x.fName ≠ []) → Best l1 t t.length a → Best (l1 ++ l2) t t.length (rlon t l2 a)
 | [], l1, a, _, hb => by rw [List.append_nil]; exact hb
 | x :: l2, l1, a, hn, hb => by
  have e : l1 ++ x :: l2 = (l1 ++ [x]) ++ l2 := by simp
  rw [e, rlon]
  refine rlon_best l2 (l1 ++ [x]) _ (fun y hy => hn y (by simp [hy])) ?_
  have hx0 : 0 < x.fName.length := List.length_pos_iff.2 (hn x (by simp))
  by_cases hc : a.2 < (x.fName.length : Int) ∧ x.fName.isPrefixOf t = true
  ·rw [if_pos hc]
   have px := List.isPrefixOf_iff_prefix.1 hc.2
   refine .inr ⟨x, by simp, px, px.length_le, rfl, fun y hy py ly => ?_⟩
   rcases List.mem_append.1 hy with hy | hy
   ·rcases hb with ⟨rfl, h1⟩ | ⟨z, hz, pz, lz, rfl, mz⟩
    ·exact absurd ly (h1 y hy py)
    ·have := mz y hy py ly
     have := hc.1
     simp only at this
     omega
   ·simp at hy; subst hy; exact Nat.le_refl _
  ·rw [if_neg hc]
   rcases hb with ⟨rfl, h1⟩ | ⟨z, hz, pz, lz, rfl, mz⟩
   ·refine .inl ⟨rfl, fun y hy py ly => ?_⟩
    rcases List.mem_append.1 hy with hy | hy
    ·exact h1 y hy py ly
    ·simp at hy; subst hy
     exact hc ⟨by simp only; omega, List.isPrefixOf_iff_prefix.2 py⟩
   ·refine .inr ⟨z, by simp [hz], pz, lz, rfl, fun y hy py ly => ?_⟩
    rcases List.mem_append.1 hy with hy | hy
    ·exact mz y hy py ly
    ·simp at hy; subst hy
     by_cases e2 : y.fName.length ≤ z.fName.length
     ·exact e2
     ·exact absurd ⟨by simp only; omega, List.isPrefixOf_iff_prefix.2 py⟩ hc
def lonF (t : Wrd) : Int × Int := lonG (domL REFS) (isL REFS) (rL REFS) [] t (0, 0)
theorem refs_one : ∀ x ∈ REFS, ∀ y ∈ REFS, x.fName = y.fName → x.fR = y.fR := by
 have h : (REFS.all fun x => REFS.all fun y => !(x.fName == y.fName) || x.fR == y.fR) = true := by kernel_rfl
 intro x hx y hy e
 have := List.all_eq_true.1 (List.all_eq_true.1 h x hx) y hy
 simpa [e] using this
theorem best0 {l : List T74} (hn : ∀ x ∈ l, x.fName ≠ []) (t : Wrd) : Best l t 0 (0, 0) := .inl ⟨rfl, fun x hx _ hl => by have := List.length_pos_iff.2 (hn x hx); omega⟩
theorem rlon_lonF (t : Wrd) : rlon t REFS (0, 0) = lonF t := by
 have h1 := rlon_best (t := t) REFS [] (0, 0) (fun x hx => (refs_good x hx).1) (.inl ⟨rfl, fun x hx => by cases hx⟩)
 have h2 := lonG_best (l := REFS) (t := t) t [] (0, 0) rfl (best0 (fun x hx => (refs_good x hx).1) t)
 rw [List.nil_append] at h1
 exact h1.uniq refs_one h2
theorem lonF_le (t : Wrd) : 0 ≤ (lonF t).2 ∧ (lonF t).2 ≤ (t.length : Int) := by
 have h2 := lonG_best (l := REFS) (t := t) t [] (0, 0) rfl (best0 (fun x hx => (refs_good x hx).1) t)
 rcases h2 with ⟨e, _⟩ | ⟨x, _, px, _, e, _⟩
 ·unfold lonF; rw [e]; simp only; omega
 ·unfold lonF; rw [e]; have := px.length_le; simp only; omega
theorem dom_pre {l : List T74} {w v : Wrd} (h : domL l (w ++ v) = true) : domL l w = true := by
 unfold domL at *
 rw [Bool.or_eq_true] at *
 rcases h with h | h
 ·left; simp at h; simp [h.1]
 ·right
  obtain ⟨x, hx, px⟩ := List.any_eq_true.1 h
  exact List.any_eq_true.2 ⟨x, hx, List.isPrefixOf_iff_prefix.2 ((List.prefix_append w v).trans (List.isPrefixOf_iff_prefix.1 px))⟩
theorem goe_dom {l : List T74} : ∀ (r w : Wrd), domL l w = true → goeG (domL l) w r = domL l (w ++ r)
 | [], w, hw => by rw [List.append_nil, hw]; rfl
 | b :: r, w, hw => by
  have e : w ++ b :: r = (w ++ [b]) ++ r := by simp
  rw [goeG, e]
  cases h : domL l (w ++ [b]) with
  | true => rw [Bool.true_and, goe_dom r _ h]
  | false =>
   rw [Bool.false_and]
   cases h2 : domL l ((w ++ [b]) ++ r) with
   | false => rfl
   | true => rw [dom_pre h2] at h; cases h
theorem dom_any (w : Wrd) : (REFS.any fun x => w.isPrefixOf x.fName) = domL REFS w := by
 unfold domL
 by_cases e : w = []
 ·subst e; rfl
 ·rw [beq_false_of_ne e, Bool.false_or]
def arun (t : Wrd) : Nat → Int → Int
 | 0, k => k
 | f + 1, k => if k < (t.length : Int) ∧ alnB (bt t k) = true ∧ domL REFS (t.take (k + 1).toNat) = true then arun t f (k + 1) else k
theorem arun_step {t : Wrd} {k : Int} (h0 : 0 ≤ k) (h1 : k < (t.length : Int)) (h2 : alnB (bt t k) = true) (h3 : domL REFS (t.take (k + 1).toNat) = true) : arun t (t.length + 1 - k.toNat) k = arun t (t.length + 1 - (k + 1).toNat) (k + 1) := by
 have e : t.length + 1 - k.toNat = (t.length + 1 - (k + 1).toNat) + 1 := by omega
 rw [e, arun, if_pos ⟨h1, h2, h3⟩]
theorem arun_stop {t : Wrd} {k : Int} (h : ¬ (k < (t.length : Int) ∧ alnB (bt t k) = true ∧ domL REFS (t.take (k + 1).toNat) = true)) (n : Nat) : arun t n k = k := by
 cases n with
 | zero => rfl
 | succ n => rw [arun, if_neg h]
def noRef (t : Wrd) (k : Int) : Int × Int × List Int := if 0 < k ∧ k < (t.length : Int) ∧ bt t k = 59 then (0, 0, [19]) else (0, 0, [])
def oneT (t : Wrd) (attr : Bool) : Int × Int × List Int :=
 if (lonF t).2 = 0 then noRef t (arun t (t.length + 1) 0) else
 if bt t ((lonF t).2 - 1) = 59 then ((lonF t).1, (lonF t).2 + 1, []) else
 if attr = true ∧ (lonF t).2 < (t.length : Int) ∧ (bt t (lonF t).2 = 61 ∨ alnB (bt t (lonF t).2) = true) then (0, 0, []) else ((lonF t).1, (lonF t).2 + 1, [18])
def oneP (s : List UInt8) (attr : Bool) : Int × Int × List Int :=
 if s.take 1 = [38] then (if s.take 2 = [38, 35] then numP s else oneT (s.drop 1) attr) else (0, 0, [])
theorem oneP_no {s : List UInt8} {attr : Bool} (h : s.take 1 ≠ [38]) : oneP s attr = (0, 0, []) := by unfold oneP; rw [if_neg h]
theorem oneP_num {s : List UInt8} {attr : Bool} (h : s.take 1 = [38]) (h2 : s.take 2 = [38, 35]) : oneP s attr = numP s := by unfold oneP; rw [if_pos h, if_pos h2]
theorem oneP_t {s : List UInt8} {attr : Bool} (h : s.take 1 = [38]) (h2 : s.take 2 ≠ [38, 35]) : oneP s attr = oneT (s.drop 1) attr := by unfold oneP; rw [if_pos h, if_neg h2]
theorem oneT_none {t : Wrd} {attr : Bool} {r : Int} (h : lonF t = (r, 0)) : oneT t attr = noRef t (arun t (t.length + 1) 0) := by unfold oneT; rw [h, if_pos rfl]
theorem oneT_semi {t : Wrd} {attr : Bool} {r n : Int} (h : lonF t = (r, n)) (h0 : n ≠ 0) (h1 : bt t (n - 1) = 59) : oneT t attr = (r, n + 1, []) := by unfold oneT; rw [h]; simp only; rw [if_neg h0, if_pos h1]
theorem oneT_attr {t : Wrd} {attr : Bool} {r n : Int} (h : lonF t = (r, n)) (h0 : n ≠ 0) (h1 : bt t (n - 1) ≠ 59) (h2 : attr = true ∧ n < (t.length : Int) ∧ (bt t n = 61 ∨ alnB (bt t n) = true)) : oneT t attr = (0, 0, []) := by unfold oneT; rw [h]; simp only; rw [if_neg h0, if_neg h1, if_pos h2]
theorem oneT_miss {t : Wrd} {attr : Bool} {r n : Int} (h : lonF t = (r, n)) (h0 : n ≠ 0) (h1 : bt t (n - 1) ≠ 59) (h2 : ¬ (attr = true ∧ n < (t.length : Int) ∧ (bt t n = 61 ∨ alnB (bt t n) = true))) : oneT t attr = (r, n + 1, [18]) := by unfold oneT; rw [h]; simp only; rw [if_neg h0, if_neg h1, if_neg h2]
theorem noRef_yes {t : Wrd} {k : Int} (h : 0 < k ∧ k < (t.length : Int) ∧ bt t k = 59) : noRef t k = (0, 0, [19]) := by unfold noRef; rw [if_pos h]
theorem noRef_no {t : Wrd} {k : Int} (h : ¬ (0 < k ∧ k < (t.length : Int) ∧ bt t k = 59)) : noRef t k = (0, 0, []) := by unfold noRef; rw [if_neg h]
theorem CodesAt.nil (h : H) : CodesAt h (.slice none 0 0 true) [] := .inl ⟨rfl, rfl⟩
theorem lonF_ok {W : World} {s : List UInt8} {n0 : Nat} {h0 : H} {p : Wrd → Nat} {m : Wrd → Option Nat} {c : Int} {pt : Nat} (hT : Tri 72 70 n0 h0 (domL REFS) (isL REFS) (rL REFS) p m c) (hs : s.length ≤ 140737488351232) (ept : p [] = pt) :
  WpF Tryd.prog W prim2 40 [.ptr (nw pt), .str s] h0 (fun v h' => HX h0 h' ∧ ∃ r n, lonF s = (r, n) ∧ 0 ≤ n ∧ n ≤ (s.length : Int) ∧ v = .tup [iv r, iv n]) := by
 refine WpF.mono (lon_ok hT hs ept) ?_
 rintro v h' ⟨a, rfl⟩
 exact ⟨a, _, _, rfl, (lonF_le s).1, (lonF_le s).2, rfl⟩
theorem goeF_ok {W : World} {s : List UInt8} {n0 : Nat} {h0 : H} {p : Wrd → Nat} {m : Wrd → Option Nat} {c : Int} {pt : Nat} (hT : Tri 72 70 n0 h0 (domL REFS) (isL REFS) (rL REFS) p m c) (hs : s.length ≤ 140737488351232) (hc : 0 < c) (ept : p [] = pt) :
  WpF Tryd.prog W prim2 42 [.ptr (nw pt), .str s] h0 (fun v h' => HX h0 h' ∧ v = .bool (domL REFS s)) := by
 refine WpF.mono (goe_ok hT hs hc ept) ?_
 rintro v h' ⟨a, rfl⟩
 rw [goe_dom s [] (by rfl)]
 exact ⟨a, rfl⟩
end Go.Proofs.YtkhjmgchlbnkjaaDoor.Dg
