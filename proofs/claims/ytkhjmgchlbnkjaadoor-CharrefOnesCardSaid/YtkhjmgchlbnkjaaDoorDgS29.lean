import Derived.Test.YtkhjmgchlbnkjaaDoorDgS28
set_option linter.unusedVariables false
set_option linter.unusedSimpArgs false
namespace Go.Proofs.YtkhjmgchlbnkjaaDoor.Dg
open Go Go.RowKit
theorem old_int {k : IntKind} {n : Int} : V.isOld (.int k n) = true := rfl
theorem old_str {s : List UInt8} : V.isOld (.str s) = true := rfl
theorem old_bool {b : Bool} : V.isOld (.bool b) = true := rfl
theorem old_agg {l : List V} : V.isOld (.agg l) = V.isOldL l := by simp only [V.isOld]
theorem old_tup {l : List V} : V.isOld (.tup l) = V.isOldL l := by simp only [V.isOld]
theorem old_nils {l lb : Nat} {e : Bool} : V.isOld (.slice none l lb e) = true := rfl
theorem old_cons {v : V} {l : List V} : V.isOldL (v :: l) = (V.isOld v && V.isOldL l) := by simp only [V.isOldL]
theorem old_nil : V.isOldL [] = true := rfl
def wordsGo : List UInt8 → List UInt8 → List (List UInt8)
 | [], cur => if cur.isEmpty then [] else [cur]
 | c :: cs, cur => if c == 32 then (if cur.isEmpty then wordsGo cs [] else cur :: wordsGo cs []) else wordsGo cs (cur ++ [c])
def words (t : List UInt8) : List (List UInt8) := wordsGo t []
def among (s t : List UInt8) : Bool := (words t).any (s == ·)
def amongAt (s t : List UInt8) (f i : Int) : Bool := (wordsGo (t.drop i.toNat) ((t.take i.toNat).drop f.toNat)).any (s == ·)
theorem amongAt_start (s t : List UInt8) : amongAt s t 0 0 = among s t := by simp [amongAt, among, words]
theorem bt_get {s : List UInt8} {i : Int} (h0 : 0 ≤ i) (h : i < (s.length : Int)) : ∃ c, s.drop i.toNat = c :: s.drop (i.toNat + 1) ∧ bt s i = (c.toNat : Int) ∧ s.take (i.toNat + 1) = s.take i.toNat ++ [c] := by
 have hl : i.toNat < s.length := by omega
 refine ⟨s[i.toNat], List.drop_eq_getElem_cons hl, ?_, ?_⟩
 ·simp [bt, List.getD_eq_getElem?_getD, List.getElem?_eq_getElem hl]
 ·exact (List.take_append_getElem hl).symm
theorem u8_eq {c d : UInt8} (h : (c.toNat : Int) = (d.toNat : Int)) : c = d := UInt8.toNat_inj.1 (by omega)
theorem u8_ne {c d : UInt8} (h : (c.toNat : Int) ≠ (d.toNat : Int)) : c ≠ d := fun e => h (by rw [e])
theorem toNat_succ {i : Int} (h : 0 ≤ i) : (i + 1).toNat = i.toNat + 1 := by omega
theorem among_step {s t : List UInt8} {f i : Int} (h0 : 0 ≤ f) (h1 : f ≤ i) (h2 : i < (t.length : Int)) (hne : bt t i ≠ 32) : amongAt s t f i = amongAt s t f (i + 1) := by
 obtain ⟨c, e1, e2, e3⟩ := bt_get (by omega) h2
 unfold amongAt
 rw [toNat_succ (by omega), e1, e3]
 have hc : (c == 32) = false := by
  apply beq_false_of_ne
  intro e; subst e; exact hne (by rw [e2]; rfl)
 rw [List.drop_append_of_le_length (by rw [List.length_take]; omega)]
 conv => lhs; unfold wordsGo
 rw [hc]; rfl
theorem among_blank {s t : List UInt8} {f i : Int} (h0 : 0 ≤ f) (h1 : f ≤ i) (h2 : i < (t.length : Int)) (he : bt t i = 32) :
  amongAt s t f i = ((decide (i > f) && ((t.take i.toNat).drop f.toNat) == s) || amongAt s t (i + 1) (i + 1)) := by
 obtain ⟨c, e1, e2, e3⟩ := bt_get (by omega) h2
 have hc : c = 32 := u8_eq (by rw [← e2, he]; rfl)
 subst hc
 unfold amongAt
 rw [toNat_succ (by omega), e1]
 have h3 : (t.take (i.toNat + 1)).drop (i.toNat + 1) = [] := by apply List.drop_eq_nil_of_le; rw [List.length_take]; omega
 rw [h3]
 conv => lhs; unfold wordsGo
 have hl : ((t.take i.toNat).drop f.toNat).length = i.toNat - f.toNat := by rw [List.length_drop, List.length_take]; omega
 by_cases hfi : i > f
 ·have : ((t.take i.toNat).drop f.toNat).isEmpty = false := by
   cases hh : (t.take i.toNat).drop f.toNat with
   | nil => rw [hh] at hl; simp at hl; omega
   | cons a l => rfl
  simp only [this, beq_self_eq_true, if_true, Bool.false_eq_true, if_false, List.any_cons, hfi, decide_true, Bool.true_and]
  rw [Bool.beq_comm (a := s)]
 ·have : ((t.take i.toNat).drop f.toNat).isEmpty = true := by
   cases hh : (t.take i.toNat).drop f.toNat with
   | nil => rfl
   | cons a l => rw [hh] at hl; simp at hl; omega
  simp only [this, beq_self_eq_true, if_true, hfi, decide_false, Bool.false_and, Bool.false_or]
theorem among_end {s t : List UInt8} {f i : Int} (h0 : 0 ≤ f) (h1 : f ≤ i) (h2 : i = (t.length : Int)) :
  amongAt s t f i = (decide (i > f) && ((t.take i.toNat).drop f.toNat) == s) := by
 unfold amongAt
 have e1 : t.drop i.toNat = [] := by apply List.drop_eq_nil_of_le; omega
 rw [e1]
 conv => lhs; unfold wordsGo
 have hl : ((t.take i.toNat).drop f.toNat).length = i.toNat - f.toNat := by rw [List.length_drop, List.length_take]; omega
 by_cases hfi : i > f
 ·have : ((t.take i.toNat).drop f.toNat).isEmpty = false := by
   cases hh : (t.take i.toNat).drop f.toNat with
   | nil => rw [hh] at hl; simp at hl; omega
   | cons a l => rfl
  simp only [this, Bool.false_eq_true, if_false, List.any_cons, List.any_nil, Bool.or_false, hfi, decide_true, Bool.true_and]
  rw [Bool.beq_comm (a := s)]
 ·have : ((t.take i.toNat).drop f.toNat).isEmpty = true := by
   cases hh : (t.take i.toNat).drop f.toNat with
   | nil => rfl
   | cons a l => rw [hh] at hl; simp at hl; omega
  simp only [this, if_true, hfi, decide_false, Bool.false_and, List.any_nil]
theorem among_past {s t : List UInt8} {i : Int} (h : (t.length : Int) < i) : amongAt s t i i = false := by
 unfold amongAt
 have e1 : t.drop i.toNat = [] := by apply List.drop_eq_nil_of_le; omega
 have e2 : (t.take i.toNat).drop i.toNat = [] := by apply List.drop_eq_nil_of_le; rw [List.length_take]; omega
 rw [e1, e2]; rfl
end Go.Proofs.YtkhjmgchlbnkjaaDoor.Dg
